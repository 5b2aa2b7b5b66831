/- Equality of the program's data: the reference's and the program's questions, in plain terms. -/
import Derived.Test.YtclgicpmbcbjlaaPuFam
namespace Go.Proofs.Ytclgicpmbcbjlaa
open Go Go.Vc
set_option linter.unusedSimpArgs false

abbrev LmI : List Int → Prop := OkL fun _ => True
abbrev LmII : List (List Int) → Prop := OkL (OkL fun _ => True)
abbrev LmS : List ByteArray → Prop := OkL fun _ => True

theorem q_00Same {a b : List Int} (h : LmI a) : IsQ (p_spec_l00Same a b) (a = b) := by
  unfold p_spec_l00Same
  refine eq_slice (B := p_spec_l00Same_b1 a b) h.1 (fun k x y hx hy => ?_) ?_
  · rw [p_spec_l00Same_b1, lt_t (get_lt' hx), gIdx_of hx, gIdx_of hy]
    simp only [cond_true, Option.bind_some]
    refine step_of (c := x == y) (by simp) ?_
    rw [bne]; cases (x == y) <;> rfl
  · rw [p_spec_l00Same_b1, lt_f]; rfl
theorem q_Equal {a b : List Int} (h : LmI a) : IsQ (p_slices_Equal_int64_int64 a b) (a = b) := by
  unfold p_slices_Equal_int64_int64
  refine eq_slice (B := p_slices_Equal_int64_int64_b1 a b) h.1 (fun k x y hx hy => ?_) ?_
  · rw [p_slices_Equal_int64_int64_b1, lt_t (get_lt' hx), gIdx_of hx, gIdx_of hy]
    simp only [cond_true, Option.bind_some]
    refine step_of (c := x == y) (by simp) ?_
    rw [bne]; cases (x == y) <;> rfl
  · rw [p_slices_Equal_int64_int64_b1, lt_f]; rfl
theorem q_Words {a b : List ByteArray} (h : LmS a) : IsQ (p_spec_l32Words a b) (a = b) := by
  unfold p_spec_l32Words
  refine eq_slice (B := p_spec_l32Words_b1 a b) h.1 (fun k x y hx hy => ?_) ?_
  · rw [p_spec_l32Words_b1, lt_t (get_lt' hx), gIdx_of hx, gIdx_of hy]
    simp only [cond_true, Option.bind_some]
    refine step_of (c := x.toList == y.toList) (str_eq x y) ?_
    cases (x.toList == y.toList) <;> rfl
  · rw [p_spec_l32Words_b1, lt_f]; rfl
theorem q_EqualS {a b : List ByteArray} (h : LmS a) : IsQ (p_slices_Equal_string_string a b) (a = b) := by
  unfold p_slices_Equal_string_string
  refine eq_slice (B := p_slices_Equal_string_string_b1 a b) h.1 (fun k x y hx hy => ?_) ?_
  · rw [p_slices_Equal_string_string_b1, lt_t (get_lt' hx), gIdx_of hx, gIdx_of hy]
    simp only [cond_true, Option.bind_some]
    refine step_of (c := x.toList == y.toList) (str_eq x y) ?_
    cases (x.toList == y.toList) <;> rfl
  · rw [p_slices_Equal_string_string_b1, lt_f]; rfl
theorem q_10Same {a b : List (List Int)} (h : LmII a) : IsQ (p_spec_l10Same a b) (a = b) := by
  unfold p_spec_l10Same
  refine eq_slice (B := p_spec_l10Same_b1 a b) h.1 (fun k x y hx hy => ?_) ?_
  · rw [p_spec_l10Same_b1, lt_t (get_lt' hx), gIdx_of hx, gIdx_of hy]
    simp only [cond_true, Option.bind_some]
    obtain ⟨c, hc, hq⟩ := q_00Same (a := x) (b := y) (h.2 x (List.mem_of_getElem? hx))
    rw [hc]
    refine step_of hq ?_
    cases c <;> rfl
  · rw [p_spec_l10Same_b1, lt_f]; rfl
theorem q_EqF {a b : List (List Int)} {f : List Int → List Int → Option Bool} (h : a.length ≤ M63) (hf : ∀ x ∈ a, ∀ y, IsQ (f x y) (x = y)) : IsQ (p_slices_EqualFunc_int64_int64_int64_int64 a b f) (a = b) := by
  unfold p_slices_EqualFunc_int64_int64_int64_int64
  refine eq_slice (B := p_slices_EqualFunc_int64_int64_int64_int64_b1 a b f) h (fun k x y hx hy => ?_) ?_
  · rw [p_slices_EqualFunc_int64_int64_int64_int64_b1, lt_t (get_lt' hx), gIdx_of hx, gIdx_of hy]
    simp only [cond_true, Option.bind_some]
    obtain ⟨c, hc, hq⟩ := hf x (List.mem_of_getElem? hx) y
    rw [hc]
    refine step_of hq ?_
    cases c <;> rfl
  · rw [p_slices_EqualFunc_int64_int64_int64_int64_b1, lt_f]; rfl
theorem q_areSame {a b : List (List Int)} (h : LmII a) : IsQ (p_impl_areSame a b) (a = b) :=
  (q_EqF (f := fun y0 y1 => p_slices_Equal_int64_int64 y0 y1) h.1 fun x hx y => q_Equal (h.2 x hx)).bind_id
theorem q_specObject {a b : T_impl_Object} (h : Lm_T_impl_Object a) : IsQ (p_spec_SameObject a b) (a = b) := by
  unfold p_spec_SameObject
  refine q_eq (fun e0 => q_eq (fun e1 => ?_) fun hn hq => hn (by rw [hq])) fun hn hq => hn (by rw [hq])
  refine ((q_10Same (b := b.Rows) h).bind_id).congr ⟨fun e => ?_, fun e => by rw [e]⟩
  cases a; cases b; simp_all
theorem q_implObject {a b : T_impl_Object} (h : Lm_T_impl_Object a) : IsQ (p_impl_SameObject a b) (a = b) := by
  unfold p_impl_SameObject
  refine q_eq (fun e0 => q_eq (fun e1 => ?_) fun hn hq => hn (by rw [hq])) fun hn hq => hn (by rw [hq])
  refine ((q_areSame (b := b.Rows) h).bind_id).congr ⟨fun e => ?_, fun e => by rw [e]⟩
  cases a; cases b; simp_all
theorem q_specItem {a b : T_impl_Item} (h : Lm_T_impl_Item a) : IsQ (p_spec_l31Same a b) (a = b) := by
  unfold p_spec_l31Same
  refine q_streq (fun e0 => q_streq (fun e1 => ?_) fun hn hq => hn (by rw [hq])) fun hn hq => hn (by rw [hq])
  refine ((q_specObject (a := a.Object) (b := b.Object) h).bind_id).congr ⟨fun e => ?_, fun e => by rw [e]⟩
  cases a; cases b; simp_all
theorem q_implItem {a b : T_impl_Item} (h : Lm_T_impl_Item a) : IsQ (p_impl_SameCatalog_1 a b) (a = b) := by
  unfold p_impl_SameCatalog_1
  refine q_streq (fun e0 => q_streq (fun e1 => ?_) fun hn hq => hn (by rw [hq])) fun hn hq => hn (by rw [hq])
  refine ((q_implObject (a := a.Object) (b := b.Object) h).bind_id).congr ⟨fun e => ?_, fun e => by rw [e]⟩
  cases a; cases b; simp_all
theorem q_specCatalog {a b : T_impl_Catalog} (h : Lm_T_impl_Catalog a) : IsQ (p_spec_SameCatalog a b) (a = b) := by
  unfold p_spec_SameCatalog
  refine (eq_slice (xs := a.Items) (ys := b.Items) (B := p_spec_SameCatalog_b1 a b) h.1 (fun k x y hx hy => ?_) ?_).congr ⟨fun e => by cases a; cases b; simp_all, fun e => by rw [e]⟩
  · rw [p_spec_SameCatalog_b1, lt_t (get_lt' hx), gIdx_of hx, gIdx_of hy]
    simp only [cond_true, Option.bind_some]
    obtain ⟨c, hc, hq⟩ := q_specItem (a := x) (b := y) (h.2 x (List.mem_of_getElem? hx))
    rw [hc]
    refine step_of hq ?_
    cases c <;> rfl
  · rw [p_spec_SameCatalog_b1, lt_f]; rfl
theorem q_implCatalog {a b : T_impl_Catalog} (h : Lm_T_impl_Catalog a) : IsQ (p_impl_SameCatalog a b) (a = b) := by
  unfold p_impl_SameCatalog
  refine (IsQ.bind_id ?_).congr (p := a.Items = b.Items) ⟨fun e => by cases a; cases b; simp_all, fun e => by rw [e]⟩
  unfold p_slices_EqualFunc_impl_Item_impl_Item_impl_Item_impl_Item
  refine eq_slice (B := p_slices_EqualFunc_impl_Item_impl_Item_impl_Item_impl_Item_b1 a.Items b.Items _) h.1 (fun k x y hx hy => ?_) ?_
  · rw [p_slices_EqualFunc_impl_Item_impl_Item_impl_Item_impl_Item_b1, lt_t (get_lt' hx), gIdx_of hx, gIdx_of hy]
    simp only [cond_true, Option.bind_some]
    obtain ⟨c, hc, hq⟩ := q_implItem (a := x) (b := y) (h.2 x (List.mem_of_getElem? hx))
    rw [show p_impl_SameCatalog_1 _ _ = _ from hc]
    refine step_of hq ?_
    cases c <;> rfl
  · rw [p_slices_EqualFunc_impl_Item_impl_Item_impl_Item_impl_Item_b1, lt_f]; rfl
theorem q_implRecipe {a b : T_impl_Recipe} (h : Lm_T_impl_Recipe a) : IsQ (p_impl_sameRecipe a b) (a = b) := by
  unfold p_impl_sameRecipe
  refine q_streq (fun e0 => q_streq (fun e1 => ?_) fun hn hq => hn (by rw [hq])) fun hn hq => hn (by rw [hq])
  refine q_subt (q_Equal (b := b.Args) h.1) (fun e2 => ?_) fun hn hq => hn (by rw [hq])
  refine ((q_EqualS (b := b.Uses) h.2).bind_id).congr ⟨fun e => ?_, fun e => by rw [e]⟩
  cases a; cases b; simp_all
theorem q_implLab {a b : T_impl_Lab} (h : Lm_T_impl_Lab a) : IsQ (p_impl_SameLab a b) (a = b) := by
  unfold p_impl_SameLab
  refine q_subt (p := a.Recipes = b.Recipes) ?_ (fun e0 => ?_) fun hn hq => hn (by rw [hq])
  · unfold p_slices_EqualFunc_impl_Recipe_impl_Recipe_impl_Recipe_impl_Recipe
    refine eq_slice (B := p_slices_EqualFunc_impl_Recipe_impl_Recipe_impl_Recipe_impl_Recipe_b1 a.Recipes b.Recipes _) h.1.1 (fun k x y hx hy => ?_) ?_
    · rw [p_slices_EqualFunc_impl_Recipe_impl_Recipe_impl_Recipe_impl_Recipe_b1, lt_t (get_lt' hx), gIdx_of hx, gIdx_of hy]
      simp only [cond_true, Option.bind_some]
      obtain ⟨c, hc, hq⟩ := q_implRecipe (a := x) (b := y) (h.1.2 x (List.mem_of_getElem? hx))
      rw [show p_impl_sameRecipe _ _ = _ from hc]
      refine step_of hq ?_
      cases c <;> rfl
    · rw [p_slices_EqualFunc_impl_Recipe_impl_Recipe_impl_Recipe_impl_Recipe_b1, lt_f]; rfl
  · refine (IsQ.bind_id ?_).congr (p := a.Objects = b.Objects) ⟨fun e => by cases a; cases b; simp_all, fun e => by rw [e]⟩
    unfold p_slices_EqualFunc_impl_Object_impl_Object_impl_Object_impl_Object
    refine eq_slice (B := p_slices_EqualFunc_impl_Object_impl_Object_impl_Object_impl_Object_b1 a.Objects b.Objects _) h.2.1 (fun k x y hx hy => ?_) ?_
    · rw [p_slices_EqualFunc_impl_Object_impl_Object_impl_Object_impl_Object_b1, lt_t (get_lt' hx), gIdx_of hx, gIdx_of hy]
      simp only [cond_true, Option.bind_some]
      obtain ⟨c, hc, hq⟩ := q_implObject (a := x) (b := y) (h.2.2 x (List.mem_of_getElem? hx))
      rw [show p_impl_SameObject _ _ = _ from hc]
      refine step_of hq ?_
      cases c <;> rfl
    · rw [p_slices_EqualFunc_impl_Object_impl_Object_impl_Object_impl_Object_b1, lt_f]; rfl
theorem q_specLab {a b : T_impl_Lab} (h : Lm_T_impl_Lab a) : IsQ (p_spec_SameLab a b) (a = b) := by
  unfold p_spec_SameLab
  refine q_ne (fun e0 => q_ne (fun e1 => ?_) fun hn hq => hn (by rw [hq])) fun hn hq => hn (by rw [hq])
  unfold p_spec_SameLab_k1
  have h2 : ∃ c : Bool, loop (p_spec_SameLab_b2 a b) 0 = some (bif c then .inr true else .inr false) ∧ (c = true ↔ a.Objects = b.Objects) := by
    refine loop_eqL (xs := a.Objects) (ys := b.Objects) (B := p_spec_SameLab_b2 a b) (by omega) h.2.1 (fun k x y hx hy => ?_) ?_
    · rw [p_spec_SameLab_b2, lt_t (get_lt' hx), gIdx_of hx, gIdx_of hy]
      simp only [cond_true, Option.bind_some]
      obtain ⟨c, hc, hq⟩ := q_specObject (a := x) (b := y) (h.2.2 x (List.mem_of_getElem? hx))
      rw [hc]
      refine step_of hq ?_
      cases c <;> rfl
    · rw [p_spec_SameLab_b2, lt_f]; rfl
  obtain ⟨c2, hc2, hq2⟩ := h2
  obtain ⟨c1, hc1, hq1⟩ := loop_eqL (xs := a.Recipes) (ys := b.Recipes) (B := p_spec_SameLab_b1 a b) (t := c2) (f := false) (by omega) h.1.1 (fun k x y hx hy => by
    rw [p_spec_SameLab_b1, lt_t (get_lt' hx), gIdx_of hx, gIdx_of hy]
    simp only [cond_true, Option.bind_some]
    obtain ⟨c, hc, hq⟩ := q_00Same (a := x.Args) (b := y.Args) (h.1.2 x (List.mem_of_getElem? hx)).1
    obtain ⟨c', hc', hq'⟩ := q_Words (a := x.Uses) (b := y.Uses) (h.1.2 x (List.mem_of_getElem? hx)).2
    rw [hc, hc']
    simp only [Option.bind_some]
    have s1 := str_eq x.Name y.Name
    have s2 := str_eq x.Verb y.Verb
    refine step_of (c := (x.Name.toList == y.Name.toList) && ((x.Verb.toList == y.Verb.toList) && (c && c'))) ?_ ?_
    · rw [Bool.and_eq_true, Bool.and_eq_true, Bool.and_eq_true, s1, s2, hq, hq']
      constructor
      · rintro ⟨g1, g2, g3, g4⟩; cases x; cases y; simp_all
      · rintro rfl; simp
    · cases (x.Name.toList == y.Name.toList) <;> cases (x.Verb.toList == y.Verb.toList) <;> cases c <;> cases c' <;> rfl) (by
    rw [p_spec_SameLab_b1, lt_f]
    simp only [cond_false]
    rw [hc2]; cases c2 <;> rfl)
  refine ⟨bif c1 then c2 else false, hc1, ?_⟩
  cases c1 with
  | false => simp only [cond_false]; exact ⟨(fun h => by cases h), fun e => by subst e; exact absurd (hq1.2 rfl) (by simp)⟩
  | true =>
    have e1 := hq1.1 rfl
    simp only [cond_true]
    rw [hq2]
    exact ⟨fun e => by cases a; cases b; simp_all, fun e => by rw [e]⟩
theorem q_specDesk {a b : T_impl_Desk} (h : Lm_T_impl_Desk a) : IsQ (p_spec_SameDesk a b) (a = b) := by
  unfold p_spec_SameDesk
  refine q_subt (q_specLab (a := a.Lab) (b := b.Lab) h.1) (fun e => ?_) fun hn hq => hn (by rw [hq])
  exact ((q_specCatalog (a := a.Catalog) (b := b.Catalog) h.2).bind_id).congr ⟨fun e => by cases a; cases b; simp_all, fun e => by rw [e]⟩
theorem q_implDesk {a b : T_impl_Desk} (h : Lm_T_impl_Desk a) : IsQ (p_impl_SameDesk a b) (a = b) := by
  unfold p_impl_SameDesk
  refine q_subt (q_implLab (a := a.Lab) (b := b.Lab) h.1) (fun e => ?_) fun hn hq => hn (by rw [hq])
  exact ((q_implCatalog (a := a.Catalog) (b := b.Catalog) h.2).bind_id).congr ⟨fun e => by cases a; cases b; simp_all, fun e => by rw [e]⟩

/-! Copies of small data have short lists. -/
theorem okL_map {α β : Type} {s : α → Prop} {p : β → Prop} {c : α → β} (h : ∀ x, s x → p (c x)) {xs : List α} (hs : SmL s xs) : OkL p (xs.map c) := by
  refine ⟨by rw [List.length_map]; have := hs.1; unfold M63; omega, fun y hy => ?_⟩
  obtain ⟨x, hx, rfl⟩ := List.mem_map.1 hy
  exact h x (hs.2 x hx)
theorem lm_row {x : List Int} (h : SmL (fun _ => True) x) : LmI (x.map fun y => y) := okL_map (fun _ _ => trivial) h
theorem lm_words {x : List ByteArray} (h : SmL (fun _ => True) x) : LmS (x.map fun y => y) := okL_map (fun _ _ => trivial) h
theorem lm_rows {x : List (List Int)} (h : SmL (SmL fun _ => True) x) : LmII (x.map (List.map fun y => y)) := okL_map (fun _ h => lm_row h) h
theorem lm_object {x : T_laws_Object} (h : Sm_T_laws_Object x) : Lm_T_impl_Object (cv_T_laws_Object x) := lm_rows h
theorem lm_recipe {x : T_laws_Recipe} (h : Sm_T_laws_Recipe x) : Lm_T_impl_Recipe (cv_T_laws_Recipe x) := ⟨lm_row h.1, lm_words h.2⟩
theorem lm_item {x : T_laws_Item} (h : Sm_T_laws_Item x) : Lm_T_impl_Item (cv_T_laws_Item x) := lm_object h
theorem lm_catalog {x : T_laws_Catalog} (h : Sm_T_laws_Catalog x) : Lm_T_impl_Catalog (cv_T_laws_Catalog x) := okL_map (fun _ h => lm_item h) h
theorem lm_lab {x : T_laws_Lab} (h : Sm_T_laws_Lab x) : Lm_T_impl_Lab (cv_T_laws_Lab x) := ⟨okL_map (fun _ h => lm_recipe h) h.1, okL_map (fun _ h => lm_object h) h.2⟩
theorem lm_desk {x : T_laws_Desk} (h : Sm_T_laws_Desk x) : Lm_T_impl_Desk (cv_T_laws_Desk x) := ⟨lm_lab h.1, lm_catalog h.2⟩

theorem law_FnExactSameDesk {a b : T_laws_Desk} (ka : Ok_T_laws_Desk a) (kb : Ok_T_laws_Desk b) : p_laws_FnExactSameDesk a b = some true := by
  unfold p_laws_FnExactSameDesk
  obtain ⟨r, hr, c⟩ := sz_Desk a 1048576 ka (by omega) (by omega)
  rw [show p_laws_szDesk _ 1048576 = some r from hr]
  simp only [Option.bind_some]
  rcases c with rfl | ⟨r0, r1, sa⟩
  · rfl
  have d0 : decide (r < 0) = false := by simpa using r0
  rw [d0]
  simp only [cond_false]
  obtain ⟨q, hq, c⟩ := sz_Desk b r kb r0 r1
  rw [show p_laws_szDesk _ r = some q from hq]
  simp only [Option.bind_some]
  rcases c with rfl | ⟨q0, q1, sb⟩
  · rfl
  have d1 : decide (q < 0) = false := by simpa using q0
  rw [d1]
  simp only [cond_false]
  have ta : p_laws_toDesk _ = _ := to_Desk sa
  have tb : p_laws_toDesk _ = _ := to_Desk sb
  rw [show p_laws_toDesk (T_laws_Desk.mk (T_laws_Lab.mk a.Lab.Recipes a.Lab.Objects) (T_laws_Catalog.mk a.Catalog.Items)) = _ from ta, show p_laws_toDesk (T_laws_Desk.mk (T_laws_Lab.mk b.Lab.Recipes b.Lab.Objects) (T_laws_Catalog.mk b.Catalog.Items)) = _ from tb]
  simp only [Option.bind_some]
  have la := lm_desk sa
  have lb := lm_desk sb
  obtain ⟨c1, h1, e1⟩ := q_specDesk (b := cv_T_laws_Desk b) la
  obtain ⟨c2, h2, e2⟩ := q_implDesk (b := cv_T_laws_Desk b) la
  rw [h1]
  simp only [Option.bind_some]
  rw [show p_impl_SameDesk _ _ = some c2 from h2]
  simp only [Option.bind_some]
  have hcc : c2 = c1 := by
    cases c1 <;> cases c2 <;> simp_all
  subst hcc
  rw [show p_laws_eqDesk _ (cv_T_laws_Desk a) = some true from (eq_Desk la).eq rfl, show p_laws_eqDesk _ (cv_T_laws_Desk b) = some true from (eq_Desk lb).eq rfl]
  simp

end Go.Proofs.Ytclgicpmbcbjlaa
