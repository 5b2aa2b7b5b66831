/- Comparing: rows, objects, items, catalogs; the laws' own, the reference's, the program's. -/
import Derived.Test.YtieehpcgmjbceaaConData
import Derived.Test.YtieehpcgmjbceaaVcLoop
import Derived.Test.YtieehpcgmjbceaaConMark
namespace Go.Proofs.Ytieehpcgmjbceaa
open Go Go.Vc

/-- What a comparison answers. -/
abbrev Eqs {α : Type} [DecidableEq α] (h : Heap) (x y : α) : Value → Heap → Prop := fun r h' => r = .bool (decide (x = y)) ∧ ExtH h h'
theorem eqs_t {α : Type} [DecidableEq α] {h h' : Heap} {x y : α} (he : x = y) (hx : ExtH h h') : Eqs h x y (.bool true) h' := ⟨by rw [decide_eq_true he], hx⟩
theorem eqs_f {α : Type} [DecidableEq α] {h h' : Heap} {x y : α} (he : x ≠ y) (hx : ExtH h h') : Eqs h x y (.bool false) h' := ⟨by rw [decide_eq_false he], hx⟩
theorem bif_dec {p : Prop} [Decidable p] {A B : Prop} (ha : p → A) (hb : ¬ p → B) : bif decide p then A else B :=
  bif_of (fun h => ha (of_decide_eq_true h)) (fun h => hb (of_decide_eq_false h))
theorem bif_ndec {p : Prop} [Decidable p] {A B : Prop} (ha : ¬ p → A) (hb : p → B) : bif (!decide p) then A else B :=
  bif_of (fun h => ha (by simpa using h)) (fun h => hb (by simpa using h))
theorem bif_steq {s t : ByteArray} {A B : Prop} (ha : s = t → A) (hb : s ≠ t → B) : bif (s.toList == t.toList) then A else B := by
  rw [str_beq]; exact bif_dec ha hb

section
variable {h : Heap} {v u : Value}

theorem eqRow_ok {xs ys : List Int} (hv : SlB 1 eI64 h v xs) (hu : SlB 1 eI64 h u ys) : CallsH P id_laws_eqInt64S #[v, u] h (Eqs h xs ys) := by
  apply w_laws_eqInt64S
  unfold F_laws_eqInt64S
  refine vLen_sl hv.1 (vLen_sl hu.1 (bif_ne (fun hne => eqs_f (ne_of_len (by omega)) (ExtH.refl _)) fun heq => ?_))
  refine loop_up xs.length hv.2 (fun k h' => ExtH h h' ∧ Agr xs ys k) ⟨ExtH.refl _, Agr.zero _ _⟩ fun J n k h' hk ⟨hx, ha⟩ next => ?_
  refine vLen_sl hv.1 (bif_lt (fun hlt => ?_) fun hge => eqs_t (ha.all (by omega) (by omega)) hx)
  obtain ⟨x, ex⟩ := get_some (xs := xs) (k := k) (by omega)
  obtain ⟨y, ey⟩ := get_some (xs := ys) (k := k) (by omega)
  refine rdI (hv.1.ext mono_i64 hx) ex fun _ => rdI (hu.1.ext mono_i64 hx) ey fun _ => bif_ne (fun hne => eqs_f (ne_of_get ex ey hne) hx) fun he => ?_
  subst he
  exact next _ (by omega) ⟨hx, ha.succ (by rw [ex, ey])⟩
theorem specRow_ok {xs ys : List Int} (hv : SlB 1 eI64 h v xs) (hu : SlB 1 eI64 h u ys) : CallsH P id_spec_l00Same #[v, u] h (Eqs h xs ys) := by
  apply w_spec_l00Same
  unfold F_spec_l00Same
  refine vLen_sl hv.1 (vLen_sl hu.1 (bif_ne (fun hne => eqs_f (ne_of_len (by omega)) (ExtH.refl _)) fun heq => ?_))
  refine loop_up xs.length hv.2 (fun k h' => ExtH h h' ∧ Agr xs ys k) ⟨ExtH.refl _, Agr.zero _ _⟩ fun J n k h' hk ⟨hx, ha⟩ next => ?_
  refine vLen_sl hv.1 (bif_lt (fun hlt => ?_) fun hge => eqs_t (ha.all (by omega) (by omega)) hx)
  obtain ⟨x, ex⟩ := get_some (xs := xs) (k := k) (by omega)
  obtain ⟨y, ey⟩ := get_some (xs := ys) (k := k) (by omega)
  refine rdI (hv.1.ext mono_i64 hx) ex fun _ => rdI (hu.1.ext mono_i64 hx) ey fun _ => bif_ne (fun hne => eqs_f (ne_of_get ex ey hne) hx) fun he => ?_
  subst he
  exact next _ (by omega) ⟨hx, ha.succ (by rw [ex, ey])⟩
theorem implRow_ok {xs ys : List Int} (hv : SlB 1 eI64 h v xs) (hu : SlB 1 eI64 h u ys) : CallsH P id_slices_Equal_int64_int64 #[v, u] h (Eqs h xs ys) := by
  apply w_slices_Equal_int64_int64
  unfold F_slices_Equal_int64_int64
  refine vLen_sl hv.1 (vLen_sl hu.1 (bif_ne (fun hne => eqs_f (ne_of_len (by omega)) (ExtH.refl _)) fun heq => vLen_sl hv.1 ?_))
  refine loop_up xs.length hv.2 (fun k h' => ExtH h h' ∧ Agr xs ys k) ⟨ExtH.refl _, Agr.zero _ _⟩ fun J n k h' hk ⟨hx, ha⟩ next => ?_
  refine bif_lt (fun hlt => ?_) fun hge => eqs_t (ha.all (by omega) (by omega)) hx
  obtain ⟨x, ex⟩ := get_some (xs := xs) (k := k) (by omega)
  obtain ⟨y, ey⟩ := get_some (xs := ys) (k := k) (by omega)
  refine rdI (hv.1.ext mono_i64 hx) ex fun _ => rdI (hu.1.ext mono_i64 hx) ey fun _ => bif_ne (fun hne => eqs_f (ne_of_get ex ey hne) hx) fun he => ?_
  subst he
  exact next _ (by omega) ⟨hx, ha.succ (by rw [ex, ey])⟩

theorem eqRows_ok {xs ys : Rows2} (hv : SlB 1 eRow h v xs) (hu : SlB 1 eRow h u ys) : CallsH P id_laws_eqInt64SS #[v, u] h (Eqs h xs ys) := by
  apply w_laws_eqInt64SS
  unfold F_laws_eqInt64SS
  refine vLen_sl hv.1 (vLen_sl hu.1 (bif_ne (fun hne => eqs_f (ne_of_len (by omega)) (ExtH.refl _)) fun heq => ?_))
  refine loop_up xs.length hv.2 (fun k h' => ExtH h h' ∧ Agr xs ys k) ⟨ExtH.refl _, Agr.zero _ _⟩ fun J n k h' hk ⟨hx, ha⟩ next => ?_
  refine vLen_sl hv.1 (bif_lt (fun hlt => ?_) fun hge => eqs_t (ha.all (by omega) (by omega)) hx)
  obtain ⟨x, ex⟩ := get_some (xs := xs) (k := k) (by omega)
  obtain ⟨y, ey⟩ := get_some (xs := ys) (k := k) (by omega)
  refine rdRow (hv.ext mono_row hx) ex fun _ hv' => rdRow (hu.ext mono_row hx) ey fun _ hu' => (eqRow_ok hv' hu').mono fun _ _ ⟨e, x2⟩ => ⟨_, e, ?_⟩
  refine bif_ndec (fun hne => eqs_f (ne_of_get ex ey hne) (hx.trans x2)) fun he => ?_
  subst he
  exact next _ (by omega) ⟨hx.trans x2, ha.succ (by rw [ex, ey])⟩
theorem specRows_ok {xs ys : Rows2} (hv : SlB 1 eRow h v xs) (hu : SlB 1 eRow h u ys) : CallsH P id_spec_l10Same #[v, u] h (Eqs h xs ys) := by
  apply w_spec_l10Same
  unfold F_spec_l10Same
  refine vLen_sl hv.1 (vLen_sl hu.1 (bif_ne (fun hne => eqs_f (ne_of_len (by omega)) (ExtH.refl _)) fun heq => ?_))
  refine loop_up xs.length hv.2 (fun k h' => ExtH h h' ∧ Agr xs ys k) ⟨ExtH.refl _, Agr.zero _ _⟩ fun J n k h' hk ⟨hx, ha⟩ next => ?_
  refine vLen_sl hv.1 (bif_lt (fun hlt => ?_) fun hge => eqs_t (ha.all (by omega) (by omega)) hx)
  obtain ⟨x, ex⟩ := get_some (xs := xs) (k := k) (by omega)
  obtain ⟨y, ey⟩ := get_some (xs := ys) (k := k) (by omega)
  refine rdRow (hv.ext mono_row hx) ex fun _ hv' => rdRow (hu.ext mono_row hx) ey fun _ hu' => (specRow_ok hv' hu').mono fun _ _ ⟨e, x2⟩ => ⟨_, e, ?_⟩
  refine bif_ndec (fun hne => eqs_f (ne_of_get ex ey hne) (hx.trans x2)) fun he => ?_
  subst he
  exact next _ (by omega) ⟨hx.trans x2, ha.succ (by rw [ex, ey])⟩
theorem implRows_ok {xs ys : Rows2} (hv : SlB 1 eRow h v xs) (hu : SlB 1 eRow h u ys) : CallsH P id_impl_areSame #[v, u] h (Eqs h xs ys) := by
  apply w_impl_areSame
  unfold F_impl_areSame
  suffices hs : CallsH P id_slices_EqualFunc_int64_int64_int64_int64 #[v, u, .func (.func id_slices_Equal_int64_int64) #[] #[]] h (Eqs h xs ys) from hs.mono fun _ _ hr => ⟨_, hr.1, rfl, hr.2⟩
  apply w_slices_EqualFunc_int64_int64_int64_int64 (cap2 := [])
  unfold F_slices_EqualFunc_int64_int64_int64_int64
  refine vLen_sl hv.1 (vLen_sl hu.1 (bif_ne (fun hne => eqs_f (ne_of_len (by omega)) (ExtH.refl _)) fun heq => vLen_sl hv.1 ?_))
  refine loop_up xs.length hv.2 (fun k h' => ExtH h h' ∧ Agr xs ys k) ⟨ExtH.refl _, Agr.zero _ _⟩ fun J n k h' hk ⟨hx, ha⟩ next => ?_
  refine bif_lt (fun hlt => ?_) fun hge => eqs_t (ha.all (by omega) (by omega)) hx
  obtain ⟨x, ex⟩ := get_some (xs := xs) (k := k) (by omega)
  obtain ⟨y, ey⟩ := get_some (xs := ys) (k := k) (by omega)
  refine rdRow (hv.ext mono_row hx) ex fun _ hv' => rdRow (hu.ext mono_row hx) ey fun _ hu' => vOkf_of (by kernel_rfl) ((implRow_ok hv' hu').mono fun _ _ ⟨e, x2⟩ => ⟨_, e, ?_⟩)
  refine bif_ndec (fun hne => eqs_f (ne_of_get ex ey hne) (hx.trans x2)) fun he => ?_
  subst he
  exact next _ (by omega) ⟨hx.trans x2, ha.succ (by rw [ex, ey])⟩

end

section
variable {h : Heap} {a b c d : Int} {v u : Value} {xs ys : Rows2}
theorem obj_ne1 (hne : a ≠ c) : (⟨a, b, xs⟩ : DObject) ≠ ⟨c, d, ys⟩ := fun e => hne (congrArg DObject.kind e)
theorem obj_ne2 (hne : b ≠ d) : (⟨a, b, xs⟩ : DObject) ≠ ⟨c, d, ys⟩ := fun e => hne (congrArg DObject.size e)
theorem obj_ne3 (hne : xs ≠ ys) : (⟨a, b, xs⟩ : DObject) ≠ ⟨c, d, ys⟩ := fun e => hne (congrArg DObject.rows e)

theorem eqObject_ok (hv : SlB 1 eRow h v xs) (hu : SlB 1 eRow h u ys) :
    CallsH P id_laws_eqObject #[.agg #[.int .i64 a, .int .i64 b, v], .agg #[.int .i64 c, .int .i64 d, u]] h (Eqs h (⟨a, b, xs⟩ : DObject) ⟨c, d, ys⟩) := by
  apply w_laws_eqObject
  unfold F_laws_eqObject
  have st : Sta h h [] (fun x => ExtH h x) := Sta.start fun _ h => h
  (repeat (first | refine new_st st fun _ _ st => ?_ | refine ldI_st st 0 rfl rfl rfl ?_ | refine ldI_st st 1 rfl rfl rfl ?_ | refine ldI_st st 2 rfl rfl rfl ?_ | refine ldI_st st 3 rfl rfl rfl ?_ | refine ldI_st st 4 rfl rfl rfl ?_ | refine ldI_st st 5 rfl rfl rfl ?_ | refine ldS_st st 0 rfl rfl rfl ?_ | refine ldS_st st 1 rfl rfl rfl ?_ | refine ldS_st st 2 rfl rfl rfl ?_ | refine ldS_st st 3 rfl rfl rfl ?_ | refine ldS_st st 4 rfl rfl rfl ?_ | refine ldS_st st 5 rfl rfl rfl ?_ | refine ldV_st st 0 rfl rfl rfl ?_ | refine ldV_st st 1 rfl rfl rfl ?_ | refine ldV_st st 2 rfl rfl rfl ?_ | refine ldV_st st 3 rfl rfl rfl ?_ | refine ldV_st st 4 rfl rfl rfl ?_ | refine ldV_st st 5 rfl rfl rfl ?_ | refine ldB_st st 0 rfl rfl rfl ?_ | refine ldB_st st 1 rfl rfl rfl ?_ | refine ldB_st st 2 rfl rfl rfl ?_ | refine ldB_st st 3 rfl rfl rfl ?_ | refine ldB_st st 4 rfl rfl rfl ?_ | refine ldB_st st 5 rfl rfl rfl ?_ | refine ldP_st st 0 rfl rfl rfl ?_ | refine ldP_st st 1 rfl rfl rfl ?_ | refine ldP_st st 2 rfl rfl rfl ?_ | refine ldP_st st 3 rfl rfl rfl ?_ | refine ldP_st st 4 rfl rfl rfl ?_ | refine ldP_st st 5 rfl rfl rfl ?_ | (refine store_st st 0 rfl rfl rfl (by first | rfl | assumption) fun _ st => ?_; dsimp only [List.set] at st) | (refine store_st st 1 rfl rfl rfl (by first | rfl | assumption) fun _ st => ?_; dsimp only [List.set] at st) | (refine store_st st 2 rfl rfl rfl (by first | rfl | assumption) fun _ st => ?_; dsimp only [List.set] at st) | (refine store_st st 3 rfl rfl rfl (by first | rfl | assumption) fun _ st => ?_; dsimp only [List.set] at st) | (refine store_st st 4 rfl rfl rfl (by first | rfl | assumption) fun _ st => ?_; dsimp only [List.set] at st) | (refine store_st st 5 rfl rfl rfl (by first | rfl | assumption) fun _ st => ?_; dsimp only [List.set] at st)))
  refine bif_ne (fun hne => eqs_f (obj_ne1 hne) st.ext) fun e1 => ?_
  (repeat (first | refine new_st st fun _ _ st => ?_ | refine ldI_st st 0 rfl rfl rfl ?_ | refine ldI_st st 1 rfl rfl rfl ?_ | refine ldI_st st 2 rfl rfl rfl ?_ | refine ldI_st st 3 rfl rfl rfl ?_ | refine ldI_st st 4 rfl rfl rfl ?_ | refine ldI_st st 5 rfl rfl rfl ?_ | refine ldS_st st 0 rfl rfl rfl ?_ | refine ldS_st st 1 rfl rfl rfl ?_ | refine ldS_st st 2 rfl rfl rfl ?_ | refine ldS_st st 3 rfl rfl rfl ?_ | refine ldS_st st 4 rfl rfl rfl ?_ | refine ldS_st st 5 rfl rfl rfl ?_ | refine ldV_st st 0 rfl rfl rfl ?_ | refine ldV_st st 1 rfl rfl rfl ?_ | refine ldV_st st 2 rfl rfl rfl ?_ | refine ldV_st st 3 rfl rfl rfl ?_ | refine ldV_st st 4 rfl rfl rfl ?_ | refine ldV_st st 5 rfl rfl rfl ?_ | refine ldB_st st 0 rfl rfl rfl ?_ | refine ldB_st st 1 rfl rfl rfl ?_ | refine ldB_st st 2 rfl rfl rfl ?_ | refine ldB_st st 3 rfl rfl rfl ?_ | refine ldB_st st 4 rfl rfl rfl ?_ | refine ldB_st st 5 rfl rfl rfl ?_ | refine ldP_st st 0 rfl rfl rfl ?_ | refine ldP_st st 1 rfl rfl rfl ?_ | refine ldP_st st 2 rfl rfl rfl ?_ | refine ldP_st st 3 rfl rfl rfl ?_ | refine ldP_st st 4 rfl rfl rfl ?_ | refine ldP_st st 5 rfl rfl rfl ?_ | (refine store_st st 0 rfl rfl rfl (by first | rfl | assumption) fun _ st => ?_; dsimp only [List.set] at st) | (refine store_st st 1 rfl rfl rfl (by first | rfl | assumption) fun _ st => ?_; dsimp only [List.set] at st) | (refine store_st st 2 rfl rfl rfl (by first | rfl | assumption) fun _ st => ?_; dsimp only [List.set] at st) | (refine store_st st 3 rfl rfl rfl (by first | rfl | assumption) fun _ st => ?_; dsimp only [List.set] at st) | (refine store_st st 4 rfl rfl rfl (by first | rfl | assumption) fun _ st => ?_; dsimp only [List.set] at st) | (refine store_st st 5 rfl rfl rfl (by first | rfl | assumption) fun _ st => ?_; dsimp only [List.set] at st)))
  refine bif_ne (fun hne => eqs_f (obj_ne2 hne) st.ext) fun e2 => ?_
  (repeat (first | refine new_st st fun _ _ st => ?_ | refine ldI_st st 0 rfl rfl rfl ?_ | refine ldI_st st 1 rfl rfl rfl ?_ | refine ldI_st st 2 rfl rfl rfl ?_ | refine ldI_st st 3 rfl rfl rfl ?_ | refine ldI_st st 4 rfl rfl rfl ?_ | refine ldI_st st 5 rfl rfl rfl ?_ | refine ldS_st st 0 rfl rfl rfl ?_ | refine ldS_st st 1 rfl rfl rfl ?_ | refine ldS_st st 2 rfl rfl rfl ?_ | refine ldS_st st 3 rfl rfl rfl ?_ | refine ldS_st st 4 rfl rfl rfl ?_ | refine ldS_st st 5 rfl rfl rfl ?_ | refine ldV_st st 0 rfl rfl rfl ?_ | refine ldV_st st 1 rfl rfl rfl ?_ | refine ldV_st st 2 rfl rfl rfl ?_ | refine ldV_st st 3 rfl rfl rfl ?_ | refine ldV_st st 4 rfl rfl rfl ?_ | refine ldV_st st 5 rfl rfl rfl ?_ | refine ldB_st st 0 rfl rfl rfl ?_ | refine ldB_st st 1 rfl rfl rfl ?_ | refine ldB_st st 2 rfl rfl rfl ?_ | refine ldB_st st 3 rfl rfl rfl ?_ | refine ldB_st st 4 rfl rfl rfl ?_ | refine ldB_st st 5 rfl rfl rfl ?_ | refine ldP_st st 0 rfl rfl rfl ?_ | refine ldP_st st 1 rfl rfl rfl ?_ | refine ldP_st st 2 rfl rfl rfl ?_ | refine ldP_st st 3 rfl rfl rfl ?_ | refine ldP_st st 4 rfl rfl rfl ?_ | refine ldP_st st 5 rfl rfl rfl ?_ | (refine store_st st 0 rfl rfl rfl (by first | rfl | assumption) fun _ st => ?_; dsimp only [List.set] at st) | (refine store_st st 1 rfl rfl rfl (by first | rfl | assumption) fun _ st => ?_; dsimp only [List.set] at st) | (refine store_st st 2 rfl rfl rfl (by first | rfl | assumption) fun _ st => ?_; dsimp only [List.set] at st) | (refine store_st st 3 rfl rfl rfl (by first | rfl | assumption) fun _ st => ?_; dsimp only [List.set] at st) | (refine store_st st 4 rfl rfl rfl (by first | rfl | assumption) fun _ st => ?_; dsimp only [List.set] at st) | (refine store_st st 5 rfl rfl rfl (by first | rfl | assumption) fun _ st => ?_; dsimp only [List.set] at st)))
  refine (eqRows_ok (hv.ext mono_row st.ext) (hu.ext mono_row st.ext)).mono fun _ _ ⟨e, x2⟩ => ⟨_, e, ?_⟩
  refine bif_ndec (fun hne => eqs_f (obj_ne3 hne) (st.ext.trans x2)) fun e3 => eqs_t (by rw [e1, e2, e3]) (st.ext.trans x2)
theorem specObject_ok (hv : SlB 1 eRow h v xs) (hu : SlB 1 eRow h u ys) :
    CallsH P id_spec_SameObject #[.agg #[.int .i64 a, .int .i64 b, v], .agg #[.int .i64 c, .int .i64 d, u]] h (Eqs h (⟨a, b, xs⟩ : DObject) ⟨c, d, ys⟩) := by
  apply w_spec_SameObject
  unfold F_spec_SameObject
  have st : Sta h h [] (fun x => ExtH h x) := Sta.start fun _ h => h
  (repeat (first | refine new_st st fun _ _ st => ?_ | refine ldI_st st 0 rfl rfl rfl ?_ | refine ldI_st st 1 rfl rfl rfl ?_ | refine ldI_st st 2 rfl rfl rfl ?_ | refine ldI_st st 3 rfl rfl rfl ?_ | refine ldI_st st 4 rfl rfl rfl ?_ | refine ldI_st st 5 rfl rfl rfl ?_ | refine ldS_st st 0 rfl rfl rfl ?_ | refine ldS_st st 1 rfl rfl rfl ?_ | refine ldS_st st 2 rfl rfl rfl ?_ | refine ldS_st st 3 rfl rfl rfl ?_ | refine ldS_st st 4 rfl rfl rfl ?_ | refine ldS_st st 5 rfl rfl rfl ?_ | refine ldV_st st 0 rfl rfl rfl ?_ | refine ldV_st st 1 rfl rfl rfl ?_ | refine ldV_st st 2 rfl rfl rfl ?_ | refine ldV_st st 3 rfl rfl rfl ?_ | refine ldV_st st 4 rfl rfl rfl ?_ | refine ldV_st st 5 rfl rfl rfl ?_ | refine ldB_st st 0 rfl rfl rfl ?_ | refine ldB_st st 1 rfl rfl rfl ?_ | refine ldB_st st 2 rfl rfl rfl ?_ | refine ldB_st st 3 rfl rfl rfl ?_ | refine ldB_st st 4 rfl rfl rfl ?_ | refine ldB_st st 5 rfl rfl rfl ?_ | refine ldP_st st 0 rfl rfl rfl ?_ | refine ldP_st st 1 rfl rfl rfl ?_ | refine ldP_st st 2 rfl rfl rfl ?_ | refine ldP_st st 3 rfl rfl rfl ?_ | refine ldP_st st 4 rfl rfl rfl ?_ | refine ldP_st st 5 rfl rfl rfl ?_ | (refine store_st st 0 rfl rfl rfl (by first | rfl | assumption) fun _ st => ?_; dsimp only [List.set] at st) | (refine store_st st 1 rfl rfl rfl (by first | rfl | assumption) fun _ st => ?_; dsimp only [List.set] at st) | (refine store_st st 2 rfl rfl rfl (by first | rfl | assumption) fun _ st => ?_; dsimp only [List.set] at st) | (refine store_st st 3 rfl rfl rfl (by first | rfl | assumption) fun _ st => ?_; dsimp only [List.set] at st) | (refine store_st st 4 rfl rfl rfl (by first | rfl | assumption) fun _ st => ?_; dsimp only [List.set] at st) | (refine store_st st 5 rfl rfl rfl (by first | rfl | assumption) fun _ st => ?_; dsimp only [List.set] at st)))
  refine bif_eq (fun e1 => ?_) fun hne => eqs_f (obj_ne1 hne) st.ext
  (repeat (first | refine new_st st fun _ _ st => ?_ | refine ldI_st st 0 rfl rfl rfl ?_ | refine ldI_st st 1 rfl rfl rfl ?_ | refine ldI_st st 2 rfl rfl rfl ?_ | refine ldI_st st 3 rfl rfl rfl ?_ | refine ldI_st st 4 rfl rfl rfl ?_ | refine ldI_st st 5 rfl rfl rfl ?_ | refine ldS_st st 0 rfl rfl rfl ?_ | refine ldS_st st 1 rfl rfl rfl ?_ | refine ldS_st st 2 rfl rfl rfl ?_ | refine ldS_st st 3 rfl rfl rfl ?_ | refine ldS_st st 4 rfl rfl rfl ?_ | refine ldS_st st 5 rfl rfl rfl ?_ | refine ldV_st st 0 rfl rfl rfl ?_ | refine ldV_st st 1 rfl rfl rfl ?_ | refine ldV_st st 2 rfl rfl rfl ?_ | refine ldV_st st 3 rfl rfl rfl ?_ | refine ldV_st st 4 rfl rfl rfl ?_ | refine ldV_st st 5 rfl rfl rfl ?_ | refine ldB_st st 0 rfl rfl rfl ?_ | refine ldB_st st 1 rfl rfl rfl ?_ | refine ldB_st st 2 rfl rfl rfl ?_ | refine ldB_st st 3 rfl rfl rfl ?_ | refine ldB_st st 4 rfl rfl rfl ?_ | refine ldB_st st 5 rfl rfl rfl ?_ | refine ldP_st st 0 rfl rfl rfl ?_ | refine ldP_st st 1 rfl rfl rfl ?_ | refine ldP_st st 2 rfl rfl rfl ?_ | refine ldP_st st 3 rfl rfl rfl ?_ | refine ldP_st st 4 rfl rfl rfl ?_ | refine ldP_st st 5 rfl rfl rfl ?_ | (refine store_st st 0 rfl rfl rfl (by first | rfl | assumption) fun _ st => ?_; dsimp only [List.set] at st) | (refine store_st st 1 rfl rfl rfl (by first | rfl | assumption) fun _ st => ?_; dsimp only [List.set] at st) | (refine store_st st 2 rfl rfl rfl (by first | rfl | assumption) fun _ st => ?_; dsimp only [List.set] at st) | (refine store_st st 3 rfl rfl rfl (by first | rfl | assumption) fun _ st => ?_; dsimp only [List.set] at st) | (refine store_st st 4 rfl rfl rfl (by first | rfl | assumption) fun _ st => ?_; dsimp only [List.set] at st) | (refine store_st st 5 rfl rfl rfl (by first | rfl | assumption) fun _ st => ?_; dsimp only [List.set] at st)))
  refine bif_eq (fun e2 => ?_) fun hne => eqs_f (obj_ne2 hne) st.ext
  (repeat (first | refine new_st st fun _ _ st => ?_ | refine ldI_st st 0 rfl rfl rfl ?_ | refine ldI_st st 1 rfl rfl rfl ?_ | refine ldI_st st 2 rfl rfl rfl ?_ | refine ldI_st st 3 rfl rfl rfl ?_ | refine ldI_st st 4 rfl rfl rfl ?_ | refine ldI_st st 5 rfl rfl rfl ?_ | refine ldS_st st 0 rfl rfl rfl ?_ | refine ldS_st st 1 rfl rfl rfl ?_ | refine ldS_st st 2 rfl rfl rfl ?_ | refine ldS_st st 3 rfl rfl rfl ?_ | refine ldS_st st 4 rfl rfl rfl ?_ | refine ldS_st st 5 rfl rfl rfl ?_ | refine ldV_st st 0 rfl rfl rfl ?_ | refine ldV_st st 1 rfl rfl rfl ?_ | refine ldV_st st 2 rfl rfl rfl ?_ | refine ldV_st st 3 rfl rfl rfl ?_ | refine ldV_st st 4 rfl rfl rfl ?_ | refine ldV_st st 5 rfl rfl rfl ?_ | refine ldB_st st 0 rfl rfl rfl ?_ | refine ldB_st st 1 rfl rfl rfl ?_ | refine ldB_st st 2 rfl rfl rfl ?_ | refine ldB_st st 3 rfl rfl rfl ?_ | refine ldB_st st 4 rfl rfl rfl ?_ | refine ldB_st st 5 rfl rfl rfl ?_ | refine ldP_st st 0 rfl rfl rfl ?_ | refine ldP_st st 1 rfl rfl rfl ?_ | refine ldP_st st 2 rfl rfl rfl ?_ | refine ldP_st st 3 rfl rfl rfl ?_ | refine ldP_st st 4 rfl rfl rfl ?_ | refine ldP_st st 5 rfl rfl rfl ?_ | (refine store_st st 0 rfl rfl rfl (by first | rfl | assumption) fun _ st => ?_; dsimp only [List.set] at st) | (refine store_st st 1 rfl rfl rfl (by first | rfl | assumption) fun _ st => ?_; dsimp only [List.set] at st) | (refine store_st st 2 rfl rfl rfl (by first | rfl | assumption) fun _ st => ?_; dsimp only [List.set] at st) | (refine store_st st 3 rfl rfl rfl (by first | rfl | assumption) fun _ st => ?_; dsimp only [List.set] at st) | (refine store_st st 4 rfl rfl rfl (by first | rfl | assumption) fun _ st => ?_; dsimp only [List.set] at st) | (refine store_st st 5 rfl rfl rfl (by first | rfl | assumption) fun _ st => ?_; dsimp only [List.set] at st)))
  refine (specRows_ok (hv.ext mono_row st.ext) (hu.ext mono_row st.ext)).mono fun _ _ ⟨e, x2⟩ => ⟨_, e, ?_, st.ext.trans x2⟩
  subst e1; subst e2
  simp
theorem implObject_ok (hv : SlB 1 eRow h v xs) (hu : SlB 1 eRow h u ys) :
    CallsH P id_impl_SameObject #[.agg #[.int .i64 a, .int .i64 b, v], .agg #[.int .i64 c, .int .i64 d, u]] h (Eqs h (⟨a, b, xs⟩ : DObject) ⟨c, d, ys⟩) := by
  apply w_impl_SameObject
  unfold F_impl_SameObject
  have st : Sta h h [] (fun x => ExtH h x) := Sta.start fun _ h => h
  (repeat (first | refine new_st st fun _ _ st => ?_ | refine ldI_st st 0 rfl rfl rfl ?_ | refine ldI_st st 1 rfl rfl rfl ?_ | refine ldI_st st 2 rfl rfl rfl ?_ | refine ldI_st st 3 rfl rfl rfl ?_ | refine ldI_st st 4 rfl rfl rfl ?_ | refine ldI_st st 5 rfl rfl rfl ?_ | refine ldS_st st 0 rfl rfl rfl ?_ | refine ldS_st st 1 rfl rfl rfl ?_ | refine ldS_st st 2 rfl rfl rfl ?_ | refine ldS_st st 3 rfl rfl rfl ?_ | refine ldS_st st 4 rfl rfl rfl ?_ | refine ldS_st st 5 rfl rfl rfl ?_ | refine ldV_st st 0 rfl rfl rfl ?_ | refine ldV_st st 1 rfl rfl rfl ?_ | refine ldV_st st 2 rfl rfl rfl ?_ | refine ldV_st st 3 rfl rfl rfl ?_ | refine ldV_st st 4 rfl rfl rfl ?_ | refine ldV_st st 5 rfl rfl rfl ?_ | refine ldB_st st 0 rfl rfl rfl ?_ | refine ldB_st st 1 rfl rfl rfl ?_ | refine ldB_st st 2 rfl rfl rfl ?_ | refine ldB_st st 3 rfl rfl rfl ?_ | refine ldB_st st 4 rfl rfl rfl ?_ | refine ldB_st st 5 rfl rfl rfl ?_ | refine ldP_st st 0 rfl rfl rfl ?_ | refine ldP_st st 1 rfl rfl rfl ?_ | refine ldP_st st 2 rfl rfl rfl ?_ | refine ldP_st st 3 rfl rfl rfl ?_ | refine ldP_st st 4 rfl rfl rfl ?_ | refine ldP_st st 5 rfl rfl rfl ?_ | (refine store_st st 0 rfl rfl rfl (by first | rfl | assumption) fun _ st => ?_; dsimp only [List.set] at st) | (refine store_st st 1 rfl rfl rfl (by first | rfl | assumption) fun _ st => ?_; dsimp only [List.set] at st) | (refine store_st st 2 rfl rfl rfl (by first | rfl | assumption) fun _ st => ?_; dsimp only [List.set] at st) | (refine store_st st 3 rfl rfl rfl (by first | rfl | assumption) fun _ st => ?_; dsimp only [List.set] at st) | (refine store_st st 4 rfl rfl rfl (by first | rfl | assumption) fun _ st => ?_; dsimp only [List.set] at st) | (refine store_st st 5 rfl rfl rfl (by first | rfl | assumption) fun _ st => ?_; dsimp only [List.set] at st)))
  refine bif_eq (fun e1 => ?_) fun hne => eqs_f (obj_ne1 hne) st.ext
  (repeat (first | refine new_st st fun _ _ st => ?_ | refine ldI_st st 0 rfl rfl rfl ?_ | refine ldI_st st 1 rfl rfl rfl ?_ | refine ldI_st st 2 rfl rfl rfl ?_ | refine ldI_st st 3 rfl rfl rfl ?_ | refine ldI_st st 4 rfl rfl rfl ?_ | refine ldI_st st 5 rfl rfl rfl ?_ | refine ldS_st st 0 rfl rfl rfl ?_ | refine ldS_st st 1 rfl rfl rfl ?_ | refine ldS_st st 2 rfl rfl rfl ?_ | refine ldS_st st 3 rfl rfl rfl ?_ | refine ldS_st st 4 rfl rfl rfl ?_ | refine ldS_st st 5 rfl rfl rfl ?_ | refine ldV_st st 0 rfl rfl rfl ?_ | refine ldV_st st 1 rfl rfl rfl ?_ | refine ldV_st st 2 rfl rfl rfl ?_ | refine ldV_st st 3 rfl rfl rfl ?_ | refine ldV_st st 4 rfl rfl rfl ?_ | refine ldV_st st 5 rfl rfl rfl ?_ | refine ldB_st st 0 rfl rfl rfl ?_ | refine ldB_st st 1 rfl rfl rfl ?_ | refine ldB_st st 2 rfl rfl rfl ?_ | refine ldB_st st 3 rfl rfl rfl ?_ | refine ldB_st st 4 rfl rfl rfl ?_ | refine ldB_st st 5 rfl rfl rfl ?_ | refine ldP_st st 0 rfl rfl rfl ?_ | refine ldP_st st 1 rfl rfl rfl ?_ | refine ldP_st st 2 rfl rfl rfl ?_ | refine ldP_st st 3 rfl rfl rfl ?_ | refine ldP_st st 4 rfl rfl rfl ?_ | refine ldP_st st 5 rfl rfl rfl ?_ | (refine store_st st 0 rfl rfl rfl (by first | rfl | assumption) fun _ st => ?_; dsimp only [List.set] at st) | (refine store_st st 1 rfl rfl rfl (by first | rfl | assumption) fun _ st => ?_; dsimp only [List.set] at st) | (refine store_st st 2 rfl rfl rfl (by first | rfl | assumption) fun _ st => ?_; dsimp only [List.set] at st) | (refine store_st st 3 rfl rfl rfl (by first | rfl | assumption) fun _ st => ?_; dsimp only [List.set] at st) | (refine store_st st 4 rfl rfl rfl (by first | rfl | assumption) fun _ st => ?_; dsimp only [List.set] at st) | (refine store_st st 5 rfl rfl rfl (by first | rfl | assumption) fun _ st => ?_; dsimp only [List.set] at st)))
  refine bif_eq (fun e2 => ?_) fun hne => eqs_f (obj_ne2 hne) st.ext
  (repeat (first | refine new_st st fun _ _ st => ?_ | refine ldI_st st 0 rfl rfl rfl ?_ | refine ldI_st st 1 rfl rfl rfl ?_ | refine ldI_st st 2 rfl rfl rfl ?_ | refine ldI_st st 3 rfl rfl rfl ?_ | refine ldI_st st 4 rfl rfl rfl ?_ | refine ldI_st st 5 rfl rfl rfl ?_ | refine ldS_st st 0 rfl rfl rfl ?_ | refine ldS_st st 1 rfl rfl rfl ?_ | refine ldS_st st 2 rfl rfl rfl ?_ | refine ldS_st st 3 rfl rfl rfl ?_ | refine ldS_st st 4 rfl rfl rfl ?_ | refine ldS_st st 5 rfl rfl rfl ?_ | refine ldV_st st 0 rfl rfl rfl ?_ | refine ldV_st st 1 rfl rfl rfl ?_ | refine ldV_st st 2 rfl rfl rfl ?_ | refine ldV_st st 3 rfl rfl rfl ?_ | refine ldV_st st 4 rfl rfl rfl ?_ | refine ldV_st st 5 rfl rfl rfl ?_ | refine ldB_st st 0 rfl rfl rfl ?_ | refine ldB_st st 1 rfl rfl rfl ?_ | refine ldB_st st 2 rfl rfl rfl ?_ | refine ldB_st st 3 rfl rfl rfl ?_ | refine ldB_st st 4 rfl rfl rfl ?_ | refine ldB_st st 5 rfl rfl rfl ?_ | refine ldP_st st 0 rfl rfl rfl ?_ | refine ldP_st st 1 rfl rfl rfl ?_ | refine ldP_st st 2 rfl rfl rfl ?_ | refine ldP_st st 3 rfl rfl rfl ?_ | refine ldP_st st 4 rfl rfl rfl ?_ | refine ldP_st st 5 rfl rfl rfl ?_ | (refine store_st st 0 rfl rfl rfl (by first | rfl | assumption) fun _ st => ?_; dsimp only [List.set] at st) | (refine store_st st 1 rfl rfl rfl (by first | rfl | assumption) fun _ st => ?_; dsimp only [List.set] at st) | (refine store_st st 2 rfl rfl rfl (by first | rfl | assumption) fun _ st => ?_; dsimp only [List.set] at st) | (refine store_st st 3 rfl rfl rfl (by first | rfl | assumption) fun _ st => ?_; dsimp only [List.set] at st) | (refine store_st st 4 rfl rfl rfl (by first | rfl | assumption) fun _ st => ?_; dsimp only [List.set] at st) | (refine store_st st 5 rfl rfl rfl (by first | rfl | assumption) fun _ st => ?_; dsimp only [List.set] at st)))
  refine (implRows_ok (hv.ext mono_row st.ext) (hu.ext mono_row st.ext)).mono fun _ _ ⟨e, x2⟩ => ⟨_, e, ?_, st.ext.trans x2⟩
  subst e1; subst e2
  simp
end

end Go.Proofs.Ytieehpcgmjbceaa
