/- Contracts: the shape of a verb, the program's and the reference's. -/
import Derived.Test.YtieehpcgmjbceaaConVerb
namespace Go.Proofs.Ytieehpcgmjbceaa
open Go Go.Vc

/-- The first place of s in a list, or -1. -/
def FirstAt {α : Type} (xs : List α) (f : α → Bool) (r : Int) : Prop :=
  (∃ (k : Nat) (x : α), r = k ∧ xs[k]? = some x ∧ f x = true ∧ ∀ (j : Nat) (y : α), j < k → xs[j]? = some y → f y = false) ∨ (r = -1 ∧ ∀ (j : Nat) (y : α), xs[j]? = some y → f y = false)
theorem FirstAt.unique {α : Type} {xs : List α} {f : α → Bool} {r r' : Int} (h : FirstAt xs f r) (h' : FirstAt xs f r') : r = r' := by
  rcases h with ⟨k, x, rfl, h1, h2, h3⟩ | ⟨rfl, h1⟩ <;> rcases h' with ⟨k', x', rfl, h1', h2', h3'⟩ | ⟨rfl, h1'⟩
  · rcases Nat.lt_trichotomy k k' with hlt | rfl | hlt
    · have := h3' k x hlt h1; rw [h2] at this; cases this
    · rfl
    · have := h3 k' x' hlt h1'; rw [h2'] at this; cases this
  · have := h1' k x h1; rw [h2] at this; cases this
  · have := h1 k' x' h1'; rw [h2'] at this; cases this
  · rfl
theorem FirstAt.map {α β : Type} {g : α → β} {xs : List α} {f : β → Bool} {r : Int} (h : FirstAt (xs.map g) f r) : FirstAt xs (fun x => f (g x)) r := by
  rcases h with ⟨k, x, rfl, h1, h2, h3⟩ | ⟨rfl, h1⟩
  · rw [List.getElem?_map, Option.map_eq_some_iff] at h1
    obtain ⟨y, hy, rfl⟩ := h1
    exact .inl ⟨k, y, rfl, hy, h2, fun j z hj hz => h3 j (g z) hj (by rw [List.getElem?_map, hz]; rfl)⟩
  · exact .inr ⟨rfl, fun j z hz => h1 j (g z) (by rw [List.getElem?_map, hz]; rfl)⟩

theorem specVerb_ok {h : Heap} {s : ByteArray} : CallsH P id_spec_l32Verb #[.string s] h fun r h' => ∃ x, r = .int .i64 x ∧ FirstAt verbsL (fun y => decide (y = s)) x ∧ ExtH h h' := by
  apply w_spec_l32Verb
  unfold F_spec_l32Verb
  refine specVerbs_ok.mono fun v h1 ⟨ho, x1⟩ => ⟨v, rfl, ?_⟩
  have hs : SlAt 1 eStr h1 v verbsL := ho.sl fun _ _ => rfl
  refine ⟨fun n i h' => ∃ k : Nat, i = k ∧ k ≤ 23 ∧ n = 23 - k ∧ h' = h1 ∧ ∀ (j : Nat) (y : ByteArray), j < k → verbsL[j]? = some y → decide (y = s) = false, ⟨_, 0, rfl, by omega, rfl, rfl, fun j y hj => by omega⟩, ?_⟩
  rintro n _ i h' ⟨k, rfl, hk, rfl, rfl, hp⟩
  have hlen : verbsL.length = 23 := rfl
  refine vLen_sl hs (bif_lt (fun hlt => ?_) fun hge => ?_)
  · rw [hlen] at hlt
    obtain ⟨x, hx⟩ := get_some (xs := verbsL) (k := k) (by omega)
    refine rdS hs hx ?_
    rw [str_beq]
    refine bif_of (fun he => ⟨_, rfl, .inl ⟨k, x, rfl, hx, he, hp⟩, x1⟩) fun hne => ?_
    refine ⟨_, by omega, k + 1, wrapS (by omega) (by omega : 23 ≤ _), by omega, rfl, rfl, fun j y hj hy => ?_⟩
    by_cases hjk : j = k
    · subst hjk; rw [hx] at hy; cases hy; exact hne
    · exact hp j y (by omega) hy
  · rw [hlen] at hge
    exact ⟨_, rfl, .inr ⟨rfl, fun j y hy => hp j y (by have := get_lt hy; omega) hy⟩, x1⟩

def argsA : List Int := [1, 2, 0, 1, 1, 1, 1, 3, 5, 0, 0, 1, 1, 0, 1, 1, 0, 3, 2, 2, 3, 0, 2]
def usesA : List Int := [0, 0, 11, 1, 1, 0, 0, 0, 0, 2, 2, 2, 2, 22, 0, 0, 3, 0, 0, 0, 0, 5, 0]
def kindA : List Int := [1, 1, 1, 1, 1, 2, 2, 2, 2, 2, 2, 2, 2, 2, 3, 3, 2, 4, 4, 5, 5, 5, 7]
def usesOf (u : Int) : List Int := (if u > 9 then [u / 10] else []) ++ (if u > 0 then [u % 10] else [])
theorem shapes_fit : ∀ k, k < 23 → ∃ x u, shapesL[k]? = some x ∧ usesA[k]? = some u ∧ argsA[k]? = some x.2.1 ∧ kindA[k]? = some x.2.2.2 ∧ usesOf u = x.2.2.1 ∧ 0 ≤ u ∧ u ≤ 99 := by
  have h : ∀ k, k < 23 → (match shapesL[k]?, usesA[k]? with | some x, some u => decide (argsA[k]? = some x.2.1 ∧ kindA[k]? = some x.2.2.2 ∧ usesOf u = x.2.2.1 ∧ 0 ≤ u ∧ u ≤ 99) | _, _ => false) = true := by decide
  intro k hk
  have := h k hk
  split at this
  · rename_i x u hx hu
    obtain ⟨h1, h2, h3, h4, h5⟩ := of_decide_eq_true this
    exact ⟨x, u, hx, hu, h1, h2, h3, h4, h5⟩
  · cases this

theorem specShape_ok {h : Heap} {k : Nat} {x : Shape} (hx : shapesL[k]? = some x) : CallsH P id_spec_l32Shape #[.int .i64 k] h fun r h' =>
    ∃ v, r = .tuple #[.int .i64 x.2.1, v, .int .i64 x.2.2.2] ∧ SlAt 1 eI64 h' v x.2.2.1 ∧ ExtH h h' := by
  have hk : k < 23 := get_lt hx
  obtain ⟨x', u, hx', hu, ha, hkd, hus, hu0, hu1⟩ := shapes_fit k hk
  rw [hx] at hx'; cases hx'
  have e64 : ∀ (l : List Int), (∀ y ∈ l, -100 ≤ y ∧ y ≤ 100) → ∀ (h : Heap) (y : Int), y ∈ l → eI64 h [.int .i64 y] y := fun l hl h y hy => ⟨rfl, by have := hl y hy; constructor <;> omega⟩
  apply w_spec_l32Shape
  unfold F_spec_l32Shape
  refine vNewS_own (cs := argsA.map (.int .i64)) rfl fun v9 h1 o9 x1 _ => ?_
  refine vNewS_own (cs := usesA.map (.int .i64)) rfl fun v10 h2 o10 x2 _ => ?_
  refine vNewS_own (cs := kindA.map (.int .i64)) rfl fun v11 h3 o11 x3 _ => ?_
  refine vNewS_own (cs := []) rfl fun v12 h4 o12 x4 z4 => ?_
  have s9 : SlAt 1 eI64 h4 v9 argsA := (((o9.ext x2).ext x3).ext x4).sl (e64 _ (by decide) _)
  have s10 : SlAt 1 eI64 h4 v10 usesA := ((o10.ext x3).ext x4).sl (e64 _ (by decide) _)
  have s11 : SlAt 1 eI64 h4 v11 kindA := (o11.ext x4).sl (e64 _ (by decide) _)
  have i64of : ∀ {y : Int}, 0 ≤ y → y ≤ 99 → I64 y := fun h0 h1 => ⟨by omega, by omega⟩
  refine ⟨fun v h' => ∃ ob, OwnO h' v ob (((if u > 9 then [u / 10] else []) : List Int).map (.int .i64)) ∧ (∀ b, ob = some b → h3.size ≤ b) ∧ ExtH h3 h', ?_, ?_⟩
  · refine rdI s10 hu fun _ => bif_of (fun hgt => ?_) fun hle => ?_
    · have hgt : u > 9 := of_decide_eq_true hgt
      refine rdI s10 hu fun _ => ⟨by decide, ?_⟩
      rw [Int.tdiv_eq_ediv_of_nonneg hu0, wrapI (i64of (by omega) (by omega)), if_pos hgt]
      refine vNewS_own (cs := [.int .i64 (u / 10)]) rfl fun w h5 ow x5 _ => ?_
      refine vAppend_own (ob := some h3.size) (cs := []) (o12.ext x5) ow.shows (by simp [Value.oneCell']) (by simp) (by simp) fun v' h6 ob' ho' hob hx6 => ?_
      refine ⟨ob', ho', fun b hb => ?_, hx6.ext (x4.trans x5) fun b hb => by cases hb; exact Nat.le_refl _⟩
      rcases hob with rfl | rfl
      · cases hb; exact Nat.le_refl _
      · cases hb; exact (x4.trans x5).1
    · have hle : ¬ u > 9 := of_decide_eq_false hle
      rw [if_neg hle]
      exact ⟨some h3.size, o12, fun b hb => by cases hb; exact Nat.le_refl _, x4⟩
  · rintro _ v h' ⟨ob, ho, hb, hx'⟩
    -- the tables lie below
    have t9 : SlAt 1 eI64 h' v9 argsA := (((o9.ext x2).ext x3).ext hx').sl (e64 _ (by decide) _)
    have t10 : SlAt 1 eI64 h' v10 usesA := ((o10.ext x3).ext hx').sl (e64 _ (by decide) _)
    have t11 : SlAt 1 eI64 h' v11 kindA := (o11.ext hx').sl (e64 _ (by decide) _)
    refine ⟨fun v h'' => ∃ ob, OwnO h'' v ob ((usesOf u).map (.int .i64)) ∧ (∀ b, ob = some b → h3.size ≤ b) ∧ ExtH h3 h'', ?_, ?_⟩
    · refine rdI t10 hu fun _ => bif_of (fun hgt => ?_) fun hle => ?_
      · have hgt : u > 0 := of_decide_eq_true hgt
        refine rdI t10 hu fun _ => ⟨by decide, ?_⟩
        rw [Int.tmod_eq_emod_of_nonneg hu0]
        refine vNewS_own (cs := [.int .i64 (u % 10)]) rfl fun w h5 ow x5 _ => ?_
        refine vAppend_own (ho.ext x5) ow.shows (by simp [Value.oneCell']) (by split <;> simp) (by split <;> simp) fun v' h6 ob' ho' hob hx6 => ?_
        refine ⟨ob', ?_, fun b hb' => ?_, hx6.ext (hx'.trans x5) hb⟩
        · rw [usesOf, if_pos hgt, List.map_append]; exact ho'
        · rcases hob with rfl | rfl
          · exact hb b hb'
          · cases hb'; exact (hx'.trans x5).1
      · have hle : ¬ u > 0 := of_decide_eq_false hle
        refine ⟨ob, ?_, hb, hx'⟩
        rw [usesOf, if_neg hle, List.append_nil]; exact ho
    · rintro _ v h'' ⟨ob, ho, hb, hx''⟩
      have r9 : SlAt 1 eI64 h'' v9 argsA := (((o9.ext x2).ext x3).ext hx'').sl (e64 _ (by decide) _)
      have r11 : SlAt 1 eI64 h'' v11 kindA := (o11.ext hx'').sl (e64 _ (by decide) _)
      refine rdI r9 ha fun _ => rdI r11 hkd fun _ => ⟨v, rfl, ?_, ((x1.trans x2).trans x3).trans hx''⟩
      rw [← hus]
      refine ho.sl fun y hy => ⟨rfl, ?_⟩
      unfold usesOf at hy
      have : 0 ≤ y ∧ y ≤ 99 := by
        rw [List.mem_append] at hy
        rcases hy with hy | hy <;> (split at hy <;> simp at hy <;> omega)
      exact i64of this.1 this.2

/-- What VerbShape answers, given where the verb stands. -/
theorem specVerbShape_ok {h : Heap} {s : ByteArray} : CallsH P id_spec_VerbShape #[.string s] h fun r h' => ExtH h h' ∧
    ((r = .tuple #[.int .i64 0, .slice none 0 0, .int .i64 0, .bool false] ∧ FirstAt verbsL (fun y => decide (y = s)) (-1)) ∨
     ∃ (k : Nat) (x : Shape) (v : Value), r = .tuple #[.int .i64 x.2.1, v, .int .i64 x.2.2.2, .bool true] ∧ FirstAt verbsL (fun y => decide (y = s)) k ∧ shapesL[k]? = some x ∧ SlAt 1 eI64 h' v x.2.2.1) := by
  apply w_spec_VerbShape
  unfold F_spec_VerbShape
  refine specVerb_ok.mono fun r h1 ⟨i, hr, hf, x1⟩ => ⟨i, hr, ?_⟩
  refine bif_lt (fun hlt => ?_) fun hge => ?_
  · refine ⟨x1, .inl ⟨rfl, ?_⟩⟩
    rcases hf with ⟨k, _, rfl, _⟩ | ⟨rfl, h2⟩
    · omega
    · exact .inr ⟨rfl, h2⟩
  · rcases hf with ⟨k, y, rfl, h2, h3⟩ | ⟨rfl, _⟩
    · obtain ⟨x, hx⟩ := get_some (xs := shapesL) (k := k) (by have : verbsL.length = shapesL.length := rfl
                                                              have := get_lt h2; omega)
      refine (specShape_ok hx).mono fun r h2' ⟨v, hr, hs, x2⟩ => ⟨_, v, _, hr, x1.trans x2, .inr ⟨k, x, v, rfl, .inl ⟨k, y, rfl, h2, h3⟩, hx, hs⟩⟩
    · omega

/-! The program's. -/
theorem indexShape_ok {h : Heap} {v : Value} {B : Nat} {xs : List Shape} {g : Nat} {cap : List Value} {f : Shape → Bool} (hs : SlAt 4 (eShape B) h v xs) (hl : xs.length ≤ 4611686018427387904) (hg : ctx.okf g = true)
    (hf : ∀ (h' : Heap) (x : Shape) (u : Value), ExtH h h' → CallsH P g (([.agg #[.string x.1, .int .i64 x.2.1, u, .int .i64 x.2.2.2]] : List Value) ++ cap).toArray h' fun r h'' => r = .bool (f x) ∧ ExtH h' h'') :
    CallsH P id_slices_IndexFunc_impl_shape_impl_shape #[v, .func (.func g) #[] cap.toArray] h fun r h' => ∃ x, r = .int .i64 x ∧ FirstAt xs f x ∧ ExtH h h' := by
  apply w_slices_IndexFunc_impl_shape_impl_shape
  unfold F_slices_IndexFunc_impl_shape_impl_shape
  refine vLen_sl hs ?_
  refine ⟨fun n i h' => ∃ k : Nat, i = k ∧ k ≤ xs.length ∧ n = xs.length - k ∧ ExtH h h' ∧ ∀ (j : Nat) (y : Shape), j < k → xs[j]? = some y → f y = false, ⟨_, 0, rfl, by omega, rfl, ExtH.refl _, fun j y hj => by omega⟩, ?_⟩
  rintro n _ i h' ⟨k, rfl, hk, rfl, hx, hp⟩
  refine bif_lt (fun hlt => ?_) fun hge => ?_
  · obtain ⟨x, hxk⟩ := get_some (xs := xs) (k := k) (by omega)
    refine vIdx_sl (hs.ext (mono_shape _) hx) hxk fun p he => ?_
    obtain ⟨c0, c1, c3, u, ou, c2, hu, _⟩ := shape_cells he
    refine ldS_of c0 (ldI_of c1 (ldV_of c2 (ldI_of c3 ?_)))
    refine vOkf_of hg ?_
    refine (hf h' x u hx).mono fun r h2 ⟨hr, x2⟩ => ⟨_, hr, bif_of (fun ht => ?_) fun hfl => ?_⟩
    · exact ⟨_, rfl, .inl ⟨k, x, rfl, hxk, ht, hp⟩, hx.trans x2⟩
    · refine ⟨_, by omega, k + 1, wrapS (by omega) hl, by omega, rfl, hx.trans x2, fun j y hj hy => ?_⟩
      by_cases hjk : j = k
      · subst hjk; rw [hxk] at hy; cases hy; exact hfl
      · exact hp j y (by omega) hy
  · exact ⟨_, rfl, .inr ⟨rfl, fun j y hy => hp j y (by have := get_lt hy; omega) hy⟩, hx⟩

theorem shapeOf1_ok {h : Heap} {p : Addr} {s : ByteArray} {x : Shape} {u : Value} (hc : hcell h p = some (.string s)) :
    CallsH P id_impl_shapeOf_1 #[.agg #[.string x.1, .int .i64 x.2.1, u, .int .i64 x.2.2.2], .pointer (some p)] h fun r h' => r = .bool (decide (x.1 = s)) ∧ ExtH h h' := by
  apply w_impl_shapeOf_1
  unfold F_impl_shapeOf_1
  refine vNew_row (cs := [.string x.1, .int .i64 x.2.1, u, .int .i64 x.2.2.2]) fun h1 r1 x1 _ => ?_
  refine ldS_row r1 0 rfl (ldS_of (hcell_ext x1 hc) ?_)
  rw [str_beq]
  exact ⟨rfl, x1⟩

theorem shapeOf_ok {h : Heap} {s : ByteArray} : CallsH P id_impl_shapeOf #[.string s] h fun r h' => ∃ x, r = .int .i64 x ∧ FirstAt shapesL (fun y => decide (y.1 = s)) x ∧ ExtH h h' := by
  apply w_impl_shapeOf
  unfold F_impl_shapeOf
  refine vNew_row (cs := [.string s]) fun h1 r1 x1 _ => ?_
  refine implShapes_ok.mono fun v h2 ⟨hs, x2⟩ => ⟨v, rfl, ?_⟩
  have hc : hcell h2 ⟨h.size, 0, none⟩ = some (.string s) := hcell_ext x2 (r1.cell (j := 0) rfl)
  refine (indexShape_ok (cap := [.pointer (some ⟨h.size, 0, none⟩)]) (f := fun y => decide (y.1 = s)) hs (by decide) rfl fun h' x u hx => shapeOf1_ok (hcell_ext hx hc)).mono ?_
  rintro r h3 ⟨i, hr, hf, x3⟩
  exact ⟨i, hr, i, rfl, hf, (x1.trans x2).trans x3⟩

theorem implVerbShape_ok {h : Heap} {s : ByteArray} : CallsH P id_impl_VerbShape #[.string s] h fun r h' => ExtH h h' ∧
    ((r = .tuple #[.int .i64 0, .slice none 0 0, .int .i64 0, .bool false] ∧ FirstAt shapesL (fun y => decide (y.1 = s)) (-1)) ∨
     ∃ (k : Nat) (x : Shape) (v : Value) (ob : Option Nat), r = .tuple #[.int .i64 x.2.1, v, .int .i64 x.2.2.2, .bool true] ∧ FirstAt shapesL (fun y => decide (y.1 = s)) k ∧ shapesL[k]? = some x ∧
       OwnO h' v ob (x.2.2.1.map (.int .i64)) ∧ ∀ b, ob = some b → h.size ≤ b) := by
  apply w_impl_VerbShape
  unfold F_impl_VerbShape
  refine shapeOf_ok.mono fun r h1 ⟨i, hr, hf, x1⟩ => ⟨i, hr, ?_⟩
  refine bif_lt (fun hlt => ?_) fun hge => ?_
  · refine ⟨x1, .inl ⟨rfl, ?_⟩⟩
    rcases hf with ⟨k, _, rfl, _⟩ | ⟨rfl, h2⟩
    · omega
    · exact .inr ⟨rfl, h2⟩
  · rcases hf with ⟨k, x, rfl, h2, h3⟩ | ⟨rfl, _⟩
    · refine implShapes_ok.mono fun v h2' ⟨hs, x2⟩ => ⟨v, rfl, ?_⟩
      refine vIdx_sl hs h2 fun p he => ?_
      obtain ⟨c0, c1, c3, u, ou, c2, hu, hub⟩ := shape_cells he
      refine ldS_of c0 (ldI_of c1 (ldV_of c2 (ldI_of c3 ?_)))
      refine vCopy4 rfl rfl hu.one rfl fun h3' r3 x3 _ => ?_
      refine ldI_row r3 1 rfl (ldV_row r3 2 rfl (ldI_row r3 3 rfl ?_))
      exact ⟨(x1.trans x2).trans x3, .inr ⟨k, x, u, ou, rfl, .inl ⟨k, x, rfl, h2, h3⟩, h2, hu.ext x3, fun b hb => Nat.le_trans x1.1 (hub b hb)⟩⟩
    · omega

end Go.Proofs.Ytieehpcgmjbceaa
