/- Contracts: verbs and their shapes. -/
import Derived.Test.YtieehpcgmjbceaaConMark
namespace Go.Proofs.Ytieehpcgmjbceaa
open Go Go.Vc

abbrev Shape := ByteArray × Int × List Int × Int
def shapesL : List Shape := [(⟨#[99, 121, 99, 108, 105, 99]⟩, 1, [], 1),
  (⟨#[102, 105, 101, 108, 100]⟩, 2, [], 1),
  (⟨#[112, 114, 111, 100, 117, 99, 116]⟩, 0, [1, 1], 1),
  (⟨#[99, 111, 110, 106, 117, 103, 97, 116, 101]⟩, 1, [1], 1),
  (⟨#[109, 97, 116, 101]⟩, 1, [1], 1),
  (⟨#[97, 102, 102, 105, 110, 101]⟩, 1, [], 2),
  (⟨#[112, 114, 111, 106, 101, 99, 116, 105, 118, 101]⟩, 1, [], 2),
  (⟨#[99, 111, 110, 115, 116, 114, 117, 99, 116]⟩, 3, [], 2),
  (⟨#[112, 114, 101, 115, 99, 114, 105, 98, 101, 100]⟩, 5, [], 2),
  (⟨#[99, 111, 109, 112, 108, 101, 109, 101, 110, 116]⟩, 0, [2], 2),
  (⟨#[100, 117, 97, 108]⟩, 0, [2], 2),
  (⟨#[100, 101, 114, 105, 118, 101, 100]⟩, 1, [2], 2),
  (⟨#[114, 101, 115, 105, 100, 117, 97, 108]⟩, 1, [2], 2),
  (⟨#[115, 117, 109]⟩, 0, [2, 2], 2),
  (⟨#[115, 121, 108, 118, 101, 115, 116, 101, 114]⟩, 1, [], 3),
  (⟨#[112, 97, 108, 101, 121]⟩, 1, [], 3),
  (⟨#[98, 108, 111, 99, 107, 115]⟩, 0, [3], 2),
  (⟨#[118, 97, 108, 117, 101, 115]⟩, 3, [], 4),
  (⟨#[99, 111, 118, 101, 114]⟩, 2, [], 4),
  (⟨#[104, 97, 109, 109, 105, 110, 103]⟩, 2, [], 5),
  (⟨#[115, 111, 108, 111, 109, 111, 110]⟩, 3, [], 5),
  (⟨#[111, 114, 116, 104, 111, 103, 111, 110, 97, 108]⟩, 0, [5], 5),
  (⟨#[102, 114, 111, 98, 101, 110, 105, 117, 115]⟩, 2, [], 7)]
def verbsL : List ByteArray := shapesL.map (·.1)

/-- A shape in memory; its list lies in memory from block B on. -/
def eShape (B : Nat) : Elem Shape := fun h cs x => ∃ v ob, cs = [.string x.1, .int .i64 x.2.1, v, .int .i64 x.2.2.2] ∧ OwnO h v ob (x.2.2.1.map (.int .i64)) ∧ ∀ b, ob = some b → B ≤ b
theorem mono_shape (B : Nat) : Mono (eShape B) := fun _ _ _ _ hx ⟨v, ob, h1, h2, h3⟩ => ⟨v, ob, h1, h2.ext hx, h3⟩

theorem shape_nil (B : Nat) (h : Heap) (s : ByteArray) (a k : Int) : eShape B h [.string s, .int .i64 a, .slice none 0 0, .int .i64 k] (s, a, [], k) := ⟨_, none, rfl, ⟨rfl, rfl⟩, fun b hb => by cases hb⟩
theorem shape_some {B : Nat} {h : Heap} {s : ByteArray} {a k : Int} {v : Value} {b : Nat} {l : List Int} (hv : OwnSl h v b (l.map (.int .i64))) (hb : B ≤ b) : eShape B h [.string s, .int .i64 a, v, .int .i64 k] (s, a, l, k) :=
  ⟨_, some b, rfl, hv, fun b' hb' => by cases hb'; exact hb⟩

theorem implShapes_ok {h : Heap} : CallsH P id_impl_shapes #[] h fun v h' => SlAt 4 (eShape h.size) h' v shapesL ∧ ExtH h h' := by
  apply w_impl_shapes
  unfold F_impl_shapes
  refine vNewS_own (cs := ([1, 1] : List Int).map (.int .i64)) rfl fun v3 h1 o3 x1 z1 => vOne_of o3.one ?_
  refine vNewS_own (cs := ([1] : List Int).map (.int .i64)) rfl fun v5 h2 o5 x2 z2 => vOne_of o5.one ?_
  refine vNewS_own (cs := ([1] : List Int).map (.int .i64)) rfl fun v7 h3 o7 x3 z3 => vOne_of o7.one ?_
  refine vNewS_own (cs := ([2] : List Int).map (.int .i64)) rfl fun v13 h4 o13 x4 z4 => vOne_of o13.one ?_
  refine vNewS_own (cs := ([2] : List Int).map (.int .i64)) rfl fun v15 h5 o15 x5 z5 => vOne_of o15.one ?_
  refine vNewS_own (cs := ([2] : List Int).map (.int .i64)) rfl fun v17 h6 o17 x6 z6 => vOne_of o17.one ?_
  refine vNewS_own (cs := ([2] : List Int).map (.int .i64)) rfl fun v19 h7 o19 x7 z7 => vOne_of o19.one ?_
  refine vNewS_own (cs := ([2, 2] : List Int).map (.int .i64)) rfl fun v21 h8 o21 x8 z8 => vOne_of o21.one ?_
  refine vNewS_own (cs := ([3] : List Int).map (.int .i64)) rfl fun v25 h9 o25 x9 z9 => vOne_of o25.one ?_
  refine vNewS_own (cs := ([5] : List Int).map (.int .i64)) rfl fun v31 h10 o31 x10 z10 => vOne_of o31.one ?_
  have q3 := (((((((((o3.ext x2).ext x3).ext x4).ext x5).ext x6).ext x7).ext x8).ext x9).ext x10)
  have q5 := ((((((((o5.ext x3).ext x4).ext x5).ext x6).ext x7).ext x8).ext x9).ext x10)
  have q7 := (((((((o7.ext x4).ext x5).ext x6).ext x7).ext x8).ext x9).ext x10)
  have q13 := ((((((o13.ext x5).ext x6).ext x7).ext x8).ext x9).ext x10)
  have q15 := (((((o15.ext x6).ext x7).ext x8).ext x9).ext x10)
  have q17 := ((((o17.ext x7).ext x8).ext x9).ext x10)
  have q19 := (((o19.ext x8).ext x9).ext x10)
  have q21 := ((o21.ext x9).ext x10)
  have q25 := (o25.ext x10)
  have q31 := o31
  refine vNewS_sl (E := eShape h.size) (mono_shape _) (css := [[.string ⟨#[99, 121, 99, 108, 105, 99]⟩, .int .i64 1, (.slice none 0 0), .int .i64 1], [.string ⟨#[102, 105, 101, 108, 100]⟩, .int .i64 2, (.slice none 0 0), .int .i64 1], [.string ⟨#[112, 114, 111, 100, 117, 99, 116]⟩, .int .i64 0, v3, .int .i64 1], [.string ⟨#[99, 111, 110, 106, 117, 103, 97, 116, 101]⟩, .int .i64 1, v5, .int .i64 1], [.string ⟨#[109, 97, 116, 101]⟩, .int .i64 1, v7, .int .i64 1], [.string ⟨#[97, 102, 102, 105, 110, 101]⟩, .int .i64 1, (.slice none 0 0), .int .i64 2], [.string ⟨#[112, 114, 111, 106, 101, 99, 116, 105, 118, 101]⟩, .int .i64 1, (.slice none 0 0), .int .i64 2], [.string ⟨#[99, 111, 110, 115, 116, 114, 117, 99, 116]⟩, .int .i64 3, (.slice none 0 0), .int .i64 2], [.string ⟨#[112, 114, 101, 115, 99, 114, 105, 98, 101, 100]⟩, .int .i64 5, (.slice none 0 0), .int .i64 2], [.string ⟨#[99, 111, 109, 112, 108, 101, 109, 101, 110, 116]⟩, .int .i64 0, v13, .int .i64 2], [.string ⟨#[100, 117, 97, 108]⟩, .int .i64 0, v15, .int .i64 2], [.string ⟨#[100, 101, 114, 105, 118, 101, 100]⟩, .int .i64 1, v17, .int .i64 2], [.string ⟨#[114, 101, 115, 105, 100, 117, 97, 108]⟩, .int .i64 1, v19, .int .i64 2], [.string ⟨#[115, 117, 109]⟩, .int .i64 0, v21, .int .i64 2], [.string ⟨#[115, 121, 108, 118, 101, 115, 116, 101, 114]⟩, .int .i64 1, (.slice none 0 0), .int .i64 3], [.string ⟨#[112, 97, 108, 101, 121]⟩, .int .i64 1, (.slice none 0 0), .int .i64 3], [.string ⟨#[98, 108, 111, 99, 107, 115]⟩, .int .i64 0, v25, .int .i64 2], [.string ⟨#[118, 97, 108, 117, 101, 115]⟩, .int .i64 3, (.slice none 0 0), .int .i64 4], [.string ⟨#[99, 111, 118, 101, 114]⟩, .int .i64 2, (.slice none 0 0), .int .i64 4], [.string ⟨#[104, 97, 109, 109, 105, 110, 103]⟩, .int .i64 2, (.slice none 0 0), .int .i64 5], [.string ⟨#[115, 111, 108, 111, 109, 111, 110]⟩, .int .i64 3, (.slice none 0 0), .int .i64 5], [.string ⟨#[111, 114, 116, 104, 111, 103, 111, 110, 97, 108]⟩, .int .i64 0, v31, .int .i64 5], [.string ⟨#[102, 114, 111, 98, 101, 110, 105, 117, 115]⟩, .int .i64 2, (.slice none 0 0), .int .i64 7]]) (xs := shapesL) ?_ rfl fun v h' hs hx => ⟨hs, ?_⟩
  · refine ⟨rfl, ?_, rfl, ?_, rfl, ?_, rfl, ?_, rfl, ?_, rfl, ?_, rfl, ?_, rfl, ?_, rfl, ?_, rfl, ?_, rfl, ?_, rfl, ?_, rfl, ?_, rfl, ?_, rfl, ?_, rfl, ?_, rfl, ?_, rfl, ?_, rfl, ?_, rfl, ?_, rfl, ?_, rfl, ?_, rfl, ?_, trivial⟩
    · exact shape_nil _ _ _ _ _
    · exact shape_nil _ _ _ _ _
    · exact shape_some q3 (by omega)
    · exact shape_some q5 (by omega)
    · exact shape_some q7 (by omega)
    · exact shape_nil _ _ _ _ _
    · exact shape_nil _ _ _ _ _
    · exact shape_nil _ _ _ _ _
    · exact shape_nil _ _ _ _ _
    · exact shape_some q13 (by omega)
    · exact shape_some q15 (by omega)
    · exact shape_some q17 (by omega)
    · exact shape_some q19 (by omega)
    · exact shape_some q21 (by omega)
    · exact shape_nil _ _ _ _ _
    · exact shape_nil _ _ _ _ _
    · exact shape_some q25 (by omega)
    · exact shape_nil _ _ _ _ _
    · exact shape_nil _ _ _ _ _
    · exact shape_nil _ _ _ _ _
    · exact shape_nil _ _ _ _ _
    · exact shape_some q31 (by omega)
    · exact shape_nil _ _ _ _ _
  · exact (((((((((x1.trans x2).trans x3).trans x4).trans x5).trans x6).trans x7).trans x8).trans x9).trans x10).trans hx

theorem shape_cells {B : Nat} {h : Heap} {p : Addr} {x : Shape} (he : ElemAt 4 (eShape B) h p x) :
    hcell h p = some (.string x.1) ∧ hcell h (p.add 1) = some (.int .i64 x.2.1) ∧ hcell h (p.add 3) = some (.int .i64 x.2.2.2) ∧
    ∃ v ob, hcell h (p.add 2) = some v ∧ OwnO h v ob (x.2.2.1.map (.int .i64)) ∧ ∀ b, ob = some b → B ≤ b := by
  obtain ⟨cs, _, hc, v, ob, rfl, h2, h3⟩ := he
  exact ⟨hc 0 _ rfl, hc 1 _ rfl, hc 3 _ rfl, v, ob, hc 2 _ rfl, h2, h3⟩

theorem specVerbs_ok {h : Heap} : CallsH P id_spec_l32Verbs #[] h fun v h' => OwnSl h' v h.size (verbsL.map .string) ∧ ExtH h h' := by
  apply w_spec_l32Verbs
  unfold F_spec_l32Verbs
  exact vNewS_own (cs := verbsL.map .string) rfl fun v h' ho hx _ => ⟨ho, hx⟩
theorem specVerbNames_ok {h : Heap} : CallsH P id_spec_VerbNames #[] h fun v h' => OwnSl h' v h.size (verbsL.map .string) ∧ ExtH h h' := by
  apply w_spec_VerbNames
  unfold F_spec_VerbNames
  exact specVerbs_ok.mono fun v h' hh => ⟨v, rfl, hh⟩

theorem take_map_succ {α β : Type} {f : α → β} {xs : List α} {k : Nat} {x : α} (hx : xs[k]? = some x) : (xs.take (k + 1)).map f = (xs.take k).map f ++ [f x] := by
  rw [List.take_add_one, hx]; simp

theorem implVerbNames_ok {h : Heap} : CallsH P id_impl_VerbNames #[] h fun v h' => (∃ b, h.size ≤ b ∧ OwnSl h' v b (verbsL.map .string)) ∧ ExtH h h' := by
  apply w_impl_VerbNames
  unfold F_impl_VerbNames
  refine implShapes_ok.mono fun v4 h1 ⟨hs, x1⟩ => ⟨v4, rfl, vLen_sl hs ?_⟩
  have hlen : shapesL.length = 23 := rfl
  refine ⟨fun n v i h' => ∃ (k : Nat) (ob : Option Nat), i = k ∧ k ≤ 23 ∧ n = 23 - k ∧ OwnO h' v ob ((shapesL.take k).map fun x => .string x.1) ∧ (∀ b, ob = some b → h1.size ≤ b) ∧ ExtH h1 h',
    ⟨_, 0, none, rfl, by omega, rfl, ⟨rfl, rfl⟩, (fun b hb => by cases hb), ExtH.refl _⟩, ?_⟩
  rintro n _ v i h' ⟨k, ob, rfl, hk, rfl, ho, hb, hx⟩
  rw [hlen]
  refine bif_lt (fun hlt => ?_) fun hge => ?_
  · obtain ⟨x, hxk⟩ := get_some (xs := shapesL) (k := k) (by omega)
    refine vIdx_sl (hs.ext (mono_shape _) hx) hxk fun p he => ?_
    obtain ⟨c0, c1, c3, u, ou, c2, hu, _⟩ := shape_cells he
    refine ldS_of c0 (ldI_of c1 (ldV_of c2 (ldI_of c3 ?_)))
    refine vCopy4 rfl rfl hu.one rfl fun h2 r2 x2 z2 => ?_
    refine ldS_row r2 0 rfl ?_
    refine vNewS_own (cs := [.string x.1]) rfl fun w h3 ow x3 z3 => ?_
    have htl : ((shapesL.take k).map fun x => Value.string x.1).length ≤ 23 := by simp; omega
    refine vAppend_own (((ho.ext x2).ext x3)) ow.shows (by simp [Value.oneCell']) (by simp at htl ⊢; omega) (by simp at htl ⊢; omega) fun v' h4 ob' ho' hob hx4 => ?_
    have e3 : ExtH h1 h3 := (hx.trans x2).trans x3
    refine ⟨_, by omega, k + 1, ob', wrapS (by omega) (by omega : 23 ≤ _), by omega, rfl, ?_, ?_, ?_⟩
    · rw [take_map_succ hxk]; exact ho'
    · intro b hb'
      rcases hob with rfl | rfl
      · exact hb b hb'
      · cases hb'; exact e3.1
    · exact hx4.ext e3 fun b hb' => hb b hb'
  · obtain rfl : k = 23 := by omega
    cases ob with
    | none => exact absurd ho.2 (by decide)
    | some b => exact ⟨⟨b, Nat.le_trans x1.1 (hb b rfl), ho⟩, x1.trans hx⟩

end Go.Proofs.Ytieehpcgmjbceaa
