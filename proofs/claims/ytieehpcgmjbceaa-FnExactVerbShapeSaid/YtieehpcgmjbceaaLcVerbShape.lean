/- The law FnExactVerbShape: its contract. -/
import Derived.Test.YtieehpcgmjbceaaConShape
import Derived.Test.YtieehpcgmjbceaaVcTop
namespace Go.Proofs.Ytieehpcgmjbceaa
open Go Go.Vc

theorem shapes_len (x : Shape) (hx : x ∈ shapesL) : x.2.2.1.length ≤ 2 ∧ ∀ y ∈ x.2.2.1, 0 ≤ y ∧ y ≤ 99 := by
  have h : ∀ x ∈ shapesL, x.2.2.1.length ≤ 2 ∧ ∀ y ∈ x.2.2.1, 0 ≤ y ∧ y ≤ 99 := by decide
  exact h x hx

/-- Both at once: what the two answer. -/
theorem verbShape_law {h : Heap} {s : ByteArray} : LawOk P id_laws_FnExactVerbShape #[.string s] h := by
  apply w_laws_FnExactVerbShape
  unfold F_laws_FnExactVerbShape
  refine bif_of (fun _ => ⟨rfl, ExtH.refl _⟩) fun _ => ?_
  refine specVerbShape_ok.mono fun r h1 ⟨x1, hw⟩ => ?_
  -- one shape for both
  obtain ⟨wa, wv, wk, wb, hr, hcase⟩ : ∃ (a : Int) (v : Value) (k : Int) (b : Bool), r = .tuple #[.int .i64 a, v, .int .i64 k, .bool b] ∧
      ∃ l : List Int, SlAt 1 eI64 h1 v l ∧ l.length ≤ 2 ∧ ∀ h' : Heap, CallsH P id_impl_VerbShape #[.string s] h' fun r' h'' => ∃ (u : Value) (ob : Option Nat), r' = .tuple #[.int .i64 a, u, .int .i64 k, .bool b] ∧
        OwnO h'' u ob (l.map (.int .i64)) ∧ (∀ b, ob = some b → h'.size ≤ b) ∧ (∀ y ∈ l, I64 y) ∧ ExtH h' h'' := by
    rcases hw with ⟨rfl, hf⟩ | ⟨k, x, v, rfl, hf, hx, hs⟩
    · refine ⟨0, _, 0, false, rfl, [], .inl ⟨rfl, rfl⟩, by simp, fun h' => implVerbShape_ok.mono ?_⟩
      rintro r' h'' ⟨x2, ⟨rfl, _⟩ | ⟨k, x, v, ob, rfl, hf', _⟩⟩
      · exact ⟨_, none, rfl, ⟨rfl, rfl⟩, (fun b hb => by cases hb), (fun y hy => by cases hy), x2⟩
      · have := FirstAt.unique (FirstAt.map hf) hf'; omega
    · obtain ⟨hl, hb⟩ := shapes_len x (List.mem_of_getElem? hx)
      refine ⟨_, v, _, true, rfl, x.2.2.1, hs, hl, fun h' => implVerbShape_ok.mono ?_⟩
      rintro r' h'' ⟨x2, ⟨rfl, hf'⟩ | ⟨k', x', v', ob, rfl, hf', hx', ho, hob⟩⟩
      · have := FirstAt.unique (FirstAt.map hf) hf'; omega
      · have hk := FirstAt.unique (FirstAt.map hf) hf'
        obtain rfl : k = k' := by omega
        rw [hx] at hx'; cases hx'
        exact ⟨v', ob, rfl, ho, hob, fun y hy => by have := hb y hy; constructor <;> omega, x2⟩
  obtain ⟨l, hs, hl, himpl⟩ := hcase
  refine ⟨wa, wv, wk, wb, hr, ?_⟩
  refine (himpl h1).mono fun r2 h2 ⟨gv, ob, hr2, og, hob, h64, x2⟩ => ⟨wa, gv, wk, wb, hr2, ?_⟩
  have e64 : ∀ (h : Heap) (y : Int), y ∈ l → eI64 h [.int .i64 y] y := fun h y hy => ⟨rfl, h64 y hy⟩
  have hs2 := hs.ext mono_i64 x2
  have hlen : (l.map (Value.int .i64)).length = l.length := by simp
  refine ⟨fun h' => h' = h2, ?_, ?_⟩
  · refine bif_neg (by simp) ?_
    refine CallsH.eq (eqInt64S_ok (og.sl (e64 _)) hs2 (by omega)) ⟨_, rfl, ?_⟩
    exact bif_neg (by simp) (bif_neg (by simp) (bif_neg (by simp) rfl))
  rintro _ h' rfl
  have hk1 : 1 + l.length ≤ 4611686018427387903 := by omega
  refine (markInt64O_ok (k := 1) og (by rw [hlen]; exact hk1)).mono fun r3 h3 ⟨hr3, om, x3, z3⟩ => ⟨_, hr3, ?_⟩
  rw [hlen] at om
  refine CallsH.eq (heldInt64O_ok om hk1) ⟨_, rfl, ?_⟩
  refine bif_neg (by simp; omega) (bif_neg (by simp) ?_)
  refine (himpl h3).mono fun r4 h4 ⟨gv4, ob4, hr4, og4, hob4, _, x4⟩ => ⟨wa, gv4, wk, wb, hr4, ?_⟩
  -- the reference's list lies below the program's
  have hs3 : SlAt 1 eI64 h3 wv l := hs.ext mono_i64 (x3.ext x2 fun b hb => hob b hb)
  have hs4 := hs3.ext mono_i64 x4
  refine ⟨fun h' => h' = h4, ?_, ?_⟩
  · refine bif_neg (by simp) ?_
    refine CallsH.eq (eqInt64S_ok (og4.sl (e64 _)) hs4 (by omega)) ⟨_, rfl, ?_⟩
    exact bif_neg (by simp) (bif_neg (by simp) (bif_neg (by simp) rfl))
  rintro _ h' rfl
  refine CallsH.eq (heldInt64O_ok (om.ext x4) hk1) ⟨_, rfl, ?_⟩
  refine bif_neg (by simp; omega) (bif_neg (by simp) ⟨rfl, ?_⟩)
  have e3 : ExtH h h3 := x3.ext (x1.trans x2) fun b hb => Nat.le_trans x1.1 (hob b hb)
  exact e3.trans x4

theorem und_string : P.underlying t_string = some .string := by kernel_rfl
set_option maxRecDepth 100000 in
theorem verbShape_args {H : Type} {enc : TypeId × Value → H} {W : World} {base : Nat} {v0 : Value} {d0 : DataW H} {p0 : List MemPlace} (k0 : Value.okWide P W .any base t_string v0)
    (h0 : DataW.Trod enc P W 0 (fun _ => true) true t_string v0 d0 p0) : LawOk P id_laws_FnExactVerbShape #[v0] W.heap := by
  obtain ⟨s, rfl, _, _, _⟩ := ChangeMaps.open_string und_string k0 h0
  exact verbShape_law

end Go.Proofs.Ytieehpcgmjbceaa
