/-
 Proved: FnExactValidCatalog returns true for every input, and each argument reads afterwards as it read before. No conditions.
-/
import Derived.Test.YtapkemdomnkccaaGreatRcFns
import Derived.Test.YtapkemdomnkccaaGreatPuJg
import Derived.Test.YtapkemdomnkccaaGreatVcArg
import Derived.Test.YtapkemdomnkccaaGreatVcTop
import Derived.Test.YtapkemdomnkccaaGreatRows
namespace Go.Proofs.YtapkemdomnkccaaGreat
open Go Go.Vc Go.ChangeShapes Go.WideShapes Go.ChangeAt Go.RowKit
section
variable {H : Type} {enc : TypeId × Value → H}
instance : Inhabited Zah := ⟨(Zah.mk (0 : Int) (0 : Int) ([] : List (List Int)))⟩
set_option maxRecDepth 100000 in
theorem ZqU : Reads enc P (elOf Zl6 ZhZ) 38 := by
  intro W base spare held fuel cs x h
  have hl := ZlM h (u := (2, 0)) (n := 3) (by kernel_rfl) (by kernel_rfl)
  obtain ⟨a0, h0, k0⟩ := Zca h 0 (t' := 2) (off := 0) (z := 1) (E := elOf (El.int .i64) I64) (by kernel_rfl) (by kernel_rfl) (Zmv (by kernel_rfl))
  obtain ⟨a1, h1, k1⟩ := Zca h 1 (t' := 2) (off := 1) (z := 1) (E := elOf (El.int .i64) I64) (by kernel_rfl) (by kernel_rfl) (Zmv (by kernel_rfl))
  obtain ⟨a2, h2, k2⟩ := Zca h 2 (t' := 22) (off := 2) (z := 1) (E := elOf (El.sl (El.sl (El.int .i64))) (OkL (OkL I64))) (by kernel_rfl) (by kernel_rfl) (ZlU (e := 40) (by kernel_rfl) (by kernel_rfl) (ZlU (e := 2) (by kernel_rfl) (by kernel_rfl) (Zmv (by kernel_rfl))))
  exact ⟨Zah.mk a0 a1 a2, (Zh4 (o := 0) (z := 1) h0 (Zh4 (o := 1) (z := 1) h1 (Zk7 (o := 2) h2 (by omega)))), ⟨k0, k1, k2⟩⟩
instance : Inhabited Z4 := ⟨(Z4.mk (⟨#[]⟩ : ByteArray) (Zah.mk (0 : Int) (0 : Int) ([] : List (List Int))) (⟨#[]⟩ : ByteArray))⟩
set_option maxRecDepth 100000 in
theorem Zwy : Reads enc P (elOf Zbf ZeI) 164 := by
  intro W base spare held fuel cs x h
  have hl := ZlM h (u := (9, 0)) (n := 5) (by kernel_rfl) (by kernel_rfl)
  obtain ⟨a0, h0, k0⟩ := Zca h 0 (t' := 9) (off := 0) (z := 1) (E := elOf El.str OkS) (by kernel_rfl) (by kernel_rfl) (ZoE (by kernel_rfl))
  obtain ⟨a1, h1, k1⟩ := Zca h 1 (t' := 38) (off := 1) (z := 3) (E := elOf Zl6 ZhZ) (by kernel_rfl) (by kernel_rfl) ZqU
  obtain ⟨a2, h2, k2⟩ := Zca h 2 (t' := 9) (off := 4) (z := 1) (E := elOf El.str OkS) (by kernel_rfl) (by kernel_rfl) (ZoE (by kernel_rfl))
  exact ⟨Z4.mk a0 a1 a2, (Zh4 (o := 0) (z := 1) h0 (Zh4 (o := 1) (z := 3) h1 (Zk7 (o := 4) h2 (by omega)))), ⟨k0, k1, k2⟩⟩
instance : Inhabited Z3 := ⟨(Z3.mk ([] : List Z4))⟩
set_option maxRecDepth 100000 in
theorem Zsj : Reads enc P (elOf Znp ZlO) 55 := by
  intro W base spare held fuel cs x h
  have hl := ZlM h (u := (53, 0)) (n := 1) (by kernel_rfl) (by kernel_rfl)
  obtain ⟨a0, h0, k0⟩ := Zca h 0 (t' := 53) (off := 0) (z := 1) (E := elOf (El.sl Zbf) (OkL ZeI)) (by kernel_rfl) (by kernel_rfl) (ZlU (e := 164) (by kernel_rfl) (by kernel_rfl) Zwy)
  exact ⟨Z3.mk a0, (Zk7 (o := 0) h0 (by omega)), k0⟩
set_option maxRecDepth 100000 in
theorem ZwZ {W : World} {base : Nat} {v0 : Value} {d0 : DataW H} {p0 : List MemPlace} (k0 : Value.okWide P W .any base 55 v0) (h0 : DataW.Trod enc P W 0 (fun _ => true) true 55 v0 d0 p0) : LawOk P Zi0 #[v0] W.heap := by
  obtain ⟨cs0, a0, rfl, e0, o0⟩ := Zry (u := (53, 0)) (by kernel_rfl) k0 h0 Zsj
  obtain ⟨u0_0, rfl, f0_0⟩ := ZuR e0
  exact Zp6 rfl (Zv9 (Zr3 _) (ZtR o0) f0_0)
end
set_option maxRecDepth 100000 in
theorem ZqA (os : Os) (started : os.Started) (H : Type) (enc : TypeId × Value → H) :
    ReturnsInHanded {} Tryz.checked os 5 .any (Rows.fnExactValidCatalogSpec.pre6 enc Tryz.prog Tryz.f5 Rows.fnExactValidCatalogRow.domain false) (Rows.fnExactValidCatalogSpec.post enc Tryz.prog Tryz.f5 false true false false) := by
  refine returnsInHanded_of_change (C := Tryz.checked) (by kernel_rfl) started (by kernel_rfl) Tryz.func5
    (ChangeSpec.witness6 (enc := enc) (C := Tryz.checked) false ⟨#[], #[.agg #[.slice none 0 0]], []⟩ 8 (by kernel_rfl) (by kernel_rfl) (by kernel_rfl) (by kernel_rfl)) ?_
  intro W base args ds gs before hval hW hcnd _
  have hW' := hW
  obtain ⟨p, q, hA0, hV, rfl, hfz, hnd⟩ := hW
  have hA : DataW.TrodAll enc Tryz.prog W 0 (fun _ => true) true Tryz.f5.params.toList args.toList ds p := hA0
  have hval' : ∀ (j : Nat) t v, Tryz.f5.params[j]? = some t → args[j]? = some v → Value.okWide Tryz.prog W .any base t v := hval
  rw [Tryz.params5] at hA hval'
  obtain ⟨v0, vs0, d0, ds0, p0, q0, a0, rfl, rfl, t0, r0⟩ := trodAll_cons hA
  obtain ⟨an, rfl, rfl⟩ := trodAll_nil r0
  obtain rfl : args = #[v0] := by apply Array.ext'; simp_all
  obtain ⟨rfl, rfl⟩ := trodVars_none hV
  refine (LawOk.calls (ZwZ (hval' 0 _ v0 rfl rfl) t0)).mono fun e W' ⟨he, hb⟩ => ⟨_, he, ?_⟩
  exact lawPost (tb := 4) (by kernel_rfl) (by kernel_rfl) rfl (by kernel_rfl) rfl hW' rfl rfl rfl hb
theorem and_r {a b c : Bool} (h : (a && (b && c)) = true) : ((a && b) && c) = true := by rw [Bool.and_assoc]; exact h
theorem and_l {a b c : Bool} (h : ((a && b) && c) = true) : (a && (b && c)) = true := by rw [← Bool.and_assoc]; exact h
theorem ZjT {a b : Bool} (ha : a = true) (hb : b = true) : (a && b) = true := by rw [ha, hb]; rfl
set_option maxRecDepth 100000 in
set_option maxHeartbeats 4000000 in
theorem Zwf : joinedFacts Tryz.checked.prog 5 Tryz.f5 Rows.fnExactValidCatalogSpec Rows.fnExactValidCatalogRow = true := by
  unfold joinedFacts
  iterate 22 refine and_r ?_
  refine ZjT (by as_aux_lemma => kernel_rfl) ?_
  refine and_l ?_
  refine ZjT (by as_aux_lemma => kernel_rfl) ?_
  refine and_l ?_
  refine ZjT (by as_aux_lemma => kernel_rfl) ?_
  as_aux_lemma => kernel_rfl
set_option maxHeartbeats 4000000 in
theorem fnExactValidCatalog_holds : Rows.FnExactValidCatalogSaid :=
  OpenClaim.holds_of_wide 5 Tryz.f5 rfl rfl rfl rfl rfl rfl rfl ⟨rfl, rfl, rfl, rfl, rfl⟩ rfl rfl rfl rfl rfl (by as_aux_lemma => kernel_rfl) Tryz.func5 Zwf
    (of_decide_eq_true (by as_aux_lemma => kernel_rfl)) (by unfold Func.isWrapper; first | (rw [if_pos (by decide +kernel)]; kernel_rfl) | (rw [if_neg (by decide +kernel)]; exact ⟨rfl, rfl⟩))
    (fun os started H enc _ => ZqA os started H enc)
#print axioms fnExactValidCatalog_holds
end Go.Proofs.YtapkemdomnkccaaGreat
