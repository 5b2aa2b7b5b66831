/-
 Proved: FnExactDropItem returns true for every input, and each argument reads afterwards as it read before. No conditions.
-/
import Derived.Test.YtapkemdomnkccaaGreatRcFns
import Derived.Test.YtapkemdomnkccaaGreatPuJh
import Derived.Test.YtapkemdomnkccaaGreatVcArg
import Derived.Test.YtapkemdomnkccaaGreatVcTop
import Derived.Test.YtapkemdomnkccaaGreatRows
namespace Go.Proofs.YtapkemdomnkccaaGreat
set_option linter.unusedVariables false
set_option linter.unusedSimpArgs false
open Go Go.Vc Go.ChangeShapes Go.WideShapes Go.ChangeAt Go.RowKit
section
variable {H : Type} {enc : TypeId × Value → H}
instance : Inhabited ZZ := ⟨(ZZ.mk (0 : Int) (0 : Int) ([] : List (List Int)))⟩
set_option maxRecDepth 100000 in
theorem ZtG : Reads enc P (elOf ZnP ZlE) 38 := by
  intro W base spare held fuel cs x h
  have hl := ZpT h (u := (2, 0)) (n := 3) (by kernel_rfl) (by kernel_rfl)
  obtain ⟨a0, h0, k0⟩ := Zlu h 0 (t' := 2) (off := 0) (z := 1) (E := elOf (El.int .i64) I64) (by kernel_rfl) (by kernel_rfl) (ZkA (by kernel_rfl))
  obtain ⟨a1, h1, k1⟩ := Zlu h 1 (t' := 2) (off := 1) (z := 1) (E := elOf (El.int .i64) I64) (by kernel_rfl) (by kernel_rfl) (ZkA (by kernel_rfl))
  obtain ⟨a2, h2, k2⟩ := Zlu h 2 (t' := 22) (off := 2) (z := 1) (E := elOf (El.sl (El.sl (El.int .i64))) (OkL (OkL I64))) (by kernel_rfl) (by kernel_rfl) (ZnB (e := 40) (by kernel_rfl) (by kernel_rfl) (ZnB (e := 2) (by kernel_rfl) (by kernel_rfl) (ZkA (by kernel_rfl))))
  exact ⟨ZZ.mk a0 a1 a2, (ZoD (o := 0) (z := 1) h0 (ZoD (o := 1) (z := 1) h1 (ZsH (o := 2) h2 (by omega)))), ⟨k0, k1, k2⟩⟩
instance : Inhabited ZwV := ⟨(ZwV.mk (⟨#[]⟩ : ByteArray) (ZZ.mk (0 : Int) (0 : Int) ([] : List (List Int))) (⟨#[]⟩ : ByteArray))⟩
set_option maxRecDepth 100000 in
theorem ZAQ : Reads enc P (elOf Zw5 ZxH) 164 := by
  intro W base spare held fuel cs x h
  have hl := ZpT h (u := (9, 0)) (n := 5) (by kernel_rfl) (by kernel_rfl)
  obtain ⟨a0, h0, k0⟩ := Zlu h 0 (t' := 9) (off := 0) (z := 1) (E := elOf El.str OkS) (by kernel_rfl) (by kernel_rfl) (ZyY (by kernel_rfl))
  obtain ⟨a1, h1, k1⟩ := Zlu h 1 (t' := 38) (off := 1) (z := 3) (E := elOf ZnP ZlE) (by kernel_rfl) (by kernel_rfl) ZtG
  obtain ⟨a2, h2, k2⟩ := Zlu h 2 (t' := 9) (off := 4) (z := 1) (E := elOf El.str OkS) (by kernel_rfl) (by kernel_rfl) (ZyY (by kernel_rfl))
  exact ⟨ZwV.mk a0 a1 a2, (ZoD (o := 0) (z := 1) h0 (ZoD (o := 1) (z := 3) h1 (ZsH (o := 4) h2 (by omega)))), ⟨k0, k1, k2⟩⟩
instance : Inhabited ZwT := ⟨(ZwT.mk ([] : List ZwV))⟩
set_option maxRecDepth 100000 in
theorem ZAh : Reads enc P (elOf Zy6 ZyD) 55 := by
  intro W base spare held fuel cs x h
  have hl := ZpT h (u := (53, 0)) (n := 1) (by kernel_rfl) (by kernel_rfl)
  obtain ⟨a0, h0, k0⟩ := Zlu h 0 (t' := 53) (off := 0) (z := 1) (E := elOf (El.sl Zw5) (OkL ZxH)) (by kernel_rfl) (by kernel_rfl) (ZnB (e := 164) (by kernel_rfl) (by kernel_rfl) ZAQ)
  exact ⟨ZwT.mk a0, (ZsH (o := 0) h0 (by omega)), k0⟩
set_option maxRecDepth 100000 in
theorem ZC5 {W : World} {base : Nat} {v0 v1 : Value} {d0 d1 : DataW H} {p0 p1 : List MemPlace} (k0 : Value.okWide P W .any base 55 v0) (h0 : DataW.Trod enc P W 0 (fun _ => true) true 55 v0 d0 p0) (k1 : Value.okWide P W .any base 9 v1) (h1 : DataW.Trod enc P W 0 (fun _ => true) true 9 v1 d1 p1) : LawOk P ZCG #[v0, v1] W.heap := by
  obtain ⟨cs0, a0, rfl, e0, o0⟩ := Zpt (u := (53, 0)) (by kernel_rfl) k0 h0 ZAh
  obtain ⟨u0_0, rfl, f0_0⟩ := ZzR e0
  obtain ⟨a1, rfl, o1⟩ := ZBZ (by kernel_rfl) k1 h1
  exact Ztd rfl (ZCT (Zpr _) (ZCV o0 o1) f0_0)
end
set_option maxRecDepth 100000 in
theorem ZDa (os : Os) (started : os.Started) (H : Type) (enc : TypeId × Value → H) :
    ReturnsInHanded {} Tryz.checked os 8 .any (Rows.fnExactDropItemSpec.pre6 enc Tryz.prog Tryz.f8 Rows.fnExactDropItemRow.domain false) (Rows.fnExactDropItemSpec.post enc Tryz.prog Tryz.f8 false true false false) := by
  refine returnsInHanded_of_change (C := Tryz.checked) (by kernel_rfl) started (by kernel_rfl) Tryz.func8
    (ChangeSpec.witness6 (enc := enc) (C := Tryz.checked) false ⟨#[], #[.agg #[.slice none 0 0], .string ⟨#[]⟩], []⟩ 8 (by kernel_rfl) (by kernel_rfl) (by kernel_rfl) (by kernel_rfl)) ?_
  intro W base args ds gs before hval hW hcnd _
  have hW' := hW
  obtain ⟨p, q, hA0, hV, rfl, hfz, hnd⟩ := hW
  have hA : DataW.TrodAll enc Tryz.prog W 0 (fun _ => true) true Tryz.f8.params.toList args.toList ds p := hA0
  have hval' : ∀ (j : Nat) t v, Tryz.f8.params[j]? = some t → args[j]? = some v → Value.okWide Tryz.prog W .any base t v := hval
  rw [Tryz.params8] at hA hval'
  obtain ⟨v0, vs0, d0, ds0, p0, q0, a0, rfl, rfl, t0, r0⟩ := trodAll_cons hA
  obtain ⟨v1, vs1, d1, ds1, p1, q1, a1, rfl, rfl, t1, r1⟩ := trodAll_cons r0
  obtain ⟨an, rfl, rfl⟩ := trodAll_nil r1
  obtain rfl : args = #[v0, v1] := by apply Array.ext'; simp_all
  obtain ⟨rfl, rfl⟩ := trodVars_none hV
  refine (LawOk.calls (ZC5 (hval' 0 _ v0 rfl rfl) t0 (hval' 1 _ v1 rfl rfl) t1)).mono fun e W' ⟨he, hb⟩ => ⟨_, he, ?_⟩
  exact lawPost (tb := 4) (by kernel_rfl) (by kernel_rfl) rfl (by kernel_rfl) rfl hW' rfl rfl rfl hb
theorem and_r {a b c : Bool} (h : (a && (b && c)) = true) : ((a && b) && c) = true := by rw [Bool.and_assoc]; exact h
theorem and_l {a b c : Bool} (h : ((a && b) && c) = true) : (a && (b && c)) = true := by rw [← Bool.and_assoc]; exact h
theorem Zk8 {a b : Bool} (ha : a = true) (hb : b = true) : (a && b) = true := by rw [ha, hb]; rfl
set_option maxRecDepth 100000 in
set_option maxHeartbeats 4000000 in
theorem ZCP : joinedFacts Tryz.checked.prog 8 Tryz.f8 Rows.fnExactDropItemSpec Rows.fnExactDropItemRow = true := by
  unfold joinedFacts
  iterate 22 refine and_r ?_
  refine Zk8 (by as_aux_lemma => kernel_rfl) ?_
  refine and_l ?_
  refine Zk8 (by as_aux_lemma => kernel_rfl) ?_
  refine and_l ?_
  refine Zk8 (by as_aux_lemma => kernel_rfl) ?_
  as_aux_lemma => kernel_rfl
set_option maxHeartbeats 4000000 in
theorem fnExactDropItem_holds : Rows.FnExactDropItemSaid :=
  OpenClaim.holds_of_wide 8 Tryz.f8 rfl rfl rfl rfl rfl rfl rfl ⟨rfl, rfl, rfl, rfl, rfl⟩ rfl rfl rfl rfl rfl (by as_aux_lemma => kernel_rfl) Tryz.func8 ZCP
    (of_decide_eq_true (by as_aux_lemma => kernel_rfl)) (by unfold Func.isWrapper; first | (rw [if_pos (by decide +kernel)]; kernel_rfl) | (rw [if_neg (by decide +kernel)]; exact ⟨rfl, rfl⟩))
    (fun os started H enc _ => ZDa os started H enc)
#print axioms fnExactDropItem_holds
end Go.Proofs.YtapkemdomnkccaaGreat
