/-
 Proved: FnExactPrescribedDesign returns true for every input, and each argument reads afterwards as it read before. No conditions.
-/
import Derived.Test.YtapkemdomnkccaaGreatRcFns
import Derived.Test.YtapkemdomnkccaaGreatPuJi
import Derived.Test.YtapkemdomnkccaaGreatVcArg
import Derived.Test.YtapkemdomnkccaaGreatVcTop
import Derived.Test.YtapkemdomnkccaaGreatRows
namespace Go.Proofs.YtapkemdomnkccaaGreat
set_option linter.unusedVariables false
set_option linter.unusedSimpArgs false
open Go Go.Vc Go.ChangeShapes Go.WideShapes Go.ChangeAt Go.RowKit
section
variable {H : Type} {enc : TypeId × Value → H}
instance : Inhabited ZDj := ⟨(ZDj.mk (0 : Int) ([] : List (List Int)))⟩
set_option maxRecDepth 100000 in
theorem ZIW : Reads enc P (elOf ZHx ZGm) 24 := by
  intro W base spare held fuel cs x h
  have hl := ZpT h (u := (2, 0)) (n := 2) (by kernel_rfl) (by kernel_rfl)
  obtain ⟨a0, h0, k0⟩ := Zlu h 0 (t' := 2) (off := 0) (z := 1) (E := elOf (El.int .i64) I64) (by kernel_rfl) (by kernel_rfl) (ZkA (by kernel_rfl))
  obtain ⟨a1, h1, k1⟩ := Zlu h 1 (t' := 22) (off := 1) (z := 1) (E := elOf (El.sl (El.sl (El.int .i64))) (OkL (OkL I64))) (by kernel_rfl) (by kernel_rfl) (ZnB (e := 40) (by kernel_rfl) (by kernel_rfl) (ZnB (e := 2) (by kernel_rfl) (by kernel_rfl) (ZkA (by kernel_rfl))))
  exact ⟨ZDj.mk a0 a1, (ZoD (o := 0) (z := 1) h0 (ZsH (o := 1) h1 (by omega))), ⟨k0, k1⟩⟩
set_option maxRecDepth 100000 in
theorem ZJx {W : World} {base : Nat} {v0 v1 v2 v3 v4 : Value} {d0 d1 d2 d3 d4 : DataW H} {p0 p1 p2 p3 p4 : List MemPlace} (k0 : Value.okWide P W .any base 24 v0) (h0 : DataW.Trod enc P W 0 (fun _ => true) true 24 v0 d0 p0) (k1 : Value.okWide P W .any base 2 v1) (h1 : DataW.Trod enc P W 0 (fun _ => true) true 2 v1 d1 p1) (k2 : Value.okWide P W .any base 2 v2) (h2 : DataW.Trod enc P W 0 (fun _ => true) true 2 v2 d2 p2) (k3 : Value.okWide P W .any base 2 v3) (h3 : DataW.Trod enc P W 0 (fun _ => true) true 2 v3 d3 p3) (k4 : Value.okWide P W .any base 2 v4) (h4 : DataW.Trod enc P W 0 (fun _ => true) true 2 v4 d4 p4) : LawOk P ZGs #[v0, v1, v2, v3, v4] W.heap := by
  obtain ⟨cs0, a0, rfl, e0, o0⟩ := Zpt (u := (2, 0)) (by kernel_rfl) k0 h0 ZIW
  obtain ⟨u0_1, rfl, f0_1⟩ := ZIO e0
  obtain ⟨a1, rfl, o1⟩ := ZAy (by kernel_rfl) k1 h1
  obtain ⟨a2, rfl, o2⟩ := ZAy (by kernel_rfl) k2 h2
  obtain ⟨a3, rfl, o3⟩ := ZAy (by kernel_rfl) k3 h3
  obtain ⟨a4, rfl, o4⟩ := ZAy (by kernel_rfl) k4 h4
  exact Ztd rfl (ZIA (Zpr _) (ZKC o0 o1 o2 o3 o4) f0_1)
end
set_option maxRecDepth 100000 in
theorem ZKw (os : Os) (started : os.Started) (H : Type) (enc : TypeId × Value → H) :
    ReturnsInHanded {} Tryz.checked os 3 .any (Rows.fnExactPrescribedDesignSpec.pre6 enc Tryz.prog Tryz.f3 Rows.fnExactPrescribedDesignRow.domain false) (Rows.fnExactPrescribedDesignSpec.post enc Tryz.prog Tryz.f3 false true false false) := by
  refine returnsInHanded_of_change (C := Tryz.checked) (by kernel_rfl) started (by kernel_rfl) Tryz.func3
    (ChangeSpec.witness6 (enc := enc) (C := Tryz.checked) false ⟨#[], #[.agg #[.int .i64 0, .slice none 0 0], .int .i64 0, .int .i64 0, .int .i64 0, .int .i64 0], []⟩ 8 (by kernel_rfl) (by kernel_rfl) (by kernel_rfl) (by kernel_rfl)) ?_
  intro W base args ds gs before hval hW hcnd _
  have hW' := hW
  obtain ⟨p, q, hA0, hV, rfl, hfz, hnd⟩ := hW
  have hA : DataW.TrodAll enc Tryz.prog W 0 (fun _ => true) true Tryz.f3.params.toList args.toList ds p := hA0
  have hval' : ∀ (j : Nat) t v, Tryz.f3.params[j]? = some t → args[j]? = some v → Value.okWide Tryz.prog W .any base t v := hval
  rw [Tryz.params3] at hA hval'
  obtain ⟨v0, vs0, d0, ds0, p0, q0, a0, rfl, rfl, t0, r0⟩ := trodAll_cons hA
  obtain ⟨v1, vs1, d1, ds1, p1, q1, a1, rfl, rfl, t1, r1⟩ := trodAll_cons r0
  obtain ⟨v2, vs2, d2, ds2, p2, q2, a2, rfl, rfl, t2, r2⟩ := trodAll_cons r1
  obtain ⟨v3, vs3, d3, ds3, p3, q3, a3, rfl, rfl, t3, r3⟩ := trodAll_cons r2
  obtain ⟨v4, vs4, d4, ds4, p4, q4, a4, rfl, rfl, t4, r4⟩ := trodAll_cons r3
  obtain ⟨an, rfl, rfl⟩ := trodAll_nil r4
  obtain rfl : args = #[v0, v1, v2, v3, v4] := by apply Array.ext'; simp_all
  obtain ⟨rfl, rfl⟩ := trodVars_none hV
  refine (LawOk.calls (ZJx (hval' 0 _ v0 rfl rfl) t0 (hval' 1 _ v1 rfl rfl) t1 (hval' 2 _ v2 rfl rfl) t2 (hval' 3 _ v3 rfl rfl) t3 (hval' 4 _ v4 rfl rfl) t4)).mono fun e W' ⟨he, hb⟩ => ⟨_, he, ?_⟩
  exact lawPost (tb := 4) (by kernel_rfl) (by kernel_rfl) rfl (by kernel_rfl) rfl hW' rfl rfl rfl hb
theorem and_r {a b c : Bool} (h : (a && (b && c)) = true) : ((a && b) && c) = true := by rw [Bool.and_assoc]; exact h
theorem and_l {a b c : Bool} (h : ((a && b) && c) = true) : (a && (b && c)) = true := by rw [← Bool.and_assoc]; exact h
theorem Zk8 {a b : Bool} (ha : a = true) (hb : b = true) : (a && b) = true := by rw [ha, hb]; rfl
set_option maxRecDepth 100000 in
set_option maxHeartbeats 4000000 in
theorem ZJe : joinedFacts Tryz.checked.prog 3 Tryz.f3 Rows.fnExactPrescribedDesignSpec Rows.fnExactPrescribedDesignRow = true := by
  unfold joinedFacts
  iterate 22 refine and_r ?_
  refine Zk8 (by as_aux_lemma => kernel_rfl) ?_
  refine and_l ?_
  refine Zk8 (by as_aux_lemma => kernel_rfl) ?_
  refine and_l ?_
  refine Zk8 (by as_aux_lemma => kernel_rfl) ?_
  as_aux_lemma => kernel_rfl
set_option maxHeartbeats 4000000 in
theorem fnExactPrescribedDesign_holds : Rows.FnExactPrescribedDesignSaid :=
  OpenClaim.holds_of_wide 3 Tryz.f3 rfl rfl rfl rfl rfl rfl rfl ⟨rfl, rfl, rfl, rfl, rfl⟩ rfl rfl rfl rfl rfl (by as_aux_lemma => kernel_rfl) Tryz.func3 ZJe
    (of_decide_eq_true (by as_aux_lemma => kernel_rfl)) (by unfold Func.isWrapper; first | (rw [if_pos (by decide +kernel)]; kernel_rfl) | (rw [if_neg (by decide +kernel)]; exact ⟨rfl, rfl⟩))
    (fun os started H enc _ => ZKw os started H enc)
#print axioms fnExactPrescribedDesign_holds
end Go.Proofs.YtapkemdomnkccaaGreat
