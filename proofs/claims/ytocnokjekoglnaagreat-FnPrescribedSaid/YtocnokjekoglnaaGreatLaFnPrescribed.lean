/-
 Proved: FnPrescribed returns true for every input, and each argument reads afterwards as it read before. No conditions.
-/
import Derived.Test.YtocnokjekoglnaaGreatRcFns
import Derived.Test.YtocnokjekoglnaaGreatPuJj
import Derived.Test.YtocnokjekoglnaaGreatVcArg
import Derived.Test.YtocnokjekoglnaaGreatVcTop
import Derived.Test.YtocnokjekoglnaaGreatRows
namespace Go.Proofs.YtocnokjekoglnaaGreat
set_option linter.unusedVariables false
set_option linter.unusedSimpArgs false
open Go Go.Vc Go.ChangeShapes Go.WideShapes Go.ChangeAt Go.RowKit
section
variable {H : Type} {enc : TypeId × Value → H}
set_option maxRecDepth 100000 in
theorem Zqi {W : World} {base : Nat} {v0 : Value} {d0 : DataW H} {p0 : List MemPlace} (k0 : Value.okWide P W .any base 22 v0) (h0 : DataW.Trod enc P W 0 (fun _ => true) true 22 v0 d0 p0) : LawOk P ZhX #[v0] W.heap := by
  obtain ⟨a0, f0, l0⟩ := Zpv (e := 5) (z := 1) (E := elOf (El.int .u8) (fun x => 0 ≤ x ∧ x ≤ 255)) (by kernel_rfl) k0 h0 (Zpe (e := 5) (by kernel_rfl) (by kernel_rfl) (ZmV (by kernel_rfl)))
  obtain ⟨f0, m0⟩ := Zp3 (E := (El.int .u8)) f0
  have o0 : OkL (fun x => 0 ≤ x ∧ x ≤ 255) a0 := ⟨l0, m0⟩
  exact ZpL rfl (Zlj (CLe.refl _) (Znm o0) f0)
end
set_option maxRecDepth 100000 in
theorem ZoC (os : Os) (started : os.Started) (H : Type) (enc : TypeId × Value → H) :
    ReturnsInHanded {} Tryz.checked os 3 .any (Rows.fnPrescribedSpec.pre6 enc Tryz.prog Tryz.f3 Rows.fnPrescribedRow.domain false) (Rows.fnPrescribedSpec.post enc Tryz.prog Tryz.f3 false true false false) := by
  refine returnsInHanded_of_change (C := Tryz.checked) (by kernel_rfl) started (by kernel_rfl) Tryz.func3
    (ChangeSpec.witness6 (enc := enc) (C := Tryz.checked) false ⟨#[], #[.slice none 0 0], []⟩ 8 (by kernel_rfl) (by kernel_rfl) (by kernel_rfl) (by kernel_rfl)) ?_
  intro W base args ds gs before hval hW hcnd _
  have hW' := hW
  obtain ⟨p, q, hA0, hV, rfl, hfz, hnd⟩ := hW
  have hA : DataW.TrodAll enc Tryz.prog W 0 (fun _ => true) true Tryz.f3.params.toList args.toList ds p := hA0
  have hval' : ∀ (j : Nat) t v, Tryz.f3.params[j]? = some t → args[j]? = some v → Value.okWide Tryz.prog W .any base t v := hval
  rw [Tryz.params3] at hA hval'
  obtain ⟨v0, vs0, d0, ds0, p0, q0, a0, rfl, rfl, t0, r0⟩ := trodAll_cons hA
  obtain ⟨an, rfl, rfl⟩ := trodAll_nil r0
  obtain rfl : args = #[v0] := by apply Array.ext'; simp_all
  obtain ⟨rfl, rfl⟩ := trodVars_none hV
  refine (LawOk.calls (Zqi (hval' 0 _ v0 rfl rfl) t0)).mono fun e W' ⟨he, hb⟩ => ⟨_, he, ?_⟩
  exact lawPost (tb := 4) (by kernel_rfl) (by kernel_rfl) rfl (by kernel_rfl) rfl hW' rfl rfl rfl hb
theorem and_r {a b c : Bool} (h : (a && (b && c)) = true) : ((a && b) && c) = true := by rw [Bool.and_assoc]; exact h
theorem and_l {a b c : Bool} (h : ((a && b) && c) = true) : (a && (b && c)) = true := by rw [← Bool.and_assoc]; exact h
theorem ZhD {a b : Bool} (ha : a = true) (hb : b = true) : (a && b) = true := by rw [ha, hb]; rfl
set_option maxRecDepth 100000 in
set_option maxHeartbeats 4000000 in
theorem ZlF : joinedFacts Tryz.checked.prog 3 Tryz.f3 Rows.fnPrescribedSpec Rows.fnPrescribedRow = true := by
  unfold joinedFacts
  iterate 22 refine and_r ?_
  refine ZhD (by as_aux_lemma => kernel_rfl) ?_
  refine and_l ?_
  refine ZhD (by as_aux_lemma => kernel_rfl) ?_
  refine and_l ?_
  refine ZhD (by as_aux_lemma => kernel_rfl) ?_
  as_aux_lemma => kernel_rfl
set_option maxHeartbeats 4000000 in
theorem fnPrescribed_holds : Rows.FnPrescribedSaid :=
  OpenClaim.holds_of_wide 3 Tryz.f3 rfl rfl rfl rfl rfl rfl rfl ⟨rfl, rfl, rfl, rfl, rfl⟩ rfl rfl rfl rfl rfl (by as_aux_lemma => kernel_rfl) Tryz.func3 ZlF
    (of_decide_eq_true (by as_aux_lemma => kernel_rfl)) (by unfold Func.isWrapper; first | (rw [if_pos (by decide +kernel)]; kernel_rfl) | (rw [if_neg (by decide +kernel)]; exact ⟨rfl, rfl⟩))
    (fun os started H enc _ => ZoC os started H enc)
#print axioms fnPrescribed_holds
end Go.Proofs.YtocnokjekoglnaaGreat
