/-
 Proved: FnBacktrack returns true for every input, and each argument reads afterwards as it read before. No conditions.
-/
import Derived.Test.YtocnokjekoglnaaGreatRcFns
import Derived.Test.YtocnokjekoglnaaGreatPuJb
import Derived.Test.YtocnokjekoglnaaGreatVcArg
import Derived.Test.YtocnokjekoglnaaGreatVcTop
import Derived.Test.YtocnokjekoglnaaGreatRows
namespace Go.Proofs.YtocnokjekoglnaaGreat
set_option linter.unusedVariables false
set_option linter.unusedSimpArgs false
open Go Go.Vc Go.ChangeShapes Go.WideShapes Go.ChangeAt Go.RowKit
section
variable {H : Type} {enc : TypeId × Value → H}
set_option maxRecDepth 100000 in
theorem ZlR {W : World} {base : Nat} {v0 v1 : Value} {d0 d1 : DataW H} {p0 p1 : List MemPlace} (k0 : Value.okWide P W .any base 22 v0) (h0 : DataW.Trod enc P W 0 (fun _ => true) true 22 v0 d0 p0) (k1 : Value.okWide P W .any base 22 v1) (h1 : DataW.Trod enc P W 0 (fun _ => true) true 22 v1 d1 p1) : LawOk P Zgd #[v0, v1] W.heap := by
  obtain ⟨a0, f0, l0⟩ := Zji (e := 5) (z := 1) (E := elOf (El.int .u8) (fun x => 0 ≤ x ∧ x ≤ 255)) (by kernel_rfl) k0 h0 (Zib (e := 5) (by kernel_rfl) (by kernel_rfl) (ZjV (by kernel_rfl)))
  obtain ⟨f0, m0⟩ := ZiS (E := (El.int .u8)) f0
  have o0 : OkL (fun x => 0 ≤ x ∧ x ≤ 255) a0 := ⟨l0, m0⟩
  obtain ⟨a1, f1, l1⟩ := Zji (e := 5) (z := 1) (E := elOf (El.int .u8) (fun x => 0 ≤ x ∧ x ≤ 255)) (by kernel_rfl) k1 h1 (Zib (e := 5) (by kernel_rfl) (by kernel_rfl) (ZjV (by kernel_rfl)))
  obtain ⟨f1, m1⟩ := ZiS (E := (El.int .u8)) f1
  have o1 : OkL (fun x => 0 ≤ x ∧ x ≤ 255) a1 := ⟨l1, m1⟩
  exact Zkw rfl (Znt (Zk4 _) (Zmf o0 o1) f0 f1)
end
set_option maxRecDepth 100000 in
theorem ZkA (os : Os) (started : os.Started) (H : Type) (enc : TypeId × Value → H) :
    ReturnsInHanded {} Tryz.checked os 4 .any (Rows.fnBacktrackSpec.pre6 enc Tryz.prog Tryz.f4 Rows.fnBacktrackRow.domain false) (Rows.fnBacktrackSpec.post enc Tryz.prog Tryz.f4 false true false false) := by
  refine returnsInHanded_of_change (C := Tryz.checked) (by kernel_rfl) started (by kernel_rfl) Tryz.func4
    (ChangeSpec.witness6 (enc := enc) (C := Tryz.checked) false ⟨#[], #[.slice none 0 0, .slice none 0 0], []⟩ 8 (by kernel_rfl) (by kernel_rfl) (by kernel_rfl) (by kernel_rfl)) ?_
  intro W base args ds gs before hval hW hcnd _
  have hW' := hW
  obtain ⟨p, q, hA0, hV, rfl, hfz, hnd⟩ := hW
  have hA : DataW.TrodAll enc Tryz.prog W 0 (fun _ => true) true Tryz.f4.params.toList args.toList ds p := hA0
  have hval' : ∀ (j : Nat) t v, Tryz.f4.params[j]? = some t → args[j]? = some v → Value.okWide Tryz.prog W .any base t v := hval
  rw [Tryz.params4] at hA hval'
  obtain ⟨v0, vs0, d0, ds0, p0, q0, a0, rfl, rfl, t0, r0⟩ := trodAll_cons hA
  obtain ⟨v1, vs1, d1, ds1, p1, q1, a1, rfl, rfl, t1, r1⟩ := trodAll_cons r0
  obtain ⟨an, rfl, rfl⟩ := trodAll_nil r1
  obtain rfl : args = #[v0, v1] := by apply Array.ext'; simp_all
  obtain ⟨rfl, rfl⟩ := trodVars_none hV
  refine (LawOk.calls (ZlR (hval' 0 _ v0 rfl rfl) t0 (hval' 1 _ v1 rfl rfl) t1)).mono fun e W' ⟨he, hb⟩ => ⟨_, he, ?_⟩
  exact lawPost (tb := 4) (by kernel_rfl) (by kernel_rfl) rfl (by kernel_rfl) rfl hW' rfl rfl rfl hb
theorem and_r {a b c : Bool} (h : (a && (b && c)) = true) : ((a && b) && c) = true := by rw [Bool.and_assoc]; exact h
theorem and_l {a b c : Bool} (h : ((a && b) && c) = true) : (a && (b && c)) = true := by rw [← Bool.and_assoc]; exact h
theorem ZfW {a b : Bool} (ha : a = true) (hb : b = true) : (a && b) = true := by rw [ha, hb]; rfl
set_option maxRecDepth 100000 in
set_option maxHeartbeats 4000000 in
theorem ZkV : joinedFacts Tryz.checked.prog 4 Tryz.f4 Rows.fnBacktrackSpec Rows.fnBacktrackRow = true := by
  unfold joinedFacts
  iterate 22 refine and_r ?_
  refine ZfW (by as_aux_lemma => kernel_rfl) ?_
  refine and_l ?_
  refine ZfW (by as_aux_lemma => kernel_rfl) ?_
  refine and_l ?_
  refine ZfW (by as_aux_lemma => kernel_rfl) ?_
  as_aux_lemma => kernel_rfl
set_option maxHeartbeats 4000000 in
theorem fnBacktrack_holds : Rows.FnBacktrackSaid :=
  OpenClaim.holds_of_wide 4 Tryz.f4 rfl rfl rfl rfl rfl rfl rfl ⟨rfl, rfl, rfl, rfl, rfl⟩ rfl rfl rfl rfl rfl (by as_aux_lemma => kernel_rfl) Tryz.func4 ZkV
    (of_decide_eq_true (by as_aux_lemma => kernel_rfl)) (by unfold Func.isWrapper; first | (rw [if_pos (by decide +kernel)]; kernel_rfl) | (rw [if_neg (by decide +kernel)]; exact ⟨rfl, rfl⟩))
    (fun os started H enc _ => ZkA os started H enc)
#print axioms fnBacktrack_holds
end Go.Proofs.YtocnokjekoglnaaGreat
