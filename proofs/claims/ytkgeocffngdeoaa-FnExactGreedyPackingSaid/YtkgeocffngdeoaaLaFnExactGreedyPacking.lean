/-
 Proved: FnExactGreedyPacking returns true for every input, and each argument reads afterwards as it read before. No conditions.
-/
import Derived.Test.YtkgeocffngdeoaaRcFns
import Derived.Test.YtkgeocffngdeoaaPuLGreedy
import Derived.Test.YtkgeocffngdeoaaVcArg
import Derived.Test.YtkgeocffngdeoaaVcTop
import Derived.Test.YtkgeocffngdeoaaRows
namespace Go.Proofs.Ytkgeocffngdeoaa
open Go Go.Vc Go.ChangeShapes Go.WideShapes Go.ChangeAt Go.RowKit

section
variable {H : Type} {enc : TypeId × Value → H}
set_option maxRecDepth 100000 in
theorem fnExactGreedyPacking_args {W : World} {base : Nat} {v0 v1 v2 : Value} {d0 d1 d2 : DataW H} {p0 p1 p2 : List MemPlace} (k0 : Value.okWide P W .any base 2 v0) (h0 : DataW.Trod enc P W 0 (fun _ => true) true 2 v0 d0 p0) (k1 : Value.okWide P W .any base 2 v1) (h1 : DataW.Trod enc P W 0 (fun _ => true) true 2 v1 d1 p1) (k2 : Value.okWide P W .any base 2 v2) (h2 : DataW.Trod enc P W 0 (fun _ => true) true 2 v2 d2 p2) : LawOk P id_laws_FnExactGreedyPacking #[v0, v1, v2] W.heap := by
  obtain ⟨a0, rfl, o0⟩ := arg_i64 (by kernel_rfl) k0 h0
  obtain ⟨a1, rfl, o1⟩ := arg_i64 (by kernel_rfl) k1 h1
  obtain ⟨a2, rfl, o2⟩ := arg_i64 (by kernel_rfl) k2 h2
  exact lawOk_of rfl (r_laws_FnExactGreedyPacking (noneM_le _) (law_FnExactGreedyPacking o0 o1 o2) )
end

set_option maxRecDepth 100000 in
theorem fnExactGreedyPacking_lifted (os : Os) (started : os.Started) (H : Type) (enc : TypeId × Value → H) :
    ReturnsInHanded {} Try.checked os 4 .any (Rows.fnExactGreedyPackingSpec.pre6 enc Try.prog Try.f4 Rows.fnExactGreedyPackingRow.domain false) (Rows.fnExactGreedyPackingSpec.post enc Try.prog Try.f4 false true false false) := by
  refine returnsInHanded_of_change (C := Try.checked) (by kernel_rfl) started (by kernel_rfl) Try.func4
    (ChangeSpec.witness6 (enc := enc) (C := Try.checked) false ⟨#[], #[.int .i64 0, .int .i64 0, .int .i64 0], []⟩ 8 (by kernel_rfl) (by kernel_rfl) (by kernel_rfl) (by kernel_rfl)) ?_
  intro W base args ds gs before hval hW hcnd _
  have hW' := hW
  obtain ⟨p, q, hA0, hV, rfl, hfz, hnd⟩ := hW
  have hA : DataW.TrodAll enc Try.prog W 0 (fun _ => true) true Try.f4.params.toList args.toList ds p := hA0
  have hval' : ∀ (j : Nat) t v, Try.f4.params[j]? = some t → args[j]? = some v → Value.okWide Try.prog W .any base t v := hval
  rw [Try.params4] at hA hval'
  obtain ⟨v0, vs0, d0, ds0, p0, q0, a0, rfl, rfl, t0, r0⟩ := trodAll_cons hA
  obtain ⟨v1, vs1, d1, ds1, p1, q1, a1, rfl, rfl, t1, r1⟩ := trodAll_cons r0
  obtain ⟨v2, vs2, d2, ds2, p2, q2, a2, rfl, rfl, t2, r2⟩ := trodAll_cons r1
  obtain ⟨an, rfl, rfl⟩ := trodAll_nil r2
  obtain rfl : args = #[v0, v1, v2] := by apply Array.ext'; simp_all
  obtain ⟨rfl, rfl⟩ := trodVars_none hV
  refine (LawOk.calls (fnExactGreedyPacking_args (hval' 0 _ v0 rfl rfl) t0 (hval' 1 _ v1 rfl rfl) t1 (hval' 2 _ v2 rfl rfl) t2)).mono fun e W' ⟨he, hb⟩ => ⟨_, he, ?_⟩
  exact lawPost (tb := 4) (by kernel_rfl) (by kernel_rfl) rfl (by kernel_rfl) rfl hW' rfl rfl rfl hb

theorem fnExactGreedyPacking_holds : Rows.FnExactGreedyPackingSaid :=
  OpenClaim.holds_of_wide 4 Try.f4 rfl rfl rfl rfl rfl rfl rfl ⟨rfl, rfl, rfl, rfl, rfl⟩ rfl rfl rfl rfl rfl (by kernel_rfl) Try.func4 (by kernel_rfl)
    (of_decide_eq_true (by kernel_rfl)) (by unfold Func.isWrapper; first | (rw [if_pos (by decide +kernel)]; kernel_rfl) | (rw [if_neg (by decide +kernel)]; exact ⟨rfl, rfl⟩))
    (fun os started H enc _ => fnExactGreedyPacking_lifted os started H enc)
#print axioms fnExactGreedyPacking_holds
end Go.Proofs.Ytkgeocffngdeoaa
