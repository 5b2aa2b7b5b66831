/-
 Proved: FnExactCompleteDesign returns true for every input, and each argument reads afterwards as it read before. No conditions.
-/
import Derived.Test.YtkgeocffngdeoaaGreatRcFns
import Derived.Test.YtkgeocffngdeoaaGreatPuLComp
import Derived.Test.YtkgeocffngdeoaaGreatVcArg
import Derived.Test.YtkgeocffngdeoaaGreatVcTop
import Derived.Test.YtkgeocffngdeoaaGreatRows
namespace Go.Proofs.YtkgeocffngdeoaaGreat
open Go Go.Vc Go.ChangeShapes Go.WideShapes Go.ChangeAt Go.RowKit

section
variable {H : Type} {enc : TypeId × Value → H}
instance : Inhabited T_laws_Design := ⟨(T_laws_Design.mk (0 : Int) ([] : List (List Int)))⟩
set_option maxRecDepth 100000 in
theorem rd_T_laws_Design : Reads enc P (elOf ef_T_laws_Design Ok_T_laws_Design) 24 := by
  intro W base spare held fuel cs x h
  have hl := reads_len h (u := (2, 0)) (n := 2) (by kernel_rfl) (by kernel_rfl)
  obtain ⟨a0, h0, k0⟩ := reads_fld h 0 (t' := 2) (off := 0) (z := 1) (E := elOf (El.int .i64) I64) (by kernel_rfl) (by kernel_rfl) (rde_i64 (by kernel_rfl))
  obtain ⟨a1, h1, k1⟩ := reads_fld h 1 (t' := 22) (off := 1) (z := 1) (E := elOf (El.sl (El.sl (El.int .i64))) (OkL (OkL I64))) (by kernel_rfl) (by kernel_rfl) (rde_slice (e := 45) (by kernel_rfl) (by kernel_rfl) (rde_slice (e := 2) (by kernel_rfl) (by kernel_rfl) (rde_i64 (by kernel_rfl))))
  exact ⟨T_laws_Design.mk a0 a1, (pair_cells (o := 0) (z := 1) h0 (last_cells (o := 1) h1 (by omega))), ⟨k0, k1⟩⟩
set_option maxRecDepth 100000 in
theorem fnExactCompleteDesign_args {W : World} {base : Nat} {v0 v1 v2 v3 : Value} {d0 d1 d2 d3 : DataW H} {p0 p1 p2 p3 : List MemPlace} (k0 : Value.okWide P W .any base 24 v0) (h0 : DataW.Trod enc P W 0 (fun _ => true) true 24 v0 d0 p0) (k1 : Value.okWide P W .any base 2 v1) (h1 : DataW.Trod enc P W 0 (fun _ => true) true 2 v1 d1 p1) (k2 : Value.okWide P W .any base 2 v2) (h2 : DataW.Trod enc P W 0 (fun _ => true) true 2 v2 d2 p2) (k3 : Value.okWide P W .any base 2 v3) (h3 : DataW.Trod enc P W 0 (fun _ => true) true 2 v3 d3 p3) : LawOk P id_laws_FnExactCompleteDesign #[v0, v1, v2, v3] W.heap := by
  obtain ⟨cs0, a0, rfl, e0, o0⟩ := arg_struct (u := (2, 0)) (by kernel_rfl) k0 h0 rd_T_laws_Design
  obtain ⟨u0_1, rfl, f0_1⟩ := un_T_laws_Design e0
  obtain ⟨a1, rfl, o1⟩ := arg_i64 (by kernel_rfl) k1 h1
  obtain ⟨a2, rfl, o2⟩ := arg_i64 (by kernel_rfl) k2 h2
  obtain ⟨a3, rfl, o3⟩ := arg_i64 (by kernel_rfl) k3 h3
  exact lawOk_of rfl (r_laws_FnExactCompleteDesign (noneM_le _) (law_FnExactCompleteDesign o0 o1 o2 o3) f0_1)
end

set_option maxRecDepth 100000 in
theorem fnExactCompleteDesign_lifted (os : Os) (started : os.Started) (H : Type) (enc : TypeId × Value → H) :
    ReturnsInHanded {} Tryz.checked os 3 .any (Rows.fnExactCompleteDesignSpec.pre6 enc Tryz.prog Tryz.f3 Rows.fnExactCompleteDesignRow.domain false) (Rows.fnExactCompleteDesignSpec.post enc Tryz.prog Tryz.f3 false true false false) := by
  refine returnsInHanded_of_change (C := Tryz.checked) (by kernel_rfl) started (by kernel_rfl) Tryz.func3
    (ChangeSpec.witness6 (enc := enc) (C := Tryz.checked) false ⟨#[], #[.agg #[.int .i64 0, .slice none 0 0], .int .i64 0, .int .i64 0, .int .i64 0], []⟩ 8 (by kernel_rfl) (by kernel_rfl) (by kernel_rfl) (by kernel_rfl)) ?_
  intro W base args ds gs before hval hW hcnd _
  have hW' := hW
  obtain ⟨p, q, hA0, hV, rfl, hfz, hnd⟩ := hW
  have hA : DataW.TrodAll enc Tryz.prog W 0 (fun _ => true) true Tryz.f3.params.toList args.toList ds p := hA0
  have hval' : ∀ (j : Nat) t v, Tryz.f3.params[j]? = some t → args[j]? = some v → Value.okWide Tryz.prog W .any base t v := hval
  rw [Tryz.params3] at hA hval'
  obtain ⟨v0, vs0, d0, ds0, p0, q0, a0, rfl, rfl, t0, r0⟩ := trodAll_cons hA
  obtain ⟨v1, vs1, d1, ds1, p1, q1, a1, rfl, rfl, t1, r1⟩ := trodAll_cons r0
  obtain ⟨v2, vs2, d2, ds2, p2, q2, a2, rfl, rfl, t2, r2⟩ := trodAll_cons r1
  obtain ⟨v3, vs3, d3, ds3, p3, q3, a3, rfl, rfl, t3, r3⟩ := trodAll_cons r2
  obtain ⟨an, rfl, rfl⟩ := trodAll_nil r3
  obtain rfl : args = #[v0, v1, v2, v3] := by apply Array.ext'; simp_all
  obtain ⟨rfl, rfl⟩ := trodVars_none hV
  refine (LawOk.calls (fnExactCompleteDesign_args (hval' 0 _ v0 rfl rfl) t0 (hval' 1 _ v1 rfl rfl) t1 (hval' 2 _ v2 rfl rfl) t2 (hval' 3 _ v3 rfl rfl) t3)).mono fun e W' ⟨he, hb⟩ => ⟨_, he, ?_⟩
  exact lawPost (tb := 4) (by kernel_rfl) (by kernel_rfl) rfl (by kernel_rfl) rfl hW' rfl rfl rfl hb

theorem fnExactCompleteDesign_holds : Rows.FnExactCompleteDesignSaid :=
  OpenClaim.holds_of_wide 3 Tryz.f3 rfl rfl rfl rfl rfl rfl rfl ⟨rfl, rfl, rfl, rfl, rfl⟩ rfl rfl rfl rfl rfl (by kernel_rfl) Tryz.func3 (by kernel_rfl)
    (of_decide_eq_true (by kernel_rfl)) (by unfold Func.isWrapper; first | (rw [if_pos (by decide +kernel)]; kernel_rfl) | (rw [if_neg (by decide +kernel)]; exact ⟨rfl, rfl⟩))
    (fun os started H enc _ => fnExactCompleteDesign_lifted os started H enc)
#print axioms fnExactCompleteDesign_holds
end Go.Proofs.YtkgeocffngdeoaaGreat
