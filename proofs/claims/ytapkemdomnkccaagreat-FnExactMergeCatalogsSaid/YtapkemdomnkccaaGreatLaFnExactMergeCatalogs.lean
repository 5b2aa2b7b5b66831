/-
 Proved: FnExactMergeCatalogs returns true for every input, and each argument reads afterwards as it read before. No conditions.
-/
import Derived.Test.YtapkemdomnkccaaGreatRcFns
import Derived.Test.YtapkemdomnkccaaGreatPuJh
import Derived.Test.YtapkemdomnkccaaGreatVcArg
import Derived.Test.YtapkemdomnkccaaGreatVcTop
import Derived.Test.YtapkemdomnkccaaGreatRows
namespace Go.Proofs.YtapkemdomnkccaaGreat
set_option linter.unusedVariables false
set_option linter.unusedSimpArgs false
open Go Go.Vc Go.ChangeShapes Go.WideShapes Go.ChangeAt Go.RowKit
section
variable {H : Type} {enc : TypeId × Value → H}
instance : Inhabited Zal := ⟨(Zal.mk (0 : Int) (0 : Int) ([] : List (List Int)))⟩
set_option maxRecDepth 100000 in
theorem Zwu : Reads enc P (elOf Zlc ZjC) 38 := by
  intro W base spare held fuel cs x h
  have hl := ZmV h (u := (2, 0)) (n := 3) (by kernel_rfl) (by kernel_rfl)
  obtain ⟨a0, h0, k0⟩ := ZcL h 0 (t' := 2) (off := 0) (z := 1) (E := elOf (El.int .i64) I64) (by kernel_rfl) (by kernel_rfl) (Zm1 (by kernel_rfl))
  obtain ⟨a1, h1, k1⟩ := ZcL h 1 (t' := 2) (off := 1) (z := 1) (E := elOf (El.int .i64) I64) (by kernel_rfl) (by kernel_rfl) (Zm1 (by kernel_rfl))
  obtain ⟨a2, h2, k2⟩ := ZcL h 2 (t' := 22) (off := 2) (z := 1) (E := elOf (El.sl (El.sl (El.int .i64))) (OkL (OkL I64))) (by kernel_rfl) (by kernel_rfl) (Zne (e := 40) (by kernel_rfl) (by kernel_rfl) (Zne (e := 2) (by kernel_rfl) (by kernel_rfl) (Zm1 (by kernel_rfl))))
  exact ⟨Zal.mk a0 a1 a2, (Zi2 (o := 0) (z := 1) h0 (Zi2 (o := 1) (z := 1) h1 (Zmr (o := 2) h2 (by omega)))), ⟨k0, k1, k2⟩⟩
instance : Inhabited Zab := ⟨(Zab.mk (⟨#[]⟩ : ByteArray) (Zal.mk (0 : Int) (0 : Int) ([] : List (List Int))) (⟨#[]⟩ : ByteArray))⟩
set_option maxRecDepth 100000 in
theorem Zwg : Reads enc P (elOf Za6 Zh1) 164 := by
  intro W base spare held fuel cs x h
  have hl := ZmV h (u := (9, 0)) (n := 5) (by kernel_rfl) (by kernel_rfl)
  obtain ⟨a0, h0, k0⟩ := ZcL h 0 (t' := 9) (off := 0) (z := 1) (E := elOf El.str OkS) (by kernel_rfl) (by kernel_rfl) (ZqS (by kernel_rfl))
  obtain ⟨a1, h1, k1⟩ := ZcL h 1 (t' := 38) (off := 1) (z := 3) (E := elOf Zlc ZjC) (by kernel_rfl) (by kernel_rfl) Zwu
  obtain ⟨a2, h2, k2⟩ := ZcL h 2 (t' := 9) (off := 4) (z := 1) (E := elOf El.str OkS) (by kernel_rfl) (by kernel_rfl) (ZqS (by kernel_rfl))
  exact ⟨Zab.mk a0 a1 a2, (Zi2 (o := 0) (z := 1) h0 (Zi2 (o := 1) (z := 3) h1 (Zmr (o := 4) h2 (by omega)))), ⟨k0, k1, k2⟩⟩
instance : Inhabited ZU := ⟨(ZU.mk ([] : List Zab))⟩
set_option maxRecDepth 100000 in
theorem Zpv : Reads enc P (elOf ZpH Zjr) 55 := by
  intro W base spare held fuel cs x h
  have hl := ZmV h (u := (53, 0)) (n := 1) (by kernel_rfl) (by kernel_rfl)
  obtain ⟨a0, h0, k0⟩ := ZcL h 0 (t' := 53) (off := 0) (z := 1) (E := elOf (El.sl Za6) (OkL Zh1)) (by kernel_rfl) (by kernel_rfl) (Zne (e := 164) (by kernel_rfl) (by kernel_rfl) Zwg)
  exact ⟨ZU.mk a0, (Zmr (o := 0) h0 (by omega)), k0⟩
set_option maxRecDepth 100000 in
theorem ZxY {W : World} {base : Nat} {v0 v1 : Value} {d0 d1 : DataW H} {p0 p1 : List MemPlace} (k0 : Value.okWide P W .any base 55 v0) (h0 : DataW.Trod enc P W 0 (fun _ => true) true 55 v0 d0 p0) (k1 : Value.okWide P W .any base 55 v1) (h1 : DataW.Trod enc P W 0 (fun _ => true) true 55 v1 d1 p1) : LawOk P Zkx #[v0, v1] W.heap := by
  obtain ⟨cs0, a0, rfl, e0, o0⟩ := Zrl (u := (53, 0)) (by kernel_rfl) k0 h0 Zpv
  obtain ⟨u0_0, rfl, f0_0⟩ := ZqZ e0
  obtain ⟨cs1, a1, rfl, e1, o1⟩ := Zrl (u := (53, 0)) (by kernel_rfl) k1 h1 Zpv
  obtain ⟨u1_0, rfl, f1_0⟩ := ZqZ e1
  exact ZwS rfl (ZsR (Zz6 _) (ZAM o0 o1) f0_0 f1_0)
end
set_option maxRecDepth 100000 in
theorem ZsH (os : Os) (started : os.Started) (H : Type) (enc : TypeId × Value → H) :
    ReturnsInHanded {} Tryz.checked os 9 .any (Rows.fnExactMergeCatalogsSpec.pre6 enc Tryz.prog Tryz.f9 Rows.fnExactMergeCatalogsRow.domain false) (Rows.fnExactMergeCatalogsSpec.post enc Tryz.prog Tryz.f9 false true false false) := by
  refine returnsInHanded_of_change (C := Tryz.checked) (by kernel_rfl) started (by kernel_rfl) Tryz.func9
    (ChangeSpec.witness6 (enc := enc) (C := Tryz.checked) false ⟨#[], #[.agg #[.slice none 0 0], .agg #[.slice none 0 0]], []⟩ 8 (by kernel_rfl) (by kernel_rfl) (by kernel_rfl) (by kernel_rfl)) ?_
  intro W base args ds gs before hval hW hcnd _
  have hW' := hW
  obtain ⟨p, q, hA0, hV, rfl, hfz, hnd⟩ := hW
  have hA : DataW.TrodAll enc Tryz.prog W 0 (fun _ => true) true Tryz.f9.params.toList args.toList ds p := hA0
  have hval' : ∀ (j : Nat) t v, Tryz.f9.params[j]? = some t → args[j]? = some v → Value.okWide Tryz.prog W .any base t v := hval
  rw [Tryz.params9] at hA hval'
  obtain ⟨v0, vs0, d0, ds0, p0, q0, a0, rfl, rfl, t0, r0⟩ := trodAll_cons hA
  obtain ⟨v1, vs1, d1, ds1, p1, q1, a1, rfl, rfl, t1, r1⟩ := trodAll_cons r0
  obtain ⟨an, rfl, rfl⟩ := trodAll_nil r1
  obtain rfl : args = #[v0, v1] := by apply Array.ext'; simp_all
  obtain ⟨rfl, rfl⟩ := trodVars_none hV
  refine (LawOk.calls (ZxY (hval' 0 _ v0 rfl rfl) t0 (hval' 1 _ v1 rfl rfl) t1)).mono fun e W' ⟨he, hb⟩ => ⟨_, he, ?_⟩
  exact lawPost (tb := 4) (by kernel_rfl) (by kernel_rfl) rfl (by kernel_rfl) rfl hW' rfl rfl rfl hb
theorem and_r {a b c : Bool} (h : (a && (b && c)) = true) : ((a && b) && c) = true := by rw [Bool.and_assoc]; exact h
theorem and_l {a b c : Bool} (h : ((a && b) && c) = true) : (a && (b && c)) = true := by rw [← Bool.and_assoc]; exact h
theorem Zk0 {a b : Bool} (ha : a = true) (hb : b = true) : (a && b) = true := by rw [ha, hb]; rfl
set_option maxRecDepth 100000 in
set_option maxHeartbeats 4000000 in
theorem ZsW : joinedFacts Tryz.checked.prog 9 Tryz.f9 Rows.fnExactMergeCatalogsSpec Rows.fnExactMergeCatalogsRow = true := by
  unfold joinedFacts
  iterate 22 refine and_r ?_
  refine Zk0 (by as_aux_lemma => kernel_rfl) ?_
  refine and_l ?_
  refine Zk0 (by as_aux_lemma => kernel_rfl) ?_
  refine and_l ?_
  refine Zk0 (by as_aux_lemma => kernel_rfl) ?_
  as_aux_lemma => kernel_rfl
set_option maxHeartbeats 4000000 in
theorem fnExactMergeCatalogs_holds : Rows.FnExactMergeCatalogsSaid :=
  OpenClaim.holds_of_wide 9 Tryz.f9 rfl rfl rfl rfl rfl rfl rfl ⟨rfl, rfl, rfl, rfl, rfl⟩ rfl rfl rfl rfl rfl (by as_aux_lemma => kernel_rfl) Tryz.func9 ZsW
    (of_decide_eq_true (by as_aux_lemma => kernel_rfl)) (by unfold Func.isWrapper; first | (rw [if_pos (by decide +kernel)]; kernel_rfl) | (rw [if_neg (by decide +kernel)]; exact ⟨rfl, rfl⟩))
    (fun os started H enc _ => ZsH os started H enc)
#print axioms fnExactMergeCatalogs_holds
end Go.Proofs.YtapkemdomnkccaaGreat
