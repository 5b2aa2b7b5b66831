/-
 Proved: FnExactSaveCatalog returns true for every input, and each argument reads afterwards as it read before. Condition: the tables that the row lists hold what the text of the program lays (the card ties them).
-/
import Derived.Test.YtocnokjekoglnaaGreatDoorVcTxt
import Derived.Test.YtocnokjekoglnaaGreatDoorRcFns
import Derived.Test.YtocnokjekoglnaaGreatDoorPuJi
import Derived.Test.YtocnokjekoglnaaGreatDoorVcArg
import Derived.Test.YtocnokjekoglnaaGreatDoorVcTop
import Derived.Test.YtocnokjekoglnaaGreatDoorRows
import Derived.Test.YtocnokjekoglnaaGreatDoorTie
import Derived.Test.YtocnokjekoglnaaGreatDoorCards
import Derived.SevenTiedAt
import Derived.LaidMore
import Derived.Stop.Joined
import Derived.Stop.LaidErr
import Derived.MakeChecks
namespace Go.Proofs.YtocnokjekoglnaaGreatDoor
set_option linter.unusedVariables false
set_option linter.unusedSimpArgs false
open Go Go.Vc Go.ChangeShapes Go.WideShapes Go.ChangeAt Go.RowKit
section
variable {H : Type} {enc : TypeId × Value → H}
instance : Inhabited Z3 := ⟨(Z3.mk (0 : Int) (0 : Int) ([] : List (List Int)))⟩
set_option maxRecDepth 100000 in
theorem Zpg : Reads enc P (elOf Zm7 ZlN) 24 := by
  intro W base spare held fuel cs x h
  have hl := ZrS h (u := (2, 0)) (n := 3) (by kernel_rfl) (by kernel_rfl)
  obtain ⟨a0, h0, k0⟩ := Zkc h 0 (t' := 2) (off := 0) (z := 1) (E := elOf (El.int .i64) I64) (by kernel_rfl) (by kernel_rfl) (Zjz (by kernel_rfl))
  obtain ⟨a1, h1, k1⟩ := Zkc h 1 (t' := 2) (off := 1) (z := 1) (E := elOf (El.int .i64) I64) (by kernel_rfl) (by kernel_rfl) (Zjz (by kernel_rfl))
  obtain ⟨a2, h2, k2⟩ := Zkc h 2 (t' := 22) (off := 2) (z := 1) (E := elOf (El.sl (El.sl (El.int .i64))) (OkL (OkL I64))) (by kernel_rfl) (by kernel_rfl) (Zox (e := 59) (by kernel_rfl) (by kernel_rfl) (Zox (e := 2) (by kernel_rfl) (by kernel_rfl) (Zjz (by kernel_rfl))))
  exact ⟨Z3.mk a0 a1 a2, (Zoa (o := 0) (z := 1) h0 (Zoa (o := 1) (z := 1) h1 (ZpU (o := 2) h2 (by omega)))), ⟨k0, k1, k2⟩⟩
instance : Inhabited Zxi := ⟨(Zxi.mk (⟨#[]⟩ : ByteArray) (Z3.mk (0 : Int) (0 : Int) ([] : List (List Int))) (⟨#[]⟩ : ByteArray))⟩
set_option maxRecDepth 100000 in
theorem Zzb : Reads enc P (elOf Zyl Zx5) 32 := by
  intro W base spare held fuel cs x h
  have hl := ZrS h (u := (9, 0)) (n := 5) (by kernel_rfl) (by kernel_rfl)
  obtain ⟨a0, h0, k0⟩ := Zkc h 0 (t' := 9) (off := 0) (z := 1) (E := elOf El.str OkS) (by kernel_rfl) (by kernel_rfl) (Zyk (by kernel_rfl))
  obtain ⟨a1, h1, k1⟩ := Zkc h 1 (t' := 24) (off := 1) (z := 3) (E := elOf Zm7 ZlN) (by kernel_rfl) (by kernel_rfl) Zpg
  obtain ⟨a2, h2, k2⟩ := Zkc h 2 (t' := 9) (off := 4) (z := 1) (E := elOf El.str OkS) (by kernel_rfl) (by kernel_rfl) (Zyk (by kernel_rfl))
  exact ⟨Zxi.mk a0 a1 a2, (Zoa (o := 0) (z := 1) h0 (Zoa (o := 1) (z := 3) h1 (ZpU (o := 4) h2 (by omega)))), ⟨k0, k1, k2⟩⟩
instance : Inhabited Zzh := ⟨(Zzh.mk ([] : List Zxi))⟩
set_option maxRecDepth 100000 in
theorem ZBj : Reads enc P (elOf ZAo Zz9) 42 := by
  intro W base spare held fuel cs x h
  have hl := ZrS h (u := (40, 0)) (n := 1) (by kernel_rfl) (by kernel_rfl)
  obtain ⟨a0, h0, k0⟩ := Zkc h 0 (t' := 40) (off := 0) (z := 1) (E := elOf (El.sl Zyl) (OkL Zx5)) (by kernel_rfl) (by kernel_rfl) (Zox (e := 32) (by kernel_rfl) (by kernel_rfl) Zzb)
  exact ⟨Zzh.mk a0, (ZpU (o := 0) h0 (by omega)), k0⟩
set_option maxRecDepth 100000 in
theorem ZAK {W : World} {base : Nat} {v0 : Value} {d0 : DataW H} {p0 : List MemPlace} (k0 : Value.okWide P W .any base 42 v0) (h0 : DataW.Trod enc P W 0 (fun _ => true) true 42 v0 d0 p0) (hL : TabH 1 W.heap) : LawOk P Zz3 #[v0] W.heap := by
  obtain ⟨cs0, a0, rfl, e0, o0⟩ := ZuL (u := (40, 0)) (by kernel_rfl) k0 h0 ZBj
  obtain ⟨u0_0, rfl, f0_0⟩ := ZAA e0
  exact Zum rfl (ZBo (ZwJ _) (ZAZ o0) f0_0 hL)
end
def valsOf : DataW Unit → List Value
  | .agg ds => ds.map fun d => match d with
    | .lit (.int k n) => .int k n
    | _ => undef
  | _ => []
def layO (vs : List Value) : Obj → Obj
  | .cells _ t f => .cells vs.toArray t f
  | o => o
noncomputable def layH (l : List (String × DataW Unit)) (h : Array Obj) : Array Obj :=
  l.foldl (fun h x => h.modify ((Tryz.prog.globalNamed x.1).getD 0) (layO (valsOf x.2))) h
noncomputable def laidW (os : Os) : World :=
  { World.holding Tryz.prog os ⟨#[], #[], []⟩ with heap := layH Rows.fnExactSaveCatalogRow.laid (World.holding Tryz.prog os ⟨#[], #[], []⟩).heap }
set_option maxRecDepth 100000 in
theorem Zq8 (os : Os) (args : Array Value) : laidMetH Tryz.prog Rows.fnExactSaveCatalogRow.laid ((laidW os).forCall (fun _ _ => 0) ⟨#[], args, []⟩).memory := by
  rw [MakeChecks.laidMetH_plain _ _ _ (by kernel_rfl)]
  exact laidMet_of_run' 8 (by kernel_rfl) (by kernel_rfl)
set_option maxRecDepth 100000 in
theorem ZwG {W : World} (h : laidMetH Tryz.prog Rows.fnExactSaveCatalogRow.laid W) : TabH 1 W.heap := by
  rw [MakeChecks.laidMetH_plain _ _ _ (by kernel_rfl)] at h
  have h3 : laidMet Tryz.prog [(_, Rows.laid_internal_strconv_uint64pow10)] W := (show laidMet Tryz.prog (_ :: _ :: [(_, Rows.laid_internal_strconv_uint64pow10)]) W from h).tail.tail
  have e : (Rows.laid_internal_strconv_uint64pow10 : DataW Unit) = Lib.tabData .u64 Lib.pow10Tab := by kernel_rfl
  rw [e] at h3
  exact TabH.of (g := 1) (by kernel_rfl) (Lib.tabIs_of_head (g := 1) (t := 221) (e := 201) (n := 20) (by kernel_rfl) (by kernel_rfl) (by kernel_rfl) (by kernel_rfl) (by kernel_rfl) (by kernel_rfl) h3)
set_option maxRecDepth 100000 in
theorem ZAX (os : Os) (started : os.Started) (H : Type) (enc : TypeId × Value → H) :
    ReturnsInHanded {} Tryz.checked os 5 .any (fun w args => (Rows.fnExactSaveCatalogSpec.pre enc Tryz.prog Tryz.f5 Rows.fnExactSaveCatalogRow.domain false w args ∧ laidMetH Tryz.prog Rows.fnExactSaveCatalogRow.laid w) ∧ sizedMet enc Tryz.prog Tryz.f5 (OpenSpec.ofChange Rows.fnExactSaveCatalogSpec) false w args) (Rows.fnExactSaveCatalogSpec.post enc Tryz.prog Tryz.f5 false true false false) := by
  refine returnsInHanded_of_change_and (C := Tryz.checked) (X := fun w _ => laidMetH Tryz.prog Rows.fnExactSaveCatalogRow.laid w) (fun _ _ _ hh h => h.of_heap hh) (by kernel_rfl) started (by kernel_rfl) Tryz.func5
    (ChangeSpec.witness_at (enc := enc) (C := Tryz.checked) (os := os) (X := fun w _ => laidMetH Tryz.prog Rows.fnExactSaveCatalogRow.laid w) false (laidW os) #[.agg #[.slice none 0 0]] 8 rfl (by kernel_rfl) (by kernel_rfl) (by kernel_rfl) (by kernel_rfl) (by kernel_rfl) (Zq8 os _)) ?_
  intro W base args ds gs before hval hW hcnd _ hL _
  have hW' := hW
  obtain ⟨p, q, hA0, hV, rfl, hfz, hnd⟩ := hW
  have hA : DataW.TrodAll enc Tryz.prog W 0 (fun _ => true) true Tryz.f5.params.toList args.toList ds p := hA0
  have hval' : ∀ (j : Nat) t v, Tryz.f5.params[j]? = some t → args[j]? = some v → Value.okWide Tryz.prog W .any base t v := hval
  rw [Tryz.params5] at hA hval'
  obtain ⟨v0, vs0, d0, ds0, p0, q0, a0, rfl, rfl, t0, r0⟩ := trodAll_cons hA
  obtain ⟨an, rfl, rfl⟩ := trodAll_nil r0
  obtain rfl : args = #[v0] := by apply Array.ext'; simp_all
  obtain ⟨rfl, rfl⟩ := trodVars_none hV
  refine (LawOk.calls (ZAK (hval' 0 _ v0 rfl rfl) t0 (ZwG hL))).mono fun e W' ⟨he, hb⟩ => ⟨_, he, ?_⟩
  exact lawPost (tb := 4) (by kernel_rfl) (by kernel_rfl) rfl (by kernel_rfl) rfl hW' rfl rfl rfl hb
theorem and_r {a b c : Bool} (h : (a && (b && c)) = true) : ((a && b) && c) = true := by rw [Bool.and_assoc]; exact h
theorem and_l {a b c : Bool} (h : ((a && b) && c) = true) : (a && (b && c)) = true := by rw [← Bool.and_assoc]; exact h
theorem Zjq {a b : Bool} (ha : a = true) (hb : b = true) : (a && b) = true := by rw [ha, hb]; rfl
set_option maxRecDepth 100000 in
set_option maxHeartbeats 4000000 in
theorem ZAJ : joinedFacts Tryz.checked.prog 5 Tryz.f5 Rows.fnExactSaveCatalogSpec Rows.fnExactSaveCatalogRow = true := by
  unfold joinedFacts
  iterate 22 refine and_r ?_
  refine Zjq (by as_aux_lemma => kernel_rfl) ?_
  refine and_l ?_
  refine Zjq (by as_aux_lemma => kernel_rfl) ?_
  refine and_l ?_
  refine Zjq (by as_aux_lemma => kernel_rfl) ?_
  as_aux_lemma => kernel_rfl
set_option maxHeartbeats 4000000 in
theorem ZAS : Rows.FnExactSaveCatalogSaid :=
  OpenClaim.holds_of_wide 5 Tryz.f5 rfl rfl rfl rfl rfl rfl rfl ⟨rfl, rfl, rfl, rfl, rfl⟩ rfl rfl rfl rfl rfl (by as_aux_lemma => kernel_rfl) Tryz.func5 ZAJ
    (of_decide_eq_true (by as_aux_lemma => kernel_rfl)) (by unfold Func.isWrapper; first | (rw [if_pos (by decide +kernel)]; kernel_rfl) | (rw [if_neg (by decide +kernel)]; exact ⟨rfl, rfl⟩))
    (fun os started H enc _ => ZAX os started H enc)
set_option maxRecDepth 100000 in
theorem fnExactSaveCatalog_holds : Rows.FnExactSaveCatalogCardSaid :=
  Claim7.holds_tied_plain_at .later [] [.data, .data, .data] true Rows.fnExactSaveCatalogCard.stood.harness false
    ZAS (fun _ h => by cases h) (by kernel_rfl) (fun _ h => by cases h) fnExactSaveCatalog_row_tie rfl ⟨rfl, rfl⟩ (by kernel_rfl) rfl
    (fun f fn hf hfn => by
      have e : some f = some 5 := hf.symm.trans (by kernel_rfl)
      obtain rfl : f = 5 := Option.some.inj e
      obtain rfl : fn = Tryz.f5 := (Option.some.inj (Tryz.func5.symm.trans hfn)).symm
      exact ⟨by kernel_rfl, fun j t ht => by
        have hm : t ∈ Tryz.f5.params := Array.mem_of_getElem? ht
        have hall : (Tryz.f5.params.all fun u => !Tryz.prog.wantsStandIn u) = true := by kernel_rfl
        exact (show Tryz.prog.wantsStandIn t = false by simpa using Array.all_eq_true_iff_forall_mem.1 hall t hm)⟩)
    (by kernel_rfl)
#print axioms fnExactSaveCatalog_holds
end Go.Proofs.YtocnokjekoglnaaGreatDoor
