/-
 Proved: FnExactObjectFacts returns true for every input, and each argument reads afterwards as it read before. Condition: the tables that the row lists hold what the text of the program lays (the card ties them).
-/
import Derived.Test.YtghbgeaammnkcaaGreatDoorVcTxt
import Derived.Test.YtghbgeaammnkcaaGreatDoorRcFns
import Derived.Test.YtghbgeaammnkcaaGreatDoorPuJl
import Derived.Test.YtghbgeaammnkcaaGreatDoorVcArg
import Derived.Test.YtghbgeaammnkcaaGreatDoorVcTop
import Derived.Test.YtghbgeaammnkcaaGreatDoorRows
import Derived.Test.YtghbgeaammnkcaaGreatDoorTie
import Derived.Test.YtghbgeaammnkcaaGreatDoorCards
import Derived.SevenTiedAt
import Derived.LaidMore
import Derived.Stop.Joined
import Derived.Stop.LaidErr
import Derived.MakeChecks
namespace Go.Proofs.YtghbgeaammnkcaaGreatDoor
set_option linter.unusedVariables false
set_option linter.unusedSimpArgs false
open Go Go.Vc Go.ChangeShapes Go.WideShapes Go.ChangeAt Go.RowKit
section
variable {H : Type} {enc : TypeId × Value → H}
instance : Inhabited Zag := ⟨(Zag.mk (0 : Int) (0 : Int) ([] : List (List Int)))⟩
set_option maxRecDepth 100000 in
theorem Zu1 : Reads enc P (elOf Zq4 ZpR) 24 := by
  intro W base spare held fuel cs x h
  have hl := ZFh h (u := (2, 0)) (n := 3) (by kernel_rfl) (by kernel_rfl)
  obtain ⟨a0, h0, k0⟩ := Zqc h 0 (t' := 2) (off := 0) (z := 1) (E := elOf (El.int .i64) I64) (by kernel_rfl) (by kernel_rfl) (ZqC (by kernel_rfl))
  obtain ⟨a1, h1, k1⟩ := Zqc h 1 (t' := 2) (off := 1) (z := 1) (E := elOf (El.int .i64) I64) (by kernel_rfl) (by kernel_rfl) (ZqC (by kernel_rfl))
  obtain ⟨a2, h2, k2⟩ := Zqc h 2 (t' := 22) (off := 2) (z := 1) (E := elOf (El.sl (El.sl (El.int .i64))) (OkL (OkL I64))) (by kernel_rfl) (by kernel_rfl) (ZsD (e := 46) (by kernel_rfl) (by kernel_rfl) (ZsD (e := 2) (by kernel_rfl) (by kernel_rfl) (ZqC (by kernel_rfl))))
  exact ⟨Zag.mk a0 a1 a2, (Zq7 (o := 0) (z := 1) h0 (Zq7 (o := 1) (z := 1) h1 (ZDd (o := 2) h2 (by omega)))), ⟨k0, k1, k2⟩⟩
set_option maxRecDepth 100000 in
theorem ZxY {W : World} {base : Nat} {v0 : Value} {d0 : DataW H} {p0 : List MemPlace} (k0 : Value.okWide P W .any base 24 v0) (h0 : DataW.Trod enc P W 0 (fun _ => true) true 24 v0 d0 p0) (hL : TabH 0 W.heap) : LawOk P Zpv #[v0] W.heap := by
  obtain ⟨cs0, a0, rfl, e0, o0⟩ := ZCi (u := (2, 0)) (by kernel_rfl) k0 h0 Zu1
  obtain ⟨u0_2, rfl, f0_2⟩ := Zv4 e0
  exact Zyk rfl (ZBM (ZFx _) (ZCx o0) f0_2 hL)
end
def valD : DataW Unit → List Value
  | .lit (.int k n) => [.int k n]
  | .agg ds => ds.map fun d => match d with
    | .lit (.int k n) => .int k n
    | _ => undef
  | _ => []
def valsOf : DataW Unit → List Value
  | .agg ds => ds.flatMap valD
  | _ => []
def layO (vs : List Value) : Obj → Obj
  | .cells _ t f => .cells vs.toArray t f
  | o => o
noncomputable def layH (l : List (String × DataW Unit)) (h : Array Obj) : Array Obj :=
  l.foldl (fun h x => match x.2 with
    | d => h.modify ((Tryz.prog.globalNamed x.1).getD 0) (layO (valsOf d))) h
noncomputable def laidW (os : Os) : World :=
  { World.holding Tryz.prog os ⟨#[], #[], []⟩ with heap := layH Rows.fnExactObjectFactsRow.laid (World.holding Tryz.prog os ⟨#[], #[], []⟩).heap }
set_option maxRecDepth 100000 in
theorem ZvE (os : Os) (args : Array Value) : laidMetH Tryz.prog Rows.fnExactObjectFactsRow.laid ((laidW os).forCall (fun _ _ => 0) ⟨#[], args, []⟩).memory := by
  rw [MakeChecks.laidMetH_plain _ _ _ (by kernel_rfl)]
  exact laidMet_of_run' 8 (by kernel_rfl) (by kernel_rfl)
set_option maxRecDepth 100000 in
theorem ZvV {W : World} (h : laidMetH Tryz.prog Rows.fnExactObjectFactsRow.laid W) : TabH 0 W.heap := by
  rw [MakeChecks.laidMetH_plain _ _ _ (by kernel_rfl)] at h
  have h3 : laidMet Tryz.prog [(_, Rows.laid_internal_strconv_uint64pow10)] W := (show laidMet Tryz.prog (_ :: _ :: [(_, Rows.laid_internal_strconv_uint64pow10)]) W from h).tail.tail
  have e : (Rows.laid_internal_strconv_uint64pow10 : DataW Unit) = Lib.tabData .u64 Lib.pow10Tab := by kernel_rfl
  rw [e] at h3
  have ht : TabH 0 W.heap := TabH.of (g := 0) (by kernel_rfl) (Lib.tabIs_of_head (g := 0) (t := 276) (e := 246) (n := 20) (by kernel_rfl) (by kernel_rfl) (by kernel_rfl) (by kernel_rfl) (by kernel_rfl) (by kernel_rfl) h3)
  exact ht
set_option maxRecDepth 100000 in
theorem ZCd (os : Os) (started : os.Started) (H : Type) (enc : TypeId × Value → H) :
    ReturnsInHanded {} Tryz.checked os 3 .any (fun w args => (Rows.fnExactObjectFactsSpec.pre enc Tryz.prog Tryz.f3 Rows.fnExactObjectFactsRow.domain false w args ∧ laidMetH Tryz.prog Rows.fnExactObjectFactsRow.laid w) ∧ sizedMet enc Tryz.prog Tryz.f3 (OpenSpec.ofChange Rows.fnExactObjectFactsSpec) false w args) (Rows.fnExactObjectFactsSpec.post enc Tryz.prog Tryz.f3 false true false false) := by
  refine returnsInHanded_of_change_and (C := Tryz.checked) (X := fun w _ => laidMetH Tryz.prog Rows.fnExactObjectFactsRow.laid w) (fun _ _ _ hh h => h.of_heap hh) (by kernel_rfl) started (by kernel_rfl) Tryz.func3
    (ChangeSpec.witness_at (enc := enc) (C := Tryz.checked) (os := os) (X := fun w _ => laidMetH Tryz.prog Rows.fnExactObjectFactsRow.laid w) false (laidW os) #[.agg #[.int .i64 0, .int .i64 0, .slice none 0 0]] 8 rfl (by kernel_rfl) (by kernel_rfl) (by kernel_rfl) (by kernel_rfl) (by kernel_rfl) (ZvE os _)) ?_
  intro W base args ds gs before hval hW hcnd _ hL _
  have hW' := hW
  obtain ⟨p, q, hA0, hV, rfl, hfz, hnd⟩ := hW
  have hA : DataW.TrodAll enc Tryz.prog W 0 (fun _ => true) true Tryz.f3.params.toList args.toList ds p := hA0
  have hval' : ∀ (j : Nat) t v, Tryz.f3.params[j]? = some t → args[j]? = some v → Value.okWide Tryz.prog W .any base t v := hval
  rw [Tryz.params3] at hA hval'
  obtain ⟨v0, vs0, d0, ds0, p0, q0, a0, rfl, rfl, t0, r0⟩ := trodAll_cons hA
  obtain ⟨an, rfl, rfl⟩ := trodAll_nil r0
  obtain rfl : args = #[v0] := by apply Array.ext'; simp_all
  obtain ⟨rfl, rfl⟩ := trodVars_none hV
  refine (LawOk.calls (ZxY (hval' 0 _ v0 rfl rfl) t0 (ZvV hL))).mono fun e W' ⟨he, hb⟩ => ⟨_, he, ?_⟩
  exact lawPost (tb := 4) (by kernel_rfl) (by kernel_rfl) rfl (by kernel_rfl) rfl hW' rfl rfl rfl hb
theorem and_r {a b c : Bool} (h : (a && (b && c)) = true) : ((a && b) && c) = true := by rw [Bool.and_assoc]; exact h
theorem and_l {a b c : Bool} (h : ((a && b) && c) = true) : (a && (b && c)) = true := by rw [← Bool.and_assoc]; exact h
theorem Zpu {a b : Bool} (ha : a = true) (hb : b = true) : (a && b) = true := by rw [ha, hb]; rfl
set_option maxRecDepth 100000 in
set_option maxHeartbeats 4000000 in
theorem ZCU : joinedFacts Tryz.checked.prog 3 Tryz.f3 Rows.fnExactObjectFactsSpec Rows.fnExactObjectFactsRow = true := by
  unfold joinedFacts
  iterate 22 refine and_r ?_
  refine Zpu (by as_aux_lemma => kernel_rfl) ?_
  refine and_l ?_
  refine Zpu (by as_aux_lemma => kernel_rfl) ?_
  refine and_l ?_
  refine Zpu (by as_aux_lemma => kernel_rfl) ?_
  as_aux_lemma => kernel_rfl
set_option maxHeartbeats 4000000 in
theorem ZxZ : Rows.FnExactObjectFactsSaid :=
  OpenClaim.holds_of_wide 3 Tryz.f3 rfl rfl rfl rfl rfl rfl rfl ⟨rfl, rfl, rfl, rfl, rfl⟩ rfl rfl rfl rfl rfl (by as_aux_lemma => kernel_rfl) Tryz.func3 ZCU
    (of_decide_eq_true (by as_aux_lemma => kernel_rfl)) (by unfold Func.isWrapper; first | (rw [if_pos (by decide +kernel)]; kernel_rfl) | (rw [if_neg (by decide +kernel)]; exact ⟨rfl, rfl⟩))
    (fun os started H enc _ => ZCd os started H enc)
set_option maxRecDepth 100000 in
theorem ZEI : Rows.fnExactObjectFactsRow.wfByText (OpenSpec.ofChange Rows.fnExactObjectFactsSpec) = true := by kernel_rfl
set_option maxRecDepth 100000 in
theorem Zzu : Tryz.pinned.checked.prog.mainIs = some (Rows.fnExactObjectFactsCard.stood.harness.1, Rows.fnExactObjectFactsCard.stood.harness.2.toList) := by kernel_rfl
set_option maxRecDepth 100000 in
theorem ZCM : false = Tryz.pinned.checked.prog.looks [] := by kernel_rfl
set_option maxRecDepth 100000 in
theorem ZyJ : false = Rows.fnExactObjectFactsRow.goesBy Tryz.pinned.checked.prog := by kernel_rfl
set_option maxRecDepth 100000 in
theorem Zx6 : (Tryz.f3.params.all fun u => !Tryz.prog.wantsStandIn u) = true := by kernel_rfl
set_option maxRecDepth 100000 in
theorem ZvY : Tryz.pinned.checked.prog.funcNamed Rows.fnExactObjectFactsRow.func = some 3 := by kernel_rfl
set_option maxRecDepth 100000 in
theorem fnExactObjectFacts_holds : Rows.FnExactObjectFactsCardSaid :=
  Claim7.holds_tied_plain_at .later [] [.data, .data, .data] true Rows.fnExactObjectFactsCard.stood.harness false
    ZxZ (fun _ h => by cases h) ZEI (fun _ h => by cases h) fnExactObjectFacts_row_tie rfl ⟨rfl, rfl⟩ Zzu rfl
    (fun f fn hf hfn => by
      have e : some f = some 3 := hf.symm.trans ZvY
      obtain rfl : f = 3 := Option.some.inj e
      obtain rfl : fn = Tryz.f3 := (Option.some.inj (Tryz.func3.symm.trans hfn)).symm
      exact ⟨ZCM, fun j t ht => by
        have hm : t ∈ Tryz.f3.params := Array.mem_of_getElem? ht
        exact (show Tryz.prog.wantsStandIn t = false by simpa using Array.all_eq_true_iff_forall_mem.1 Zx6 t hm)⟩)
    ZyJ
#print axioms fnExactObjectFacts_holds
end Go.Proofs.YtghbgeaammnkcaaGreatDoor
