/-
 Proved: FnExactItemLike returns true for every input, and each argument reads afterwards as it read before. Condition: the tables that the row lists hold what the text of the program lays (the card ties them).
-/
import Derived.Test.YtepnljbkgjbbmaaGreatDoorVcTxt
import Derived.Test.YtepnljbkgjbbmaaGreatDoorRcFns
import Derived.Test.YtepnljbkgjbbmaaGreatDoorPuJl
import Derived.Test.YtepnljbkgjbbmaaGreatDoorVcArg
import Derived.Test.YtepnljbkgjbbmaaGreatDoorVcTop
import Derived.Test.YtepnljbkgjbbmaaGreatDoorRows
import Derived.Test.YtepnljbkgjbbmaaGreatDoorTie
import Derived.Test.YtepnljbkgjbbmaaGreatDoorCards
import Derived.SevenTiedAt
import Derived.LaidMore
import Derived.Stop.Joined
import Derived.Stop.LaidErr
import Derived.MakeChecks
namespace Go.Proofs.YtepnljbkgjbbmaaGreatDoor
set_option linter.unusedVariables false
set_option linter.unusedSimpArgs false
open Go Go.Vc Go.ChangeShapes Go.WideShapes Go.ChangeAt Go.RowKit
section
variable {H : Type} {enc : TypeId × Value → H}
instance : Inhabited Z4 := ⟨(Z4.mk (0 : Int) (0 : Int) ([] : List (List Int)))⟩
set_option maxRecDepth 100000 in
theorem ZsJ : Reads enc P (elOf Zfb ZjQ) 27 := by
  intro W base spare held fuel cs x h
  have hl := Znn h (u := (2, 0)) (n := 3) (by kernel_rfl) (by kernel_rfl)
  obtain ⟨a0, h0, k0⟩ := Zev h 0 (t' := 2) (off := 0) (z := 1) (E := elOf (El.int .i64) I64) (by kernel_rfl) (by kernel_rfl) (Zn1 (by kernel_rfl))
  obtain ⟨a1, h1, k1⟩ := Zev h 1 (t' := 2) (off := 1) (z := 1) (E := elOf (El.int .i64) I64) (by kernel_rfl) (by kernel_rfl) (Zn1 (by kernel_rfl))
  obtain ⟨a2, h2, k2⟩ := Zev h 2 (t' := 25) (off := 2) (z := 1) (E := elOf (El.sl (El.sl (El.int .i64))) (OkL (OkL I64))) (by kernel_rfl) (by kernel_rfl) (Znm (e := 82) (by kernel_rfl) (by kernel_rfl) (Znm (e := 2) (by kernel_rfl) (by kernel_rfl) (Zn1 (by kernel_rfl))))
  exact ⟨Z4.mk a0 a1 a2, (ZkY (o := 0) (z := 1) h0 (ZkY (o := 1) (z := 1) h1 (Zne (o := 2) h2 (by omega)))), ⟨k0, k1, k2⟩⟩
instance : Inhabited Zal := ⟨(Zal.mk (⟨#[]⟩ : ByteArray) (Z4.mk (0 : Int) (0 : Int) ([] : List (List Int))) (⟨#[]⟩ : ByteArray))⟩
set_option maxRecDepth 100000 in
theorem ZBL : Reads enc P (elOf Za0 ZhR) 80 := by
  intro W base spare held fuel cs x h
  have hl := Znn h (u := (9, 0)) (n := 5) (by kernel_rfl) (by kernel_rfl)
  obtain ⟨a0, h0, k0⟩ := Zev h 0 (t' := 9) (off := 0) (z := 1) (E := elOf El.str OkS) (by kernel_rfl) (by kernel_rfl) (ZpV (by kernel_rfl))
  obtain ⟨a1, h1, k1⟩ := Zev h 1 (t' := 27) (off := 1) (z := 3) (E := elOf Zfb ZjQ) (by kernel_rfl) (by kernel_rfl) ZsJ
  obtain ⟨a2, h2, k2⟩ := Zev h 2 (t' := 9) (off := 4) (z := 1) (E := elOf El.str OkS) (by kernel_rfl) (by kernel_rfl) (ZpV (by kernel_rfl))
  exact ⟨Zal.mk a0 a1 a2, (ZkY (o := 0) (z := 1) h0 (ZkY (o := 1) (z := 3) h1 (Zne (o := 4) h2 (by omega)))), ⟨k0, k1, k2⟩⟩
instance : Inhabited Zag := ⟨(Zag.mk ([] : List Zal))⟩
set_option maxRecDepth 100000 in
theorem ZyG : Reads enc P (elOf Zkj ZnA) 24 := by
  intro W base spare held fuel cs x h
  have hl := Znn h (u := (22, 0)) (n := 1) (by kernel_rfl) (by kernel_rfl)
  obtain ⟨a0, h0, k0⟩ := Zev h 0 (t' := 22) (off := 0) (z := 1) (E := elOf (El.sl Za0) (OkL ZhR)) (by kernel_rfl) (by kernel_rfl) (Znm (e := 80) (by kernel_rfl) (by kernel_rfl) ZBL)
  exact ⟨Zag.mk a0, (Zne (o := 0) h0 (by omega)), k0⟩
set_option maxRecDepth 100000 in
theorem ZHg {W : World} {base : Nat} {v0 v1 v2 : Value} {d0 d1 d2 : DataW H} {p0 p1 p2 : List MemPlace} (k0 : Value.okWide P W .any base 24 v0) (h0 : DataW.Trod enc P W 0 (fun _ => true) true 24 v0 d0 p0) (k1 : Value.okWide P W .any base 27 v1) (h1 : DataW.Trod enc P W 0 (fun _ => true) true 27 v1 d1 p1) (k2 : Value.okWide P W .any base 2 v2) (h2 : DataW.Trod enc P W 0 (fun _ => true) true 2 v2 d2 p2) (hL : TabH 0 W.heap) : LawOk P 3 #[v0, v1, v2] W.heap := by
  obtain ⟨cs0, a0, rfl, e0, o0⟩ := ZtA (u := (22, 0)) (by kernel_rfl) k0 h0 ZyG
  obtain ⟨u0_0, rfl, f0_0⟩ := ZwB e0
  obtain ⟨cs1, a1, rfl, e1, o1⟩ := ZtA (u := (2, 0)) (by kernel_rfl) k1 h1 ZsJ
  obtain ⟨u1_2, rfl, f1_2⟩ := ZHa e1
  obtain ⟨a2, rfl, o2⟩ := ZAi (by kernel_rfl) k2 h2
  exact ZFo rfl (ZF0 (ZCV _) (ZDt o0 o1 o2) f0_0 f1_2 hL)
end
def valD : DataW Unit → List Value
  | .lit (.int k n) => [.int k n]
  | .agg ds => ds.map fun d => match d with
    | .lit (.int k n) => .int k n
    | _ => undef
  | _ => []
def valsOf : DataW Unit → List Value
  | .agg ds => ds.flatMap valD
  | _ => []
def layO (vs : List Value) : Obj → Obj
  | .cells _ t f => .cells vs.toArray t f
  | o => o
noncomputable def layH (l : List (String × DataW Unit)) (h : Array Obj) : Array Obj :=
  l.foldl (fun h x => match x.2 with
    | d => h.modify ((Tryz.prog.globalNamed x.1).getD 0) (layO (valsOf d))) h
noncomputable def laidW (os : Os) : World :=
  { World.holding Tryz.prog os ⟨#[], #[], []⟩ with heap := layH Rows.fnExactItemLikeRow.laid (World.holding Tryz.prog os ⟨#[], #[], []⟩).heap }
set_option maxRecDepth 100000 in
theorem ZGc (os : Os) (args : Array Value) : laidMetH Tryz.prog Rows.fnExactItemLikeRow.laid ((laidW os).forCall (fun _ _ => 0) ⟨#[], args, []⟩).memory := by
  rw [MakeChecks.laidMetH_plain _ _ _ (by kernel_rfl)]
  exact laidMet_of_run' 8 (by kernel_rfl) (by kernel_rfl)
set_option maxRecDepth 100000 in
theorem ZHp {W : World} (h : laidMetH Tryz.prog Rows.fnExactItemLikeRow.laid W) : TabH 0 W.heap := by
  rw [MakeChecks.laidMetH_plain _ _ _ (by kernel_rfl)] at h
  have h3 : laidMet Tryz.prog [(_, Rows.laid_internal_strconv_uint64pow10)] W := (show laidMet Tryz.prog (_ :: _ :: [(_, Rows.laid_internal_strconv_uint64pow10)]) W from h).tail.tail
  have e : (Rows.laid_internal_strconv_uint64pow10 : DataW Unit) = Lib.tabData .u64 Lib.pow10Tab := by kernel_rfl
  rw [e] at h3
  have ht : TabH 0 W.heap := TabH.of (g := 0) (by kernel_rfl) (Lib.tabIs_of_head (g := 0) (t := 322) (e := 258) (n := 20) (by kernel_rfl) (by kernel_rfl) (by kernel_rfl) (by kernel_rfl) (by kernel_rfl) (by kernel_rfl) h3)
  exact ht
set_option maxRecDepth 100000 in
theorem Zvl (os : Os) (started : os.Started) (H : Type) (enc : TypeId × Value → H) :
    ReturnsInHanded {} Tryz.checked os 3 .any (fun w args => (Rows.fnExactItemLikeSpec.pre enc Tryz.prog Tryz.f3 Rows.fnExactItemLikeRow.domain false w args ∧ laidMetH Tryz.prog Rows.fnExactItemLikeRow.laid w) ∧ sizedMet enc Tryz.prog Tryz.f3 (OpenSpec.ofChange Rows.fnExactItemLikeSpec) false w args) (Rows.fnExactItemLikeSpec.post enc Tryz.prog Tryz.f3 false true false false) := by
  refine returnsInHanded_of_change_and (C := Tryz.checked) (X := fun w _ => laidMetH Tryz.prog Rows.fnExactItemLikeRow.laid w) (fun _ _ _ hh h => h.of_heap hh) (by kernel_rfl) started (by kernel_rfl) Tryz.func3
    (ChangeSpec.witness_at (enc := enc) (C := Tryz.checked) (os := os) (X := fun w _ => laidMetH Tryz.prog Rows.fnExactItemLikeRow.laid w) false (laidW os) #[.agg #[.slice none 0 0], .agg #[.int .i64 0, .int .i64 0, .slice none 0 0], .int .i64 0] 8 rfl (by kernel_rfl) (by kernel_rfl) (by kernel_rfl) (by kernel_rfl) (by kernel_rfl) (ZGc os _)) ?_
  intro W base args ds gs before hval hW hcnd _ hL _
  have hW' := hW
  obtain ⟨p, q, hA0, hV, rfl, hfz, hnd⟩ := hW
  have hA : DataW.TrodAll enc Tryz.prog W 0 (fun _ => true) true Tryz.f3.params.toList args.toList ds p := hA0
  have hval' : ∀ (j : Nat) t v, Tryz.f3.params[j]? = some t → args[j]? = some v → Value.okWide Tryz.prog W .any base t v := hval
  rw [Tryz.params3] at hA hval'
  obtain ⟨v0, vs0, d0, ds0, p0, q0, a0, rfl, rfl, t0, r0⟩ := trodAll_cons hA
  obtain ⟨v1, vs1, d1, ds1, p1, q1, a1, rfl, rfl, t1, r1⟩ := trodAll_cons r0
  obtain ⟨v2, vs2, d2, ds2, p2, q2, a2, rfl, rfl, t2, r2⟩ := trodAll_cons r1
  obtain ⟨an, rfl, rfl⟩ := trodAll_nil r2
  obtain rfl : args = #[v0, v1, v2] := by apply Array.ext'; simp_all
  obtain ⟨rfl, rfl⟩ := trodVars_none hV
  refine (LawOk.calls (ZHg (hval' 0 _ v0 rfl rfl) t0 (hval' 1 _ v1 rfl rfl) t1 (hval' 2 _ v2 rfl rfl) t2 (ZHp hL))).mono fun e W' ⟨he, hb⟩ => ⟨_, he, ?_⟩
  exact lawPost (tb := 4) (by kernel_rfl) (by kernel_rfl) rfl (by kernel_rfl) rfl hW' rfl rfl rfl hb
theorem and_r {a b c : Bool} (h : (a && (b && c)) = true) : ((a && b) && c) = true := by rw [Bool.and_assoc]; exact h
theorem and_l {a b c : Bool} (h : ((a && b) && c) = true) : (a && (b && c)) = true := by rw [← Bool.and_assoc]; exact h
theorem Zoo {a b : Bool} (ha : a = true) (hb : b = true) : (a && b) = true := by rw [ha, hb]; rfl
set_option maxRecDepth 100000 in
set_option maxHeartbeats 4000000 in
theorem Zyr : joinedFacts Tryz.checked.prog 3 Tryz.f3 Rows.fnExactItemLikeSpec Rows.fnExactItemLikeRow = true := by
  unfold joinedFacts
  iterate 22 refine and_r ?_
  refine Zoo (by as_aux_lemma => kernel_rfl) ?_
  refine and_l ?_
  refine Zoo (by as_aux_lemma => kernel_rfl) ?_
  refine and_l ?_
  refine Zoo (by as_aux_lemma => kernel_rfl) ?_
  as_aux_lemma => kernel_rfl
set_option maxHeartbeats 4000000 in
theorem ZCl : Rows.FnExactItemLikeSaid :=
  OpenClaim.holds_of_wide 3 Tryz.f3 rfl rfl rfl rfl rfl rfl rfl ⟨rfl, rfl, rfl, rfl, rfl⟩ rfl rfl rfl rfl rfl (by as_aux_lemma => kernel_rfl) Tryz.func3 Zyr
    (of_decide_eq_true (by as_aux_lemma => kernel_rfl)) (by unfold Func.isWrapper; first | (rw [if_pos (by decide +kernel)]; kernel_rfl) | (rw [if_neg (by decide +kernel)]; exact ⟨rfl, rfl⟩))
    (fun os started H enc _ => Zvl os started H enc)
set_option maxRecDepth 100000 in
theorem ZHs : Rows.fnExactItemLikeRow.wfByText (OpenSpec.ofChange Rows.fnExactItemLikeSpec) = true := by kernel_rfl
set_option maxRecDepth 100000 in
theorem ZAt : Tryz.pinned.checked.prog.mainIs = some (Rows.fnExactItemLikeCard.stood.harness.1, Rows.fnExactItemLikeCard.stood.harness.2.toList) := by kernel_rfl
set_option maxRecDepth 100000 in
theorem Zzm : false = Tryz.pinned.checked.prog.looks [] := by kernel_rfl
set_option maxRecDepth 100000 in
theorem ZFH : false = Rows.fnExactItemLikeRow.goesBy Tryz.pinned.checked.prog := by kernel_rfl
set_option maxRecDepth 100000 in
theorem ZGW : (Tryz.f3.params.all fun u => !Tryz.prog.wantsStandIn u) = true := by kernel_rfl
set_option maxRecDepth 100000 in
theorem ZxN : Tryz.pinned.checked.prog.funcNamed Rows.fnExactItemLikeRow.func = some 3 := by kernel_rfl
set_option maxRecDepth 100000 in
theorem fnExactItemLike_holds : Rows.FnExactItemLikeCardSaid :=
  Claim7.holds_tied_plain_at .later [] [.data, .data, .data] true Rows.fnExactItemLikeCard.stood.harness false
    ZCl (fun _ h => by cases h) ZHs (fun _ h => by cases h) fnExactItemLike_row_tie rfl ⟨rfl, rfl⟩ ZAt rfl
    (fun f fn hf hfn => by
      have e : some f = some 3 := hf.symm.trans ZxN
      obtain rfl : f = 3 := Option.some.inj e
      obtain rfl : fn = Tryz.f3 := (Option.some.inj (Tryz.func3.symm.trans hfn)).symm
      exact ⟨Zzm, fun j t ht => by
        have hm : t ∈ Tryz.f3.params := Array.mem_of_getElem? ht
        exact (show Tryz.prog.wantsStandIn t = false by simpa using Array.all_eq_true_iff_forall_mem.1 ZGW t hm)⟩)
    ZFH
#print axioms fnExactItemLike_holds
end Go.Proofs.YtepnljbkgjbbmaaGreatDoor
