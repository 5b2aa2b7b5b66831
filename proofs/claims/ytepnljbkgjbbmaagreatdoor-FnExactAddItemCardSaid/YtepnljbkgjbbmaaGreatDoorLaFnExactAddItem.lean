/-
 Proved: FnExactAddItem returns true for every input, and each argument reads afterwards as it read before. Condition: the tables that the row lists hold what the text of the program lays (the card ties them).
-/
import Derived.Test.YtepnljbkgjbbmaaGreatDoorVcTxt
import Derived.Test.YtepnljbkgjbbmaaGreatDoorRcFns
import Derived.Test.YtepnljbkgjbbmaaGreatDoorPuJl
import Derived.Test.YtepnljbkgjbbmaaGreatDoorVcArg
import Derived.Test.YtepnljbkgjbbmaaGreatDoorVcTop
import Derived.Test.YtepnljbkgjbbmaaGreatDoorRows
import Derived.Test.YtepnljbkgjbbmaaGreatDoorTie
import Derived.Test.YtepnljbkgjbbmaaGreatDoorCards
import Derived.SevenTiedAt
import Derived.LaidMore
import Derived.Stop.Joined
import Derived.Stop.LaidErr
import Derived.MakeChecks
namespace Go.Proofs.YtepnljbkgjbbmaaGreatDoor
set_option linter.unusedVariables false
set_option linter.unusedSimpArgs false
open Go Go.Vc Go.ChangeShapes Go.WideShapes Go.ChangeAt Go.RowKit
section
variable {H : Type} {enc : TypeId × Value → H}
instance : Inhabited Z1 := ⟨(Z1.mk (0 : Int) (0 : Int) ([] : List (List Int)))⟩
set_option maxRecDepth 100000 in
theorem ZqU : Reads enc P (elOf Zdl Zih) 27 := by
  intro W base spare held fuel cs x h
  have hl := Zob h (u := (2, 0)) (n := 3) (by kernel_rfl) (by kernel_rfl)
  obtain ⟨a0, h0, k0⟩ := Zd5 h 0 (t' := 2) (off := 0) (z := 1) (E := elOf (El.int .i64) I64) (by kernel_rfl) (by kernel_rfl) (ZpO (by kernel_rfl))
  obtain ⟨a1, h1, k1⟩ := Zd5 h 1 (t' := 2) (off := 1) (z := 1) (E := elOf (El.int .i64) I64) (by kernel_rfl) (by kernel_rfl) (ZpO (by kernel_rfl))
  obtain ⟨a2, h2, k2⟩ := Zd5 h 2 (t' := 25) (off := 2) (z := 1) (E := elOf (El.sl (El.sl (El.int .i64))) (OkL (OkL I64))) (by kernel_rfl) (by kernel_rfl) (ZmU (e := 82) (by kernel_rfl) (by kernel_rfl) (ZmU (e := 2) (by kernel_rfl) (by kernel_rfl) (ZpO (by kernel_rfl))))
  exact ⟨Z1.mk a0 a1 a2, (Zko (o := 0) (z := 1) h0 (Zko (o := 1) (z := 1) h1 (ZoK (o := 2) h2 (by omega)))), ⟨k0, k1, k2⟩⟩
instance : Inhabited Zal := ⟨(Zal.mk (⟨#[]⟩ : ByteArray) (Z1.mk (0 : Int) (0 : Int) ([] : List (List Int))) (⟨#[]⟩ : ByteArray))⟩
set_option maxRecDepth 100000 in
theorem ZFK : Reads enc P (elOf ZaO ZgE) 80 := by
  intro W base spare held fuel cs x h
  have hl := Zob h (u := (9, 0)) (n := 5) (by kernel_rfl) (by kernel_rfl)
  obtain ⟨a0, h0, k0⟩ := Zd5 h 0 (t' := 9) (off := 0) (z := 1) (E := elOf El.str OkS) (by kernel_rfl) (by kernel_rfl) (Zsi (by kernel_rfl))
  obtain ⟨a1, h1, k1⟩ := Zd5 h 1 (t' := 27) (off := 1) (z := 3) (E := elOf Zdl Zih) (by kernel_rfl) (by kernel_rfl) ZqU
  obtain ⟨a2, h2, k2⟩ := Zd5 h 2 (t' := 9) (off := 4) (z := 1) (E := elOf El.str OkS) (by kernel_rfl) (by kernel_rfl) (Zsi (by kernel_rfl))
  exact ⟨Zal.mk a0 a1 a2, (Zko (o := 0) (z := 1) h0 (Zko (o := 1) (z := 3) h1 (ZoK (o := 4) h2 (by omega)))), ⟨k0, k1, k2⟩⟩
instance : Inhabited Zae := ⟨(Zae.mk ([] : List Zal))⟩
set_option maxRecDepth 100000 in
theorem ZG1 : Reads enc P (elOf ZhR Zo6) 24 := by
  intro W base spare held fuel cs x h
  have hl := Zob h (u := (22, 0)) (n := 1) (by kernel_rfl) (by kernel_rfl)
  obtain ⟨a0, h0, k0⟩ := Zd5 h 0 (t' := 22) (off := 0) (z := 1) (E := elOf (El.sl ZaO) (OkL ZgE)) (by kernel_rfl) (by kernel_rfl) (ZmU (e := 80) (by kernel_rfl) (by kernel_rfl) ZFK)
  exact ⟨Zae.mk a0, (ZoK (o := 0) h0 (by omega)), k0⟩
set_option maxRecDepth 100000 in
theorem ZA3 {W : World} {base : Nat} {v0 v1 v2 v3 : Value} {d0 d1 d2 d3 : DataW H} {p0 p1 p2 p3 : List MemPlace} (k0 : Value.okWide P W .any base 24 v0) (h0 : DataW.Trod enc P W 0 (fun _ => true) true 24 v0 d0 p0) (k1 : Value.okWide P W .any base 9 v1) (h1 : DataW.Trod enc P W 0 (fun _ => true) true 9 v1 d1 p1) (k2 : Value.okWide P W .any base 27 v2) (h2 : DataW.Trod enc P W 0 (fun _ => true) true 27 v2 d2 p2) (k3 : Value.okWide P W .any base 2 v3) (h3 : DataW.Trod enc P W 0 (fun _ => true) true 2 v3 d3 p3) (hL : TabH 0 W.heap) : LawOk P 4 #[v0, v1, v2, v3] W.heap := by
  obtain ⟨cs0, a0, rfl, e0, o0⟩ := Zvj (u := (22, 0)) (by kernel_rfl) k0 h0 ZG1
  obtain ⟨u0_0, rfl, f0_0⟩ := ZxH e0
  obtain ⟨a1, rfl, o1⟩ := Zzt (by kernel_rfl) k1 h1
  obtain ⟨cs2, a2, rfl, e2, o2⟩ := Zvj (u := (2, 0)) (by kernel_rfl) k2 h2 ZqU
  obtain ⟨u2_2, rfl, f2_2⟩ := ZFB e2
  obtain ⟨a3, rfl, o3⟩ := ZC8 (by kernel_rfl) k3 h3
  exact ZDE rfl (ZHg (ZDr _) (ZGr o0 o1 o2 o3) f0_0 f2_2 hL)
end
def valD : DataW Unit → List Value
  | .lit (.int k n) => [.int k n]
  | .agg ds => ds.map fun d => match d with
    | .lit (.int k n) => .int k n
    | _ => undef
  | _ => []
def valsOf : DataW Unit → List Value
  | .agg ds => ds.flatMap valD
  | _ => []
def layO (vs : List Value) : Obj → Obj
  | .cells _ t f => .cells vs.toArray t f
  | o => o
noncomputable def layH (l : List (String × DataW Unit)) (h : Array Obj) : Array Obj :=
  l.foldl (fun h x => match x.2 with
    | d => h.modify ((Tryz.prog.globalNamed x.1).getD 0) (layO (valsOf d))) h
noncomputable def laidW (os : Os) : World :=
  { World.holding Tryz.prog os ⟨#[], #[], []⟩ with heap := layH Rows.fnExactAddItemRow.laid (World.holding Tryz.prog os ⟨#[], #[], []⟩).heap }
set_option maxRecDepth 100000 in
theorem ZEL (os : Os) (args : Array Value) : laidMetH Tryz.prog Rows.fnExactAddItemRow.laid ((laidW os).forCall (fun _ _ => 0) ⟨#[], args, []⟩).memory := by
  rw [MakeChecks.laidMetH_plain _ _ _ (by kernel_rfl)]
  exact laidMet_of_run' 8 (by kernel_rfl) (by kernel_rfl)
set_option maxRecDepth 100000 in
theorem ZDW {W : World} (h : laidMetH Tryz.prog Rows.fnExactAddItemRow.laid W) : TabH 0 W.heap := by
  rw [MakeChecks.laidMetH_plain _ _ _ (by kernel_rfl)] at h
  have h3 : laidMet Tryz.prog [(_, Rows.laid_internal_strconv_uint64pow10)] W := (show laidMet Tryz.prog (_ :: _ :: [(_, Rows.laid_internal_strconv_uint64pow10)]) W from h).tail.tail
  have e : (Rows.laid_internal_strconv_uint64pow10 : DataW Unit) = Lib.tabData .u64 Lib.pow10Tab := by kernel_rfl
  rw [e] at h3
  have ht : TabH 0 W.heap := TabH.of (g := 0) (by kernel_rfl) (Lib.tabIs_of_head (g := 0) (t := 322) (e := 258) (n := 20) (by kernel_rfl) (by kernel_rfl) (by kernel_rfl) (by kernel_rfl) (by kernel_rfl) (by kernel_rfl) h3)
  exact ht
set_option maxRecDepth 100000 in
theorem ZGR (os : Os) (started : os.Started) (H : Type) (enc : TypeId × Value → H) :
    ReturnsInHanded {} Tryz.checked os 4 .any (fun w args => (Rows.fnExactAddItemSpec.pre enc Tryz.prog Tryz.f4 Rows.fnExactAddItemRow.domain false w args ∧ laidMetH Tryz.prog Rows.fnExactAddItemRow.laid w) ∧ sizedMet enc Tryz.prog Tryz.f4 (OpenSpec.ofChange Rows.fnExactAddItemSpec) false w args) (Rows.fnExactAddItemSpec.post enc Tryz.prog Tryz.f4 false true false false) := by
  refine returnsInHanded_of_change_and (C := Tryz.checked) (X := fun w _ => laidMetH Tryz.prog Rows.fnExactAddItemRow.laid w) (fun _ _ _ hh h => h.of_heap hh) (by kernel_rfl) started (by kernel_rfl) Tryz.func4
    (ChangeSpec.witness_at (enc := enc) (C := Tryz.checked) (os := os) (X := fun w _ => laidMetH Tryz.prog Rows.fnExactAddItemRow.laid w) false (laidW os) #[.agg #[.slice none 0 0], .string ⟨#[]⟩, .agg #[.int .i64 0, .int .i64 0, .slice none 0 0], .int .i64 0] 8 rfl (by kernel_rfl) (by kernel_rfl) (by kernel_rfl) (by kernel_rfl) (by kernel_rfl) (ZEL os _)) ?_
  intro W base args ds gs before hval hW hcnd _ hL _
  have hW' := hW
  obtain ⟨p, q, hA0, hV, rfl, hfz, hnd⟩ := hW
  have hA : DataW.TrodAll enc Tryz.prog W 0 (fun _ => true) true Tryz.f4.params.toList args.toList ds p := hA0
  have hval' : ∀ (j : Nat) t v, Tryz.f4.params[j]? = some t → args[j]? = some v → Value.okWide Tryz.prog W .any base t v := hval
  rw [Tryz.params4] at hA hval'
  obtain ⟨v0, vs0, d0, ds0, p0, q0, a0, rfl, rfl, t0, r0⟩ := trodAll_cons hA
  obtain ⟨v1, vs1, d1, ds1, p1, q1, a1, rfl, rfl, t1, r1⟩ := trodAll_cons r0
  obtain ⟨v2, vs2, d2, ds2, p2, q2, a2, rfl, rfl, t2, r2⟩ := trodAll_cons r1
  obtain ⟨v3, vs3, d3, ds3, p3, q3, a3, rfl, rfl, t3, r3⟩ := trodAll_cons r2
  obtain ⟨an, rfl, rfl⟩ := trodAll_nil r3
  obtain rfl : args = #[v0, v1, v2, v3] := by apply Array.ext'; simp_all
  obtain ⟨rfl, rfl⟩ := trodVars_none hV
  refine (LawOk.calls (ZA3 (hval' 0 _ v0 rfl rfl) t0 (hval' 1 _ v1 rfl rfl) t1 (hval' 2 _ v2 rfl rfl) t2 (hval' 3 _ v3 rfl rfl) t3 (ZDW hL))).mono fun e W' ⟨he, hb⟩ => ⟨_, he, ?_⟩
  exact lawPost (tb := 4) (by kernel_rfl) (by kernel_rfl) rfl (by kernel_rfl) rfl hW' rfl rfl rfl hb
theorem and_r {a b c : Bool} (h : (a && (b && c)) = true) : ((a && b) && c) = true := by rw [Bool.and_assoc]; exact h
theorem and_l {a b c : Bool} (h : ((a && b) && c) = true) : (a && (b && c)) = true := by rw [← Bool.and_assoc]; exact h
theorem Znu {a b : Bool} (ha : a = true) (hb : b = true) : (a && b) = true := by rw [ha, hb]; rfl
set_option maxRecDepth 100000 in
set_option maxHeartbeats 4000000 in
theorem ZHh : joinedFacts Tryz.checked.prog 4 Tryz.f4 Rows.fnExactAddItemSpec Rows.fnExactAddItemRow = true := by
  unfold joinedFacts
  iterate 22 refine and_r ?_
  refine Znu (by as_aux_lemma => kernel_rfl) ?_
  refine and_l ?_
  refine Znu (by as_aux_lemma => kernel_rfl) ?_
  refine and_l ?_
  refine Znu (by as_aux_lemma => kernel_rfl) ?_
  as_aux_lemma => kernel_rfl
set_option maxHeartbeats 4000000 in
theorem ZEK : Rows.FnExactAddItemSaid :=
  OpenClaim.holds_of_wide 4 Tryz.f4 rfl rfl rfl rfl rfl rfl rfl ⟨rfl, rfl, rfl, rfl, rfl⟩ rfl rfl rfl rfl rfl (by as_aux_lemma => kernel_rfl) Tryz.func4 ZHh
    (of_decide_eq_true (by as_aux_lemma => kernel_rfl)) (by unfold Func.isWrapper; first | (rw [if_pos (by decide +kernel)]; kernel_rfl) | (rw [if_neg (by decide +kernel)]; exact ⟨rfl, rfl⟩))
    (fun os started H enc _ => ZGR os started H enc)
set_option maxRecDepth 100000 in
theorem ZAs : Rows.fnExactAddItemRow.wfByText (OpenSpec.ofChange Rows.fnExactAddItemSpec) = true := by kernel_rfl
set_option maxRecDepth 100000 in
theorem Zzj : Tryz.pinned.checked.prog.mainIs = some (Rows.fnExactAddItemCard.stood.harness.1, Rows.fnExactAddItemCard.stood.harness.2.toList) := by kernel_rfl
set_option maxRecDepth 100000 in
theorem ZEw : false = Tryz.pinned.checked.prog.looks [] := by kernel_rfl
set_option maxRecDepth 100000 in
theorem ZwV : false = Rows.fnExactAddItemRow.goesBy Tryz.pinned.checked.prog := by kernel_rfl
set_option maxRecDepth 100000 in
theorem ZBr : (Tryz.f4.params.all fun u => !Tryz.prog.wantsStandIn u) = true := by kernel_rfl
set_option maxRecDepth 100000 in
theorem ZyI : Tryz.pinned.checked.prog.funcNamed Rows.fnExactAddItemRow.func = some 4 := by kernel_rfl
set_option maxRecDepth 100000 in
theorem fnExactAddItem_holds : Rows.FnExactAddItemCardSaid :=
  Claim7.holds_tied_plain_at .later [] [.data, .data, .data] true Rows.fnExactAddItemCard.stood.harness false
    ZEK (fun _ h => by cases h) ZAs (fun _ h => by cases h) fnExactAddItem_row_tie rfl ⟨rfl, rfl⟩ Zzj rfl
    (fun f fn hf hfn => by
      have e : some f = some 4 := hf.symm.trans ZyI
      obtain rfl : f = 4 := Option.some.inj e
      obtain rfl : fn = Tryz.f4 := (Option.some.inj (Tryz.func4.symm.trans hfn)).symm
      exact ⟨ZEw, fun j t ht => by
        have hm : t ∈ Tryz.f4.params := Array.mem_of_getElem? ht
        exact (show Tryz.prog.wantsStandIn t = false by simpa using Array.all_eq_true_iff_forall_mem.1 ZBr t hm)⟩)
    ZwV
#print axioms fnExactAddItem_holds
end Go.Proofs.YtepnljbkgjbbmaaGreatDoor
