/-
 Proved: FnObjects returns true for every input, and each argument reads afterwards as it read before. Condition: the tables that the row lists hold what the text of the program lays (the card ties them).
-/
import Derived.Test.YtahnjnfpjcfklaaGreatDoorVcRd
import Derived.Test.YtahnjnfpjcfklaaGreatDoorRcFns
import Derived.Test.YtahnjnfpjcfklaaGreatDoorPuJl
import Derived.Test.YtahnjnfpjcfklaaGreatDoorVcArg
import Derived.Test.YtahnjnfpjcfklaaGreatDoorVcTop
import Derived.Test.YtahnjnfpjcfklaaGreatDoorRows
import Derived.Test.YtahnjnfpjcfklaaGreatDoorTie
import Derived.Test.YtahnjnfpjcfklaaGreatDoorCards
import Derived.SevenTiedAt
import Derived.LaidMore
import Derived.Stop.Joined
import Derived.Stop.LaidErr
import Derived.MakeChecks
namespace Go.Proofs.YtahnjnfpjcfklaaGreatDoor
set_option linter.unusedVariables false
set_option linter.unusedSimpArgs false
open Go Go.Vc Go.ChangeShapes Go.WideShapes Go.ChangeAt Go.RowKit
section
variable {H : Type} {enc : TypeId × Value → H}
set_option maxRecDepth 100000 in
theorem ZEk {W : World} {base : Nat} {v0 v1 : Value} {d0 d1 : DataW H} {p0 p1 : List MemPlace} (k0 : Value.okWide P W .any base 22 v0) (h0 : DataW.Trod enc P W 0 (fun _ => true) true 22 v0 d0 p0) (k1 : Value.okWide P W .any base 22 v1) (h1 : DataW.Trod enc P W 0 (fun _ => true) true 22 v1 d1 p1) (hL : LayH 3 [0] [1, 2] W.heap) : LawOk P 3 #[v0, v1] W.heap := by
  obtain ⟨a0, f0, l0⟩ := Zuu (e := 5) (z := 1) (E := elOf (El.int .u8) (fun x => 0 ≤ x ∧ x ≤ 255)) (by kernel_rfl) k0 h0 (Zql (e := 5) (by kernel_rfl) (by kernel_rfl) (Zue (by kernel_rfl)))
  obtain ⟨f0, m0⟩ := Zsj (E := (El.int .u8)) f0
  have o0 : OkL (fun x => 0 ≤ x ∧ x ≤ 255) a0 := ⟨l0, m0⟩
  obtain ⟨a1, f1, l1⟩ := Zuu (e := 5) (z := 1) (E := elOf (El.int .u8) (fun x => 0 ≤ x ∧ x ≤ 255)) (by kernel_rfl) k1 h1 (Zql (e := 5) (by kernel_rfl) (by kernel_rfl) (Zue (by kernel_rfl)))
  obtain ⟨f1, m1⟩ := Zsj (E := (El.int .u8)) f1
  have o1 : OkL (fun x => 0 ≤ x ∧ x ≤ 255) a1 := ⟨l1, m1⟩
  exact ZvR rfl (ZzH (CLe.refl _) (Zz4 o0 o1) f0 f1 hL)
end
def valD : DataW Unit → List Value
  | .lit (.int k n) => [.int k n]
  | .agg ds => ds.map fun d => match d with
    | .lit (.int k n) => .int k n
    | _ => undef
  | _ => []
def valsOf : DataW Unit → List Value
  | .agg ds => ds.flatMap valD
  | _ => []
def layO (vs : List Value) : Obj → Obj
  | .cells _ t f => .cells vs.toArray t f
  | o => o
noncomputable def layH (l : List (String × DataW Unit)) (h : Array Obj) : Array Obj :=
  l.foldl (fun h x => match x.2 with
    | .iface _ (.ptr (.agg [.lit (.string b)])) => (h.push (.cells #[.string ⟨b.toArray⟩] 316)).modify ((Tryz.prog.globalNamed x.1).getD 0) (layO [.iface 314 (.pointer (some ⟨h.size, 0, none⟩))])
    | d => h.modify ((Tryz.prog.globalNamed x.1).getD 0) (layO (valsOf d))) h
noncomputable def laidW (os : Os) : World :=
  { World.holding Tryz.prog os ⟨#[], #[], []⟩ with heap := layH Rows.fnObjectsRow.laid (World.holding Tryz.prog os ⟨#[], #[], []⟩).heap }
set_option maxRecDepth 100000 in
theorem ZIl (os : Os) (args : Array Value) : laidMetH Tryz.prog Rows.fnObjectsRow.laid ((laidW os).forCall (fun _ _ => 0) ⟨#[], args, []⟩).memory := by
  rw [MakeChecks.laidMetH_plain _ _ _ (by kernel_rfl)]
  exact laidMet_of_run' 8 (by kernel_rfl) (by kernel_rfl)
set_option maxRecDepth 100000 in
theorem ZCA {W : World} (h : laidMetH Tryz.prog Rows.fnObjectsRow.laid W) (hsh : W.ShapedOpen Tryz.prog) : LayH 3 [0] [1, 2] W.heap := by
  rw [MakeChecks.laidMetH_plain _ _ _ (by kernel_rfl)] at h
  have h3 : laidMet Tryz.prog ((_, Rows.laid_internal_strconv_uint64pow10) :: _) W := (show laidMet Tryz.prog (_ :: _ :: (_, Rows.laid_internal_strconv_uint64pow10) :: _) W from h).tail.tail
  have e : (Rows.laid_internal_strconv_uint64pow10 : DataW Unit) = Lib.tabData .u64 Lib.pow10Tab := by kernel_rfl
  rw [e] at h3
  have ht : TabH 3 W.heap := TabH.of (g := 3) (by kernel_rfl) (Lib.tabIs_of_head (g := 3) (t := 291) (e := 90) (n := 20) (by kernel_rfl) (by kernel_rfl) (by kernel_rfl) (by kernel_rfl) (by kernel_rfl) (by kernel_rfl) h3)
  have k1 : ErrH 1 W.heap := ErrH.of (ti := 109) (show laidMet Tryz.prog ((_, .iface _ _) :: _) W from (show laidMet Tryz.prog (_ :: _ :: _ :: _ :: _ :: _ :: _) W from h).tail.tail.tail.tail.tail) (by kernel_rfl) (by kernel_rfl) Tryz.underlying109
  have k2 : ErrH 2 W.heap := ErrH.of (ti := 109) (show laidMet Tryz.prog ((_, .iface _ _) :: _) W from (show laidMet Tryz.prog (_ :: _ :: _ :: _ :: _ :: _) W from h).tail.tail.tail.tail) (by kernel_rfl) (by kernel_rfl) Tryz.underlying109
  have k0 : IntH 0 W.heap := IntH.of (t := 3) (zero := #[.int .i64 0]) hsh (of_decide_eq_true (by kernel_rfl)) (by kernel_rfl) rfl (by kernel_rfl) (by kernel_rfl) (by kernel_rfl)
  exact ⟨ht, fun g hg => (by rw [List.mem_singleton.1 hg]; exact k0), fun g hg => by
    rcases List.mem_cons.1 hg with rfl | hg
    · exact k1
    · rw [List.mem_singleton.1 hg]; exact k2⟩
set_option maxRecDepth 100000 in
theorem Zwk (os : Os) (started : os.Started) (H : Type) (enc : TypeId × Value → H) :
    ReturnsInHanded {} Tryz.checked os 3 .any (fun w args => (Rows.fnObjectsSpec.pre enc Tryz.prog Tryz.f3 Rows.fnObjectsRow.domain false w args ∧ laidMetH Tryz.prog Rows.fnObjectsRow.laid w) ∧ sizedMet enc Tryz.prog Tryz.f3 (OpenSpec.ofChange Rows.fnObjectsSpec) false w args) (Rows.fnObjectsSpec.post enc Tryz.prog Tryz.f3 false true false false) := by
  refine Zwx (C := Tryz.checked) (X := fun w _ => laidMetH Tryz.prog Rows.fnObjectsRow.laid w) (fun _ _ _ hh h => h.of_heap hh) (by kernel_rfl) started (by kernel_rfl) Tryz.func3
    (ChangeSpec.witness_at (enc := enc) (C := Tryz.checked) (os := os) (X := fun w _ => laidMetH Tryz.prog Rows.fnObjectsRow.laid w) false (laidW os) #[.slice none 0 0, .slice none 0 0] 8 rfl (by kernel_rfl) (by kernel_rfl) (by kernel_rfl) (by kernel_rfl) (by kernel_rfl) (ZIl os _)) ?_
  intro W base args ds gs before hval hW hcnd _ hL hsh _
  have hW' := hW
  obtain ⟨p, q, hA0, hV, rfl, hfz, hnd⟩ := hW
  have hA : DataW.TrodAll enc Tryz.prog W 0 (fun _ => true) true Tryz.f3.params.toList args.toList ds p := hA0
  have hval' : ∀ (j : Nat) t v, Tryz.f3.params[j]? = some t → args[j]? = some v → Value.okWide Tryz.prog W .any base t v := hval
  rw [Tryz.params3] at hA hval'
  obtain ⟨v0, vs0, d0, ds0, p0, q0, a0, rfl, rfl, t0, r0⟩ := trodAll_cons hA
  obtain ⟨v1, vs1, d1, ds1, p1, q1, a1, rfl, rfl, t1, r1⟩ := trodAll_cons r0
  obtain ⟨an, rfl, rfl⟩ := trodAll_nil r1
  obtain rfl : args = #[v0, v1] := by apply Array.ext'; simp_all
  obtain ⟨rfl, rfl⟩ := trodVars_none hV
  refine (LawOk.calls (ZEk (hval' 0 _ v0 rfl rfl) t0 (hval' 1 _ v1 rfl rfl) t1 (ZCA hL hsh))).mono fun e W' ⟨he, hb⟩ => ⟨_, he, ?_⟩
  exact lawPost (tb := 4) (by kernel_rfl) (by kernel_rfl) rfl (by kernel_rfl) rfl hW' rfl rfl rfl hb
theorem and_r {a b c : Bool} (h : (a && (b && c)) = true) : ((a && b) && c) = true := by rw [Bool.and_assoc]; exact h
theorem and_l {a b c : Bool} (h : ((a && b) && c) = true) : (a && (b && c)) = true := by rw [← Bool.and_assoc]; exact h
theorem Zo9 {a b : Bool} (ha : a = true) (hb : b = true) : (a && b) = true := by rw [ha, hb]; rfl
set_option maxRecDepth 100000 in
set_option maxHeartbeats 4000000 in
theorem ZD3 : joinedFacts Tryz.checked.prog 3 Tryz.f3 Rows.fnObjectsSpec Rows.fnObjectsRow = true := by
  unfold joinedFacts
  iterate 22 refine and_r ?_
  refine Zo9 (by as_aux_lemma => kernel_rfl) ?_
  refine and_l ?_
  refine Zo9 (by as_aux_lemma => kernel_rfl) ?_
  refine and_l ?_
  refine Zo9 (by as_aux_lemma => kernel_rfl) ?_
  as_aux_lemma => kernel_rfl
set_option maxHeartbeats 4000000 in
theorem ZHF : Rows.FnObjectsSaid :=
  OpenClaim.holds_of_wide 3 Tryz.f3 rfl rfl rfl rfl rfl rfl rfl ⟨rfl, rfl, rfl, rfl, rfl⟩ rfl rfl rfl rfl rfl (by as_aux_lemma => kernel_rfl) Tryz.func3 ZD3
    (of_decide_eq_true (by as_aux_lemma => kernel_rfl)) (by unfold Func.isWrapper; first | (rw [if_pos (by decide +kernel)]; kernel_rfl) | (rw [if_neg (by decide +kernel)]; exact ⟨rfl, rfl⟩))
    (fun os started H enc _ => Zwk os started H enc)
set_option maxRecDepth 100000 in
theorem Zy2 : Rows.fnObjectsRow.wfByText (OpenSpec.ofChange Rows.fnObjectsSpec) = true := by kernel_rfl
set_option maxRecDepth 100000 in
theorem ZyJ : Tryz.pinned.checked.prog.mainIs = some (Rows.fnObjectsCard.stood.harness.1, Rows.fnObjectsCard.stood.harness.2.toList) := by kernel_rfl
set_option maxRecDepth 100000 in
theorem ZAP : true = Tryz.pinned.checked.prog.looks [] := by kernel_rfl
set_option maxRecDepth 100000 in
theorem ZAW : false = Rows.fnObjectsRow.goesBy Tryz.pinned.checked.prog := by kernel_rfl
set_option maxRecDepth 100000 in
theorem Zyg : (Tryz.f3.params.all fun u => !Tryz.prog.wantsStandIn u) = true := by kernel_rfl
set_option maxRecDepth 100000 in
theorem ZDe : Tryz.pinned.checked.prog.funcNamed Rows.fnObjectsRow.func = some 3 := by kernel_rfl
set_option maxRecDepth 100000 in
theorem fnObjects_holds : Rows.FnObjectsCardSaid :=
  Claim7.holds_tied_plain_at .later [] [.data, .data, .data, .data, .sentinel, .sentinel, .pinned] true Rows.fnObjectsCard.stood.harness true
    ZHF (fun _ h => by cases h) Zy2 (fun _ h => by cases h) fnObjects_row_tie rfl ⟨rfl, rfl⟩ ZyJ rfl
    (fun f fn hf hfn => by
      have e : some f = some 3 := hf.symm.trans ZDe
      obtain rfl : f = 3 := Option.some.inj e
      obtain rfl : fn = Tryz.f3 := (Option.some.inj (Tryz.func3.symm.trans hfn)).symm
      exact ⟨ZAP, fun j t ht => by
        have hm : t ∈ Tryz.f3.params := Array.mem_of_getElem? ht
        exact (show Tryz.prog.wantsStandIn t = false by simpa using Array.all_eq_true_iff_forall_mem.1 Zyg t hm)⟩)
    ZAW
#print axioms fnObjects_holds
end Go.Proofs.YtahnjnfpjcfklaaGreatDoor
