/-
 Proved: FnDamage returns true for every input, and each argument reads afterwards as it read before. Condition: the tables that the row lists hold what the text of the program lays (the card ties them).
-/
import Derived.Test.YtcneolcmjjlmnaaGreatDoorVcRd
import Derived.Test.YtcneolcmjjlmnaaGreatDoorRcFns
import Derived.Test.YtcneolcmjjlmnaaGreatDoorPuJl
import Derived.Test.YtcneolcmjjlmnaaGreatDoorVcArg
import Derived.Test.YtcneolcmjjlmnaaGreatDoorRows
import Derived.Test.YtcneolcmjjlmnaaGreatDoorTie
import Derived.Test.YtcneolcmjjlmnaaGreatDoorCards
import Derived.SevenTiedAt
import Derived.LaidMore
import Derived.Stop.Joined
import Derived.Stop.LaidErr
import Derived.MakeChecks
namespace Go.Proofs.YtcneolcmjjlmnaaGreatDoor
set_option linter.unusedVariables false
set_option linter.unusedSimpArgs false
open Go Go.Vc Go.ChangeShapes Go.WideShapes Go.ChangeAt Go.RowKit
section
variable {H : Type} {enc : TypeId × Value → H}
set_option maxRecDepth 100000 in
theorem ZJt {W : World} {base : Nat} {v0 v1 : Value} {d0 d1 : DataW H} {p0 p1 : List MemPlace} (k0 : Value.okWide P W .any base 22 v0) (h0 : DataW.Trod enc P W 0 (fun _ => true) true 22 v0 d0 p0) (k1 : Value.okWide P W .any base 22 v1) (h1 : DataW.Trod enc P W 0 (fun _ => true) true 22 v1 d1 p1) (hL : LayH 3 [0] [1, 2] W.heap) : LawOk P 3 #[v0, v1] W.heap := by
  obtain ⟨a0, f0, l0⟩ := Zwl (e := 5) (z := 1) (E := elOf (El.int .u8) (fun x => 0 ≤ x ∧ x ≤ 255)) (by kernel_rfl) k0 h0 (Zvr (e := 5) (by kernel_rfl) (by kernel_rfl) (ZCO (by kernel_rfl)))
  obtain ⟨f0, m0⟩ := Zuk (E := (El.int .u8)) f0
  have o0 : OkL (fun x => 0 ≤ x ∧ x ≤ 255) a0 := ⟨l0, m0⟩
  obtain ⟨a1, f1, l1⟩ := Zwl (e := 5) (z := 1) (E := elOf (El.int .u8) (fun x => 0 ≤ x ∧ x ≤ 255)) (by kernel_rfl) k1 h1 (Zvr (e := 5) (by kernel_rfl) (by kernel_rfl) (ZCO (by kernel_rfl)))
  obtain ⟨f1, m1⟩ := Zuk (E := (El.int .u8)) f1
  have o1 : OkL (fun x => 0 ≤ x ∧ x ≤ 255) a1 := ⟨l1, m1⟩
  exact ZMn rfl (ZIO (CLe.refl _) (ZJw o0 o1) f0 f1 hL)
end
def valD : DataW Unit → List Value
  | .lit (.int k n) => [.int k n]
  | .agg ds => ds.map fun d => match d with
    | .lit (.int k n) => .int k n
    | _ => undef
  | _ => []
def valsOf : DataW Unit → List Value
  | .agg ds => ds.flatMap valD
  | _ => []
def layO (vs : List Value) : Obj → Obj
  | .cells _ t f => .cells vs.toArray t f
  | o => o
noncomputable def layH (l : List (String × DataW Unit)) (h : Array Obj) : Array Obj :=
  l.foldl (fun h x => match x.2 with
    | .iface _ (.ptr (.agg [.lit (.string b)])) => (h.push (.cells #[.string ⟨b.toArray⟩] 340)).modify ((Tryz.prog.globalNamed x.1).getD 0) (layO [.iface 338 (.pointer (some ⟨h.size, 0, none⟩))])
    | d => h.modify ((Tryz.prog.globalNamed x.1).getD 0) (layO (valsOf d))) h
noncomputable def laidW (os : Os) : World :=
  { World.holding Tryz.prog os ⟨#[], #[], []⟩ with heap := layH Rows.fnDamageRow.laid (World.holding Tryz.prog os ⟨#[], #[], []⟩).heap }
set_option maxRecDepth 100000 in
theorem ZEw (os : Os) (args : Array Value) : laidMetH Tryz.prog Rows.fnDamageRow.laid ((laidW os).forCall (fun _ _ => 0) ⟨#[], args, []⟩).memory := by
  rw [MakeChecks.laidMetH_plain _ _ _ (by kernel_rfl)]
  exact laidMet_of_run' 8 (by kernel_rfl) (by kernel_rfl)
set_option maxRecDepth 100000 in
theorem ZMF {W : World} (h : laidMetH Tryz.prog Rows.fnDamageRow.laid W) (hsh : W.ShapedOpen Tryz.prog) : LayH 3 [0] [1, 2] W.heap := by
  rw [MakeChecks.laidMetH_plain _ _ _ (by kernel_rfl)] at h
  have h3 : laidMet Tryz.prog ((_, Rows.laid_internal_strconv_uint64pow10) :: _) W := (show laidMet Tryz.prog (_ :: _ :: (_, Rows.laid_internal_strconv_uint64pow10) :: _) W from h).tail.tail
  have e : (Rows.laid_internal_strconv_uint64pow10 : DataW Unit) = Lib.tabData .u64 Lib.pow10Tab := by kernel_rfl
  rw [e] at h3
  have ht : TabH 3 W.heap := TabH.of (g := 3) (by kernel_rfl) (Lib.tabIs_of_head (g := 3) (t := 306) (e := 52) (n := 20) (by kernel_rfl) (by kernel_rfl) (by kernel_rfl) (by kernel_rfl) (by kernel_rfl) (by kernel_rfl) h3)
  have k1 : ErrH 1 W.heap := ErrH.of (ti := 117) (show laidMet Tryz.prog ((_, .iface _ _) :: _) W from (show laidMet Tryz.prog (_ :: _ :: _ :: _ :: _ :: _ :: _) W from h).tail.tail.tail.tail.tail) (by kernel_rfl) (by kernel_rfl) Tryz.underlying117
  have k2 : ErrH 2 W.heap := ErrH.of (ti := 117) (show laidMet Tryz.prog ((_, .iface _ _) :: _) W from (show laidMet Tryz.prog (_ :: _ :: _ :: _ :: _ :: _) W from h).tail.tail.tail.tail) (by kernel_rfl) (by kernel_rfl) Tryz.underlying117
  have k0 : IntH 0 W.heap := IntH.of (t := 3) (zero := #[.int .i64 0]) hsh (of_decide_eq_true (by kernel_rfl)) (by kernel_rfl) rfl (by kernel_rfl) (by kernel_rfl) (by kernel_rfl)
  exact ⟨ht, fun g hg => (by rw [List.mem_singleton.1 hg]; exact k0), fun g hg => by
    rcases List.mem_cons.1 hg with rfl | hg
    · exact k1
    · rw [List.mem_singleton.1 hg]; exact k2⟩
set_option maxRecDepth 100000 in
theorem ZJs (os : Os) (started : os.Started) (H : Type) (enc : TypeId × Value → H) :
    ReturnsInHanded {} Tryz.checked os 3 .any (fun w args => (Rows.fnDamageSpec.pre enc Tryz.prog Tryz.f3 Rows.fnDamageRow.domain false w args ∧ laidMetH Tryz.prog Rows.fnDamageRow.laid w) ∧ sizedMet enc Tryz.prog Tryz.f3 (OpenSpec.ofChange Rows.fnDamageSpec) false w args) (Rows.fnDamageSpec.post enc Tryz.prog Tryz.f3 false true false false) := by
  refine ZGE (C := Tryz.checked) (X := fun w _ => laidMetH Tryz.prog Rows.fnDamageRow.laid w) (fun _ _ _ hh h => h.of_heap hh) (by kernel_rfl) started (by kernel_rfl) Tryz.func3
    (ChangeSpec.witness_at (enc := enc) (C := Tryz.checked) (os := os) (X := fun w _ => laidMetH Tryz.prog Rows.fnDamageRow.laid w) false (laidW os) #[.slice none 0 0, .slice none 0 0] 8 rfl (by kernel_rfl) (by kernel_rfl) (by kernel_rfl) (by kernel_rfl) (by kernel_rfl) (ZEw os _)) ?_
  intro W base args ds gs before hval hW hcnd _ hL hsh _
  have hW' := hW
  obtain ⟨p, q, hA0, hV, rfl, hfz, hnd⟩ := hW
  have hA : DataW.TrodAll enc Tryz.prog W 0 (fun _ => true) true Tryz.f3.params.toList args.toList ds p := hA0
  have hval' : ∀ (j : Nat) t v, Tryz.f3.params[j]? = some t → args[j]? = some v → Value.okWide Tryz.prog W .any base t v := hval
  rw [Tryz.params3] at hA hval'
  obtain ⟨v0, vs0, d0, ds0, p0, q0, a0, rfl, rfl, t0, r0⟩ := trodAll_cons hA
  obtain ⟨v1, vs1, d1, ds1, p1, q1, a1, rfl, rfl, t1, r1⟩ := trodAll_cons r0
  obtain ⟨an, rfl, rfl⟩ := trodAll_nil r1
  obtain rfl : args = #[v0, v1] := by apply Array.ext'; simp_all
  obtain ⟨rfl, rfl⟩ := trodVars_none hV
  refine (LawOk.calls (ZJt (hval' 0 _ v0 rfl rfl) t0 (hval' 1 _ v1 rfl rfl) t1 (ZMF hL hsh))).mono fun e W' ⟨he, hb⟩ => ⟨_, he, ?_⟩
  exact lawPost (tb := 4) (by kernel_rfl) (by kernel_rfl) rfl (by kernel_rfl) rfl hW' rfl rfl rfl hb
theorem and_r {a b c : Bool} (h : (a && (b && c)) = true) : ((a && b) && c) = true := by rw [Bool.and_assoc]; exact h
theorem and_l {a b c : Bool} (h : ((a && b) && c) = true) : (a && (b && c)) = true := by rw [← Bool.and_assoc]; exact h
theorem Zpi {a b : Bool} (ha : a = true) (hb : b = true) : (a && b) = true := by rw [ha, hb]; rfl
set_option maxRecDepth 100000 in
set_option maxHeartbeats 4000000 in
theorem ZE9 : joinedFacts Tryz.checked.prog 3 Tryz.f3 Rows.fnDamageSpec Rows.fnDamageRow = true := by
  unfold joinedFacts
  iterate 22 refine and_r ?_
  refine Zpi (by as_aux_lemma => kernel_rfl) ?_
  refine and_l ?_
  refine Zpi (by as_aux_lemma => kernel_rfl) ?_
  refine and_l ?_
  refine Zpi (by as_aux_lemma => kernel_rfl) ?_
  as_aux_lemma => kernel_rfl
set_option maxHeartbeats 4000000 in
theorem ZIt : Rows.FnDamageSaid :=
  OpenClaim.holds_of_wide 3 Tryz.f3 rfl rfl rfl rfl rfl rfl rfl ⟨rfl, rfl, rfl, rfl, rfl⟩ rfl rfl rfl rfl rfl (by as_aux_lemma => kernel_rfl) Tryz.func3 ZE9
    (of_decide_eq_true (by as_aux_lemma => kernel_rfl)) (by unfold Func.isWrapper; first | (rw [if_pos (by decide +kernel)]; kernel_rfl) | (rw [if_neg (by decide +kernel)]; exact ⟨rfl, rfl⟩))
    (fun os started H enc _ => ZJs os started H enc)
set_option maxRecDepth 100000 in
theorem ZOe : Rows.fnDamageRow.wfByText (OpenSpec.ofChange Rows.fnDamageSpec) = true := by kernel_rfl
set_option maxRecDepth 100000 in
theorem ZGu : Tryz.pinned.checked.prog.mainIs = some (Rows.fnDamageCard.stood.harness.1, Rows.fnDamageCard.stood.harness.2.toList) := by kernel_rfl
set_option maxRecDepth 100000 in
theorem ZF0 : true = Tryz.pinned.checked.prog.looks [] := by kernel_rfl
set_option maxRecDepth 100000 in
theorem ZA5 : (Tryz.pinned.checked.prog.funcs.any Func.goes) = false := by kernel_rfl
theorem ZFi : false = Rows.fnDamageRow.goesBy Tryz.pinned.checked.prog := by
  have hf : ∀ f, Program.goes Tryz.pinned.checked.prog f = false := fun f => by
    unfold Program.goes
    rw [ZA5, Bool.and_false, Bool.or_false, List.any_eq_false]
    intro g _
    cases hg : Tryz.pinned.checked.prog.funcs[g]? with
    | none => simp
    | some fn =>
      have hm : fn ∈ Tryz.pinned.checked.prog.funcs := Array.mem_of_getElem? hg
      obtain ⟨i, hi, e⟩ := Array.mem_iff_getElem.1 hm
      have := Array.any_eq_false.1 ZA5 i hi
      rw [e] at this
      simpa using this
  unfold OpenClaim.goesBy Program.goesAt Program.goesFrom
  cases hn : Tryz.pinned.checked.prog.funcNamed Rows.fnDamageRow.func with
  | none => cases Rows.fnDamageRow.start <;> simp [hf]
  | some f => cases Rows.fnDamageRow.start <;> simp [hf]
set_option maxRecDepth 100000 in
theorem ZJL : (Tryz.f3.params.all fun u => !Tryz.prog.wantsStandIn u) = true := by kernel_rfl
set_option maxRecDepth 100000 in
theorem ZLt : Tryz.pinned.checked.prog.funcNamed Rows.fnDamageRow.func = some 3 := by kernel_rfl
set_option maxRecDepth 100000 in
theorem fnDamage_holds : Rows.FnDamageCardSaid :=
  Claim7.holds_tied_plain_at .later [] [.data, .data, .data, .data, .sentinel, .sentinel, .pinned] true Rows.fnDamageCard.stood.harness true
    ZIt (fun _ h => by cases h) ZOe (fun _ h => by cases h) fnDamage_row_tie rfl ⟨rfl, rfl⟩ ZGu rfl
    (fun f fn hf hfn => by
      have e : some f = some 3 := hf.symm.trans ZLt
      obtain rfl : f = 3 := Option.some.inj e
      obtain rfl : fn = Tryz.f3 := (Option.some.inj (Tryz.func3.symm.trans hfn)).symm
      exact ⟨ZF0, fun j t ht => by
        have hm : t ∈ Tryz.f3.params := Array.mem_of_getElem? ht
        exact (show Tryz.prog.wantsStandIn t = false by simpa using Array.all_eq_true_iff_forall_mem.1 ZJL t hm)⟩)
    ZFi
#print axioms fnDamage_holds
end Go.Proofs.YtcneolcmjjlmnaaGreatDoor
