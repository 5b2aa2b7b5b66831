/-
 Proved: FnExactCommandNames returns true for every input (it has none) and leaves what was there as it was. No conditions.
-/
import Derived.Test.YtieehpcgmjbceaaConMark
import Derived.Test.YtieehpcgmjbceaaVcTop
import Derived.Test.YtieehpcgmjbceaaRows
namespace Go.Proofs.Ytieehpcgmjbceaa
open Go Go.Vc Go.ChangeShapes Go.WideShapes Go.ChangeAt Go.RowKit

def cmdNames : List ByteArray := [⟨#[99, 97, 116, 97, 108, 111, 103]⟩, ⟨#[100, 114, 111, 112]⟩, ⟨#[102, 97, 99, 116, 115]⟩, ⟨#[104, 101, 108, 112]⟩, ⟨#[105, 116, 101, 109, 115]⟩, ⟨#[108, 97, 98]⟩, ⟨#[108, 105, 107, 101]⟩,
  ⟨#[109, 97, 107, 101]⟩, ⟨#[110, 101, 101, 100]⟩, ⟨#[114, 101, 109, 111, 118, 101]⟩, ⟨#[115, 104, 111, 119]⟩, ⟨#[115, 116, 111, 114, 101]⟩, ⟨#[117, 115, 101, 114, 115]⟩]

theorem specCommandNames_ok {h : Heap} : CallsH P id_spec_CommandNames #[] h fun v h' => OwnSl h' v h.size (cmdNames.map .string) ∧ ExtH h h' := by
  apply w_spec_CommandNames
  unfold F_spec_CommandNames
  exact vNewS_own (cs := cmdNames.map .string) rfl fun v h' ho hx _ => ⟨ho, hx⟩
theorem implCommandNames_ok {h : Heap} : CallsH P id_impl_CommandNames #[] h fun v h' => OwnSl h' v h.size (cmdNames.map .string) ∧ ExtH h h' := by
  apply w_impl_CommandNames
  unfold F_impl_CommandNames
  exact vNewS_own (cs := cmdNames.map .string) rfl fun v h' ho hx _ => ⟨ho, hx⟩

theorem lawCommandNames {h : Heap} : LawOk P id_laws_FnExactCommandNames #[] h := by
  apply w_laws_FnExactCommandNames
  unfold F_laws_FnExactCommandNames
  have hE : ∀ (h : Heap) (x : ByteArray), x ∈ cmdNames → eStr h [.string x] x := fun h x _ => rfl
  have hlen : (cmdNames.map Value.string).length = 13 := rfl
  refine specCommandNames_ok.mono fun w0 h1 ⟨ow, x1⟩ => ⟨w0, rfl, ?_⟩
  refine implCommandNames_ok.mono fun g0 h2 ⟨og, x2⟩ => ⟨g0, rfl, ?_⟩
  have ow2 := ow.ext x2
  refine CallsH.eq (eqStringS_ok (og.sl (hE _)) (ow2.sl (hE _)) (by decide)) ⟨_, rfl, ?_⟩
  refine bif_neg (by decide) ?_
  refine (markStringS_ok (k := 1) og (by decide) (by rw [hlen]; decide)).mono fun _ h3 ⟨hr, om, x3⟩ => ⟨_, hr, ?_⟩
  rw [hlen] at om
  refine (heldStringS_ok om (by decide) (by decide)).mono fun _ h4 ⟨hr, x4⟩ => ⟨_, hr, ?_⟩
  refine bif_neg (by decide) (bif_neg (by decide) ?_)
  refine implCommandNames_ok.mono fun g1 h5 ⟨og1, x5⟩ => ⟨g1, rfl, ?_⟩
  have hne : ¬ (h.size = h1.size) := by have := ow.lt; omega
  have ow5 := ((ow2.but x3 hne).ext x4).ext x5
  refine CallsH.eq (eqStringS_ok (og1.sl (hE _)) (ow5.sl (hE _)) (by decide)) ⟨_, rfl, ?_⟩
  refine bif_neg (by decide) ?_
  refine (heldStringS_ok ((om.ext x4).ext x5) (by decide) (by decide)).mono fun _ h6 ⟨hr, x6⟩ => ⟨_, hr, ?_⟩
  refine bif_neg (by decide) (bif_neg (by decide) ⟨rfl, ?_⟩)
  have e3 : ExtH h h3 := x3.ext (x1.trans x2) fun x hx => by have := x1.1; omega
  exact ((e3.trans x4).trans x5).trans x6

theorem own : ownKnob P.godebug = none := by kernel_rfl
theorem laidOut : laidOutB P = true := by kernel_rfl

set_option maxRecDepth 100000 in
theorem lifted (os : Os) (started : os.Started) (H : Type) (enc : TypeId × Value → H) :
    ReturnsInHanded {} Try.checked os 3 .any (Rows.fnExactCommandNamesSpec.pre6 enc Try.prog Try.f3 Rows.fnExactCommandNamesRow.domain false) (Rows.fnExactCommandNamesSpec.post enc Try.prog Try.f3 false true false false) := by
  refine returnsInHanded_of_change (C := Try.checked) own started (by kernel_rfl) Try.func3
    (ChangeSpec.witness6 (enc := enc) (C := Try.checked) false ⟨#[], #[], []⟩ 8 (by kernel_rfl) (by kernel_rfl) (by kernel_rfl) (by kernel_rfl)) ?_
  intro W base args ds gs before hval hW hcnd _
  have hW' := hW
  obtain ⟨p, q, hA, hV, rfl, hfz, hnd⟩ := hW
  have hA : DataW.TrodAll enc Try.prog W 0 (fun _ => true) true [] args.toList ds p := hA
  obtain ⟨hargs, rfl, rfl⟩ := trodAll_nil hA
  obtain rfl : args = #[] := by apply Array.ext'; simpa using hargs
  obtain ⟨rfl, rfl⟩ := trodVars_none hV
  refine (LawOk.calls lawCommandNames).mono fun e W' ⟨he, hb⟩ => ⟨_, he, ?_⟩
  exact lawPost (tb := 4) laidOut (by kernel_rfl) rfl (by kernel_rfl) rfl hW' rfl rfl rfl hb

theorem commandNames_holds : Rows.FnExactCommandNamesSaid :=
  OpenClaim.holds_of_wide 3 Try.f3 rfl rfl rfl rfl rfl rfl rfl ⟨rfl, rfl, rfl, rfl, rfl⟩ rfl rfl rfl rfl rfl (by kernel_rfl) Try.func3 (by kernel_rfl)
    (of_decide_eq_true (by kernel_rfl)) (by unfold Func.isWrapper; first | (rw [if_pos (by decide +kernel)]; kernel_rfl) | (rw [if_neg (by decide +kernel)]; exact ⟨rfl, rfl⟩))
    (fun os started H enc _ => lifted os started H enc)
#print axioms commandNames_holds
end Go.Proofs.Ytieehpcgmjbceaa
