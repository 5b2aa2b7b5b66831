/-
 Proved: FnExactSameDesk returns true for every input, and each argument reads afterwards as it read before. No conditions.
-/
import Derived.Test.YtclgicpmbcbjlaaRcFns
import Derived.Test.YtclgicpmbcbjlaaPuSame
import Derived.Test.YtclgicpmbcbjlaaVcArg
import Derived.Test.YtclgicpmbcbjlaaVcTop
import Derived.Test.YtclgicpmbcbjlaaRows
namespace Go.Proofs.Ytclgicpmbcbjlaa
open Go Go.Vc Go.ChangeShapes Go.WideShapes Go.ChangeAt Go.RowKit

section
variable {H : Type} {enc : TypeId × Value → H}
instance : Inhabited T_laws_Recipe := ⟨(T_laws_Recipe.mk (⟨#[]⟩ : ByteArray) (⟨#[]⟩ : ByteArray) ([] : List Int) ([] : List ByteArray))⟩
set_option maxRecDepth 100000 in
theorem rd_T_laws_Recipe : Reads enc P (elOf ef_T_laws_Recipe Ok_T_laws_Recipe) 185 := by
  intro W base spare held fuel cs x h
  have hl := reads_len h (u := (9, 0)) (n := 4) (by kernel_rfl) (by kernel_rfl)
  obtain ⟨a0, h0, k0⟩ := reads_fld h 0 (t' := 9) (off := 0) (z := 1) (E := elOf El.str OkS) (by kernel_rfl) (by kernel_rfl) (rde_str (by kernel_rfl))
  obtain ⟨a1, h1, k1⟩ := reads_fld h 1 (t' := 9) (off := 1) (z := 1) (E := elOf El.str OkS) (by kernel_rfl) (by kernel_rfl) (rde_str (by kernel_rfl))
  obtain ⟨a2, h2, k2⟩ := reads_fld h 2 (t' := 27) (off := 2) (z := 1) (E := elOf (El.sl (El.int .i64)) (OkL I64)) (by kernel_rfl) (by kernel_rfl) (rde_slice (e := 2) (by kernel_rfl) (by kernel_rfl) (rde_i64 (by kernel_rfl)))
  obtain ⟨a3, h3, k3⟩ := reads_fld h 3 (t' := 137) (off := 3) (z := 1) (E := elOf (El.sl El.str) (OkL OkS)) (by kernel_rfl) (by kernel_rfl) (rde_slice (e := 9) (by kernel_rfl) (by kernel_rfl) (rde_str (by kernel_rfl)))
  exact ⟨T_laws_Recipe.mk a0 a1 a2 a3, (pair_cells (o := 0) (z := 1) h0 (pair_cells (o := 1) (z := 1) h1 (pair_cells (o := 2) (z := 1) h2 (last_cells (o := 3) h3 (by omega))))), ⟨k0, k1, k2, k3⟩⟩
instance : Inhabited T_laws_Object := ⟨(T_laws_Object.mk (0 : Int) (0 : Int) ([] : List (List Int)))⟩
set_option maxRecDepth 100000 in
theorem rd_T_laws_Object : Reads enc P (elOf ef_T_laws_Object Ok_T_laws_Object) 187 := by
  intro W base spare held fuel cs x h
  have hl := reads_len h (u := (2, 0)) (n := 3) (by kernel_rfl) (by kernel_rfl)
  obtain ⟨a0, h0, k0⟩ := reads_fld h 0 (t' := 2) (off := 0) (z := 1) (E := elOf (El.int .i64) I64) (by kernel_rfl) (by kernel_rfl) (rde_i64 (by kernel_rfl))
  obtain ⟨a1, h1, k1⟩ := reads_fld h 1 (t' := 2) (off := 1) (z := 1) (E := elOf (El.int .i64) I64) (by kernel_rfl) (by kernel_rfl) (rde_i64 (by kernel_rfl))
  obtain ⟨a2, h2, k2⟩ := reads_fld h 2 (t' := 24) (off := 2) (z := 1) (E := elOf (El.sl (El.sl (El.int .i64))) (OkL (OkL I64))) (by kernel_rfl) (by kernel_rfl) (rde_slice (e := 27) (by kernel_rfl) (by kernel_rfl) (rde_slice (e := 2) (by kernel_rfl) (by kernel_rfl) (rde_i64 (by kernel_rfl))))
  exact ⟨T_laws_Object.mk a0 a1 a2, (pair_cells (o := 0) (z := 1) h0 (pair_cells (o := 1) (z := 1) h1 (last_cells (o := 2) h2 (by omega)))), ⟨k0, k1, k2⟩⟩
instance : Inhabited T_laws_Lab := ⟨(T_laws_Lab.mk ([] : List T_laws_Recipe) ([] : List T_laws_Object))⟩
set_option maxRecDepth 100000 in
theorem rd_T_laws_Lab : Reads enc P (elOf ef_T_laws_Lab Ok_T_laws_Lab) 37 := by
  intro W base spare held fuel cs x h
  have hl := reads_len h (u := (34, 0)) (n := 2) (by kernel_rfl) (by kernel_rfl)
  obtain ⟨a0, h0, k0⟩ := reads_fld h 0 (t' := 34) (off := 0) (z := 1) (E := elOf (El.sl ef_T_laws_Recipe) (OkL Ok_T_laws_Recipe)) (by kernel_rfl) (by kernel_rfl) (rde_slice (e := 185) (by kernel_rfl) (by kernel_rfl) rd_T_laws_Recipe)
  obtain ⟨a1, h1, k1⟩ := reads_fld h 1 (t' := 35) (off := 1) (z := 1) (E := elOf (El.sl ef_T_laws_Object) (OkL Ok_T_laws_Object)) (by kernel_rfl) (by kernel_rfl) (rde_slice (e := 187) (by kernel_rfl) (by kernel_rfl) rd_T_laws_Object)
  exact ⟨T_laws_Lab.mk a0 a1, (pair_cells (o := 0) (z := 1) h0 (last_cells (o := 1) h1 (by omega))), ⟨k0, k1⟩⟩
instance : Inhabited T_laws_Item := ⟨(T_laws_Item.mk (⟨#[]⟩ : ByteArray) (T_laws_Object.mk (0 : Int) (0 : Int) ([] : List (List Int))) (⟨#[]⟩ : ByteArray))⟩
set_option maxRecDepth 100000 in
theorem rd_T_laws_Item : Reads enc P (elOf ef_T_laws_Item Ok_T_laws_Item) 190 := by
  intro W base spare held fuel cs x h
  have hl := reads_len h (u := (9, 0)) (n := 5) (by kernel_rfl) (by kernel_rfl)
  obtain ⟨a0, h0, k0⟩ := reads_fld h 0 (t' := 9) (off := 0) (z := 1) (E := elOf El.str OkS) (by kernel_rfl) (by kernel_rfl) (rde_str (by kernel_rfl))
  obtain ⟨a1, h1, k1⟩ := reads_fld h 1 (t' := 187) (off := 1) (z := 3) (E := elOf ef_T_laws_Object Ok_T_laws_Object) (by kernel_rfl) (by kernel_rfl) rd_T_laws_Object
  obtain ⟨a2, h2, k2⟩ := reads_fld h 2 (t' := 9) (off := 4) (z := 1) (E := elOf El.str OkS) (by kernel_rfl) (by kernel_rfl) (rde_str (by kernel_rfl))
  exact ⟨T_laws_Item.mk a0 a1 a2, (pair_cells (o := 0) (z := 1) h0 (pair_cells (o := 1) (z := 3) h1 (last_cells (o := 4) h2 (by omega)))), ⟨k0, k1, k2⟩⟩
instance : Inhabited T_laws_Catalog := ⟨(T_laws_Catalog.mk ([] : List T_laws_Item))⟩
set_option maxRecDepth 100000 in
theorem rd_T_laws_Catalog : Reads enc P (elOf ef_T_laws_Catalog Ok_T_laws_Catalog) 40 := by
  intro W base spare held fuel cs x h
  have hl := reads_len h (u := (38, 0)) (n := 1) (by kernel_rfl) (by kernel_rfl)
  obtain ⟨a0, h0, k0⟩ := reads_fld h 0 (t' := 38) (off := 0) (z := 1) (E := elOf (El.sl ef_T_laws_Item) (OkL Ok_T_laws_Item)) (by kernel_rfl) (by kernel_rfl) (rde_slice (e := 190) (by kernel_rfl) (by kernel_rfl) rd_T_laws_Item)
  exact ⟨T_laws_Catalog.mk a0, (last_cells (o := 0) h0 (by omega)), k0⟩
instance : Inhabited T_laws_Desk := ⟨(T_laws_Desk.mk (T_laws_Lab.mk ([] : List T_laws_Recipe) ([] : List T_laws_Object)) (T_laws_Catalog.mk ([] : List T_laws_Item)))⟩
set_option maxRecDepth 100000 in
theorem rd_T_laws_Desk : Reads enc P (elOf ef_T_laws_Desk Ok_T_laws_Desk) 42 := by
  intro W base spare held fuel cs x h
  have hl := reads_len h (u := (37, 0)) (n := 3) (by kernel_rfl) (by kernel_rfl)
  obtain ⟨a0, h0, k0⟩ := reads_fld h 0 (t' := 37) (off := 0) (z := 2) (E := elOf ef_T_laws_Lab Ok_T_laws_Lab) (by kernel_rfl) (by kernel_rfl) rd_T_laws_Lab
  obtain ⟨a1, h1, k1⟩ := reads_fld h 1 (t' := 40) (off := 2) (z := 1) (E := elOf ef_T_laws_Catalog Ok_T_laws_Catalog) (by kernel_rfl) (by kernel_rfl) rd_T_laws_Catalog
  exact ⟨T_laws_Desk.mk a0 a1, (pair_cells (o := 0) (z := 2) h0 (last_cells (o := 2) h1 (by omega))), ⟨k0, k1⟩⟩
set_option maxRecDepth 100000 in
theorem fnExactSameDesk_args {W : World} {base : Nat} {v0 v1 : Value} {d0 d1 : DataW H} {p0 p1 : List MemPlace} (k0 : Value.okWide P W .any base 42 v0) (h0 : DataW.Trod enc P W 0 (fun _ => true) true 42 v0 d0 p0) (k1 : Value.okWide P W .any base 42 v1) (h1 : DataW.Trod enc P W 0 (fun _ => true) true 42 v1 d1 p1) : LawOk P id_laws_FnExactSameDesk #[v0, v1] W.heap := by
  obtain ⟨cs0, a0, rfl, e0, o0⟩ := arg_struct (u := (37, 0)) (by kernel_rfl) k0 h0 rd_T_laws_Desk
  obtain ⟨u0_0, u0_1, u0_2, rfl, f0_0, f0_1, f0_2⟩ := un_T_laws_Desk e0
  obtain ⟨cs1, a1, rfl, e1, o1⟩ := arg_struct (u := (37, 0)) (by kernel_rfl) k1 h1 rd_T_laws_Desk
  obtain ⟨u1_0, u1_1, u1_2, rfl, f1_0, f1_1, f1_2⟩ := un_T_laws_Desk e1
  exact lawOk_of rfl (r_laws_FnExactSameDesk (noneM_le _) (law_FnExactSameDesk o0 o1) f0_0 f0_1 f0_2 f1_0 f1_1 f1_2)
end

set_option maxRecDepth 100000 in
theorem fnExactSameDesk_lifted (os : Os) (started : os.Started) (H : Type) (enc : TypeId × Value → H) :
    ReturnsInHanded {} Try.checked os 4 .any (Rows.fnExactSameDeskSpec.pre6 enc Try.prog Try.f4 Rows.fnExactSameDeskRow.domain false) (Rows.fnExactSameDeskSpec.post enc Try.prog Try.f4 false true false false) := by
  refine returnsInHanded_of_change (C := Try.checked) (by kernel_rfl) started (by kernel_rfl) Try.func4
    (ChangeSpec.witness6 (enc := enc) (C := Try.checked) false ⟨#[], #[.agg #[.slice none 0 0, .slice none 0 0, .slice none 0 0], .agg #[.slice none 0 0, .slice none 0 0, .slice none 0 0]], []⟩ 8 (by kernel_rfl) (by kernel_rfl) (by kernel_rfl) (by kernel_rfl)) ?_
  intro W base args ds gs before hval hW hcnd _
  have hW' := hW
  obtain ⟨p, q, hA0, hV, rfl, hfz, hnd⟩ := hW
  have hA : DataW.TrodAll enc Try.prog W 0 (fun _ => true) true Try.f4.params.toList args.toList ds p := hA0
  have hval' : ∀ (j : Nat) t v, Try.f4.params[j]? = some t → args[j]? = some v → Value.okWide Try.prog W .any base t v := hval
  rw [Try.params4] at hA hval'
  obtain ⟨v0, vs0, d0, ds0, p0, q0, a0, rfl, rfl, t0, r0⟩ := trodAll_cons hA
  obtain ⟨v1, vs1, d1, ds1, p1, q1, a1, rfl, rfl, t1, r1⟩ := trodAll_cons r0
  obtain ⟨an, rfl, rfl⟩ := trodAll_nil r1
  obtain rfl : args = #[v0, v1] := by apply Array.ext'; simp_all
  obtain ⟨rfl, rfl⟩ := trodVars_none hV
  refine (LawOk.calls (fnExactSameDesk_args (hval' 0 _ v0 rfl rfl) t0 (hval' 1 _ v1 rfl rfl) t1)).mono fun e W' ⟨he, hb⟩ => ⟨_, he, ?_⟩
  exact lawPost (tb := 4) (by kernel_rfl) (by kernel_rfl) rfl (by kernel_rfl) rfl hW' rfl rfl rfl hb

theorem fnExactSameDesk_holds : Rows.FnExactSameDeskSaid :=
  OpenClaim.holds_of_wide 4 Try.f4 rfl rfl rfl rfl rfl rfl rfl ⟨rfl, rfl, rfl, rfl, rfl⟩ rfl rfl rfl rfl rfl (by kernel_rfl) Try.func4 (by kernel_rfl)
    (of_decide_eq_true (by kernel_rfl)) (by unfold Func.isWrapper; first | (rw [if_pos (by decide +kernel)]; kernel_rfl) | (rw [if_neg (by decide +kernel)]; exact ⟨rfl, rfl⟩))
    (fun os started H enc _ => fnExactSameDesk_lifted os started H enc)
#print axioms fnExactSameDesk_holds
end Go.Proofs.Ytclgicpmbcbjlaa
