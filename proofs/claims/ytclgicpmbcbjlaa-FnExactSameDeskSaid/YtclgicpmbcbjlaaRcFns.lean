/- Each call computes its plain function: printed by pgen.py. -/
import Derived.Test.YtclgicpmbcbjlaaPuFns
import Derived.Test.YtclgicpmbcbjlaaVcFns
import Derived.Test.YtclgicpmbcbjlaaVcS3
namespace Go.Proofs.Ytclgicpmbcbjlaa
open Go Go.Vc
set_option linter.unusedVariables false
set_option linter.unusedSimpArgs false
def eo_T_laws_Recipe : El T_laws_Recipe := El.iso (El.pair El.str (El.pair El.str (El.pair (El.ow (El.int .i64)) (El.ow El.str)))) (fun x => (x.Name, x.Verb, x.Args, x.Uses)) (T_laws_Recipe.mk (⟨#[]⟩ : ByteArray) (⟨#[]⟩ : ByteArray) ([] : List Int) ([] : List ByteArray)) rfl
def ef_T_laws_Recipe : El T_laws_Recipe := El.iso (El.pair El.str (El.pair El.str (El.pair (El.sl (El.int .i64)) (El.sl El.str)))) (fun x => (x.Name, x.Verb, x.Args, x.Uses)) (T_laws_Recipe.mk (⟨#[]⟩ : ByteArray) (⟨#[]⟩ : ByteArray) ([] : List Int) ([] : List ByteArray)) rfl
theorem frzo_T_laws_Recipe : Frz eo_T_laws_Recipe ef_T_laws_Recipe := frz_iso (frz_pair frz_str (frz_pair frz_str (frz_pair (frz_ow (frz_int _)) (frz_ow frz_str))))
theorem frzf_T_laws_Recipe : Frz ef_T_laws_Recipe ef_T_laws_Recipe := frz_iso (frz_pair frz_str (frz_pair frz_str (frz_pair (frz_sl _) (frz_sl _))))
theorem pko_T_laws_Recipe {ψ : CM} {h0 h : Heap} {os : List Ob} {x0 : ByteArray} {x1 : ByteArray} {x2 : List Int} {v2 : Value} {x3 : List ByteArray} {v3 : Value} (st : S ψ h0 h (.it (El.ow (El.int .i64)) [v2] x2 :: .it (El.ow El.str) [v3] x3 :: os)) : S ψ h0 h (.it eo_T_laws_Recipe [.string x0, .string x1, v2, v3] (T_laws_Recipe.mk x0 x1 x2 x3) :: os) := by
  obtain ⟨φ, M0, s, L2, M1, rfl, a2, L3, M2, rfl, a3, r⟩ := st
  exact ⟨φ, _, s, ([] ++ ([] ++ (L2 ++ L3))), M2, by simp, (pair_mk str_mk (pair_mk str_mk (pair_mk a2 a3))), r⟩
theorem pkf_T_laws_Recipe {ψ : CM} {h0 h : Heap} {os : List Ob} {x0 : ByteArray} {x1 : ByteArray} {x2 : List Int} {v2 : Value} {x3 : List ByteArray} {v3 : Value} (st : S ψ h0 h (.it (El.sl (El.int .i64)) [v2] x2 :: .it (El.sl El.str) [v3] x3 :: os)) : S ψ h0 h (.it ef_T_laws_Recipe [.string x0, .string x1, v2, v3] (T_laws_Recipe.mk x0 x1 x2 x3) :: os) := by
  obtain ⟨φ, M0, s, L2, M1, rfl, a2, L3, M2, rfl, a3, r⟩ := st
  exact ⟨φ, _, s, ([] ++ ([] ++ (L2 ++ L3))), M2, by simp, (pair_mk str_mk (pair_mk str_mk (pair_mk a2 a3))), r⟩
theorem un_T_laws_Recipe {φ : CM} {L : Rws} {cs : List Value} {x : T_laws_Recipe} (h : ef_T_laws_Recipe.R φ L cs x) : ∃ v2 : Value, ∃ v3 : Value, cs = [.string x.Name, .string x.Verb, v2, v3] ∧ SlC φ (El.int .i64) v2 x.Args ∧ SlC φ El.str v3 x.Uses := by
  obtain ⟨_, _, _, _, rfl, _, a1_0, b1_0⟩ := h
  obtain ⟨_, rfl⟩ := a1_0
  obtain ⟨_, _, _, _, rfl, _, a1_1, b1_1⟩ := b1_0
  obtain ⟨_, rfl⟩ := a1_1
  obtain ⟨_, _, _, _, rfl, _, a1_2, b1_2⟩ := b1_1
  obtain ⟨_, w4, rfl, g4⟩ := a1_2
  obtain ⟨_, w5, rfl, g5⟩ := b1_2
  exact ⟨w4, w5, rfl, g4, g5⟩
def eo_T_laws_Object : El T_laws_Object := El.iso (El.pair (El.int .i64) (El.pair (El.int .i64) (El.ow (El.ow (El.int .i64))))) (fun x => (x.Kind, x.Size, x.Rows)) (T_laws_Object.mk (0 : Int) (0 : Int) ([] : List (List Int))) rfl
def ef_T_laws_Object : El T_laws_Object := El.iso (El.pair (El.int .i64) (El.pair (El.int .i64) (El.sl (El.sl (El.int .i64))))) (fun x => (x.Kind, x.Size, x.Rows)) (T_laws_Object.mk (0 : Int) (0 : Int) ([] : List (List Int))) rfl
theorem frzo_T_laws_Object : Frz eo_T_laws_Object ef_T_laws_Object := frz_iso (frz_pair (frz_int _) (frz_pair (frz_int _) (frz_ow (frz_ow (frz_int _)))))
theorem frzf_T_laws_Object : Frz ef_T_laws_Object ef_T_laws_Object := frz_iso (frz_pair (frz_int _) (frz_pair (frz_int _) (frz_sl _)))
theorem pko_T_laws_Object {ψ : CM} {h0 h : Heap} {os : List Ob} {x0 : Int} {x1 : Int} {x2 : List (List Int)} {v2 : Value} (st : S ψ h0 h (.it (El.ow (El.ow (El.int .i64))) [v2] x2 :: os)) : S ψ h0 h (.it eo_T_laws_Object [.int .i64 x0, .int .i64 x1, v2] (T_laws_Object.mk x0 x1 x2) :: os) := by
  obtain ⟨φ, M0, s, L2, M1, rfl, a2, r⟩ := st
  exact ⟨φ, _, s, ([] ++ ([] ++ L2)), M1, by simp, (pair_mk int_mk (pair_mk int_mk a2)), r⟩
theorem pkf_T_laws_Object {ψ : CM} {h0 h : Heap} {os : List Ob} {x0 : Int} {x1 : Int} {x2 : List (List Int)} {v2 : Value} (st : S ψ h0 h (.it (El.sl (El.sl (El.int .i64))) [v2] x2 :: os)) : S ψ h0 h (.it ef_T_laws_Object [.int .i64 x0, .int .i64 x1, v2] (T_laws_Object.mk x0 x1 x2) :: os) := by
  obtain ⟨φ, M0, s, L2, M1, rfl, a2, r⟩ := st
  exact ⟨φ, _, s, ([] ++ ([] ++ L2)), M1, by simp, (pair_mk int_mk (pair_mk int_mk a2)), r⟩
theorem un_T_laws_Object {φ : CM} {L : Rws} {cs : List Value} {x : T_laws_Object} (h : ef_T_laws_Object.R φ L cs x) : ∃ v2 : Value, cs = [.int .i64 x.Kind, .int .i64 x.Size, v2] ∧ SlC φ (El.sl (El.int .i64)) v2 x.Rows := by
  obtain ⟨_, _, _, _, rfl, _, a1_0, b1_0⟩ := h
  obtain ⟨_, rfl⟩ := a1_0
  obtain ⟨_, _, _, _, rfl, _, a1_1, b1_1⟩ := b1_0
  obtain ⟨_, rfl⟩ := a1_1
  obtain ⟨_, w4, rfl, g4⟩ := b1_1
  exact ⟨w4, rfl, g4⟩
def eo_T_laws_Lab : El T_laws_Lab := El.iso (El.pair (El.ow eo_T_laws_Recipe) (El.ow eo_T_laws_Object)) (fun x => (x.Recipes, x.Objects)) (T_laws_Lab.mk ([] : List T_laws_Recipe) ([] : List T_laws_Object)) rfl
def ef_T_laws_Lab : El T_laws_Lab := El.iso (El.pair (El.sl ef_T_laws_Recipe) (El.sl ef_T_laws_Object)) (fun x => (x.Recipes, x.Objects)) (T_laws_Lab.mk ([] : List T_laws_Recipe) ([] : List T_laws_Object)) rfl
theorem frzo_T_laws_Lab : Frz eo_T_laws_Lab ef_T_laws_Lab := frz_iso (frz_pair (frz_ow frzo_T_laws_Recipe) (frz_ow frzo_T_laws_Object))
theorem frzf_T_laws_Lab : Frz ef_T_laws_Lab ef_T_laws_Lab := frz_iso (frz_pair (frz_sl _) (frz_sl _))
theorem pko_T_laws_Lab {ψ : CM} {h0 h : Heap} {os : List Ob} {x0 : List T_laws_Recipe} {v0 : Value} {x1 : List T_laws_Object} {v1 : Value} (st : S ψ h0 h (.it (El.ow eo_T_laws_Recipe) [v0] x0 :: .it (El.ow eo_T_laws_Object) [v1] x1 :: os)) : S ψ h0 h (.it eo_T_laws_Lab [v0, v1] (T_laws_Lab.mk x0 x1) :: os) := by
  obtain ⟨φ, M0, s, L0, M1, rfl, a0, L1, M2, rfl, a1, r⟩ := st
  exact ⟨φ, _, s, (L0 ++ L1), M2, by simp, (pair_mk a0 a1), r⟩
theorem pkf_T_laws_Lab {ψ : CM} {h0 h : Heap} {os : List Ob} {x0 : List T_laws_Recipe} {v0 : Value} {x1 : List T_laws_Object} {v1 : Value} (st : S ψ h0 h (.it (El.sl ef_T_laws_Recipe) [v0] x0 :: .it (El.sl ef_T_laws_Object) [v1] x1 :: os)) : S ψ h0 h (.it ef_T_laws_Lab [v0, v1] (T_laws_Lab.mk x0 x1) :: os) := by
  obtain ⟨φ, M0, s, L0, M1, rfl, a0, L1, M2, rfl, a1, r⟩ := st
  exact ⟨φ, _, s, (L0 ++ L1), M2, by simp, (pair_mk a0 a1), r⟩
theorem un_T_laws_Lab {φ : CM} {L : Rws} {cs : List Value} {x : T_laws_Lab} (h : ef_T_laws_Lab.R φ L cs x) : ∃ v0 : Value, ∃ v1 : Value, cs = [v0, v1] ∧ SlC φ ef_T_laws_Recipe v0 x.Recipes ∧ SlC φ ef_T_laws_Object v1 x.Objects := by
  obtain ⟨_, _, _, _, rfl, _, a1_0, b1_0⟩ := h
  obtain ⟨_, w2, rfl, g2⟩ := a1_0
  obtain ⟨_, w3, rfl, g3⟩ := b1_0
  exact ⟨w2, w3, rfl, g2, g3⟩
def eo_T_laws_Item : El T_laws_Item := El.iso (El.pair El.str (El.pair eo_T_laws_Object El.str)) (fun x => (x.Name, x.Object, x.Key)) (T_laws_Item.mk (⟨#[]⟩ : ByteArray) (T_laws_Object.mk (0 : Int) (0 : Int) ([] : List (List Int))) (⟨#[]⟩ : ByteArray)) rfl
def ef_T_laws_Item : El T_laws_Item := El.iso (El.pair El.str (El.pair ef_T_laws_Object El.str)) (fun x => (x.Name, x.Object, x.Key)) (T_laws_Item.mk (⟨#[]⟩ : ByteArray) (T_laws_Object.mk (0 : Int) (0 : Int) ([] : List (List Int))) (⟨#[]⟩ : ByteArray)) rfl
theorem frzo_T_laws_Item : Frz eo_T_laws_Item ef_T_laws_Item := frz_iso (frz_pair frz_str (frz_pair frzo_T_laws_Object frz_str))
theorem frzf_T_laws_Item : Frz ef_T_laws_Item ef_T_laws_Item := frz_iso (frz_pair frz_str (frz_pair frzf_T_laws_Object frz_str))
theorem pko_T_laws_Item {ψ : CM} {h0 h : Heap} {os : List Ob} {x0 : ByteArray} {x1 : Int} {x2 : Int} {x3 : List (List Int)} {v3 : Value} {x4 : ByteArray} (st : S ψ h0 h (.it (El.ow (El.ow (El.int .i64))) [v3] x3 :: os)) : S ψ h0 h (.it eo_T_laws_Item [.string x0, .int .i64 x1, .int .i64 x2, v3, .string x4] (T_laws_Item.mk x0 (T_laws_Object.mk x1 x2 x3) x4) :: os) := by
  obtain ⟨φ, M0, s, L3, M1, rfl, a3, r⟩ := st
  exact ⟨φ, _, s, ([] ++ (([] ++ ([] ++ L3)) ++ [])), M1, by simp, (pair_mk str_mk (pair_mk (pair_mk int_mk (pair_mk int_mk a3)) str_mk)), r⟩
theorem pkf_T_laws_Item {ψ : CM} {h0 h : Heap} {os : List Ob} {x0 : ByteArray} {x1 : Int} {x2 : Int} {x3 : List (List Int)} {v3 : Value} {x4 : ByteArray} (st : S ψ h0 h (.it (El.sl (El.sl (El.int .i64))) [v3] x3 :: os)) : S ψ h0 h (.it ef_T_laws_Item [.string x0, .int .i64 x1, .int .i64 x2, v3, .string x4] (T_laws_Item.mk x0 (T_laws_Object.mk x1 x2 x3) x4) :: os) := by
  obtain ⟨φ, M0, s, L3, M1, rfl, a3, r⟩ := st
  exact ⟨φ, _, s, ([] ++ (([] ++ ([] ++ L3)) ++ [])), M1, by simp, (pair_mk str_mk (pair_mk (pair_mk int_mk (pair_mk int_mk a3)) str_mk)), r⟩
theorem un_T_laws_Item {φ : CM} {L : Rws} {cs : List Value} {x : T_laws_Item} (h : ef_T_laws_Item.R φ L cs x) : ∃ v3 : Value, cs = [.string x.Name, .int .i64 x.Object.Kind, .int .i64 x.Object.Size, v3, .string x.Key] ∧ SlC φ (El.sl (El.int .i64)) v3 x.Object.Rows := by
  obtain ⟨_, _, _, _, rfl, _, a1_0, b1_0⟩ := h
  obtain ⟨_, rfl⟩ := a1_0
  obtain ⟨_, _, _, _, rfl, _, a1_1, b1_1⟩ := b1_0
  obtain ⟨_, _, _, _, rfl, _, a3_0, b3_0⟩ := a1_1
  obtain ⟨_, rfl⟩ := a3_0
  obtain ⟨_, _, _, _, rfl, _, a3_1, b3_1⟩ := b3_0
  obtain ⟨_, rfl⟩ := a3_1
  obtain ⟨_, w6, rfl, g6⟩ := b3_1
  obtain ⟨_, rfl⟩ := b1_1
  exact ⟨w6, rfl, g6⟩
def eo_T_laws_Catalog : El T_laws_Catalog := El.iso (El.ow eo_T_laws_Item) (fun x => (x.Items)) (T_laws_Catalog.mk ([] : List T_laws_Item)) rfl
def ef_T_laws_Catalog : El T_laws_Catalog := El.iso (El.sl ef_T_laws_Item) (fun x => (x.Items)) (T_laws_Catalog.mk ([] : List T_laws_Item)) rfl
theorem frzo_T_laws_Catalog : Frz eo_T_laws_Catalog ef_T_laws_Catalog := frz_iso (frz_ow frzo_T_laws_Item)
theorem frzf_T_laws_Catalog : Frz ef_T_laws_Catalog ef_T_laws_Catalog := frz_iso (frz_sl _)
theorem pko_T_laws_Catalog {ψ : CM} {h0 h : Heap} {os : List Ob} {x0 : List T_laws_Item} {v0 : Value} (st : S ψ h0 h (.it (El.ow eo_T_laws_Item) [v0] x0 :: os)) : S ψ h0 h (.it eo_T_laws_Catalog [v0] (T_laws_Catalog.mk x0) :: os) := by
  obtain ⟨φ, M0, s, L0, M1, rfl, a0, r⟩ := st
  exact ⟨φ, _, s, L0, M1, by simp, a0, r⟩
theorem pkf_T_laws_Catalog {ψ : CM} {h0 h : Heap} {os : List Ob} {x0 : List T_laws_Item} {v0 : Value} (st : S ψ h0 h (.it (El.sl ef_T_laws_Item) [v0] x0 :: os)) : S ψ h0 h (.it ef_T_laws_Catalog [v0] (T_laws_Catalog.mk x0) :: os) := by
  obtain ⟨φ, M0, s, L0, M1, rfl, a0, r⟩ := st
  exact ⟨φ, _, s, L0, M1, by simp, a0, r⟩
theorem un_T_laws_Catalog {φ : CM} {L : Rws} {cs : List Value} {x : T_laws_Catalog} (h : ef_T_laws_Catalog.R φ L cs x) : ∃ v0 : Value, cs = [v0] ∧ SlC φ ef_T_laws_Item v0 x.Items := by
  obtain ⟨_, w2, rfl, g2⟩ := h
  exact ⟨w2, rfl, g2⟩
def eo_T_laws_Desk : El T_laws_Desk := El.iso (El.pair eo_T_laws_Lab eo_T_laws_Catalog) (fun x => (x.Lab, x.Catalog)) (T_laws_Desk.mk (T_laws_Lab.mk ([] : List T_laws_Recipe) ([] : List T_laws_Object)) (T_laws_Catalog.mk ([] : List T_laws_Item))) rfl
def ef_T_laws_Desk : El T_laws_Desk := El.iso (El.pair ef_T_laws_Lab ef_T_laws_Catalog) (fun x => (x.Lab, x.Catalog)) (T_laws_Desk.mk (T_laws_Lab.mk ([] : List T_laws_Recipe) ([] : List T_laws_Object)) (T_laws_Catalog.mk ([] : List T_laws_Item))) rfl
theorem frzo_T_laws_Desk : Frz eo_T_laws_Desk ef_T_laws_Desk := frz_iso (frz_pair frzo_T_laws_Lab frzo_T_laws_Catalog)
theorem frzf_T_laws_Desk : Frz ef_T_laws_Desk ef_T_laws_Desk := frz_iso (frz_pair frzf_T_laws_Lab frzf_T_laws_Catalog)
theorem pko_T_laws_Desk {ψ : CM} {h0 h : Heap} {os : List Ob} {x0 : List T_laws_Recipe} {v0 : Value} {x1 : List T_laws_Object} {v1 : Value} {x2 : List T_laws_Item} {v2 : Value} (st : S ψ h0 h (.it (El.ow eo_T_laws_Recipe) [v0] x0 :: .it (El.ow eo_T_laws_Object) [v1] x1 :: .it (El.ow eo_T_laws_Item) [v2] x2 :: os)) : S ψ h0 h (.it eo_T_laws_Desk [v0, v1, v2] (T_laws_Desk.mk (T_laws_Lab.mk x0 x1) (T_laws_Catalog.mk x2)) :: os) := by
  obtain ⟨φ, M0, s, L0, M1, rfl, a0, L1, M2, rfl, a1, L2, M3, rfl, a2, r⟩ := st
  exact ⟨φ, _, s, ((L0 ++ L1) ++ L2), M3, by simp, (pair_mk (pair_mk a0 a1) a2), r⟩
theorem pkf_T_laws_Desk {ψ : CM} {h0 h : Heap} {os : List Ob} {x0 : List T_laws_Recipe} {v0 : Value} {x1 : List T_laws_Object} {v1 : Value} {x2 : List T_laws_Item} {v2 : Value} (st : S ψ h0 h (.it (El.sl ef_T_laws_Recipe) [v0] x0 :: .it (El.sl ef_T_laws_Object) [v1] x1 :: .it (El.sl ef_T_laws_Item) [v2] x2 :: os)) : S ψ h0 h (.it ef_T_laws_Desk [v0, v1, v2] (T_laws_Desk.mk (T_laws_Lab.mk x0 x1) (T_laws_Catalog.mk x2)) :: os) := by
  obtain ⟨φ, M0, s, L0, M1, rfl, a0, L1, M2, rfl, a1, L2, M3, rfl, a2, r⟩ := st
  exact ⟨φ, _, s, ((L0 ++ L1) ++ L2), M3, by simp, (pair_mk (pair_mk a0 a1) a2), r⟩
theorem un_T_laws_Desk {φ : CM} {L : Rws} {cs : List Value} {x : T_laws_Desk} (h : ef_T_laws_Desk.R φ L cs x) : ∃ v0 : Value, ∃ v1 : Value, ∃ v2 : Value, cs = [v0, v1, v2] ∧ SlC φ ef_T_laws_Recipe v0 x.Lab.Recipes ∧ SlC φ ef_T_laws_Object v1 x.Lab.Objects ∧ SlC φ ef_T_laws_Item v2 x.Catalog.Items := by
  obtain ⟨_, _, _, _, rfl, _, a1_0, b1_0⟩ := h
  obtain ⟨_, _, _, _, rfl, _, a2_0, b2_0⟩ := a1_0
  obtain ⟨_, w3, rfl, g3⟩ := a2_0
  obtain ⟨_, w4, rfl, g4⟩ := b2_0
  obtain ⟨_, w6, rfl, g6⟩ := b1_0
  exact ⟨w3, w4, w6, rfl, g3, g4, g6⟩
def eo_T_impl_Object : El T_impl_Object := El.iso (El.pair (El.int .i64) (El.pair (El.int .i64) (El.ow (El.ow (El.int .i64))))) (fun x => (x.Kind, x.Size, x.Rows)) (T_impl_Object.mk (0 : Int) (0 : Int) ([] : List (List Int))) rfl
def ef_T_impl_Object : El T_impl_Object := El.iso (El.pair (El.int .i64) (El.pair (El.int .i64) (El.sl (El.sl (El.int .i64))))) (fun x => (x.Kind, x.Size, x.Rows)) (T_impl_Object.mk (0 : Int) (0 : Int) ([] : List (List Int))) rfl
theorem frzo_T_impl_Object : Frz eo_T_impl_Object ef_T_impl_Object := frz_iso (frz_pair (frz_int _) (frz_pair (frz_int _) (frz_ow (frz_ow (frz_int _)))))
theorem frzf_T_impl_Object : Frz ef_T_impl_Object ef_T_impl_Object := frz_iso (frz_pair (frz_int _) (frz_pair (frz_int _) (frz_sl _)))
theorem pko_T_impl_Object {ψ : CM} {h0 h : Heap} {os : List Ob} {x0 : Int} {x1 : Int} {x2 : List (List Int)} {v2 : Value} (st : S ψ h0 h (.it (El.ow (El.ow (El.int .i64))) [v2] x2 :: os)) : S ψ h0 h (.it eo_T_impl_Object [.int .i64 x0, .int .i64 x1, v2] (T_impl_Object.mk x0 x1 x2) :: os) := by
  obtain ⟨φ, M0, s, L2, M1, rfl, a2, r⟩ := st
  exact ⟨φ, _, s, ([] ++ ([] ++ L2)), M1, by simp, (pair_mk int_mk (pair_mk int_mk a2)), r⟩
theorem pkf_T_impl_Object {ψ : CM} {h0 h : Heap} {os : List Ob} {x0 : Int} {x1 : Int} {x2 : List (List Int)} {v2 : Value} (st : S ψ h0 h (.it (El.sl (El.sl (El.int .i64))) [v2] x2 :: os)) : S ψ h0 h (.it ef_T_impl_Object [.int .i64 x0, .int .i64 x1, v2] (T_impl_Object.mk x0 x1 x2) :: os) := by
  obtain ⟨φ, M0, s, L2, M1, rfl, a2, r⟩ := st
  exact ⟨φ, _, s, ([] ++ ([] ++ L2)), M1, by simp, (pair_mk int_mk (pair_mk int_mk a2)), r⟩
theorem un_T_impl_Object {φ : CM} {L : Rws} {cs : List Value} {x : T_impl_Object} (h : ef_T_impl_Object.R φ L cs x) : ∃ v2 : Value, cs = [.int .i64 x.Kind, .int .i64 x.Size, v2] ∧ SlC φ (El.sl (El.int .i64)) v2 x.Rows := by
  obtain ⟨_, _, _, _, rfl, _, a1_0, b1_0⟩ := h
  obtain ⟨_, rfl⟩ := a1_0
  obtain ⟨_, _, _, _, rfl, _, a1_1, b1_1⟩ := b1_0
  obtain ⟨_, rfl⟩ := a1_1
  obtain ⟨_, w4, rfl, g4⟩ := b1_1
  exact ⟨w4, rfl, g4⟩
def eo_T_impl_Recipe : El T_impl_Recipe := El.iso (El.pair El.str (El.pair El.str (El.pair (El.ow (El.int .i64)) (El.ow El.str)))) (fun x => (x.Name, x.Verb, x.Args, x.Uses)) (T_impl_Recipe.mk (⟨#[]⟩ : ByteArray) (⟨#[]⟩ : ByteArray) ([] : List Int) ([] : List ByteArray)) rfl
def ef_T_impl_Recipe : El T_impl_Recipe := El.iso (El.pair El.str (El.pair El.str (El.pair (El.sl (El.int .i64)) (El.sl El.str)))) (fun x => (x.Name, x.Verb, x.Args, x.Uses)) (T_impl_Recipe.mk (⟨#[]⟩ : ByteArray) (⟨#[]⟩ : ByteArray) ([] : List Int) ([] : List ByteArray)) rfl
theorem frzo_T_impl_Recipe : Frz eo_T_impl_Recipe ef_T_impl_Recipe := frz_iso (frz_pair frz_str (frz_pair frz_str (frz_pair (frz_ow (frz_int _)) (frz_ow frz_str))))
theorem frzf_T_impl_Recipe : Frz ef_T_impl_Recipe ef_T_impl_Recipe := frz_iso (frz_pair frz_str (frz_pair frz_str (frz_pair (frz_sl _) (frz_sl _))))
theorem pko_T_impl_Recipe {ψ : CM} {h0 h : Heap} {os : List Ob} {x0 : ByteArray} {x1 : ByteArray} {x2 : List Int} {v2 : Value} {x3 : List ByteArray} {v3 : Value} (st : S ψ h0 h (.it (El.ow (El.int .i64)) [v2] x2 :: .it (El.ow El.str) [v3] x3 :: os)) : S ψ h0 h (.it eo_T_impl_Recipe [.string x0, .string x1, v2, v3] (T_impl_Recipe.mk x0 x1 x2 x3) :: os) := by
  obtain ⟨φ, M0, s, L2, M1, rfl, a2, L3, M2, rfl, a3, r⟩ := st
  exact ⟨φ, _, s, ([] ++ ([] ++ (L2 ++ L3))), M2, by simp, (pair_mk str_mk (pair_mk str_mk (pair_mk a2 a3))), r⟩
theorem pkf_T_impl_Recipe {ψ : CM} {h0 h : Heap} {os : List Ob} {x0 : ByteArray} {x1 : ByteArray} {x2 : List Int} {v2 : Value} {x3 : List ByteArray} {v3 : Value} (st : S ψ h0 h (.it (El.sl (El.int .i64)) [v2] x2 :: .it (El.sl El.str) [v3] x3 :: os)) : S ψ h0 h (.it ef_T_impl_Recipe [.string x0, .string x1, v2, v3] (T_impl_Recipe.mk x0 x1 x2 x3) :: os) := by
  obtain ⟨φ, M0, s, L2, M1, rfl, a2, L3, M2, rfl, a3, r⟩ := st
  exact ⟨φ, _, s, ([] ++ ([] ++ (L2 ++ L3))), M2, by simp, (pair_mk str_mk (pair_mk str_mk (pair_mk a2 a3))), r⟩
theorem un_T_impl_Recipe {φ : CM} {L : Rws} {cs : List Value} {x : T_impl_Recipe} (h : ef_T_impl_Recipe.R φ L cs x) : ∃ v2 : Value, ∃ v3 : Value, cs = [.string x.Name, .string x.Verb, v2, v3] ∧ SlC φ (El.int .i64) v2 x.Args ∧ SlC φ El.str v3 x.Uses := by
  obtain ⟨_, _, _, _, rfl, _, a1_0, b1_0⟩ := h
  obtain ⟨_, rfl⟩ := a1_0
  obtain ⟨_, _, _, _, rfl, _, a1_1, b1_1⟩ := b1_0
  obtain ⟨_, rfl⟩ := a1_1
  obtain ⟨_, _, _, _, rfl, _, a1_2, b1_2⟩ := b1_1
  obtain ⟨_, w4, rfl, g4⟩ := a1_2
  obtain ⟨_, w5, rfl, g5⟩ := b1_2
  exact ⟨w4, w5, rfl, g4, g5⟩
def eo_T_impl_Lab : El T_impl_Lab := El.iso (El.pair (El.ow eo_T_impl_Recipe) (El.ow eo_T_impl_Object)) (fun x => (x.Recipes, x.Objects)) (T_impl_Lab.mk ([] : List T_impl_Recipe) ([] : List T_impl_Object)) rfl
def ef_T_impl_Lab : El T_impl_Lab := El.iso (El.pair (El.sl ef_T_impl_Recipe) (El.sl ef_T_impl_Object)) (fun x => (x.Recipes, x.Objects)) (T_impl_Lab.mk ([] : List T_impl_Recipe) ([] : List T_impl_Object)) rfl
theorem frzo_T_impl_Lab : Frz eo_T_impl_Lab ef_T_impl_Lab := frz_iso (frz_pair (frz_ow frzo_T_impl_Recipe) (frz_ow frzo_T_impl_Object))
theorem frzf_T_impl_Lab : Frz ef_T_impl_Lab ef_T_impl_Lab := frz_iso (frz_pair (frz_sl _) (frz_sl _))
theorem pko_T_impl_Lab {ψ : CM} {h0 h : Heap} {os : List Ob} {x0 : List T_impl_Recipe} {v0 : Value} {x1 : List T_impl_Object} {v1 : Value} (st : S ψ h0 h (.it (El.ow eo_T_impl_Recipe) [v0] x0 :: .it (El.ow eo_T_impl_Object) [v1] x1 :: os)) : S ψ h0 h (.it eo_T_impl_Lab [v0, v1] (T_impl_Lab.mk x0 x1) :: os) := by
  obtain ⟨φ, M0, s, L0, M1, rfl, a0, L1, M2, rfl, a1, r⟩ := st
  exact ⟨φ, _, s, (L0 ++ L1), M2, by simp, (pair_mk a0 a1), r⟩
theorem pkf_T_impl_Lab {ψ : CM} {h0 h : Heap} {os : List Ob} {x0 : List T_impl_Recipe} {v0 : Value} {x1 : List T_impl_Object} {v1 : Value} (st : S ψ h0 h (.it (El.sl ef_T_impl_Recipe) [v0] x0 :: .it (El.sl ef_T_impl_Object) [v1] x1 :: os)) : S ψ h0 h (.it ef_T_impl_Lab [v0, v1] (T_impl_Lab.mk x0 x1) :: os) := by
  obtain ⟨φ, M0, s, L0, M1, rfl, a0, L1, M2, rfl, a1, r⟩ := st
  exact ⟨φ, _, s, (L0 ++ L1), M2, by simp, (pair_mk a0 a1), r⟩
theorem un_T_impl_Lab {φ : CM} {L : Rws} {cs : List Value} {x : T_impl_Lab} (h : ef_T_impl_Lab.R φ L cs x) : ∃ v0 : Value, ∃ v1 : Value, cs = [v0, v1] ∧ SlC φ ef_T_impl_Recipe v0 x.Recipes ∧ SlC φ ef_T_impl_Object v1 x.Objects := by
  obtain ⟨_, _, _, _, rfl, _, a1_0, b1_0⟩ := h
  obtain ⟨_, w2, rfl, g2⟩ := a1_0
  obtain ⟨_, w3, rfl, g3⟩ := b1_0
  exact ⟨w2, w3, rfl, g2, g3⟩
def eo_T_impl_Item : El T_impl_Item := El.iso (El.pair El.str (El.pair eo_T_impl_Object El.str)) (fun x => (x.Name, x.Object, x.Key)) (T_impl_Item.mk (⟨#[]⟩ : ByteArray) (T_impl_Object.mk (0 : Int) (0 : Int) ([] : List (List Int))) (⟨#[]⟩ : ByteArray)) rfl
def ef_T_impl_Item : El T_impl_Item := El.iso (El.pair El.str (El.pair ef_T_impl_Object El.str)) (fun x => (x.Name, x.Object, x.Key)) (T_impl_Item.mk (⟨#[]⟩ : ByteArray) (T_impl_Object.mk (0 : Int) (0 : Int) ([] : List (List Int))) (⟨#[]⟩ : ByteArray)) rfl
theorem frzo_T_impl_Item : Frz eo_T_impl_Item ef_T_impl_Item := frz_iso (frz_pair frz_str (frz_pair frzo_T_impl_Object frz_str))
theorem frzf_T_impl_Item : Frz ef_T_impl_Item ef_T_impl_Item := frz_iso (frz_pair frz_str (frz_pair frzf_T_impl_Object frz_str))
theorem pko_T_impl_Item {ψ : CM} {h0 h : Heap} {os : List Ob} {x0 : ByteArray} {x1 : Int} {x2 : Int} {x3 : List (List Int)} {v3 : Value} {x4 : ByteArray} (st : S ψ h0 h (.it (El.ow (El.ow (El.int .i64))) [v3] x3 :: os)) : S ψ h0 h (.it eo_T_impl_Item [.string x0, .int .i64 x1, .int .i64 x2, v3, .string x4] (T_impl_Item.mk x0 (T_impl_Object.mk x1 x2 x3) x4) :: os) := by
  obtain ⟨φ, M0, s, L3, M1, rfl, a3, r⟩ := st
  exact ⟨φ, _, s, ([] ++ (([] ++ ([] ++ L3)) ++ [])), M1, by simp, (pair_mk str_mk (pair_mk (pair_mk int_mk (pair_mk int_mk a3)) str_mk)), r⟩
theorem pkf_T_impl_Item {ψ : CM} {h0 h : Heap} {os : List Ob} {x0 : ByteArray} {x1 : Int} {x2 : Int} {x3 : List (List Int)} {v3 : Value} {x4 : ByteArray} (st : S ψ h0 h (.it (El.sl (El.sl (El.int .i64))) [v3] x3 :: os)) : S ψ h0 h (.it ef_T_impl_Item [.string x0, .int .i64 x1, .int .i64 x2, v3, .string x4] (T_impl_Item.mk x0 (T_impl_Object.mk x1 x2 x3) x4) :: os) := by
  obtain ⟨φ, M0, s, L3, M1, rfl, a3, r⟩ := st
  exact ⟨φ, _, s, ([] ++ (([] ++ ([] ++ L3)) ++ [])), M1, by simp, (pair_mk str_mk (pair_mk (pair_mk int_mk (pair_mk int_mk a3)) str_mk)), r⟩
theorem un_T_impl_Item {φ : CM} {L : Rws} {cs : List Value} {x : T_impl_Item} (h : ef_T_impl_Item.R φ L cs x) : ∃ v3 : Value, cs = [.string x.Name, .int .i64 x.Object.Kind, .int .i64 x.Object.Size, v3, .string x.Key] ∧ SlC φ (El.sl (El.int .i64)) v3 x.Object.Rows := by
  obtain ⟨_, _, _, _, rfl, _, a1_0, b1_0⟩ := h
  obtain ⟨_, rfl⟩ := a1_0
  obtain ⟨_, _, _, _, rfl, _, a1_1, b1_1⟩ := b1_0
  obtain ⟨_, _, _, _, rfl, _, a3_0, b3_0⟩ := a1_1
  obtain ⟨_, rfl⟩ := a3_0
  obtain ⟨_, _, _, _, rfl, _, a3_1, b3_1⟩ := b3_0
  obtain ⟨_, rfl⟩ := a3_1
  obtain ⟨_, w6, rfl, g6⟩ := b3_1
  obtain ⟨_, rfl⟩ := b1_1
  exact ⟨w6, rfl, g6⟩
def eo_T_impl_Catalog : El T_impl_Catalog := El.iso (El.ow eo_T_impl_Item) (fun x => (x.Items)) (T_impl_Catalog.mk ([] : List T_impl_Item)) rfl
def ef_T_impl_Catalog : El T_impl_Catalog := El.iso (El.sl ef_T_impl_Item) (fun x => (x.Items)) (T_impl_Catalog.mk ([] : List T_impl_Item)) rfl
theorem frzo_T_impl_Catalog : Frz eo_T_impl_Catalog ef_T_impl_Catalog := frz_iso (frz_ow frzo_T_impl_Item)
theorem frzf_T_impl_Catalog : Frz ef_T_impl_Catalog ef_T_impl_Catalog := frz_iso (frz_sl _)
theorem pko_T_impl_Catalog {ψ : CM} {h0 h : Heap} {os : List Ob} {x0 : List T_impl_Item} {v0 : Value} (st : S ψ h0 h (.it (El.ow eo_T_impl_Item) [v0] x0 :: os)) : S ψ h0 h (.it eo_T_impl_Catalog [v0] (T_impl_Catalog.mk x0) :: os) := by
  obtain ⟨φ, M0, s, L0, M1, rfl, a0, r⟩ := st
  exact ⟨φ, _, s, L0, M1, by simp, a0, r⟩
theorem pkf_T_impl_Catalog {ψ : CM} {h0 h : Heap} {os : List Ob} {x0 : List T_impl_Item} {v0 : Value} (st : S ψ h0 h (.it (El.sl ef_T_impl_Item) [v0] x0 :: os)) : S ψ h0 h (.it ef_T_impl_Catalog [v0] (T_impl_Catalog.mk x0) :: os) := by
  obtain ⟨φ, M0, s, L0, M1, rfl, a0, r⟩ := st
  exact ⟨φ, _, s, L0, M1, by simp, a0, r⟩
theorem un_T_impl_Catalog {φ : CM} {L : Rws} {cs : List Value} {x : T_impl_Catalog} (h : ef_T_impl_Catalog.R φ L cs x) : ∃ v0 : Value, cs = [v0] ∧ SlC φ ef_T_impl_Item v0 x.Items := by
  obtain ⟨_, w2, rfl, g2⟩ := h
  exact ⟨w2, rfl, g2⟩
def eo_T_impl_Desk : El T_impl_Desk := El.iso (El.pair eo_T_impl_Lab eo_T_impl_Catalog) (fun x => (x.Lab, x.Catalog)) (T_impl_Desk.mk (T_impl_Lab.mk ([] : List T_impl_Recipe) ([] : List T_impl_Object)) (T_impl_Catalog.mk ([] : List T_impl_Item))) rfl
def ef_T_impl_Desk : El T_impl_Desk := El.iso (El.pair ef_T_impl_Lab ef_T_impl_Catalog) (fun x => (x.Lab, x.Catalog)) (T_impl_Desk.mk (T_impl_Lab.mk ([] : List T_impl_Recipe) ([] : List T_impl_Object)) (T_impl_Catalog.mk ([] : List T_impl_Item))) rfl
theorem frzo_T_impl_Desk : Frz eo_T_impl_Desk ef_T_impl_Desk := frz_iso (frz_pair frzo_T_impl_Lab frzo_T_impl_Catalog)
theorem frzf_T_impl_Desk : Frz ef_T_impl_Desk ef_T_impl_Desk := frz_iso (frz_pair frzf_T_impl_Lab frzf_T_impl_Catalog)
theorem pko_T_impl_Desk {ψ : CM} {h0 h : Heap} {os : List Ob} {x0 : List T_impl_Recipe} {v0 : Value} {x1 : List T_impl_Object} {v1 : Value} {x2 : List T_impl_Item} {v2 : Value} (st : S ψ h0 h (.it (El.ow eo_T_impl_Recipe) [v0] x0 :: .it (El.ow eo_T_impl_Object) [v1] x1 :: .it (El.ow eo_T_impl_Item) [v2] x2 :: os)) : S ψ h0 h (.it eo_T_impl_Desk [v0, v1, v2] (T_impl_Desk.mk (T_impl_Lab.mk x0 x1) (T_impl_Catalog.mk x2)) :: os) := by
  obtain ⟨φ, M0, s, L0, M1, rfl, a0, L1, M2, rfl, a1, L2, M3, rfl, a2, r⟩ := st
  exact ⟨φ, _, s, ((L0 ++ L1) ++ L2), M3, by simp, (pair_mk (pair_mk a0 a1) a2), r⟩
theorem pkf_T_impl_Desk {ψ : CM} {h0 h : Heap} {os : List Ob} {x0 : List T_impl_Recipe} {v0 : Value} {x1 : List T_impl_Object} {v1 : Value} {x2 : List T_impl_Item} {v2 : Value} (st : S ψ h0 h (.it (El.sl ef_T_impl_Recipe) [v0] x0 :: .it (El.sl ef_T_impl_Object) [v1] x1 :: .it (El.sl ef_T_impl_Item) [v2] x2 :: os)) : S ψ h0 h (.it ef_T_impl_Desk [v0, v1, v2] (T_impl_Desk.mk (T_impl_Lab.mk x0 x1) (T_impl_Catalog.mk x2)) :: os) := by
  obtain ⟨φ, M0, s, L0, M1, rfl, a0, L1, M2, rfl, a1, L2, M3, rfl, a2, r⟩ := st
  exact ⟨φ, _, s, ((L0 ++ L1) ++ L2), M3, by simp, (pair_mk (pair_mk a0 a1) a2), r⟩
theorem un_T_impl_Desk {φ : CM} {L : Rws} {cs : List Value} {x : T_impl_Desk} (h : ef_T_impl_Desk.R φ L cs x) : ∃ v0 : Value, ∃ v1 : Value, ∃ v2 : Value, cs = [v0, v1, v2] ∧ SlC φ ef_T_impl_Recipe v0 x.Lab.Recipes ∧ SlC φ ef_T_impl_Object v1 x.Lab.Objects ∧ SlC φ ef_T_impl_Item v2 x.Catalog.Items := by
  obtain ⟨_, _, _, _, rfl, _, a1_0, b1_0⟩ := h
  obtain ⟨_, _, _, _, rfl, _, a2_0, b2_0⟩ := a1_0
  obtain ⟨_, w3, rfl, g3⟩ := a2_0
  obtain ⟨_, w4, rfl, g4⟩ := b2_0
  obtain ⟨_, w6, rfl, g6⟩ := b1_0
  exact ⟨w3, w4, w6, rfl, g3, g4, g6⟩
theorem r_laws_szInt64S {ψ : CM} {h : Heap} (hψ : CLe ψ (hcell h)) {a0 : List Int} {v0 : Value} {left1 : Int} {r : Int} (hp : p_laws_szInt64S a0 left1 = some r) (f0 : SlC (hcell h) (El.int .i64) v0 a0) : CallsH P id_laws_szInt64S #[v0, .int .i64 left1] h (fun v h' => v = .int .i64 r ∧ S ψ h h' []) := by
  apply w_laws_szInt64S
  unfold F_laws_szInt64S
  rw [p_laws_szInt64S] at hp
  have st : S ψ h h [] := S.start hψ
  refine vLen_C (f0.mono st.le) ?_
  refine bifP hp (fun hc hp => ?_) (fun hc hp => ?_)
  · obtain rfl := Option.some.inj hp
    exact ⟨rfl, st.pick [] (by decide)⟩
  · obtain rfl := Option.some.inj hp
    exact ⟨rfl, st.pick [] (by decide)⟩
theorem r_laws_szStringS {ψ : CM} {h : Heap} (hψ : CLe ψ (hcell h)) {a0 : List ByteArray} {v0 : Value} {left1 : Int} {r : Int} (hp : p_laws_szStringS a0 left1 = some r) (f0 : SlC (hcell h) El.str v0 a0) : CallsH P id_laws_szStringS #[v0, .int .i64 left1] h (fun v h' => v = .int .i64 r ∧ S ψ h h' []) := by
  apply w_laws_szStringS
  unfold F_laws_szStringS
  rw [p_laws_szStringS] at hp
  have st : S ψ h h [] := S.start hψ
  refine vLen_C (f0.mono st.le) ?_
  refine bifP hp (fun hc hp => ?_) (fun hc hp => ?_)
  · obtain rfl := Option.some.inj hp
    exact ⟨rfl, st.pick [] (by decide)⟩
  · obtain ⟨n_2, hn⟩ := loop_n hp
    refine ⟨fun n left1_2 i5 h_2 => S ψ h h_2 [] ∧ loopN (p_laws_szStringS_b1 a0) n (left1_2, i5) = some r, ⟨n_2, st.pick [] (by decide), hn⟩, ?_⟩
    rintro n _ left1_2 i5 h_2 ⟨st, hn⟩
    obtain ⟨m, a, rfl, hp, hs⟩ := loopN_step hn
    rw [p_laws_szStringS_b1] at hp
    refine vLen_C (f0.mono st.le) ?_
    refine bifP hp (fun hc hp => ?_) (fun hc hp => ?_)
    · obtain ⟨e21, hx, hp⟩ := obind hp
      refine vIdx_C (f0.mono st.le) hx fun p21 ad => ?_
      refine ldS_C (f0.mono st.le) ad hx ?_
      refine bifP hp (fun hc hp => ?_) (fun hc hp => ?_)
      · obtain rfl := Option.some.inj hp
        obtain rfl := Option.some.inj hs
        exact ⟨rfl, st.pick [] (by decide)⟩
      · obtain rfl := Option.some.inj hp
        exact ⟨m, Nat.lt_succ_self _, st.pick [] (by decide), hs⟩
    · obtain rfl := Option.some.inj hp
      obtain rfl := Option.some.inj hs
      exact ⟨rfl, st.pick [] (by decide)⟩
theorem r_laws_szRecipe {ψ : CM} {h : Heap} (hψ : CLe ψ (hcell h)) {a0 : T_laws_Recipe} {v0_2 : Value} {v0_3 : Value} {left1 : Int} {r : Int} (hp : p_laws_szRecipe a0 left1 = some r) (f0_2 : SlC (hcell h) (El.int .i64) v0_2 a0.Args) (f0_3 : SlC (hcell h) El.str v0_3 a0.Uses) : CallsH P id_laws_szRecipe #[.agg #[.string a0.Name, .string a0.Verb, v0_2, v0_3], .int .i64 left1] h (fun v h' => v = .int .i64 r ∧ S ψ h h' []) := by
  apply w_laws_szRecipe
  unfold F_laws_szRecipe
  rw [p_laws_szRecipe] at hp
  have st : S ψ h h [] := S.start hψ
  refine new_S st fun b2 h_2 st => ?_
  refine ldS_K (st.cells 0 rfl) 0 rfl rfl ?_
  refine bifP hp (fun hc hp => ?_) (fun hc hp => ?_)
  · obtain rfl := Option.some.inj hp
    exact ⟨rfl, st.pick [] (by decide)⟩
  · refine ldS_K (st.cells 0 rfl) 1 rfl rfl ?_
    refine bifP hp (fun hc hp => ?_) (fun hc hp => ?_)
    · obtain rfl := Option.some.inj hp
      exact ⟨rfl, st.pick [] (by decide)⟩
    · refine ldV_K (st.cells 0 rfl) 2 rfl rfl ?_
      obtain ⟨r22, hx, hp⟩ := obind hp
      obtain ⟨φ, L, s, r_2⟩ := id st
      refine (r_laws_szInt64S s.fle hx (f0_2.mono st.le)).mono fun v_2 h_3 ⟨eq, t⟩ => ⟨_, eq, ?_⟩
      replace st := join0 s r_2 t
      clear t s r_2
      refine bifP hp (fun hc hp => ?_) (fun hc hp => ?_)
      · obtain rfl := Option.some.inj hp
        exact ⟨rfl, st.pick [] (by decide)⟩
      · refine ldV_K (st.cells 0 rfl) 3 rfl rfl ?_
        obtain ⟨r28, hx_2, hp⟩ := obind hp
        obtain ⟨φ_2, L_2, s_2, r_3⟩ := id st
        refine (r_laws_szStringS s_2.fle hx_2 (f0_3.mono st.le)).mono fun v_3 h_4 ⟨eq_2, t_2⟩ => ⟨_, eq_2, ?_⟩
        replace st := join0 s_2 r_3 t_2
        clear t_2 s_2 r_3
        refine bifP hp (fun hc hp => ?_) (fun hc hp => ?_)
        · obtain rfl := Option.some.inj hp
          exact ⟨rfl, st.pick [] (by decide)⟩
        · obtain rfl := Option.some.inj hp
          exact ⟨rfl, st.pick [] (by decide)⟩
theorem r_laws_szRecipeS {ψ : CM} {h : Heap} (hψ : CLe ψ (hcell h)) {a0 : List T_laws_Recipe} {v0 : Value} {left1 : Int} {r : Int} (hp : p_laws_szRecipeS a0 left1 = some r) (f0 : SlC (hcell h) ef_T_laws_Recipe v0 a0) : CallsH P id_laws_szRecipeS #[v0, .int .i64 left1] h (fun v h' => v = .int .i64 r ∧ S ψ h h' []) := by
  apply w_laws_szRecipeS
  unfold F_laws_szRecipeS
  rw [p_laws_szRecipeS] at hp
  have st : S ψ h h [] := S.start hψ
  refine vLen_C (f0.mono st.le) ?_
  refine bifP hp (fun hc hp => ?_) (fun hc hp => ?_)
  · obtain rfl := Option.some.inj hp
    exact ⟨rfl, st.pick [] (by decide)⟩
  · obtain ⟨n_2, hn⟩ := loop_n hp
    refine ⟨fun n left1_2 i5 h_2 => S ψ h h_2 [] ∧ loopN (p_laws_szRecipeS_b1 a0) n (left1_2, i5) = some r, ⟨n_2, st.pick [] (by decide), hn⟩, ?_⟩
    rintro n _ left1_2 i5 h_2 ⟨st, hn⟩
    obtain ⟨m, a, rfl, hp, hs⟩ := loopN_step hn
    rw [p_laws_szRecipeS_b1] at hp
    refine vLen_C (f0.mono st.le) ?_
    refine bifP hp (fun hc hp => ?_) (fun hc hp => ?_)
    · obtain ⟨e20, hx, hp⟩ := obind hp
      refine vIdx_C (f0.mono st.le) hx fun p20 ad => ?_
      obtain ⟨cs, ck, hr⟩ := f0.cells ad hx rfl
      obtain ⟨v_2, v_3, rfl, f, f_2⟩ := un_T_laws_Recipe hr
      refine ldS_K (ck.mono st.le) 0 rfl rfl ?_
      refine ldS_K (ck.mono st.le) 1 rfl rfl ?_
      refine ldV_K (ck.mono st.le) 2 rfl rfl ?_
      refine ldV_K (ck.mono st.le) 3 rfl rfl ?_
      obtain ⟨r23, hx_2, hp⟩ := obind hp
      obtain ⟨φ, L, s, r_2⟩ := id st
      refine (r_laws_szRecipe s.fle hx_2 (f.mono st.le) (f_2.mono st.le)).mono fun v_4 h_3 ⟨eq, t⟩ => ⟨_, eq, ?_⟩
      replace st := join0 s r_2 t
      clear t s r_2
      refine bifP hp (fun hc hp => ?_) (fun hc hp => ?_)
      · obtain rfl := Option.some.inj hp
        obtain rfl := Option.some.inj hs
        exact ⟨rfl, st.pick [] (by decide)⟩
      · obtain rfl := Option.some.inj hp
        exact ⟨m, Nat.lt_succ_self _, st.pick [] (by decide), hs⟩
    · obtain rfl := Option.some.inj hp
      obtain rfl := Option.some.inj hs
      exact ⟨rfl, st.pick [] (by decide)⟩
theorem r_laws_szInt64SS {ψ : CM} {h : Heap} (hψ : CLe ψ (hcell h)) {a0 : List (List Int)} {v0 : Value} {left1 : Int} {r : Int} (hp : p_laws_szInt64SS a0 left1 = some r) (f0 : SlC (hcell h) (El.sl (El.int .i64)) v0 a0) : CallsH P id_laws_szInt64SS #[v0, .int .i64 left1] h (fun v h' => v = .int .i64 r ∧ S ψ h h' []) := by
  apply w_laws_szInt64SS
  unfold F_laws_szInt64SS
  rw [p_laws_szInt64SS] at hp
  have st : S ψ h h [] := S.start hψ
  refine vLen_C (f0.mono st.le) ?_
  refine bifP hp (fun hc hp => ?_) (fun hc hp => ?_)
  · obtain rfl := Option.some.inj hp
    exact ⟨rfl, st.pick [] (by decide)⟩
  · obtain ⟨n_2, hn⟩ := loop_n hp
    refine ⟨fun n left1_2 i5 h_2 => S ψ h h_2 [] ∧ loopN (p_laws_szInt64SS_b1 a0) n (left1_2, i5) = some r, ⟨n_2, st.pick [] (by decide), hn⟩, ?_⟩
    rintro n _ left1_2 i5 h_2 ⟨st, hn⟩
    obtain ⟨m, a, rfl, hp, hs⟩ := loopN_step hn
    rw [p_laws_szInt64SS_b1] at hp
    refine vLen_C (f0.mono st.le) ?_
    refine bifP hp (fun hc hp => ?_) (fun hc hp => ?_)
    · obtain ⟨e20, hx, hp⟩ := obind hp
      refine vIdx_C (f0.mono st.le) hx fun p20 ad => ?_
      refine ldV_C f0 st.le ad hx fun u21 f => ?_
      obtain ⟨r23, hx_2, hp⟩ := obind hp
      obtain ⟨φ, L, s, r_2⟩ := id st
      refine (r_laws_szInt64S s.fle hx_2 (f.mono st.le)).mono fun v_2 h_3 ⟨eq, t⟩ => ⟨_, eq, ?_⟩
      replace st := join0 s r_2 t
      clear t s r_2
      refine bifP hp (fun hc hp => ?_) (fun hc hp => ?_)
      · obtain rfl := Option.some.inj hp
        obtain rfl := Option.some.inj hs
        exact ⟨rfl, st.pick [] (by decide)⟩
      · obtain rfl := Option.some.inj hp
        exact ⟨m, Nat.lt_succ_self _, st.pick [] (by decide), hs⟩
    · obtain rfl := Option.some.inj hp
      obtain rfl := Option.some.inj hs
      exact ⟨rfl, st.pick [] (by decide)⟩
theorem r_laws_szObject {ψ : CM} {h : Heap} (hψ : CLe ψ (hcell h)) {a0 : T_laws_Object} {v0_2 : Value} {left1 : Int} {r : Int} (hp : p_laws_szObject a0 left1 = some r) (f0_2 : SlC (hcell h) (El.sl (El.int .i64)) v0_2 a0.Rows) : CallsH P id_laws_szObject #[.agg #[.int .i64 a0.Kind, .int .i64 a0.Size, v0_2], .int .i64 left1] h (fun v h' => v = .int .i64 r ∧ S ψ h h' []) := by
  apply w_laws_szObject
  unfold F_laws_szObject
  rw [p_laws_szObject] at hp
  have st : S ψ h h [] := S.start hψ
  refine new_S st fun b2 h_2 st => ?_
  refine ldV_K (st.cells 0 rfl) 2 rfl rfl ?_
  obtain ⟨r8, hx, hp⟩ := obind hp
  obtain ⟨φ, L, s, r_2⟩ := id st
  refine (r_laws_szInt64SS s.fle hx (f0_2.mono st.le)).mono fun v_2 h_3 ⟨eq, t⟩ => ⟨_, eq, ?_⟩
  replace st := join0 s r_2 t
  clear t s r_2
  refine bifP hp (fun hc hp => ?_) (fun hc hp => ?_)
  · obtain rfl := Option.some.inj hp
    exact ⟨rfl, st.pick [] (by decide)⟩
  · obtain rfl := Option.some.inj hp
    exact ⟨rfl, st.pick [] (by decide)⟩
theorem r_laws_szObjectS {ψ : CM} {h : Heap} (hψ : CLe ψ (hcell h)) {a0 : List T_laws_Object} {v0 : Value} {left1 : Int} {r : Int} (hp : p_laws_szObjectS a0 left1 = some r) (f0 : SlC (hcell h) ef_T_laws_Object v0 a0) : CallsH P id_laws_szObjectS #[v0, .int .i64 left1] h (fun v h' => v = .int .i64 r ∧ S ψ h h' []) := by
  apply w_laws_szObjectS
  unfold F_laws_szObjectS
  rw [p_laws_szObjectS] at hp
  have st : S ψ h h [] := S.start hψ
  refine vLen_C (f0.mono st.le) ?_
  refine bifP hp (fun hc hp => ?_) (fun hc hp => ?_)
  · obtain rfl := Option.some.inj hp
    exact ⟨rfl, st.pick [] (by decide)⟩
  · obtain ⟨n_2, hn⟩ := loop_n hp
    refine ⟨fun n left1_2 i5 h_2 => S ψ h h_2 [] ∧ loopN (p_laws_szObjectS_b1 a0) n (left1_2, i5) = some r, ⟨n_2, st.pick [] (by decide), hn⟩, ?_⟩
    rintro n _ left1_2 i5 h_2 ⟨st, hn⟩
    obtain ⟨m, a, rfl, hp, hs⟩ := loopN_step hn
    rw [p_laws_szObjectS_b1] at hp
    refine vLen_C (f0.mono st.le) ?_
    refine bifP hp (fun hc hp => ?_) (fun hc hp => ?_)
    · obtain ⟨e20, hx, hp⟩ := obind hp
      refine vIdx_C (f0.mono st.le) hx fun p20 ad => ?_
      obtain ⟨cs, ck, hr⟩ := f0.cells ad hx rfl
      obtain ⟨v_2, rfl, f⟩ := un_T_laws_Object hr
      refine ldI_K (ck.mono st.le) 0 rfl rfl ?_
      refine ldI_K (ck.mono st.le) 1 rfl rfl ?_
      refine ldV_K (ck.mono st.le) 2 rfl rfl ?_
      obtain ⟨r23, hx_2, hp⟩ := obind hp
      obtain ⟨φ, L, s, r_2⟩ := id st
      refine (r_laws_szObject s.fle hx_2 (f.mono st.le)).mono fun v_3 h_3 ⟨eq, t⟩ => ⟨_, eq, ?_⟩
      replace st := join0 s r_2 t
      clear t s r_2
      refine bifP hp (fun hc hp => ?_) (fun hc hp => ?_)
      · obtain rfl := Option.some.inj hp
        obtain rfl := Option.some.inj hs
        exact ⟨rfl, st.pick [] (by decide)⟩
      · obtain rfl := Option.some.inj hp
        exact ⟨m, Nat.lt_succ_self _, st.pick [] (by decide), hs⟩
    · obtain rfl := Option.some.inj hp
      obtain rfl := Option.some.inj hs
      exact ⟨rfl, st.pick [] (by decide)⟩
theorem r_laws_szLab {ψ : CM} {h : Heap} (hψ : CLe ψ (hcell h)) {a0 : T_laws_Lab} {v0_0 : Value} {v0_1 : Value} {left1 : Int} {r : Int} (hp : p_laws_szLab a0 left1 = some r) (f0_0 : SlC (hcell h) ef_T_laws_Recipe v0_0 a0.Recipes) (f0_1 : SlC (hcell h) ef_T_laws_Object v0_1 a0.Objects) : CallsH P id_laws_szLab #[.agg #[v0_0, v0_1], .int .i64 left1] h (fun v h' => v = .int .i64 r ∧ S ψ h h' []) := by
  apply w_laws_szLab
  unfold F_laws_szLab
  rw [p_laws_szLab] at hp
  have st : S ψ h h [] := S.start hψ
  refine new_S st fun b2 h_2 st => ?_
  refine ldV_K (st.cells 0 rfl) 0 rfl rfl ?_
  obtain ⟨r8, hx, hp⟩ := obind hp
  obtain ⟨φ, L, s, r_2⟩ := id st
  refine (r_laws_szRecipeS s.fle hx (f0_0.mono st.le)).mono fun v_2 h_3 ⟨eq, t⟩ => ⟨_, eq, ?_⟩
  replace st := join0 s r_2 t
  clear t s r_2
  refine bifP hp (fun hc hp => ?_) (fun hc hp => ?_)
  · obtain rfl := Option.some.inj hp
    exact ⟨rfl, st.pick [] (by decide)⟩
  · refine ldV_K (st.cells 0 rfl) 1 rfl rfl ?_
    obtain ⟨r14, hx_2, hp⟩ := obind hp
    obtain ⟨φ_2, L_2, s_2, r_3⟩ := id st
    refine (r_laws_szObjectS s_2.fle hx_2 (f0_1.mono st.le)).mono fun v_3 h_4 ⟨eq_2, t_2⟩ => ⟨_, eq_2, ?_⟩
    replace st := join0 s_2 r_3 t_2
    clear t_2 s_2 r_3
    refine bifP hp (fun hc hp => ?_) (fun hc hp => ?_)
    · obtain rfl := Option.some.inj hp
      exact ⟨rfl, st.pick [] (by decide)⟩
    · obtain rfl := Option.some.inj hp
      exact ⟨rfl, st.pick [] (by decide)⟩
theorem r_laws_szItem {ψ : CM} {h : Heap} (hψ : CLe ψ (hcell h)) {a0 : T_laws_Item} {v0_3 : Value} {left1 : Int} {r : Int} (hp : p_laws_szItem a0 left1 = some r) (f0_3 : SlC (hcell h) (El.sl (El.int .i64)) v0_3 a0.Object.Rows) : CallsH P id_laws_szItem #[.agg #[.string a0.Name, .int .i64 a0.Object.Kind, .int .i64 a0.Object.Size, v0_3, .string a0.Key], .int .i64 left1] h (fun v h' => v = .int .i64 r ∧ S ψ h h' []) := by
  apply w_laws_szItem
  unfold F_laws_szItem
  rw [p_laws_szItem] at hp
  have st : S ψ h h [] := S.start hψ
  refine new_S st fun b2 h_2 st => ?_
  refine ldS_K (st.cells 0 rfl) 0 rfl rfl ?_
  refine bifP hp (fun hc hp => ?_) (fun hc hp => ?_)
  · obtain rfl := Option.some.inj hp
    exact ⟨rfl, st.pick [] (by decide)⟩
  · refine ldI_K (st.cells 0 rfl) 1 rfl rfl ?_
    refine ldI_K (st.cells 0 rfl) 2 rfl rfl ?_
    refine ldV_K (st.cells 0 rfl) 3 rfl rfl ?_
    obtain ⟨r15, hx, hp⟩ := obind hp
    obtain ⟨φ, L, s, r_2⟩ := id st
    refine (r_laws_szObject s.fle hx (f0_3.mono st.le)).mono fun v_2 h_3 ⟨eq, t⟩ => ⟨_, eq, ?_⟩
    replace st := join0 s r_2 t
    clear t s r_2
    refine bifP hp (fun hc hp => ?_) (fun hc hp => ?_)
    · obtain rfl := Option.some.inj hp
      exact ⟨rfl, st.pick [] (by decide)⟩
    · refine ldS_K (st.cells 0 rfl) 4 rfl rfl ?_
      refine bifP hp (fun hc hp => ?_) (fun hc hp => ?_)
      · obtain rfl := Option.some.inj hp
        exact ⟨rfl, st.pick [] (by decide)⟩
      · obtain rfl := Option.some.inj hp
        exact ⟨rfl, st.pick [] (by decide)⟩
theorem r_laws_szItemS {ψ : CM} {h : Heap} (hψ : CLe ψ (hcell h)) {a0 : List T_laws_Item} {v0 : Value} {left1 : Int} {r : Int} (hp : p_laws_szItemS a0 left1 = some r) (f0 : SlC (hcell h) ef_T_laws_Item v0 a0) : CallsH P id_laws_szItemS #[v0, .int .i64 left1] h (fun v h' => v = .int .i64 r ∧ S ψ h h' []) := by
  apply w_laws_szItemS
  unfold F_laws_szItemS
  rw [p_laws_szItemS] at hp
  have st : S ψ h h [] := S.start hψ
  refine vLen_C (f0.mono st.le) ?_
  refine bifP hp (fun hc hp => ?_) (fun hc hp => ?_)
  · obtain rfl := Option.some.inj hp
    exact ⟨rfl, st.pick [] (by decide)⟩
  · obtain ⟨n_2, hn⟩ := loop_n hp
    refine ⟨fun n left1_2 i5 h_2 => S ψ h h_2 [] ∧ loopN (p_laws_szItemS_b1 a0) n (left1_2, i5) = some r, ⟨n_2, st.pick [] (by decide), hn⟩, ?_⟩
    rintro n _ left1_2 i5 h_2 ⟨st, hn⟩
    obtain ⟨m, a, rfl, hp, hs⟩ := loopN_step hn
    rw [p_laws_szItemS_b1] at hp
    refine vLen_C (f0.mono st.le) ?_
    refine bifP hp (fun hc hp => ?_) (fun hc hp => ?_)
    · obtain ⟨e20, hx, hp⟩ := obind hp
      refine vIdx_C (f0.mono st.le) hx fun p20 ad => ?_
      obtain ⟨cs, ck, hr⟩ := f0.cells ad hx rfl
      obtain ⟨v_2, rfl, f⟩ := un_T_laws_Item hr
      refine ldS_K (ck.mono st.le) 0 rfl rfl ?_
      refine ldI_K (ck.mono st.le) 1 rfl rfl ?_
      refine ldI_K (ck.mono st.le) 2 rfl rfl ?_
      refine ldV_K (ck.mono st.le) 3 rfl rfl ?_
      refine ldS_K (ck.mono st.le) 4 rfl rfl ?_
      obtain ⟨r23, hx_2, hp⟩ := obind hp
      obtain ⟨φ, L, s, r_2⟩ := id st
      refine (r_laws_szItem s.fle hx_2 (f.mono st.le)).mono fun v_3 h_3 ⟨eq, t⟩ => ⟨_, eq, ?_⟩
      replace st := join0 s r_2 t
      clear t s r_2
      refine bifP hp (fun hc hp => ?_) (fun hc hp => ?_)
      · obtain rfl := Option.some.inj hp
        obtain rfl := Option.some.inj hs
        exact ⟨rfl, st.pick [] (by decide)⟩
      · obtain rfl := Option.some.inj hp
        exact ⟨m, Nat.lt_succ_self _, st.pick [] (by decide), hs⟩
    · obtain rfl := Option.some.inj hp
      obtain rfl := Option.some.inj hs
      exact ⟨rfl, st.pick [] (by decide)⟩
theorem r_laws_szCatalog {ψ : CM} {h : Heap} (hψ : CLe ψ (hcell h)) {a0 : T_laws_Catalog} {v0_0 : Value} {left1 : Int} {r : Int} (hp : p_laws_szCatalog a0 left1 = some r) (f0_0 : SlC (hcell h) ef_T_laws_Item v0_0 a0.Items) : CallsH P id_laws_szCatalog #[.agg #[v0_0], .int .i64 left1] h (fun v h' => v = .int .i64 r ∧ S ψ h h' []) := by
  apply w_laws_szCatalog
  unfold F_laws_szCatalog
  rw [p_laws_szCatalog] at hp
  have st : S ψ h h [] := S.start hψ
  refine new_S st fun b2 h_2 st => ?_
  refine ldV_K (st.cells 0 rfl) 0 rfl rfl ?_
  obtain ⟨r8, hx, hp⟩ := obind hp
  obtain ⟨φ, L, s, r_2⟩ := id st
  refine (r_laws_szItemS s.fle hx (f0_0.mono st.le)).mono fun v_2 h_3 ⟨eq, t⟩ => ⟨_, eq, ?_⟩
  replace st := join0 s r_2 t
  clear t s r_2
  refine bifP hp (fun hc hp => ?_) (fun hc hp => ?_)
  · obtain rfl := Option.some.inj hp
    exact ⟨rfl, st.pick [] (by decide)⟩
  · obtain rfl := Option.some.inj hp
    exact ⟨rfl, st.pick [] (by decide)⟩
theorem r_laws_szDesk {ψ : CM} {h : Heap} (hψ : CLe ψ (hcell h)) {a0 : T_laws_Desk} {v0_0 : Value} {v0_1 : Value} {v0_2 : Value} {left1 : Int} {r : Int} (hp : p_laws_szDesk a0 left1 = some r) (f0_0 : SlC (hcell h) ef_T_laws_Recipe v0_0 a0.Lab.Recipes) (f0_1 : SlC (hcell h) ef_T_laws_Object v0_1 a0.Lab.Objects) (f0_2 : SlC (hcell h) ef_T_laws_Item v0_2 a0.Catalog.Items) : CallsH P id_laws_szDesk #[.agg #[v0_0, v0_1, v0_2], .int .i64 left1] h (fun v h' => v = .int .i64 r ∧ S ψ h h' []) := by
  apply w_laws_szDesk
  unfold F_laws_szDesk
  rw [p_laws_szDesk] at hp
  have st : S ψ h h [] := S.start hψ
  refine new_S st fun b2 h_2 st => ?_
  refine ldV_K (st.cells 0 rfl) 0 rfl rfl ?_
  refine ldV_K (st.cells 0 rfl) 1 rfl rfl ?_
  obtain ⟨r8, hx, hp⟩ := obind hp
  obtain ⟨φ, L, s, r_2⟩ := id st
  refine (r_laws_szLab s.fle hx (f0_0.mono st.le) (f0_1.mono st.le)).mono fun v_2 h_3 ⟨eq, t⟩ => ⟨_, eq, ?_⟩
  replace st := join0 s r_2 t
  clear t s r_2
  refine bifP hp (fun hc hp => ?_) (fun hc hp => ?_)
  · obtain rfl := Option.some.inj hp
    exact ⟨rfl, st.pick [] (by decide)⟩
  · refine ldV_K (st.cells 0 rfl) 2 rfl rfl ?_
    obtain ⟨r14, hx_2, hp⟩ := obind hp
    obtain ⟨φ_2, L_2, s_2, r_3⟩ := id st
    refine (r_laws_szCatalog s_2.fle hx_2 (f0_2.mono st.le)).mono fun v_3 h_4 ⟨eq_2, t_2⟩ => ⟨_, eq_2, ?_⟩
    replace st := join0 s_2 r_3 t_2
    clear t_2 s_2 r_3
    refine bifP hp (fun hc hp => ?_) (fun hc hp => ?_)
    · obtain rfl := Option.some.inj hp
      exact ⟨rfl, st.pick [] (by decide)⟩
    · obtain rfl := Option.some.inj hp
      exact ⟨rfl, st.pick [] (by decide)⟩
theorem r_spec_l00Same {ψ : CM} {h : Heap} (hψ : CLe ψ (hcell h)) {a0 : List Int} {v0 : Value} {b1 : List Int} {v1 : Value} {r : Bool} (hp : p_spec_l00Same a0 b1 = some r) (f0 : SlC (hcell h) (El.int .i64) v0 a0) (f1 : SlC (hcell h) (El.int .i64) v1 b1) : CallsH P id_spec_l00Same #[v0, v1] h (fun v h' => v = .bool r ∧ S ψ h h' []) := by
  apply w_spec_l00Same
  unfold F_spec_l00Same
  rw [p_spec_l00Same] at hp
  have st : S ψ h h [] := S.start hψ
  refine vLen_C (f0.mono st.le) ?_
  refine vLen_C (f1.mono st.le) ?_
  refine bifP hp (fun hc hp => ?_) (fun hc hp => ?_)
  · obtain rfl := Option.some.inj hp
    exact ⟨rfl, st.pick [] (by decide)⟩
  · obtain ⟨n_2, hn⟩ := loop_n hp
    refine ⟨fun n i5 h_2 => S ψ h h_2 [] ∧ loopN (p_spec_l00Same_b1 a0 b1) n i5 = some r, ⟨n_2, st.pick [] (by decide), hn⟩, ?_⟩
    rintro n _ i5 h_2 ⟨st, hn⟩
    obtain ⟨m, a, rfl, hp, hs⟩ := loopN_step hn
    rw [p_spec_l00Same_b1] at hp
    refine vLen_C (f0.mono st.le) ?_
    refine bifP hp (fun hc hp => ?_) (fun hc hp => ?_)
    · obtain ⟨e19, hx, hp⟩ := obind hp
      refine vIdx_C (f0.mono st.le) hx fun p19 ad => ?_
      refine ldI_C (f0.mono st.le) ad hx ?_
      obtain ⟨e23, hx_2, hp⟩ := obind hp
      refine vIdx_C (f1.mono st.le) hx_2 fun p23 ad_2 => ?_
      refine ldI_C (f1.mono st.le) ad_2 hx_2 ?_
      refine bifP hp (fun hc hp => ?_) (fun hc hp => ?_)
      · obtain rfl := Option.some.inj hp
        obtain rfl := Option.some.inj hs
        exact ⟨rfl, st.pick [] (by decide)⟩
      · obtain rfl := Option.some.inj hp
        exact ⟨m, Nat.lt_succ_self _, st.pick [] (by decide), hs⟩
    · obtain rfl := Option.some.inj hp
      obtain rfl := Option.some.inj hs
      exact ⟨rfl, st.pick [] (by decide)⟩
theorem r_spec_l32Words {ψ : CM} {h : Heap} (hψ : CLe ψ (hcell h)) {a0 : List ByteArray} {v0 : Value} {b1 : List ByteArray} {v1 : Value} {r : Bool} (hp : p_spec_l32Words a0 b1 = some r) (f0 : SlC (hcell h) El.str v0 a0) (f1 : SlC (hcell h) El.str v1 b1) : CallsH P id_spec_l32Words #[v0, v1] h (fun v h' => v = .bool r ∧ S ψ h h' []) := by
  apply w_spec_l32Words
  unfold F_spec_l32Words
  rw [p_spec_l32Words] at hp
  have st : S ψ h h [] := S.start hψ
  refine vLen_C (f0.mono st.le) ?_
  refine vLen_C (f1.mono st.le) ?_
  refine bifP hp (fun hc hp => ?_) (fun hc hp => ?_)
  · obtain rfl := Option.some.inj hp
    exact ⟨rfl, st.pick [] (by decide)⟩
  · obtain ⟨n_2, hn⟩ := loop_n hp
    refine ⟨fun n i5 h_2 => S ψ h h_2 [] ∧ loopN (p_spec_l32Words_b1 a0 b1) n i5 = some r, ⟨n_2, st.pick [] (by decide), hn⟩, ?_⟩
    rintro n _ i5 h_2 ⟨st, hn⟩
    obtain ⟨m, a, rfl, hp, hs⟩ := loopN_step hn
    rw [p_spec_l32Words_b1] at hp
    refine vLen_C (f0.mono st.le) ?_
    refine bifP hp (fun hc hp => ?_) (fun hc hp => ?_)
    · obtain ⟨e19, hx, hp⟩ := obind hp
      refine vIdx_C (f0.mono st.le) hx fun p19 ad => ?_
      refine ldS_C (f0.mono st.le) ad hx ?_
      obtain ⟨e23, hx_2, hp⟩ := obind hp
      refine vIdx_C (f1.mono st.le) hx_2 fun p23 ad_2 => ?_
      refine ldS_C (f1.mono st.le) ad_2 hx_2 ?_
      refine bifP hp (fun hc hp => ?_) (fun hc hp => ?_)
      · obtain rfl := Option.some.inj hp
        obtain rfl := Option.some.inj hs
        exact ⟨rfl, st.pick [] (by decide)⟩
      · obtain rfl := Option.some.inj hp
        exact ⟨m, Nat.lt_succ_self _, st.pick [] (by decide), hs⟩
    · obtain rfl := Option.some.inj hp
      obtain rfl := Option.some.inj hs
      exact ⟨rfl, st.pick [] (by decide)⟩
theorem r_spec_l10Same {ψ : CM} {h : Heap} (hψ : CLe ψ (hcell h)) {a0 : List (List Int)} {v0 : Value} {b1 : List (List Int)} {v1 : Value} {r : Bool} (hp : p_spec_l10Same a0 b1 = some r) (f0 : SlC (hcell h) (El.sl (El.int .i64)) v0 a0) (f1 : SlC (hcell h) (El.sl (El.int .i64)) v1 b1) : CallsH P id_spec_l10Same #[v0, v1] h (fun v h' => v = .bool r ∧ S ψ h h' []) := by
  apply w_spec_l10Same
  unfold F_spec_l10Same
  rw [p_spec_l10Same] at hp
  have st : S ψ h h [] := S.start hψ
  refine vLen_C (f0.mono st.le) ?_
  refine vLen_C (f1.mono st.le) ?_
  refine bifP hp (fun hc hp => ?_) (fun hc hp => ?_)
  · obtain rfl := Option.some.inj hp
    exact ⟨rfl, st.pick [] (by decide)⟩
  · obtain ⟨n_2, hn⟩ := loop_n hp
    refine ⟨fun n i5 h_2 => S ψ h h_2 [] ∧ loopN (p_spec_l10Same_b1 a0 b1) n i5 = some r, ⟨n_2, st.pick [] (by decide), hn⟩, ?_⟩
    rintro n _ i5 h_2 ⟨st, hn⟩
    obtain ⟨m, a, rfl, hp, hs⟩ := loopN_step hn
    rw [p_spec_l10Same_b1] at hp
    refine vLen_C (f0.mono st.le) ?_
    refine bifP hp (fun hc hp => ?_) (fun hc hp => ?_)
    · obtain ⟨e19, hx, hp⟩ := obind hp
      refine vIdx_C (f0.mono st.le) hx fun p19 ad => ?_
      refine ldV_C f0 st.le ad hx fun u20 f => ?_
      obtain ⟨e23, hx_2, hp⟩ := obind hp
      refine vIdx_C (f1.mono st.le) hx_2 fun p23 ad_2 => ?_
      refine ldV_C f1 st.le ad_2 hx_2 fun u24 f_2 => ?_
      obtain ⟨r25, hx_3, hp⟩ := obind hp
      obtain ⟨φ, L, s, r_2⟩ := id st
      refine (r_spec_l00Same s.fle hx_3 (f.mono st.le) (f_2.mono st.le)).mono fun v_2 h_3 ⟨eq, t⟩ => ⟨_, eq, ?_⟩
      replace st := join0 s r_2 t
      clear t s r_2
      refine bifP hp (fun hc hp => ?_) (fun hc hp => ?_)
      · obtain rfl := Option.some.inj hp
        obtain rfl := Option.some.inj hs
        exact ⟨rfl, st.pick [] (by decide)⟩
      · obtain rfl := Option.some.inj hp
        exact ⟨m, Nat.lt_succ_self _, st.pick [] (by decide), hs⟩
    · obtain rfl := Option.some.inj hp
      obtain rfl := Option.some.inj hs
      exact ⟨rfl, st.pick [] (by decide)⟩
theorem r_spec_SameObject {ψ : CM} {h : Heap} (hψ : CLe ψ (hcell h)) {a0 : T_impl_Object} {v0_2 : Value} {b1 : T_impl_Object} {v1_2 : Value} {r : Bool} (hp : p_spec_SameObject a0 b1 = some r) (f0_2 : SlC (hcell h) (El.sl (El.int .i64)) v0_2 a0.Rows) (f1_2 : SlC (hcell h) (El.sl (El.int .i64)) v1_2 b1.Rows) : CallsH P id_spec_SameObject #[.agg #[.int .i64 a0.Kind, .int .i64 a0.Size, v0_2], .agg #[.int .i64 b1.Kind, .int .i64 b1.Size, v1_2]] h (fun v h' => v = .bool r ∧ S ψ h h' []) := by
  apply w_spec_SameObject
  unfold F_spec_SameObject
  rw [p_spec_SameObject] at hp
  have st : S ψ h h [] := S.start hψ
  refine new_S st fun b2 h_2 st => ?_
  refine new_S st fun b3 h_3 st => ?_
  refine ldI_K (st.cells 1 rfl) 0 rfl rfl ?_
  refine ldI_K (st.cells 0 rfl) 0 rfl rfl ?_
  refine bifP hp (fun hc hp => ?_) (fun hc hp => ?_)
  · refine ldI_K (st.cells 1 rfl) 1 rfl rfl ?_
    refine ldI_K (st.cells 0 rfl) 1 rfl rfl ?_
    refine bifP hp (fun hc hp => ?_) (fun hc hp => ?_)
    · refine ldV_K (st.cells 1 rfl) 2 rfl rfl ?_
      refine ldV_K (st.cells 0 rfl) 2 rfl rfl ?_
      obtain ⟨r22, hx, hp⟩ := obind hp
      obtain ⟨φ, L, s, r_2⟩ := id st
      refine (r_spec_l10Same s.fle hx (f0_2.mono st.le) (f1_2.mono st.le)).mono fun v_2 h_4 ⟨eq, t⟩ => ⟨_, eq, ?_⟩
      replace st := join0 s r_2 t
      clear t s r_2
      obtain rfl := Option.some.inj hp
      exact ⟨rfl, st.pick [] (by decide)⟩
    · obtain rfl := Option.some.inj hp
      exact ⟨rfl, st.pick [] (by decide)⟩
  · obtain rfl := Option.some.inj hp
    exact ⟨rfl, st.pick [] (by decide)⟩
theorem r_spec_SameLab {ψ : CM} {h : Heap} (hψ : CLe ψ (hcell h)) {y0 : T_impl_Lab} {v0_0 : Value} {v0_1 : Value} {y1 : T_impl_Lab} {v1_0 : Value} {v1_1 : Value} {r : Bool} (hp : p_spec_SameLab y0 y1 = some r) (f0_0 : SlC (hcell h) ef_T_impl_Recipe v0_0 y0.Recipes) (f0_1 : SlC (hcell h) ef_T_impl_Object v0_1 y0.Objects) (f1_0 : SlC (hcell h) ef_T_impl_Recipe v1_0 y1.Recipes) (f1_1 : SlC (hcell h) ef_T_impl_Object v1_1 y1.Objects) : CallsH P id_spec_SameLab #[.agg #[v0_0, v0_1], .agg #[v1_0, v1_1]] h (fun v h' => v = .bool r ∧ S ψ h h' []) := by
  apply w_spec_SameLab
  unfold F_spec_SameLab
  rw [p_spec_SameLab] at hp
  have st : S ψ h h [] := S.start hψ
  refine new_S st fun b2 h_2 st => ?_
  refine new_S st fun b3 h_3 st => ?_
  refine ⟨fun h_4 => S ψ h h_4 [.box b3 [v1_0, v1_1], .box b2 [v0_0, v0_1]] ∧ p_spec_SameLab_k1 y0 y1 = some r, ?_, ?_⟩
  · refine ldV_K (st.cells 1 rfl) 0 rfl rfl ?_
    refine vLen_C (f0_0.mono st.le) ?_
    refine ldV_K (st.cells 0 rfl) 0 rfl rfl ?_
    refine vLen_C (f1_0.mono st.le) ?_
    refine bifP hp (fun hc hp => ?_) (fun hc hp => ?_)
    · obtain rfl := Option.some.inj hp
      exact ⟨rfl, st.pick [] (by decide)⟩
    · refine ldV_K (st.cells 1 rfl) 1 rfl rfl ?_
      refine vLen_C (f0_1.mono st.le) ?_
      refine ldV_K (st.cells 0 rfl) 1 rfl rfl ?_
      refine vLen_C (f1_1.mono st.le) ?_
      refine bifP hp (fun hc hp => ?_) (fun hc hp => ?_)
      · obtain rfl := Option.some.inj hp
        exact ⟨rfl, st.pick [] (by decide)⟩
      · exact ⟨st.pick [0, 1] (by decide), hp⟩
  · rintro _ h_4 ⟨st, hp⟩
    rw [p_spec_SameLab_k1] at hp
    obtain ⟨n_4, hn⟩ := loop_n hp
    refine ⟨fun n y5 h_5 => S ψ h h_5 [.box b3 [v1_0, v1_1], .box b2 [v0_0, v0_1]] ∧ loopN (p_spec_SameLab_b1 y0 y1) n y5 = some r, ⟨n_4, st.pick [0, 1] (by decide), hn⟩, ?_⟩
    rintro n _ y5 h_5 ⟨st, hn⟩
    obtain ⟨m, a, rfl, hp, hs⟩ := loopN_step hn
    rw [p_spec_SameLab_b1] at hp
    refine ldV_K (st.cells 1 rfl) 0 rfl rfl ?_
    refine vLen_C (f0_0.mono st.le) ?_
    refine bifP hp (fun hc hp => ?_) (fun hc hp => ?_)
    · refine ldV_K (st.cells 1 rfl) 0 rfl rfl ?_
      obtain ⟨e35, hx, hp⟩ := obind hp
      refine vIdx_C (f0_0.mono st.le) hx fun p35 ad => ?_
      obtain ⟨cs, ck, hr⟩ := f0_0.cells ad hx rfl
      obtain ⟨v_2, v_3, rfl, f, f_2⟩ := un_T_impl_Recipe hr
      refine ldS_K (ck.mono st.le) 0 rfl rfl ?_
      refine ldS_K (ck.mono st.le) 1 rfl rfl ?_
      refine ldV_K (ck.mono st.le) 2 rfl rfl ?_
      refine ldV_K (ck.mono st.le) 3 rfl rfl ?_
      refine new_S st fun b6 h_6 st => ?_
      refine st_box st 0 rfl rfl rfl rfl fun h_7 st => ?_
      dsimp only [List.set] at st
      refine st_box st 0 rfl rfl rfl rfl fun h_8 st => ?_
      dsimp only [List.set] at st
      refine st_box st 0 rfl rfl rfl (f.mono st.le).one fun h_9 st => ?_
      dsimp only [List.set] at st
      refine st_box st 0 rfl rfl rfl (f_2.mono st.le).one fun h_10 st => ?_
      dsimp only [List.set] at st
      refine ldV_K (st.cells 1 rfl) 0 rfl rfl ?_
      obtain ⟨e40, hx_2, hp⟩ := obind hp
      refine vIdx_C (f1_0.mono st.le) hx_2 fun p40 ad_2 => ?_
      obtain ⟨cs_2, ck_2, hr_2⟩ := f1_0.cells ad_2 hx_2 rfl
      obtain ⟨v_4, v_5, rfl, f_3, f_4⟩ := un_T_impl_Recipe hr_2
      refine ldS_K (ck_2.mono st.le) 0 rfl rfl ?_
      refine ldS_K (ck_2.mono st.le) 1 rfl rfl ?_
      refine ldV_K (ck_2.mono st.le) 2 rfl rfl ?_
      refine ldV_K (ck_2.mono st.le) 3 rfl rfl ?_
      refine new_S st fun b7 h_11 st => ?_
      refine st_box st 0 rfl rfl rfl rfl fun h_12 st => ?_
      dsimp only [List.set] at st
      refine st_box st 0 rfl rfl rfl rfl fun h_13 st => ?_
      dsimp only [List.set] at st
      refine st_box st 0 rfl rfl rfl (f_3.mono st.le).one fun h_14 st => ?_
      dsimp only [List.set] at st
      refine st_box st 0 rfl rfl rfl (f_4.mono st.le).one fun h_15 st => ?_
      dsimp only [List.set] at st
      refine ldS_K (st.cells 1 rfl) 0 rfl rfl ?_
      refine ldS_K (st.cells 0 rfl) 0 rfl rfl ?_
      refine bifP hp (fun hc hp => ?_) (fun hc hp => ?_)
      · obtain rfl := Option.some.inj hp
        obtain rfl := Option.some.inj hs
        exact ⟨rfl, st.pick [] (by decide)⟩
      · refine ldS_K (st.cells 1 rfl) 1 rfl rfl ?_
        refine ldS_K (st.cells 0 rfl) 1 rfl rfl ?_
        refine bifP hp (fun hc hp => ?_) (fun hc hp => ?_)
        · obtain rfl := Option.some.inj hp
          obtain rfl := Option.some.inj hs
          exact ⟨rfl, st.pick [] (by decide)⟩
        · refine ldV_K (st.cells 1 rfl) 2 rfl rfl ?_
          refine ldV_K (st.cells 0 rfl) 2 rfl rfl ?_
          obtain ⟨r59, hx_3, hp⟩ := obind hp
          obtain ⟨φ, L, s, r_2⟩ := id st
          refine (r_spec_l00Same s.fle hx_3 (f.mono st.le) (f_3.mono st.le)).mono fun v_6 h_16 ⟨eq, t⟩ => ⟨_, eq, ?_⟩
          replace st := join0 s r_2 t
          clear t s r_2
          refine bifP hp (fun hc hp => ?_) (fun hc hp => ?_)
          · obtain rfl := Option.some.inj hp
            obtain rfl := Option.some.inj hs
            exact ⟨rfl, st.pick [] (by decide)⟩
          · refine ldV_K (st.cells 1 rfl) 3 rfl rfl ?_
            refine ldV_K (st.cells 0 rfl) 3 rfl rfl ?_
            obtain ⟨r67, hx_4, hp⟩ := obind hp
            obtain ⟨φ_2, L_2, s_2, r_3⟩ := id st
            refine (r_spec_l32Words s_2.fle hx_4 (f_2.mono st.le) (f_4.mono st.le)).mono fun v_7 h_17 ⟨eq_2, t_2⟩ => ⟨_, eq_2, ?_⟩
            replace st := join0 s_2 r_3 t_2
            clear t_2 s_2 r_3
            refine bifP hp (fun hc hp => ?_) (fun hc hp => ?_)
            · obtain rfl := Option.some.inj hp
              obtain rfl := Option.some.inj hs
              exact ⟨rfl, st.pick [] (by decide)⟩
            · obtain rfl := Option.some.inj hp
              exact ⟨m, Nat.lt_succ_self _, st.pick [2, 3] (by decide), hs⟩
    · obtain ⟨n_3, hn_2⟩ := loop_n hp
      refine ⟨fun n_2 y8 h_18 => S ψ h h_18 [.box b3 [v1_0, v1_1], .box b2 [v0_0, v0_1]] ∧ loopN (p_spec_SameLab_b2 y0 y1) n_2 y8 = some a, ⟨n_3, st.pick [0, 1] (by decide), hn_2⟩, ?_⟩
      rintro n_2 _ y8 h_18 ⟨st, hn_2⟩
      obtain ⟨m_2, a_2, rfl, hp, hs_2⟩ := loopN_step hn_2
      rw [p_spec_SameLab_b2] at hp
      refine ldV_K (st.cells 1 rfl) 1 rfl rfl ?_
      refine vLen_C (f0_1.mono st.le) ?_
      refine bifP hp (fun hc hp => ?_) (fun hc hp => ?_)
      · refine ldV_K (st.cells 1 rfl) 1 rfl rfl ?_
        obtain ⟨e80, hx_5, hp⟩ := obind hp
        refine vIdx_C (f0_1.mono st.le) hx_5 fun p80 ad_3 => ?_
        obtain ⟨cs_3, ck_3, hr_3⟩ := f0_1.cells ad_3 hx_5 rfl
        obtain ⟨v_8, rfl, f_5⟩ := un_T_impl_Object hr_3
        refine ldI_K (ck_3.mono st.le) 0 rfl rfl ?_
        refine ldI_K (ck_3.mono st.le) 1 rfl rfl ?_
        refine ldV_K (ck_3.mono st.le) 2 rfl rfl ?_
        refine ldV_K (st.cells 0 rfl) 1 rfl rfl ?_
        obtain ⟨e85, hx_6, hp⟩ := obind hp
        refine vIdx_C (f1_1.mono st.le) hx_6 fun p85 ad_4 => ?_
        obtain ⟨cs_4, ck_4, hr_4⟩ := f1_1.cells ad_4 hx_6 rfl
        obtain ⟨v_9, rfl, f_6⟩ := un_T_impl_Object hr_4
        refine ldI_K (ck_4.mono st.le) 0 rfl rfl ?_
        refine ldI_K (ck_4.mono st.le) 1 rfl rfl ?_
        refine ldV_K (ck_4.mono st.le) 2 rfl rfl ?_
        obtain ⟨r87, hx_7, hp⟩ := obind hp
        obtain ⟨φ_3, L_3, s_3, r_4⟩ := id st
        refine (r_spec_SameObject s_3.fle hx_7 (f_5.mono st.le) (f_6.mono st.le)).mono fun v_10 h_19 ⟨eq_3, t_3⟩ => ⟨_, eq_3, ?_⟩
        replace st := join0 s_3 r_4 t_3
        clear t_3 s_3 r_4
        refine bifP hp (fun hc hp => ?_) (fun hc hp => ?_)
        · obtain rfl := Option.some.inj hp
          obtain rfl := Option.some.inj hs_2
          obtain rfl := Option.some.inj hs
          exact ⟨rfl, st.pick [] (by decide)⟩
        · obtain rfl := Option.some.inj hp
          exact ⟨m_2, Nat.lt_succ_self _, st.pick [0, 1] (by decide), hs_2⟩
      · obtain rfl := Option.some.inj hp
        obtain rfl := Option.some.inj hs_2
        obtain rfl := Option.some.inj hs
        exact ⟨rfl, st.pick [] (by decide)⟩
theorem r_spec_l31Same {ψ : CM} {h : Heap} (hψ : CLe ψ (hcell h)) {a0 : T_impl_Item} {p0 : Addr} {v0_3 : Value} {b1 : T_impl_Item} {p1 : Addr} {v1_3 : Value} {r : Bool} (hp : p_spec_l31Same a0 b1 = some r) (ck0 : CellsC (hcell h) p0 [.string a0.Name, .int .i64 a0.Object.Kind, .int .i64 a0.Object.Size, v0_3, .string a0.Key]) (f0_3 : SlC (hcell h) (El.sl (El.int .i64)) v0_3 a0.Object.Rows) (ck1 : CellsC (hcell h) p1 [.string b1.Name, .int .i64 b1.Object.Kind, .int .i64 b1.Object.Size, v1_3, .string b1.Key]) (f1_3 : SlC (hcell h) (El.sl (El.int .i64)) v1_3 b1.Object.Rows) : CallsH P id_spec_l31Same #[.pointer (some p0), .pointer (some p1)] h (fun v h' => v = .bool r ∧ S ψ h h' []) := by
  apply w_spec_l31Same
  unfold F_spec_l31Same
  rw [p_spec_l31Same] at hp
  have st : S ψ h h [] := S.start hψ
  refine ldS_K (ck0.mono st.le) 0 rfl rfl ?_
  refine ldS_K (ck1.mono st.le) 0 rfl rfl ?_
  refine bifP hp (fun hc hp => ?_) (fun hc hp => ?_)
  · refine ldS_K (ck0.mono st.le) 4 rfl rfl ?_
    refine ldS_K (ck1.mono st.le) 4 rfl rfl ?_
    refine bifP hp (fun hc hp => ?_) (fun hc hp => ?_)
    · refine ldI_K (ck0.mono st.le) 1 rfl rfl ?_
      refine ldI_K (ck0.mono st.le) 2 rfl rfl ?_
      refine ldV_K (ck0.mono st.le) 3 rfl rfl ?_
      refine ldI_K (ck1.mono st.le) 1 rfl rfl ?_
      refine ldI_K (ck1.mono st.le) 2 rfl rfl ?_
      refine ldV_K (ck1.mono st.le) 3 rfl rfl ?_
      obtain ⟨r34, hx, hp⟩ := obind hp
      obtain ⟨φ, L, s, r_2⟩ := id st
      refine (r_spec_SameObject s.fle hx (f0_3.mono st.le) (f1_3.mono st.le)).mono fun v_2 h_2 ⟨eq, t⟩ => ⟨_, eq, ?_⟩
      replace st := join0 s r_2 t
      clear t s r_2
      obtain rfl := Option.some.inj hp
      exact ⟨rfl, st.pick [] (by decide)⟩
    · obtain rfl := Option.some.inj hp
      exact ⟨rfl, st.pick [] (by decide)⟩
  · obtain rfl := Option.some.inj hp
    exact ⟨rfl, st.pick [] (by decide)⟩
theorem r_spec_SameCatalog {ψ : CM} {h : Heap} (hψ : CLe ψ (hcell h)) {a0 : T_impl_Catalog} {v0_0 : Value} {b1 : T_impl_Catalog} {v1_0 : Value} {r : Bool} (hp : p_spec_SameCatalog a0 b1 = some r) (f0_0 : SlC (hcell h) ef_T_impl_Item v0_0 a0.Items) (f1_0 : SlC (hcell h) ef_T_impl_Item v1_0 b1.Items) : CallsH P id_spec_SameCatalog #[.agg #[v0_0], .agg #[v1_0]] h (fun v h' => v = .bool r ∧ S ψ h h' []) := by
  apply w_spec_SameCatalog
  unfold F_spec_SameCatalog
  rw [p_spec_SameCatalog] at hp
  have st : S ψ h h [] := S.start hψ
  refine new_S st fun b2 h_2 st => ?_
  refine new_S st fun b3 h_3 st => ?_
  refine ldV_K (st.cells 1 rfl) 0 rfl rfl ?_
  refine vLen_C (f0_0.mono st.le) ?_
  refine ldV_K (st.cells 0 rfl) 0 rfl rfl ?_
  refine vLen_C (f1_0.mono st.le) ?_
  refine bifP hp (fun hc hp => ?_) (fun hc hp => ?_)
  · obtain rfl := Option.some.inj hp
    exact ⟨rfl, st.pick [] (by decide)⟩
  · obtain ⟨n_2, hn⟩ := loop_n hp
    refine ⟨fun n i5 h_4 => S ψ h h_4 [.box b3 [v1_0], .box b2 [v0_0]] ∧ loopN (p_spec_SameCatalog_b1 a0 b1) n i5 = some r, ⟨n_2, st.pick [0, 1] (by decide), hn⟩, ?_⟩
    rintro n _ i5 h_4 ⟨st, hn⟩
    obtain ⟨m, a, rfl, hp, hs⟩ := loopN_step hn
    rw [p_spec_SameCatalog_b1] at hp
    refine ldV_K (st.cells 1 rfl) 0 rfl rfl ?_
    refine vLen_C (f0_0.mono st.le) ?_
    refine bifP hp (fun hc hp => ?_) (fun hc hp => ?_)
    · refine ldV_K (st.cells 1 rfl) 0 rfl rfl ?_
      obtain ⟨e23, hx, hp⟩ := obind hp
      refine vIdx_C (f0_0.mono st.le) hx fun p23 ad => ?_
      obtain ⟨cs, ck, hr⟩ := f0_0.cells ad hx rfl
      obtain ⟨v_2, rfl, f⟩ := un_T_impl_Item hr
      refine ldV_K (st.cells 0 rfl) 0 rfl rfl ?_
      obtain ⟨e27, hx_2, hp⟩ := obind hp
      refine vIdx_C (f1_0.mono st.le) hx_2 fun p27 ad_2 => ?_
      obtain ⟨cs_2, ck_2, hr_2⟩ := f1_0.cells ad_2 hx_2 rfl
      obtain ⟨v_3, rfl, f_2⟩ := un_T_impl_Item hr_2
      obtain ⟨r28, hx_3, hp⟩ := obind hp
      obtain ⟨φ, L, s, r_2⟩ := id st
      refine (r_spec_l31Same s.fle hx_3 (ck.mono st.le) (f.mono st.le) (ck_2.mono st.le) (f_2.mono st.le)).mono fun v_4 h_5 ⟨eq, t⟩ => ⟨_, eq, ?_⟩
      replace st := join0 s r_2 t
      clear t s r_2
      refine bifP hp (fun hc hp => ?_) (fun hc hp => ?_)
      · obtain rfl := Option.some.inj hp
        obtain rfl := Option.some.inj hs
        exact ⟨rfl, st.pick [] (by decide)⟩
      · obtain rfl := Option.some.inj hp
        exact ⟨m, Nat.lt_succ_self _, st.pick [0, 1] (by decide), hs⟩
    · obtain rfl := Option.some.inj hp
      obtain rfl := Option.some.inj hs
      exact ⟨rfl, st.pick [] (by decide)⟩
theorem r_spec_SameDesk {ψ : CM} {h : Heap} (hψ : CLe ψ (hcell h)) {a0 : T_impl_Desk} {v0_0 : Value} {v0_1 : Value} {v0_2 : Value} {b1 : T_impl_Desk} {v1_0 : Value} {v1_1 : Value} {v1_2 : Value} {r : Bool} (hp : p_spec_SameDesk a0 b1 = some r) (f0_0 : SlC (hcell h) ef_T_impl_Recipe v0_0 a0.Lab.Recipes) (f0_1 : SlC (hcell h) ef_T_impl_Object v0_1 a0.Lab.Objects) (f0_2 : SlC (hcell h) ef_T_impl_Item v0_2 a0.Catalog.Items) (f1_0 : SlC (hcell h) ef_T_impl_Recipe v1_0 b1.Lab.Recipes) (f1_1 : SlC (hcell h) ef_T_impl_Object v1_1 b1.Lab.Objects) (f1_2 : SlC (hcell h) ef_T_impl_Item v1_2 b1.Catalog.Items) : CallsH P id_spec_SameDesk #[.agg #[v0_0, v0_1, v0_2], .agg #[v1_0, v1_1, v1_2]] h (fun v h' => v = .bool r ∧ S ψ h h' []) := by
  apply w_spec_SameDesk
  unfold F_spec_SameDesk
  rw [p_spec_SameDesk] at hp
  have st : S ψ h h [] := S.start hψ
  refine new_S st fun b2 h_2 st => ?_
  refine new_S st fun b3 h_3 st => ?_
  refine ldV_K (st.cells 1 rfl) 0 rfl rfl ?_
  refine ldV_K (st.cells 1 rfl) 1 rfl rfl ?_
  refine ldV_K (st.cells 0 rfl) 0 rfl rfl ?_
  refine ldV_K (st.cells 0 rfl) 1 rfl rfl ?_
  obtain ⟨r9, hx, hp⟩ := obind hp
  obtain ⟨φ, L, s, r_2⟩ := id st
  refine (r_spec_SameLab s.fle hx (f0_0.mono st.le) (f0_1.mono st.le) (f1_0.mono st.le) (f1_1.mono st.le)).mono fun v_2 h_4 ⟨eq, t⟩ => ⟨_, eq, ?_⟩
  replace st := join0 s r_2 t
  clear t s r_2
  refine bifP hp (fun hc hp => ?_) (fun hc hp => ?_)
  · refine ldV_K (st.cells 1 rfl) 2 rfl rfl ?_
    refine ldV_K (st.cells 0 rfl) 2 rfl rfl ?_
    obtain ⟨r15, hx_2, hp⟩ := obind hp
    obtain ⟨φ_2, L_2, s_2, r_3⟩ := id st
    refine (r_spec_SameCatalog s_2.fle hx_2 (f0_2.mono st.le) (f1_2.mono st.le)).mono fun v_3 h_5 ⟨eq_2, t_2⟩ => ⟨_, eq_2, ?_⟩
    replace st := join0 s_2 r_3 t_2
    clear t_2 s_2 r_3
    obtain rfl := Option.some.inj hp
    exact ⟨rfl, st.pick [] (by decide)⟩
  · obtain rfl := Option.some.inj hp
    exact ⟨rfl, st.pick [] (by decide)⟩
theorem r_laws_toInt64S {ψ : CM} {h : Heap} (hψ : CLe ψ (hcell h)) {a0 : List Int} {v0 : Value} {r : List Int} (hp : p_laws_toInt64S a0 = some r) (f0 : SlC (hcell h) (El.int .i64) v0 a0) : CallsH P id_laws_toInt64S #[v0] h (fun v h' => ∃ w0 : Value, v = w0 ∧ S ψ h h' [.it (El.ow (El.int .i64)) [w0] r]) := by
  apply w_laws_toInt64S
  unfold F_laws_toInt64S
  rw [p_laws_toInt64S] at hp
  have st : S ψ h h [] := S.start hψ
  refine vLen_C (f0.mono st.le) ?_
  obtain ⟨l7, hx, hp⟩ := obind hp
  refine make_S (E := (El.int .i64)) st rfl hx fun v7 h_2 st => ?_
  obtain ⟨n_2, hn⟩ := loop_n hp
  refine ⟨fun n i4 h_3 => ∃ xs : List Int, S ψ h h_3 [.it (El.ow (El.int .i64)) [v7] xs] ∧ loopN (p_laws_toInt64S_b1 a0) n (i4, xs) = some r, ⟨n_2, _, st.pick [0] (by decide), hn⟩, ?_⟩
  rintro n _ i4 h_3 ⟨xs, st, hn⟩
  obtain ⟨m, a, rfl, hp, hs⟩ := loopN_step hn
  rw [p_laws_toInt64S_b1] at hp
  refine vLen_C (f0.mono st.le) ?_
  refine bifP hp (fun hc hp => ?_) (fun hc hp => ?_)
  · obtain ⟨e18, hx_2, hp⟩ := obind hp
    refine vIdx_C (f0.mono st.le) hx_2 fun p18 ad => ?_
    refine ldI_C (f0.mono st.le) ad hx_2 ?_
    obtain ⟨e20, hx_3, hp⟩ := obind hp
    refine vIdx_C (st.rdL 0 rfl (frz_int _)) hx_3 fun p20 ad_2 => ?_
    refine st1_S st 0 rfl ad_2 hx_3 rfl (fun _ => ⟨rfl, rfl⟩) fun h_4 st => ?_
    dsimp only [List.set] at st
    obtain rfl := Option.some.inj hp
    exact ⟨m, Nat.lt_succ_self _, _, st.pick [0] (by decide), hs⟩
  · obtain rfl := Option.some.inj hp
    obtain rfl := Option.some.inj hs
    exact ⟨v7, rfl, st.pick [0] (by decide)⟩
theorem r_laws_toStringS {ψ : CM} {h : Heap} (hψ : CLe ψ (hcell h)) {a0 : List ByteArray} {v0 : Value} {r : List ByteArray} (hp : p_laws_toStringS a0 = some r) (f0 : SlC (hcell h) El.str v0 a0) : CallsH P id_laws_toStringS #[v0] h (fun v h' => ∃ w0 : Value, v = w0 ∧ S ψ h h' [.it (El.ow El.str) [w0] r]) := by
  apply w_laws_toStringS
  unfold F_laws_toStringS
  rw [p_laws_toStringS] at hp
  have st : S ψ h h [] := S.start hψ
  refine vLen_C (f0.mono st.le) ?_
  obtain ⟨l7, hx, hp⟩ := obind hp
  refine make_S (E := El.str) st rfl hx fun v7 h_2 st => ?_
  obtain ⟨n_2, hn⟩ := loop_n hp
  refine ⟨fun n i4 h_3 => ∃ xs : List ByteArray, S ψ h h_3 [.it (El.ow El.str) [v7] xs] ∧ loopN (p_laws_toStringS_b1 a0) n (i4, xs) = some r, ⟨n_2, _, st.pick [0] (by decide), hn⟩, ?_⟩
  rintro n _ i4 h_3 ⟨xs, st, hn⟩
  obtain ⟨m, a, rfl, hp, hs⟩ := loopN_step hn
  rw [p_laws_toStringS_b1] at hp
  refine vLen_C (f0.mono st.le) ?_
  refine bifP hp (fun hc hp => ?_) (fun hc hp => ?_)
  · obtain ⟨e18, hx_2, hp⟩ := obind hp
    refine vIdx_C (f0.mono st.le) hx_2 fun p18 ad => ?_
    refine ldS_C (f0.mono st.le) ad hx_2 ?_
    obtain ⟨e20, hx_3, hp⟩ := obind hp
    refine vIdx_C (st.rdL 0 rfl frz_str) hx_3 fun p20 ad_2 => ?_
    refine st1_S st 0 rfl ad_2 hx_3 rfl (fun _ => ⟨rfl, rfl⟩) fun h_4 st => ?_
    dsimp only [List.set] at st
    obtain rfl := Option.some.inj hp
    exact ⟨m, Nat.lt_succ_self _, _, st.pick [0] (by decide), hs⟩
  · obtain rfl := Option.some.inj hp
    obtain rfl := Option.some.inj hs
    exact ⟨v7, rfl, st.pick [0] (by decide)⟩
theorem r_laws_toRecipe {ψ : CM} {h : Heap} (hψ : CLe ψ (hcell h)) {a0 : T_laws_Recipe} {v0_2 : Value} {v0_3 : Value} {r : T_impl_Recipe} (hp : p_laws_toRecipe a0 = some r) (f0_2 : SlC (hcell h) (El.int .i64) v0_2 a0.Args) (f0_3 : SlC (hcell h) El.str v0_3 a0.Uses) : CallsH P id_laws_toRecipe #[.agg #[.string a0.Name, .string a0.Verb, v0_2, v0_3]] h (fun v h' => ∃ w0 : Value, ∃ w1 : Value, v = .agg #[.string r.Name, .string r.Verb, w0, w1] ∧ S ψ h h' [.it (El.ow (El.int .i64)) [w0] r.Args, .it (El.ow El.str) [w1] r.Uses]) := by
  apply w_laws_toRecipe
  unfold F_laws_toRecipe
  rw [p_laws_toRecipe] at hp
  have st : S ψ h h [] := S.start hψ
  refine new_S st fun b1 h_2 st => ?_
  refine new_S st fun b2 h_3 st => ?_
  refine new_S st fun b3 h_4 st => ?_
  refine ldS_K (st.cells 2 rfl) 0 rfl rfl ?_
  refine st_box st 0 rfl rfl rfl rfl fun h_5 st => ?_
  dsimp only [List.set] at st
  refine ldS_K (st.cells 2 rfl) 1 rfl rfl ?_
  refine st_box st 0 rfl rfl rfl rfl fun h_6 st => ?_
  dsimp only [List.set] at st
  refine ldV_K (st.cells 2 rfl) 2 rfl rfl ?_
  obtain ⟨r12, hx, hp⟩ := obind hp
  obtain ⟨φ, L, s, r_2⟩ := id st
  refine (r_laws_toInt64S s.fle hx (f0_2.mono st.le)).mono fun v_2 h_7 ⟨v12, eq, t⟩ => ⟨_, eq, ?_⟩
  replace st := join1 s r_2 t
  clear t s r_2
  refine st_box st 1 rfl rfl rfl (st.rdL 0 rfl (frz_int _)).one fun h_8 st => ?_
  dsimp only [List.set] at st
  refine ldV_K (st.cells 3 rfl) 3 rfl rfl ?_
  obtain ⟨r16, hx_2, hp⟩ := obind hp
  obtain ⟨φ_2, L_2, s_2, r_3⟩ := id st
  refine (r_laws_toStringS s_2.fle hx_2 (f0_3.mono st.le)).mono fun v_3 h_9 ⟨v16, eq_2, t_2⟩ => ⟨_, eq_2, ?_⟩
  replace st := join1 s_2 r_3 t_2
  clear t_2 s_2 r_3
  refine st_box st 2 rfl rfl rfl (st.rdL 0 rfl frz_str).one fun h_10 st => ?_
  dsimp only [List.set] at st
  refine ldS_K (st.cells 2 rfl) 0 rfl rfl ?_
  refine ldS_K (st.cells 2 rfl) 1 rfl rfl ?_
  refine ldV_K (st.cells 2 rfl) 2 rfl rfl ?_
  refine ldV_K (st.cells 2 rfl) 3 rfl rfl ?_
  refine st_box st 3 rfl rfl rfl rfl fun h_11 st => ?_
  dsimp only [List.set] at st
  refine st_box st 3 rfl rfl rfl rfl fun h_12 st => ?_
  dsimp only [List.set] at st
  refine st_box st 3 rfl rfl rfl (st.rdL 1 rfl (frz_int _)).one fun h_13 st => ?_
  dsimp only [List.set] at st
  refine st_box st 3 rfl rfl rfl (st.rdL 0 rfl frz_str).one fun h_14 st => ?_
  dsimp only [List.set] at st
  refine ldS_K (st.cells 3 rfl) 0 rfl rfl ?_
  refine ldS_K (st.cells 3 rfl) 1 rfl rfl ?_
  refine ldV_K (st.cells 3 rfl) 2 rfl rfl ?_
  refine ldV_K (st.cells 3 rfl) 3 rfl rfl ?_
  obtain rfl := Option.some.inj hp
  exact ⟨v12, v16, rfl, st.pick [1, 0] (by decide)⟩
theorem r_laws_toRecipeS {ψ : CM} {h : Heap} (hψ : CLe ψ (hcell h)) {a0 : List T_laws_Recipe} {v0 : Value} {r : List T_impl_Recipe} (hp : p_laws_toRecipeS a0 = some r) (f0 : SlC (hcell h) ef_T_laws_Recipe v0 a0) : CallsH P id_laws_toRecipeS #[v0] h (fun v h' => ∃ w0 : Value, v = w0 ∧ S ψ h h' [.it (El.ow eo_T_impl_Recipe) [w0] r]) := by
  apply w_laws_toRecipeS
  unfold F_laws_toRecipeS
  rw [p_laws_toRecipeS] at hp
  have st : S ψ h h [] := S.start hψ
  refine vLen_C (f0.mono st.le) ?_
  obtain ⟨l7, hx, hp⟩ := obind hp
  refine make_S (E := eo_T_impl_Recipe) st rfl hx fun v7 h_2 st => ?_
  obtain ⟨n_2, hn⟩ := loop_n hp
  refine ⟨fun n i4 h_3 => ∃ xs : List T_impl_Recipe, S ψ h h_3 [.it (El.ow eo_T_impl_Recipe) [v7] xs] ∧ loopN (p_laws_toRecipeS_b1 a0) n (i4, xs) = some r, ⟨n_2, _, st.pick [0] (by decide), hn⟩, ?_⟩
  rintro n _ i4 h_3 ⟨xs, st, hn⟩
  obtain ⟨m, a, rfl, hp, hs⟩ := loopN_step hn
  rw [p_laws_toRecipeS_b1] at hp
  refine vLen_C (f0.mono st.le) ?_
  refine bifP hp (fun hc hp => ?_) (fun hc hp => ?_)
  · obtain ⟨e18, hx_2, hp⟩ := obind hp
    refine vIdx_C (f0.mono st.le) hx_2 fun p18 ad => ?_
    obtain ⟨cs, ck, hr⟩ := f0.cells ad hx_2 rfl
    obtain ⟨v_2, v_3, rfl, f, f_2⟩ := un_T_laws_Recipe hr
    refine ldS_K (ck.mono st.le) 0 rfl rfl ?_
    refine ldS_K (ck.mono st.le) 1 rfl rfl ?_
    refine ldV_K (ck.mono st.le) 2 rfl rfl ?_
    refine ldV_K (ck.mono st.le) 3 rfl rfl ?_
    obtain ⟨r20, hx_3, hp⟩ := obind hp
    obtain ⟨φ, L, s, r_2⟩ := id st
    refine (r_laws_toRecipe s.fle hx_3 (f.mono st.le) (f_2.mono st.le)).mono fun v_4 h_4 ⟨v20, v20_2, eq, t⟩ => ⟨_, _, _, _, eq, ?_⟩
    replace st := join2 s r_2 t
    clear t s r_2
    obtain ⟨e21, hx_4, hp⟩ := obind hp
    refine vIdx_C (st.rdL 2 rfl frzo_T_impl_Recipe) hx_4 fun p21 ad_2 => ?_
    have st := st.pull 1 rfl
    dsimp only [List.eraseIdx] at st
    have st := st.pull 1 rfl
    dsimp only [List.eraseIdx] at st
    have st := pko_T_impl_Recipe (x0 := r20.Name) (x1 := r20.Verb) st
    refine stN_it st 0 rfl ad_2 hx_4 rfl fun h_5 st => ?_
    dsimp only [List.set] at st
    obtain rfl := Option.some.inj hp
    exact ⟨m, Nat.lt_succ_self _, _, st.pick [0] (by decide), hs⟩
  · obtain rfl := Option.some.inj hp
    obtain rfl := Option.some.inj hs
    exact ⟨v7, rfl, st.pick [0] (by decide)⟩
theorem r_laws_toInt64SS {ψ : CM} {h : Heap} (hψ : CLe ψ (hcell h)) {a0 : List (List Int)} {v0 : Value} {r : List (List Int)} (hp : p_laws_toInt64SS a0 = some r) (f0 : SlC (hcell h) (El.sl (El.int .i64)) v0 a0) : CallsH P id_laws_toInt64SS #[v0] h (fun v h' => ∃ w0 : Value, v = w0 ∧ S ψ h h' [.it (El.ow (El.ow (El.int .i64))) [w0] r]) := by
  apply w_laws_toInt64SS
  unfold F_laws_toInt64SS
  rw [p_laws_toInt64SS] at hp
  have st : S ψ h h [] := S.start hψ
  refine vLen_C (f0.mono st.le) ?_
  obtain ⟨l7, hx, hp⟩ := obind hp
  refine make_S (E := (El.ow (El.int .i64))) st rfl hx fun v7 h_2 st => ?_
  obtain ⟨n_2, hn⟩ := loop_n hp
  refine ⟨fun n i4 h_3 => ∃ xs : List (List Int), S ψ h h_3 [.it (El.ow (El.ow (El.int .i64))) [v7] xs] ∧ loopN (p_laws_toInt64SS_b1 a0) n (i4, xs) = some r, ⟨n_2, _, st.pick [0] (by decide), hn⟩, ?_⟩
  rintro n _ i4 h_3 ⟨xs, st, hn⟩
  obtain ⟨m, a, rfl, hp, hs⟩ := loopN_step hn
  rw [p_laws_toInt64SS_b1] at hp
  refine vLen_C (f0.mono st.le) ?_
  refine bifP hp (fun hc hp => ?_) (fun hc hp => ?_)
  · obtain ⟨e18, hx_2, hp⟩ := obind hp
    refine vIdx_C (f0.mono st.le) hx_2 fun p18 ad => ?_
    refine ldV_C f0 st.le ad hx_2 fun u19 f => ?_
    obtain ⟨r20, hx_3, hp⟩ := obind hp
    obtain ⟨φ, L, s, r_2⟩ := id st
    refine (r_laws_toInt64S s.fle hx_3 (f.mono st.le)).mono fun v_2 h_4 ⟨v20, eq, t⟩ => ⟨_, eq, ?_⟩
    replace st := join1 s r_2 t
    clear t s r_2
    obtain ⟨e21, hx_4, hp⟩ := obind hp
    refine vIdx_C (st.rdL 1 rfl (frz_ow (frz_int _))) hx_4 fun p21 ad_2 => ?_
    refine st1_it st 0 rfl ad_2 hx_4 rfl fun h_5 st => ?_
    dsimp only [List.set] at st
    obtain rfl := Option.some.inj hp
    exact ⟨m, Nat.lt_succ_self _, _, st.pick [0] (by decide), hs⟩
  · obtain rfl := Option.some.inj hp
    obtain rfl := Option.some.inj hs
    exact ⟨v7, rfl, st.pick [0] (by decide)⟩
theorem r_laws_toObject {ψ : CM} {h : Heap} (hψ : CLe ψ (hcell h)) {a0 : T_laws_Object} {v0_2 : Value} {r : T_impl_Object} (hp : p_laws_toObject a0 = some r) (f0_2 : SlC (hcell h) (El.sl (El.int .i64)) v0_2 a0.Rows) : CallsH P id_laws_toObject #[.agg #[.int .i64 a0.Kind, .int .i64 a0.Size, v0_2]] h (fun v h' => ∃ w0 : Value, v = .agg #[.int .i64 r.Kind, .int .i64 r.Size, w0] ∧ S ψ h h' [.it (El.ow (El.ow (El.int .i64))) [w0] r.Rows]) := by
  apply w_laws_toObject
  unfold F_laws_toObject
  rw [p_laws_toObject] at hp
  have st : S ψ h h [] := S.start hψ
  refine new_S st fun b1 h_2 st => ?_
  refine new_S st fun b2 h_3 st => ?_
  refine new_S st fun b3 h_4 st => ?_
  refine ldI_K (st.cells 2 rfl) 0 rfl rfl ?_
  refine st_box st 0 rfl rfl rfl rfl fun h_5 st => ?_
  dsimp only [List.set] at st
  refine ldI_K (st.cells 2 rfl) 1 rfl rfl ?_
  refine st_box st 0 rfl rfl rfl rfl fun h_6 st => ?_
  dsimp only [List.set] at st
  refine ldV_K (st.cells 2 rfl) 2 rfl rfl ?_
  obtain ⟨r12, hx, hp⟩ := obind hp
  obtain ⟨φ, L, s, r_2⟩ := id st
  refine (r_laws_toInt64SS s.fle hx (f0_2.mono st.le)).mono fun v_2 h_7 ⟨v12, eq, t⟩ => ⟨_, eq, ?_⟩
  replace st := join1 s r_2 t
  clear t s r_2
  refine st_box st 1 rfl rfl rfl (st.rdL 0 rfl (frz_ow (frz_int _))).one fun h_8 st => ?_
  dsimp only [List.set] at st
  refine ldI_K (st.cells 1 rfl) 0 rfl rfl ?_
  refine ldI_K (st.cells 1 rfl) 1 rfl rfl ?_
  refine ldV_K (st.cells 1 rfl) 2 rfl rfl ?_
  refine st_box st 2 rfl rfl rfl rfl fun h_9 st => ?_
  dsimp only [List.set] at st
  refine st_box st 2 rfl rfl rfl rfl fun h_10 st => ?_
  dsimp only [List.set] at st
  refine st_box st 2 rfl rfl rfl (st.rdL 0 rfl (frz_ow (frz_int _))).one fun h_11 st => ?_
  dsimp only [List.set] at st
  refine ldI_K (st.cells 2 rfl) 0 rfl rfl ?_
  refine ldI_K (st.cells 2 rfl) 1 rfl rfl ?_
  refine ldV_K (st.cells 2 rfl) 2 rfl rfl ?_
  obtain rfl := Option.some.inj hp
  exact ⟨v12, rfl, st.pick [0] (by decide)⟩
theorem r_laws_toObjectS {ψ : CM} {h : Heap} (hψ : CLe ψ (hcell h)) {a0 : List T_laws_Object} {v0 : Value} {r : List T_impl_Object} (hp : p_laws_toObjectS a0 = some r) (f0 : SlC (hcell h) ef_T_laws_Object v0 a0) : CallsH P id_laws_toObjectS #[v0] h (fun v h' => ∃ w0 : Value, v = w0 ∧ S ψ h h' [.it (El.ow eo_T_impl_Object) [w0] r]) := by
  apply w_laws_toObjectS
  unfold F_laws_toObjectS
  rw [p_laws_toObjectS] at hp
  have st : S ψ h h [] := S.start hψ
  refine vLen_C (f0.mono st.le) ?_
  obtain ⟨l7, hx, hp⟩ := obind hp
  refine make_S (E := eo_T_impl_Object) st rfl hx fun v7 h_2 st => ?_
  obtain ⟨n_2, hn⟩ := loop_n hp
  refine ⟨fun n i4 h_3 => ∃ xs : List T_impl_Object, S ψ h h_3 [.it (El.ow eo_T_impl_Object) [v7] xs] ∧ loopN (p_laws_toObjectS_b1 a0) n (i4, xs) = some r, ⟨n_2, _, st.pick [0] (by decide), hn⟩, ?_⟩
  rintro n _ i4 h_3 ⟨xs, st, hn⟩
  obtain ⟨m, a, rfl, hp, hs⟩ := loopN_step hn
  rw [p_laws_toObjectS_b1] at hp
  refine vLen_C (f0.mono st.le) ?_
  refine bifP hp (fun hc hp => ?_) (fun hc hp => ?_)
  · obtain ⟨e18, hx_2, hp⟩ := obind hp
    refine vIdx_C (f0.mono st.le) hx_2 fun p18 ad => ?_
    obtain ⟨cs, ck, hr⟩ := f0.cells ad hx_2 rfl
    obtain ⟨v_2, rfl, f⟩ := un_T_laws_Object hr
    refine ldI_K (ck.mono st.le) 0 rfl rfl ?_
    refine ldI_K (ck.mono st.le) 1 rfl rfl ?_
    refine ldV_K (ck.mono st.le) 2 rfl rfl ?_
    obtain ⟨r20, hx_3, hp⟩ := obind hp
    obtain ⟨φ, L, s, r_2⟩ := id st
    refine (r_laws_toObject s.fle hx_3 (f.mono st.le)).mono fun v_3 h_4 ⟨v20, eq, t⟩ => ⟨_, _, _, eq, ?_⟩
    replace st := join1 s r_2 t
    clear t s r_2
    obtain ⟨e21, hx_4, hp⟩ := obind hp
    refine vIdx_C (st.rdL 1 rfl frzo_T_impl_Object) hx_4 fun p21 ad_2 => ?_
    have st := pko_T_impl_Object (x0 := r20.Kind) (x1 := r20.Size) st
    refine stN_it st 0 rfl ad_2 hx_4 rfl fun h_5 st => ?_
    dsimp only [List.set] at st
    obtain rfl := Option.some.inj hp
    exact ⟨m, Nat.lt_succ_self _, _, st.pick [0] (by decide), hs⟩
  · obtain rfl := Option.some.inj hp
    obtain rfl := Option.some.inj hs
    exact ⟨v7, rfl, st.pick [0] (by decide)⟩
theorem r_laws_toLab {ψ : CM} {h : Heap} (hψ : CLe ψ (hcell h)) {a0 : T_laws_Lab} {v0_0 : Value} {v0_1 : Value} {r : T_impl_Lab} (hp : p_laws_toLab a0 = some r) (f0_0 : SlC (hcell h) ef_T_laws_Recipe v0_0 a0.Recipes) (f0_1 : SlC (hcell h) ef_T_laws_Object v0_1 a0.Objects) : CallsH P id_laws_toLab #[.agg #[v0_0, v0_1]] h (fun v h' => ∃ w0 : Value, ∃ w1 : Value, v = .agg #[w0, w1] ∧ S ψ h h' [.it (El.ow eo_T_impl_Recipe) [w0] r.Recipes, .it (El.ow eo_T_impl_Object) [w1] r.Objects]) := by
  apply w_laws_toLab
  unfold F_laws_toLab
  rw [p_laws_toLab] at hp
  have st : S ψ h h [] := S.start hψ
  refine new_S st fun b1 h_2 st => ?_
  refine new_S st fun b2 h_3 st => ?_
  refine new_S st fun b3 h_4 st => ?_
  refine ldV_K (st.cells 2 rfl) 0 rfl rfl ?_
  obtain ⟨r6, hx, hp⟩ := obind hp
  obtain ⟨φ, L, s, r_2⟩ := id st
  refine (r_laws_toRecipeS s.fle hx (f0_0.mono st.le)).mono fun v_2 h_5 ⟨v6, eq, t⟩ => ⟨_, eq, ?_⟩
  replace st := join1 s r_2 t
  clear t s r_2
  refine st_box st 1 rfl rfl rfl (st.rdL 0 rfl frzo_T_impl_Recipe).one fun h_6 st => ?_
  dsimp only [List.set] at st
  refine ldV_K (st.cells 3 rfl) 1 rfl rfl ?_
  obtain ⟨r10, hx_2, hp⟩ := obind hp
  obtain ⟨φ_2, L_2, s_2, r_3⟩ := id st
  refine (r_laws_toObjectS s_2.fle hx_2 (f0_1.mono st.le)).mono fun v_3 h_7 ⟨v10, eq_2, t_2⟩ => ⟨_, eq_2, ?_⟩
  replace st := join1 s_2 r_3 t_2
  clear t_2 s_2 r_3
  refine st_box st 2 rfl rfl rfl (st.rdL 0 rfl frzo_T_impl_Object).one fun h_8 st => ?_
  dsimp only [List.set] at st
  refine ldV_K (st.cells 2 rfl) 0 rfl rfl ?_
  refine ldV_K (st.cells 2 rfl) 1 rfl rfl ?_
  refine st_box st 3 rfl rfl rfl (st.rdL 1 rfl frzo_T_impl_Recipe).one fun h_9 st => ?_
  dsimp only [List.set] at st
  refine st_box st 3 rfl rfl rfl (st.rdL 0 rfl frzo_T_impl_Object).one fun h_10 st => ?_
  dsimp only [List.set] at st
  refine ldV_K (st.cells 3 rfl) 0 rfl rfl ?_
  refine ldV_K (st.cells 3 rfl) 1 rfl rfl ?_
  obtain rfl := Option.some.inj hp
  exact ⟨v6, v10, rfl, st.pick [1, 0] (by decide)⟩
theorem r_laws_toItem {ψ : CM} {h : Heap} (hψ : CLe ψ (hcell h)) {a0 : T_laws_Item} {v0_3 : Value} {r : T_impl_Item} (hp : p_laws_toItem a0 = some r) (f0_3 : SlC (hcell h) (El.sl (El.int .i64)) v0_3 a0.Object.Rows) : CallsH P id_laws_toItem #[.agg #[.string a0.Name, .int .i64 a0.Object.Kind, .int .i64 a0.Object.Size, v0_3, .string a0.Key]] h (fun v h' => ∃ w0 : Value, v = .agg #[.string r.Name, .int .i64 r.Object.Kind, .int .i64 r.Object.Size, w0, .string r.Key] ∧ S ψ h h' [.it (El.ow (El.ow (El.int .i64))) [w0] r.Object.Rows]) := by
  apply w_laws_toItem
  unfold F_laws_toItem
  rw [p_laws_toItem] at hp
  have st : S ψ h h [] := S.start hψ
  refine new_S st fun b1 h_2 st => ?_
  refine new_S st fun b2 h_3 st => ?_
  refine new_S st fun b3 h_4 st => ?_
  refine ldS_K (st.cells 2 rfl) 0 rfl rfl ?_
  refine st_box st 0 rfl rfl rfl rfl fun h_5 st => ?_
  dsimp only [List.set] at st
  refine ldI_K (st.cells 2 rfl) 1 rfl rfl ?_
  refine ldI_K (st.cells 2 rfl) 2 rfl rfl ?_
  refine ldV_K (st.cells 2 rfl) 3 rfl rfl ?_
  obtain ⟨r9, hx, hp⟩ := obind hp
  obtain ⟨φ, L, s, r_2⟩ := id st
  refine (r_laws_toObject s.fle hx (f0_3.mono st.le)).mono fun v_2 h_6 ⟨v9, eq, t⟩ => ⟨_, _, _, eq, ?_⟩
  replace st := join1 s r_2 t
  clear t s r_2
  refine st_box st 1 rfl rfl rfl rfl fun h_7 st => ?_
  dsimp only [List.set] at st
  refine st_box st 1 rfl rfl rfl rfl fun h_8 st => ?_
  dsimp only [List.set] at st
  refine st_box st 1 rfl rfl rfl (st.rdL 0 rfl (frz_ow (frz_int _))).one fun h_9 st => ?_
  dsimp only [List.set] at st
  refine ldS_K (st.cells 3 rfl) 4 rfl rfl ?_
  refine st_box st 1 rfl rfl rfl rfl fun h_10 st => ?_
  dsimp only [List.set] at st
  refine ldS_K (st.cells 1 rfl) 0 rfl rfl ?_
  refine ldI_K (st.cells 1 rfl) 1 rfl rfl ?_
  refine ldI_K (st.cells 1 rfl) 2 rfl rfl ?_
  refine ldV_K (st.cells 1 rfl) 3 rfl rfl ?_
  refine ldS_K (st.cells 1 rfl) 4 rfl rfl ?_
  refine st_box st 2 rfl rfl rfl rfl fun h_11 st => ?_
  dsimp only [List.set] at st
  refine st_box st 2 rfl rfl rfl rfl fun h_12 st => ?_
  dsimp only [List.set] at st
  refine st_box st 2 rfl rfl rfl rfl fun h_13 st => ?_
  dsimp only [List.set] at st
  refine st_box st 2 rfl rfl rfl (st.rdL 0 rfl (frz_ow (frz_int _))).one fun h_14 st => ?_
  dsimp only [List.set] at st
  refine st_box st 2 rfl rfl rfl rfl fun h_15 st => ?_
  dsimp only [List.set] at st
  refine ldS_K (st.cells 2 rfl) 0 rfl rfl ?_
  refine ldI_K (st.cells 2 rfl) 1 rfl rfl ?_
  refine ldI_K (st.cells 2 rfl) 2 rfl rfl ?_
  refine ldV_K (st.cells 2 rfl) 3 rfl rfl ?_
  refine ldS_K (st.cells 2 rfl) 4 rfl rfl ?_
  obtain rfl := Option.some.inj hp
  exact ⟨v9, rfl, st.pick [0] (by decide)⟩
theorem r_laws_toItemS {ψ : CM} {h : Heap} (hψ : CLe ψ (hcell h)) {a0 : List T_laws_Item} {v0 : Value} {r : List T_impl_Item} (hp : p_laws_toItemS a0 = some r) (f0 : SlC (hcell h) ef_T_laws_Item v0 a0) : CallsH P id_laws_toItemS #[v0] h (fun v h' => ∃ w0 : Value, v = w0 ∧ S ψ h h' [.it (El.ow eo_T_impl_Item) [w0] r]) := by
  apply w_laws_toItemS
  unfold F_laws_toItemS
  rw [p_laws_toItemS] at hp
  have st : S ψ h h [] := S.start hψ
  refine vLen_C (f0.mono st.le) ?_
  obtain ⟨l7, hx, hp⟩ := obind hp
  refine make_S (E := eo_T_impl_Item) st rfl hx fun v7 h_2 st => ?_
  obtain ⟨n_2, hn⟩ := loop_n hp
  refine ⟨fun n i4 h_3 => ∃ xs : List T_impl_Item, S ψ h h_3 [.it (El.ow eo_T_impl_Item) [v7] xs] ∧ loopN (p_laws_toItemS_b1 a0) n (i4, xs) = some r, ⟨n_2, _, st.pick [0] (by decide), hn⟩, ?_⟩
  rintro n _ i4 h_3 ⟨xs, st, hn⟩
  obtain ⟨m, a, rfl, hp, hs⟩ := loopN_step hn
  rw [p_laws_toItemS_b1] at hp
  refine vLen_C (f0.mono st.le) ?_
  refine bifP hp (fun hc hp => ?_) (fun hc hp => ?_)
  · obtain ⟨e18, hx_2, hp⟩ := obind hp
    refine vIdx_C (f0.mono st.le) hx_2 fun p18 ad => ?_
    obtain ⟨cs, ck, hr⟩ := f0.cells ad hx_2 rfl
    obtain ⟨v_2, rfl, f⟩ := un_T_laws_Item hr
    refine ldS_K (ck.mono st.le) 0 rfl rfl ?_
    refine ldI_K (ck.mono st.le) 1 rfl rfl ?_
    refine ldI_K (ck.mono st.le) 2 rfl rfl ?_
    refine ldV_K (ck.mono st.le) 3 rfl rfl ?_
    refine ldS_K (ck.mono st.le) 4 rfl rfl ?_
    obtain ⟨r20, hx_3, hp⟩ := obind hp
    obtain ⟨φ, L, s, r_2⟩ := id st
    refine (r_laws_toItem s.fle hx_3 (f.mono st.le)).mono fun v_3 h_4 ⟨v20, eq, t⟩ => ⟨_, _, _, _, _, eq, ?_⟩
    replace st := join1 s r_2 t
    clear t s r_2
    obtain ⟨e21, hx_4, hp⟩ := obind hp
    refine vIdx_C (st.rdL 1 rfl frzo_T_impl_Item) hx_4 fun p21 ad_2 => ?_
    have st := pko_T_impl_Item (x0 := r20.Name) (x1 := r20.Object.Kind) (x2 := r20.Object.Size) (x4 := r20.Key) st
    refine stN_it st 0 rfl ad_2 hx_4 rfl fun h_5 st => ?_
    dsimp only [List.set] at st
    obtain rfl := Option.some.inj hp
    exact ⟨m, Nat.lt_succ_self _, _, st.pick [0] (by decide), hs⟩
  · obtain rfl := Option.some.inj hp
    obtain rfl := Option.some.inj hs
    exact ⟨v7, rfl, st.pick [0] (by decide)⟩
theorem r_laws_toCatalog {ψ : CM} {h : Heap} (hψ : CLe ψ (hcell h)) {a0 : T_laws_Catalog} {v0_0 : Value} {r : T_impl_Catalog} (hp : p_laws_toCatalog a0 = some r) (f0_0 : SlC (hcell h) ef_T_laws_Item v0_0 a0.Items) : CallsH P id_laws_toCatalog #[.agg #[v0_0]] h (fun v h' => ∃ w0 : Value, v = .agg #[w0] ∧ S ψ h h' [.it (El.ow eo_T_impl_Item) [w0] r.Items]) := by
  apply w_laws_toCatalog
  unfold F_laws_toCatalog
  rw [p_laws_toCatalog] at hp
  have st : S ψ h h [] := S.start hψ
  refine new_S st fun b1 h_2 st => ?_
  refine new_S st fun b2 h_3 st => ?_
  refine new_S st fun b3 h_4 st => ?_
  refine ldV_K (st.cells 2 rfl) 0 rfl rfl ?_
  obtain ⟨r6, hx, hp⟩ := obind hp
  obtain ⟨φ, L, s, r_2⟩ := id st
  refine (r_laws_toItemS s.fle hx (f0_0.mono st.le)).mono fun v_2 h_5 ⟨v6, eq, t⟩ => ⟨_, eq, ?_⟩
  replace st := join1 s r_2 t
  clear t s r_2
  refine st_box st 1 rfl rfl rfl (st.rdL 0 rfl frzo_T_impl_Item).one fun h_6 st => ?_
  dsimp only [List.set] at st
  refine ldV_K (st.cells 1 rfl) 0 rfl rfl ?_
  refine st_box st 2 rfl rfl rfl (st.rdL 0 rfl frzo_T_impl_Item).one fun h_7 st => ?_
  dsimp only [List.set] at st
  refine ldV_K (st.cells 2 rfl) 0 rfl rfl ?_
  obtain rfl := Option.some.inj hp
  exact ⟨v6, rfl, st.pick [0] (by decide)⟩
theorem r_laws_toDesk {ψ : CM} {h : Heap} (hψ : CLe ψ (hcell h)) {a0 : T_laws_Desk} {v0_0 : Value} {v0_1 : Value} {v0_2 : Value} {r : T_impl_Desk} (hp : p_laws_toDesk a0 = some r) (f0_0 : SlC (hcell h) ef_T_laws_Recipe v0_0 a0.Lab.Recipes) (f0_1 : SlC (hcell h) ef_T_laws_Object v0_1 a0.Lab.Objects) (f0_2 : SlC (hcell h) ef_T_laws_Item v0_2 a0.Catalog.Items) : CallsH P id_laws_toDesk #[.agg #[v0_0, v0_1, v0_2]] h (fun v h' => ∃ w0 : Value, ∃ w1 : Value, ∃ w2 : Value, v = .agg #[w0, w1, w2] ∧ S ψ h h' [.it (El.ow eo_T_impl_Recipe) [w0] r.Lab.Recipes, .it (El.ow eo_T_impl_Object) [w1] r.Lab.Objects, .it (El.ow eo_T_impl_Item) [w2] r.Catalog.Items]) := by
  apply w_laws_toDesk
  unfold F_laws_toDesk
  rw [p_laws_toDesk] at hp
  have st : S ψ h h [] := S.start hψ
  refine new_S st fun b1 h_2 st => ?_
  refine new_S st fun b2 h_3 st => ?_
  refine new_S st fun b3 h_4 st => ?_
  refine ldV_K (st.cells 2 rfl) 0 rfl rfl ?_
  refine ldV_K (st.cells 2 rfl) 1 rfl rfl ?_
  obtain ⟨r6, hx, hp⟩ := obind hp
  obtain ⟨φ, L, s, r_2⟩ := id st
  refine (r_laws_toLab s.fle hx (f0_0.mono st.le) (f0_1.mono st.le)).mono fun v_2 h_5 ⟨v6, v6_2, eq, t⟩ => ⟨_, _, eq, ?_⟩
  replace st := join2 s r_2 t
  clear t s r_2
  refine st_box st 2 rfl rfl rfl (st.rdL 0 rfl frzo_T_impl_Recipe).one fun h_6 st => ?_
  dsimp only [List.set] at st
  refine st_box st 2 rfl rfl rfl (st.rdL 1 rfl frzo_T_impl_Object).one fun h_7 st => ?_
  dsimp only [List.set] at st
  refine ldV_K (st.cells 4 rfl) 2 rfl rfl ?_
  obtain ⟨r10, hx_2, hp⟩ := obind hp
  obtain ⟨φ_2, L_2, s_2, r_3⟩ := id st
  refine (r_laws_toCatalog s_2.fle hx_2 (f0_2.mono st.le)).mono fun v_3 h_8 ⟨v10, eq_2, t_2⟩ => ⟨_, eq_2, ?_⟩
  replace st := join1 s_2 r_3 t_2
  clear t_2 s_2 r_3
  refine st_box st 3 rfl rfl rfl (st.rdL 0 rfl frzo_T_impl_Item).one fun h_9 st => ?_
  dsimp only [List.set] at st
  refine ldV_K (st.cells 3 rfl) 0 rfl rfl ?_
  refine ldV_K (st.cells 3 rfl) 1 rfl rfl ?_
  refine ldV_K (st.cells 3 rfl) 2 rfl rfl ?_
  refine st_box st 4 rfl rfl rfl (st.rdL 1 rfl frzo_T_impl_Recipe).one fun h_10 st => ?_
  dsimp only [List.set] at st
  refine st_box st 4 rfl rfl rfl (st.rdL 2 rfl frzo_T_impl_Object).one fun h_11 st => ?_
  dsimp only [List.set] at st
  refine st_box st 4 rfl rfl rfl (st.rdL 0 rfl frzo_T_impl_Item).one fun h_12 st => ?_
  dsimp only [List.set] at st
  refine ldV_K (st.cells 4 rfl) 0 rfl rfl ?_
  refine ldV_K (st.cells 4 rfl) 1 rfl rfl ?_
  refine ldV_K (st.cells 4 rfl) 2 rfl rfl ?_
  obtain rfl := Option.some.inj hp
  exact ⟨v6, v6_2, v10, rfl, st.pick [1, 2, 0] (by decide)⟩
theorem r_slices_EqualFunc_impl_Recipe_impl_Recipe_impl_Recipe_impl_Recipe {ψ : CM} {h : Heap} (hψ : CLe ψ (hcell h)) {s0 : List T_impl_Recipe} {v0 : Value} {s1 : List T_impl_Recipe} {v1 : Value} {fn2 : T_impl_Recipe → T_impl_Recipe → Option Bool} {g2 : Nat} {cap2 : List Value} {r : Bool} (hp : p_slices_EqualFunc_impl_Recipe_impl_Recipe_impl_Recipe_impl_Recipe s0 s1 fn2 = some r) (f0 : SlC (hcell h) ef_T_impl_Recipe v0 s0) (f1 : SlC (hcell h) ef_T_impl_Recipe v1 s1) (o2 : ctx.okf g2 = true) (k2 : ∀ {h1 : Heap}, ExtH h h1 → ∀ {ψ1 : CM}, CLe ψ1 (hcell h1) → ∀ {y0 : T_impl_Recipe} {u0_2 : Value} {u0_3 : Value} {y1 : T_impl_Recipe} {u1_2 : Value} {u1_3 : Value} {r1 : Bool}, fn2 y0 y1 = some r1 → SlC (hcell h1) (El.int .i64) u0_2 y0.Args → SlC (hcell h1) El.str u0_3 y0.Uses → SlC (hcell h1) (El.int .i64) u1_2 y1.Args → SlC (hcell h1) El.str u1_3 y1.Uses → CallsH P g2 (([.agg #[.string y0.Name, .string y0.Verb, u0_2, u0_3], .agg #[.string y1.Name, .string y1.Verb, u1_2, u1_3]] : List Value) ++ cap2).toArray h1 (fun v h' => v = .bool r1 ∧ S ψ1 h1 h' [])) : CallsH P id_slices_EqualFunc_impl_Recipe_impl_Recipe_impl_Recipe_impl_Recipe #[v0, v1, .func (.func g2) #[] cap2.toArray] h (fun v h' => v = .bool r ∧ S ψ h h' []) := by
  apply w_slices_EqualFunc_impl_Recipe_impl_Recipe_impl_Recipe_impl_Recipe
  unfold F_slices_EqualFunc_impl_Recipe_impl_Recipe_impl_Recipe_impl_Recipe
  rw [p_slices_EqualFunc_impl_Recipe_impl_Recipe_impl_Recipe_impl_Recipe] at hp
  have st : S ψ h h [] := S.start hψ
  refine vLen_C (f0.mono st.le) ?_
  refine vLen_C (f1.mono st.le) ?_
  refine bifP hp (fun hc hp => ?_) (fun hc hp => ?_)
  · obtain rfl := Option.some.inj hp
    exact ⟨rfl, st.pick [] (by decide)⟩
  · refine vLen_C (f0.mono st.le) ?_
    obtain ⟨n_2, hn⟩ := loop_n hp
    refine ⟨fun n y17 h_2 => S ψ h h_2 [] ∧ loopN (p_slices_EqualFunc_impl_Recipe_impl_Recipe_impl_Recipe_impl_Recipe_b1 s0 s1 fn2) n y17 = some r, ⟨n_2, st.pick [] (by decide), hn⟩, ?_⟩
    rintro n _ y17 h_2 ⟨st, hn⟩
    obtain ⟨m, a, rfl, hp, hs⟩ := loopN_step hn
    rw [p_slices_EqualFunc_impl_Recipe_impl_Recipe_impl_Recipe_impl_Recipe_b1] at hp
    refine bifP hp (fun hc hp => ?_) (fun hc hp => ?_)
    · obtain ⟨e20, hx, hp⟩ := obind hp
      refine vIdx_C (f0.mono st.le) hx fun p20 ad => ?_
      obtain ⟨cs, ck, hr⟩ := f0.cells ad hx rfl
      obtain ⟨v_2, v_3, rfl, f, f_2⟩ := un_T_impl_Recipe hr
      refine ldS_K (ck.mono st.le) 0 rfl rfl ?_
      refine ldS_K (ck.mono st.le) 1 rfl rfl ?_
      refine ldV_K (ck.mono st.le) 2 rfl rfl ?_
      refine ldV_K (ck.mono st.le) 3 rfl rfl ?_
      refine new_S st fun b8 h_3 st => ?_
      refine st_box st 0 rfl rfl rfl rfl fun h_4 st => ?_
      dsimp only [List.set] at st
      refine st_box st 0 rfl rfl rfl rfl fun h_5 st => ?_
      dsimp only [List.set] at st
      refine st_box st 0 rfl rfl rfl (f.mono st.le).one fun h_6 st => ?_
      dsimp only [List.set] at st
      refine st_box st 0 rfl rfl rfl (f_2.mono st.le).one fun h_7 st => ?_
      dsimp only [List.set] at st
      obtain ⟨e24, hx_2, hp⟩ := obind hp
      refine vIdx_C (f1.mono st.le) hx_2 fun p24 ad_2 => ?_
      obtain ⟨cs_2, ck_2, hr_2⟩ := f1.cells ad_2 hx_2 rfl
      obtain ⟨v_4, v_5, rfl, f_3, f_4⟩ := un_T_impl_Recipe hr_2
      refine ldS_K (ck_2.mono st.le) 0 rfl rfl ?_
      refine ldS_K (ck_2.mono st.le) 1 rfl rfl ?_
      refine ldV_K (ck_2.mono st.le) 2 rfl rfl ?_
      refine ldV_K (ck_2.mono st.le) 3 rfl rfl ?_
      refine new_S st fun b9 h_8 st => ?_
      refine st_box st 0 rfl rfl rfl rfl fun h_9 st => ?_
      dsimp only [List.set] at st
      refine st_box st 0 rfl rfl rfl rfl fun h_10 st => ?_
      dsimp only [List.set] at st
      refine st_box st 0 rfl rfl rfl (f_3.mono st.le).one fun h_11 st => ?_
      dsimp only [List.set] at st
      refine st_box st 0 rfl rfl rfl (f_4.mono st.le).one fun h_12 st => ?_
      dsimp only [List.set] at st
      refine ldS_K (st.cells 1 rfl) 0 rfl rfl ?_
      refine ldS_K (st.cells 1 rfl) 1 rfl rfl ?_
      refine ldV_K (st.cells 1 rfl) 2 rfl rfl ?_
      refine ldV_K (st.cells 1 rfl) 3 rfl rfl ?_
      refine ldS_K (st.cells 0 rfl) 0 rfl rfl ?_
      refine ldS_K (st.cells 0 rfl) 1 rfl rfl ?_
      refine ldV_K (st.cells 0 rfl) 2 rfl rfl ?_
      refine ldV_K (st.cells 0 rfl) 3 rfl rfl ?_
      obtain ⟨r29, hx_3, hp⟩ := obind hp
      obtain ⟨φ, L, s, r_2⟩ := id st
      refine vOkf_of o2 ?_
      refine (k2 st.ext s.fle hx_3 (f.mono st.le) (f_2.mono st.le) (f_3.mono st.le) (f_4.mono st.le)).mono fun v_6 h_13 ⟨eq, t⟩ => ⟨_, eq, ?_⟩
      replace st := join0 s r_2 t
      clear t s r_2
      refine bifP hp (fun hc hp => ?_) (fun hc hp => ?_)
      · obtain rfl := Option.some.inj hp
        obtain rfl := Option.some.inj hs
        exact ⟨rfl, st.pick [] (by decide)⟩
      · obtain rfl := Option.some.inj hp
        exact ⟨m, Nat.lt_succ_self _, st.pick [] (by decide), hs⟩
    · obtain rfl := Option.some.inj hp
      obtain rfl := Option.some.inj hs
      exact ⟨rfl, st.pick [] (by decide)⟩
theorem r_slices_Equal_int64_int64 {ψ : CM} {h : Heap} (hψ : CLe ψ (hcell h)) {s0 : List Int} {v0 : Value} {s1 : List Int} {v1 : Value} {r : Bool} (hp : p_slices_Equal_int64_int64 s0 s1 = some r) (f0 : SlC (hcell h) (El.int .i64) v0 s0) (f1 : SlC (hcell h) (El.int .i64) v1 s1) : CallsH P id_slices_Equal_int64_int64 #[v0, v1] h (fun v h' => v = .bool r ∧ S ψ h h' []) := by
  apply w_slices_Equal_int64_int64
  unfold F_slices_Equal_int64_int64
  rw [p_slices_Equal_int64_int64] at hp
  have st : S ψ h h [] := S.start hψ
  refine vLen_C (f0.mono st.le) ?_
  refine vLen_C (f1.mono st.le) ?_
  refine bifP hp (fun hc hp => ?_) (fun hc hp => ?_)
  · obtain rfl := Option.some.inj hp
    exact ⟨rfl, st.pick [] (by decide)⟩
  · refine vLen_C (f0.mono st.le) ?_
    obtain ⟨n_2, hn⟩ := loop_n hp
    refine ⟨fun n y13 h_2 => S ψ h h_2 [] ∧ loopN (p_slices_Equal_int64_int64_b1 s0 s1) n y13 = some r, ⟨n_2, st.pick [] (by decide), hn⟩, ?_⟩
    rintro n _ y13 h_2 ⟨st, hn⟩
    obtain ⟨m, a, rfl, hp, hs⟩ := loopN_step hn
    rw [p_slices_Equal_int64_int64_b1] at hp
    refine bifP hp (fun hc hp => ?_) (fun hc hp => ?_)
    · obtain ⟨e18, hx, hp⟩ := obind hp
      refine vIdx_C (f0.mono st.le) hx fun p18 ad => ?_
      refine ldI_C (f0.mono st.le) ad hx ?_
      obtain ⟨e22, hx_2, hp⟩ := obind hp
      refine vIdx_C (f1.mono st.le) hx_2 fun p22 ad_2 => ?_
      refine ldI_C (f1.mono st.le) ad_2 hx_2 ?_
      refine bifP hp (fun hc hp => ?_) (fun hc hp => ?_)
      · obtain rfl := Option.some.inj hp
        obtain rfl := Option.some.inj hs
        exact ⟨rfl, st.pick [] (by decide)⟩
      · obtain rfl := Option.some.inj hp
        exact ⟨m, Nat.lt_succ_self _, st.pick [] (by decide), hs⟩
    · obtain rfl := Option.some.inj hp
      obtain rfl := Option.some.inj hs
      exact ⟨rfl, st.pick [] (by decide)⟩
theorem r_slices_Equal_string_string {ψ : CM} {h : Heap} (hψ : CLe ψ (hcell h)) {s0 : List ByteArray} {v0 : Value} {s1 : List ByteArray} {v1 : Value} {r : Bool} (hp : p_slices_Equal_string_string s0 s1 = some r) (f0 : SlC (hcell h) El.str v0 s0) (f1 : SlC (hcell h) El.str v1 s1) : CallsH P id_slices_Equal_string_string #[v0, v1] h (fun v h' => v = .bool r ∧ S ψ h h' []) := by
  apply w_slices_Equal_string_string
  unfold F_slices_Equal_string_string
  rw [p_slices_Equal_string_string] at hp
  have st : S ψ h h [] := S.start hψ
  refine vLen_C (f0.mono st.le) ?_
  refine vLen_C (f1.mono st.le) ?_
  refine bifP hp (fun hc hp => ?_) (fun hc hp => ?_)
  · obtain rfl := Option.some.inj hp
    exact ⟨rfl, st.pick [] (by decide)⟩
  · refine vLen_C (f0.mono st.le) ?_
    obtain ⟨n_2, hn⟩ := loop_n hp
    refine ⟨fun n y13 h_2 => S ψ h h_2 [] ∧ loopN (p_slices_Equal_string_string_b1 s0 s1) n y13 = some r, ⟨n_2, st.pick [] (by decide), hn⟩, ?_⟩
    rintro n _ y13 h_2 ⟨st, hn⟩
    obtain ⟨m, a, rfl, hp, hs⟩ := loopN_step hn
    rw [p_slices_Equal_string_string_b1] at hp
    refine bifP hp (fun hc hp => ?_) (fun hc hp => ?_)
    · obtain ⟨e18, hx, hp⟩ := obind hp
      refine vIdx_C (f0.mono st.le) hx fun p18 ad => ?_
      refine ldS_C (f0.mono st.le) ad hx ?_
      obtain ⟨e22, hx_2, hp⟩ := obind hp
      refine vIdx_C (f1.mono st.le) hx_2 fun p22 ad_2 => ?_
      refine ldS_C (f1.mono st.le) ad_2 hx_2 ?_
      refine bifP hp (fun hc hp => ?_) (fun hc hp => ?_)
      · obtain rfl := Option.some.inj hp
        obtain rfl := Option.some.inj hs
        exact ⟨rfl, st.pick [] (by decide)⟩
      · obtain rfl := Option.some.inj hp
        exact ⟨m, Nat.lt_succ_self _, st.pick [] (by decide), hs⟩
    · obtain rfl := Option.some.inj hp
      obtain rfl := Option.some.inj hs
      exact ⟨rfl, st.pick [] (by decide)⟩
theorem r_impl_sameRecipe {ψ : CM} {h : Heap} (hψ : CLe ψ (hcell h)) {a0 : T_impl_Recipe} {v0_2 : Value} {v0_3 : Value} {b1 : T_impl_Recipe} {v1_2 : Value} {v1_3 : Value} {r : Bool} (hp : p_impl_sameRecipe a0 b1 = some r) (f0_2 : SlC (hcell h) (El.int .i64) v0_2 a0.Args) (f0_3 : SlC (hcell h) El.str v0_3 a0.Uses) (f1_2 : SlC (hcell h) (El.int .i64) v1_2 b1.Args) (f1_3 : SlC (hcell h) El.str v1_3 b1.Uses) : CallsH P id_impl_sameRecipe #[.agg #[.string a0.Name, .string a0.Verb, v0_2, v0_3], .agg #[.string b1.Name, .string b1.Verb, v1_2, v1_3]] h (fun v h' => v = .bool r ∧ S ψ h h' []) := by
  apply w_impl_sameRecipe
  unfold F_impl_sameRecipe
  rw [p_impl_sameRecipe] at hp
  have st : S ψ h h [] := S.start hψ
  refine new_S st fun b2 h_2 st => ?_
  refine new_S st fun b3 h_3 st => ?_
  refine ldS_K (st.cells 1 rfl) 0 rfl rfl ?_
  refine ldS_K (st.cells 0 rfl) 0 rfl rfl ?_
  refine bifP hp (fun hc hp => ?_) (fun hc hp => ?_)
  · refine ldS_K (st.cells 1 rfl) 1 rfl rfl ?_
    refine ldS_K (st.cells 0 rfl) 1 rfl rfl ?_
    refine bifP hp (fun hc hp => ?_) (fun hc hp => ?_)
    · refine ldV_K (st.cells 1 rfl) 2 rfl rfl ?_
      refine ldV_K (st.cells 0 rfl) 2 rfl rfl ?_
      obtain ⟨r22, hx, hp⟩ := obind hp
      obtain ⟨φ, L, s, r_2⟩ := id st
      refine (r_slices_Equal_int64_int64 s.fle hx (f0_2.mono st.le) (f1_2.mono st.le)).mono fun v_2 h_4 ⟨eq, t⟩ => ⟨_, eq, ?_⟩
      replace st := join0 s r_2 t
      clear t s r_2
      refine bifP hp (fun hc hp => ?_) (fun hc hp => ?_)
      · refine ldV_K (st.cells 1 rfl) 3 rfl rfl ?_
        refine ldV_K (st.cells 0 rfl) 3 rfl rfl ?_
        obtain ⟨r29, hx_2, hp⟩ := obind hp
        obtain ⟨φ_2, L_2, s_2, r_3⟩ := id st
        refine (r_slices_Equal_string_string s_2.fle hx_2 (f0_3.mono st.le) (f1_3.mono st.le)).mono fun v_3 h_5 ⟨eq_2, t_2⟩ => ⟨_, eq_2, ?_⟩
        replace st := join0 s_2 r_3 t_2
        clear t_2 s_2 r_3
        obtain rfl := Option.some.inj hp
        exact ⟨rfl, st.pick [] (by decide)⟩
      · obtain rfl := Option.some.inj hp
        exact ⟨rfl, st.pick [] (by decide)⟩
    · obtain rfl := Option.some.inj hp
      exact ⟨rfl, st.pick [] (by decide)⟩
  · obtain rfl := Option.some.inj hp
    exact ⟨rfl, st.pick [] (by decide)⟩
theorem r_slices_EqualFunc_impl_Object_impl_Object_impl_Object_impl_Object {ψ : CM} {h : Heap} (hψ : CLe ψ (hcell h)) {s0 : List T_impl_Object} {v0 : Value} {s1 : List T_impl_Object} {v1 : Value} {fn2 : T_impl_Object → T_impl_Object → Option Bool} {g2 : Nat} {cap2 : List Value} {r : Bool} (hp : p_slices_EqualFunc_impl_Object_impl_Object_impl_Object_impl_Object s0 s1 fn2 = some r) (f0 : SlC (hcell h) ef_T_impl_Object v0 s0) (f1 : SlC (hcell h) ef_T_impl_Object v1 s1) (o2 : ctx.okf g2 = true) (k2 : ∀ {h1 : Heap}, ExtH h h1 → ∀ {ψ1 : CM}, CLe ψ1 (hcell h1) → ∀ {y0 : T_impl_Object} {u0_2 : Value} {y1 : T_impl_Object} {u1_2 : Value} {r1 : Bool}, fn2 y0 y1 = some r1 → SlC (hcell h1) (El.sl (El.int .i64)) u0_2 y0.Rows → SlC (hcell h1) (El.sl (El.int .i64)) u1_2 y1.Rows → CallsH P g2 (([.agg #[.int .i64 y0.Kind, .int .i64 y0.Size, u0_2], .agg #[.int .i64 y1.Kind, .int .i64 y1.Size, u1_2]] : List Value) ++ cap2).toArray h1 (fun v h' => v = .bool r1 ∧ S ψ1 h1 h' [])) : CallsH P id_slices_EqualFunc_impl_Object_impl_Object_impl_Object_impl_Object #[v0, v1, .func (.func g2) #[] cap2.toArray] h (fun v h' => v = .bool r ∧ S ψ h h' []) := by
  apply w_slices_EqualFunc_impl_Object_impl_Object_impl_Object_impl_Object
  unfold F_slices_EqualFunc_impl_Object_impl_Object_impl_Object_impl_Object
  rw [p_slices_EqualFunc_impl_Object_impl_Object_impl_Object_impl_Object] at hp
  have st : S ψ h h [] := S.start hψ
  refine vLen_C (f0.mono st.le) ?_
  refine vLen_C (f1.mono st.le) ?_
  refine bifP hp (fun hc hp => ?_) (fun hc hp => ?_)
  · obtain rfl := Option.some.inj hp
    exact ⟨rfl, st.pick [] (by decide)⟩
  · refine vLen_C (f0.mono st.le) ?_
    obtain ⟨n_2, hn⟩ := loop_n hp
    refine ⟨fun n y17 h_2 => S ψ h h_2 [] ∧ loopN (p_slices_EqualFunc_impl_Object_impl_Object_impl_Object_impl_Object_b1 s0 s1 fn2) n y17 = some r, ⟨n_2, st.pick [] (by decide), hn⟩, ?_⟩
    rintro n _ y17 h_2 ⟨st, hn⟩
    obtain ⟨m, a, rfl, hp, hs⟩ := loopN_step hn
    rw [p_slices_EqualFunc_impl_Object_impl_Object_impl_Object_impl_Object_b1] at hp
    refine bifP hp (fun hc hp => ?_) (fun hc hp => ?_)
    · obtain ⟨e20, hx, hp⟩ := obind hp
      refine vIdx_C (f0.mono st.le) hx fun p20 ad => ?_
      obtain ⟨cs, ck, hr⟩ := f0.cells ad hx rfl
      obtain ⟨v_2, rfl, f⟩ := un_T_impl_Object hr
      refine ldI_K (ck.mono st.le) 0 rfl rfl ?_
      refine ldI_K (ck.mono st.le) 1 rfl rfl ?_
      refine ldV_K (ck.mono st.le) 2 rfl rfl ?_
      refine new_S st fun b8 h_3 st => ?_
      refine st_box st 0 rfl rfl rfl rfl fun h_4 st => ?_
      dsimp only [List.set] at st
      refine st_box st 0 rfl rfl rfl rfl fun h_5 st => ?_
      dsimp only [List.set] at st
      refine st_box st 0 rfl rfl rfl (f.mono st.le).one fun h_6 st => ?_
      dsimp only [List.set] at st
      obtain ⟨e24, hx_2, hp⟩ := obind hp
      refine vIdx_C (f1.mono st.le) hx_2 fun p24 ad_2 => ?_
      obtain ⟨cs_2, ck_2, hr_2⟩ := f1.cells ad_2 hx_2 rfl
      obtain ⟨v_3, rfl, f_2⟩ := un_T_impl_Object hr_2
      refine ldI_K (ck_2.mono st.le) 0 rfl rfl ?_
      refine ldI_K (ck_2.mono st.le) 1 rfl rfl ?_
      refine ldV_K (ck_2.mono st.le) 2 rfl rfl ?_
      refine new_S st fun b9 h_7 st => ?_
      refine st_box st 0 rfl rfl rfl rfl fun h_8 st => ?_
      dsimp only [List.set] at st
      refine st_box st 0 rfl rfl rfl rfl fun h_9 st => ?_
      dsimp only [List.set] at st
      refine st_box st 0 rfl rfl rfl (f_2.mono st.le).one fun h_10 st => ?_
      dsimp only [List.set] at st
      refine ldI_K (st.cells 1 rfl) 0 rfl rfl ?_
      refine ldI_K (st.cells 1 rfl) 1 rfl rfl ?_
      refine ldV_K (st.cells 1 rfl) 2 rfl rfl ?_
      refine ldI_K (st.cells 0 rfl) 0 rfl rfl ?_
      refine ldI_K (st.cells 0 rfl) 1 rfl rfl ?_
      refine ldV_K (st.cells 0 rfl) 2 rfl rfl ?_
      obtain ⟨r29, hx_3, hp⟩ := obind hp
      obtain ⟨φ, L, s, r_2⟩ := id st
      refine vOkf_of o2 ?_
      refine (k2 st.ext s.fle hx_3 (f.mono st.le) (f_2.mono st.le)).mono fun v_4 h_11 ⟨eq, t⟩ => ⟨_, eq, ?_⟩
      replace st := join0 s r_2 t
      clear t s r_2
      refine bifP hp (fun hc hp => ?_) (fun hc hp => ?_)
      · obtain rfl := Option.some.inj hp
        obtain rfl := Option.some.inj hs
        exact ⟨rfl, st.pick [] (by decide)⟩
      · obtain rfl := Option.some.inj hp
        exact ⟨m, Nat.lt_succ_self _, st.pick [] (by decide), hs⟩
    · obtain rfl := Option.some.inj hp
      obtain rfl := Option.some.inj hs
      exact ⟨rfl, st.pick [] (by decide)⟩
theorem r_slices_EqualFunc_int64_int64_int64_int64 {ψ : CM} {h : Heap} (hψ : CLe ψ (hcell h)) {s0 : List (List Int)} {v0 : Value} {s1 : List (List Int)} {v1 : Value} {fn2 : (List Int) → (List Int) → Option Bool} {g2 : Nat} {cap2 : List Value} {r : Bool} (hp : p_slices_EqualFunc_int64_int64_int64_int64 s0 s1 fn2 = some r) (f0 : SlC (hcell h) (El.sl (El.int .i64)) v0 s0) (f1 : SlC (hcell h) (El.sl (El.int .i64)) v1 s1) (o2 : ctx.okf g2 = true) (k2 : ∀ {h1 : Heap}, ExtH h h1 → ∀ {ψ1 : CM}, CLe ψ1 (hcell h1) → ∀ {y0 : List Int} {u0_0 : Value} {y1 : List Int} {u1_0 : Value} {r1 : Bool}, fn2 y0 y1 = some r1 → SlC (hcell h1) (El.int .i64) u0_0 y0 → SlC (hcell h1) (El.int .i64) u1_0 y1 → CallsH P g2 (([u0_0, u1_0] : List Value) ++ cap2).toArray h1 (fun v h' => v = .bool r1 ∧ S ψ1 h1 h' [])) : CallsH P id_slices_EqualFunc_int64_int64_int64_int64 #[v0, v1, .func (.func g2) #[] cap2.toArray] h (fun v h' => v = .bool r ∧ S ψ h h' []) := by
  apply w_slices_EqualFunc_int64_int64_int64_int64
  unfold F_slices_EqualFunc_int64_int64_int64_int64
  rw [p_slices_EqualFunc_int64_int64_int64_int64] at hp
  have st : S ψ h h [] := S.start hψ
  refine vLen_C (f0.mono st.le) ?_
  refine vLen_C (f1.mono st.le) ?_
  refine bifP hp (fun hc hp => ?_) (fun hc hp => ?_)
  · obtain rfl := Option.some.inj hp
    exact ⟨rfl, st.pick [] (by decide)⟩
  · refine vLen_C (f0.mono st.le) ?_
    obtain ⟨n_2, hn⟩ := loop_n hp
    refine ⟨fun n y17 h_2 => S ψ h h_2 [] ∧ loopN (p_slices_EqualFunc_int64_int64_int64_int64_b1 s0 s1 fn2) n y17 = some r, ⟨n_2, st.pick [] (by decide), hn⟩, ?_⟩
    rintro n _ y17 h_2 ⟨st, hn⟩
    obtain ⟨m, a, rfl, hp, hs⟩ := loopN_step hn
    rw [p_slices_EqualFunc_int64_int64_int64_int64_b1] at hp
    refine bifP hp (fun hc hp => ?_) (fun hc hp => ?_)
    · obtain ⟨e20, hx, hp⟩ := obind hp
      refine vIdx_C (f0.mono st.le) hx fun p20 ad => ?_
      refine ldV_C f0 st.le ad hx fun u21 f => ?_
      obtain ⟨e24, hx_2, hp⟩ := obind hp
      refine vIdx_C (f1.mono st.le) hx_2 fun p24 ad_2 => ?_
      refine ldV_C f1 st.le ad_2 hx_2 fun u25 f_2 => ?_
      obtain ⟨r29, hx_3, hp⟩ := obind hp
      obtain ⟨φ, L, s, r_2⟩ := id st
      refine vOkf_of o2 ?_
      refine (k2 st.ext s.fle hx_3 (f.mono st.le) (f_2.mono st.le)).mono fun v_2 h_3 ⟨eq, t⟩ => ⟨_, eq, ?_⟩
      replace st := join0 s r_2 t
      clear t s r_2
      refine bifP hp (fun hc hp => ?_) (fun hc hp => ?_)
      · obtain rfl := Option.some.inj hp
        obtain rfl := Option.some.inj hs
        exact ⟨rfl, st.pick [] (by decide)⟩
      · obtain rfl := Option.some.inj hp
        exact ⟨m, Nat.lt_succ_self _, st.pick [] (by decide), hs⟩
    · obtain rfl := Option.some.inj hp
      obtain rfl := Option.some.inj hs
      exact ⟨rfl, st.pick [] (by decide)⟩
theorem r_impl_areSame {ψ : CM} {h : Heap} (hψ : CLe ψ (hcell h)) {a0 : List (List Int)} {v0 : Value} {b1 : List (List Int)} {v1 : Value} {r : Bool} (hp : p_impl_areSame a0 b1 = some r) (f0 : SlC (hcell h) (El.sl (El.int .i64)) v0 a0) (f1 : SlC (hcell h) (El.sl (El.int .i64)) v1 b1) : CallsH P id_impl_areSame #[v0, v1] h (fun v h' => v = .bool r ∧ S ψ h h' []) := by
  apply w_impl_areSame
  unfold F_impl_areSame
  rw [p_impl_areSame] at hp
  have st : S ψ h h [] := S.start hψ
  obtain ⟨r7, hx, hp⟩ := obind hp
  obtain ⟨φ, L, s, r_2⟩ := id st
  refine (r_slices_EqualFunc_int64_int64_int64_int64 s.fle hx (f0.mono st.le) (f1.mono st.le) (by kernel_rfl) (fun hx1 => fun hψ1 => fun hp1 ff0 ff1 => r_slices_Equal_int64_int64 hψ1 hp1 ff0 ff1)).mono fun v_2 h_2 ⟨eq, t⟩ => ⟨_, eq, ?_⟩
  replace st := join0 s r_2 t
  clear t s r_2
  obtain rfl := Option.some.inj hp
  exact ⟨rfl, st.pick [] (by decide)⟩
theorem r_impl_SameObject {ψ : CM} {h : Heap} (hψ : CLe ψ (hcell h)) {a0 : T_impl_Object} {v0_2 : Value} {b1 : T_impl_Object} {v1_2 : Value} {r : Bool} (hp : p_impl_SameObject a0 b1 = some r) (f0_2 : SlC (hcell h) (El.sl (El.int .i64)) v0_2 a0.Rows) (f1_2 : SlC (hcell h) (El.sl (El.int .i64)) v1_2 b1.Rows) : CallsH P id_impl_SameObject #[.agg #[.int .i64 a0.Kind, .int .i64 a0.Size, v0_2], .agg #[.int .i64 b1.Kind, .int .i64 b1.Size, v1_2]] h (fun v h' => v = .bool r ∧ S ψ h h' []) := by
  apply w_impl_SameObject
  unfold F_impl_SameObject
  rw [p_impl_SameObject] at hp
  have st : S ψ h h [] := S.start hψ
  refine new_S st fun b2 h_2 st => ?_
  refine new_S st fun b3 h_3 st => ?_
  refine ldI_K (st.cells 1 rfl) 0 rfl rfl ?_
  refine ldI_K (st.cells 0 rfl) 0 rfl rfl ?_
  refine bifP hp (fun hc hp => ?_) (fun hc hp => ?_)
  · refine ldI_K (st.cells 1 rfl) 1 rfl rfl ?_
    refine ldI_K (st.cells 0 rfl) 1 rfl rfl ?_
    refine bifP hp (fun hc hp => ?_) (fun hc hp => ?_)
    · refine ldV_K (st.cells 1 rfl) 2 rfl rfl ?_
      refine ldV_K (st.cells 0 rfl) 2 rfl rfl ?_
      obtain ⟨r22, hx, hp⟩ := obind hp
      obtain ⟨φ, L, s, r_2⟩ := id st
      refine (r_impl_areSame s.fle hx (f0_2.mono st.le) (f1_2.mono st.le)).mono fun v_2 h_4 ⟨eq, t⟩ => ⟨_, eq, ?_⟩
      replace st := join0 s r_2 t
      clear t s r_2
      obtain rfl := Option.some.inj hp
      exact ⟨rfl, st.pick [] (by decide)⟩
    · obtain rfl := Option.some.inj hp
      exact ⟨rfl, st.pick [] (by decide)⟩
  · obtain rfl := Option.some.inj hp
    exact ⟨rfl, st.pick [] (by decide)⟩
theorem r_impl_SameLab {ψ : CM} {h : Heap} (hψ : CLe ψ (hcell h)) {a0 : T_impl_Lab} {v0_0 : Value} {v0_1 : Value} {b1 : T_impl_Lab} {v1_0 : Value} {v1_1 : Value} {r : Bool} (hp : p_impl_SameLab a0 b1 = some r) (f0_0 : SlC (hcell h) ef_T_impl_Recipe v0_0 a0.Recipes) (f0_1 : SlC (hcell h) ef_T_impl_Object v0_1 a0.Objects) (f1_0 : SlC (hcell h) ef_T_impl_Recipe v1_0 b1.Recipes) (f1_1 : SlC (hcell h) ef_T_impl_Object v1_1 b1.Objects) : CallsH P id_impl_SameLab #[.agg #[v0_0, v0_1], .agg #[v1_0, v1_1]] h (fun v h' => v = .bool r ∧ S ψ h h' []) := by
  apply w_impl_SameLab
  unfold F_impl_SameLab
  rw [p_impl_SameLab] at hp
  have st : S ψ h h [] := S.start hψ
  refine new_S st fun b2 h_2 st => ?_
  refine new_S st fun b3 h_3 st => ?_
  refine ldV_K (st.cells 1 rfl) 0 rfl rfl ?_
  refine ldV_K (st.cells 0 rfl) 0 rfl rfl ?_
  obtain ⟨r9, hx, hp⟩ := obind hp
  obtain ⟨φ, L, s, r_2⟩ := id st
  refine (r_slices_EqualFunc_impl_Recipe_impl_Recipe_impl_Recipe_impl_Recipe s.fle hx (f0_0.mono st.le) (f1_0.mono st.le) (by kernel_rfl) (fun hx1 => fun hψ1 => fun hp1 ff0 ff1 ff2 ff3 => r_impl_sameRecipe hψ1 hp1 ff0 ff1 ff2 ff3)).mono fun v_2 h_4 ⟨eq, t⟩ => ⟨_, eq, ?_⟩
  replace st := join0 s r_2 t
  clear t s r_2
  refine bifP hp (fun hc hp => ?_) (fun hc hp => ?_)
  · refine ldV_K (st.cells 1 rfl) 1 rfl rfl ?_
    refine ldV_K (st.cells 0 rfl) 1 rfl rfl ?_
    obtain ⟨r15, hx_2, hp⟩ := obind hp
    obtain ⟨φ_2, L_2, s_2, r_3⟩ := id st
    refine (r_slices_EqualFunc_impl_Object_impl_Object_impl_Object_impl_Object s_2.fle hx_2 (f0_1.mono st.le) (f1_1.mono st.le) (by kernel_rfl) (fun hx1 => fun hψ1 => fun hp1 ff0 ff1 => r_impl_SameObject hψ1 hp1 ff0 ff1)).mono fun v_3 h_5 ⟨eq_2, t_2⟩ => ⟨_, eq_2, ?_⟩
    replace st := join0 s_2 r_3 t_2
    clear t_2 s_2 r_3
    obtain rfl := Option.some.inj hp
    exact ⟨rfl, st.pick [] (by decide)⟩
  · obtain rfl := Option.some.inj hp
    exact ⟨rfl, st.pick [] (by decide)⟩
theorem r_slices_EqualFunc_impl_Item_impl_Item_impl_Item_impl_Item {ψ : CM} {h : Heap} (hψ : CLe ψ (hcell h)) {s0 : List T_impl_Item} {v0 : Value} {s1 : List T_impl_Item} {v1 : Value} {fn2 : T_impl_Item → T_impl_Item → Option Bool} {g2 : Nat} {cap2 : List Value} {r : Bool} (hp : p_slices_EqualFunc_impl_Item_impl_Item_impl_Item_impl_Item s0 s1 fn2 = some r) (f0 : SlC (hcell h) ef_T_impl_Item v0 s0) (f1 : SlC (hcell h) ef_T_impl_Item v1 s1) (o2 : ctx.okf g2 = true) (k2 : ∀ {h1 : Heap}, ExtH h h1 → ∀ {ψ1 : CM}, CLe ψ1 (hcell h1) → ∀ {y0 : T_impl_Item} {u0_3 : Value} {y1 : T_impl_Item} {u1_3 : Value} {r1 : Bool}, fn2 y0 y1 = some r1 → SlC (hcell h1) (El.sl (El.int .i64)) u0_3 y0.Object.Rows → SlC (hcell h1) (El.sl (El.int .i64)) u1_3 y1.Object.Rows → CallsH P g2 (([.agg #[.string y0.Name, .int .i64 y0.Object.Kind, .int .i64 y0.Object.Size, u0_3, .string y0.Key], .agg #[.string y1.Name, .int .i64 y1.Object.Kind, .int .i64 y1.Object.Size, u1_3, .string y1.Key]] : List Value) ++ cap2).toArray h1 (fun v h' => v = .bool r1 ∧ S ψ1 h1 h' [])) : CallsH P id_slices_EqualFunc_impl_Item_impl_Item_impl_Item_impl_Item #[v0, v1, .func (.func g2) #[] cap2.toArray] h (fun v h' => v = .bool r ∧ S ψ h h' []) := by
  apply w_slices_EqualFunc_impl_Item_impl_Item_impl_Item_impl_Item
  unfold F_slices_EqualFunc_impl_Item_impl_Item_impl_Item_impl_Item
  rw [p_slices_EqualFunc_impl_Item_impl_Item_impl_Item_impl_Item] at hp
  have st : S ψ h h [] := S.start hψ
  refine vLen_C (f0.mono st.le) ?_
  refine vLen_C (f1.mono st.le) ?_
  refine bifP hp (fun hc hp => ?_) (fun hc hp => ?_)
  · obtain rfl := Option.some.inj hp
    exact ⟨rfl, st.pick [] (by decide)⟩
  · refine vLen_C (f0.mono st.le) ?_
    obtain ⟨n_2, hn⟩ := loop_n hp
    refine ⟨fun n y17 h_2 => S ψ h h_2 [] ∧ loopN (p_slices_EqualFunc_impl_Item_impl_Item_impl_Item_impl_Item_b1 s0 s1 fn2) n y17 = some r, ⟨n_2, st.pick [] (by decide), hn⟩, ?_⟩
    rintro n _ y17 h_2 ⟨st, hn⟩
    obtain ⟨m, a, rfl, hp, hs⟩ := loopN_step hn
    rw [p_slices_EqualFunc_impl_Item_impl_Item_impl_Item_impl_Item_b1] at hp
    refine bifP hp (fun hc hp => ?_) (fun hc hp => ?_)
    · obtain ⟨e20, hx, hp⟩ := obind hp
      refine vIdx_C (f0.mono st.le) hx fun p20 ad => ?_
      obtain ⟨cs, ck, hr⟩ := f0.cells ad hx rfl
      obtain ⟨v_2, rfl, f⟩ := un_T_impl_Item hr
      refine ldS_K (ck.mono st.le) 0 rfl rfl ?_
      refine ldI_K (ck.mono st.le) 1 rfl rfl ?_
      refine ldI_K (ck.mono st.le) 2 rfl rfl ?_
      refine ldV_K (ck.mono st.le) 3 rfl rfl ?_
      refine ldS_K (ck.mono st.le) 4 rfl rfl ?_
      refine new_S st fun b8 h_3 st => ?_
      refine st_box st 0 rfl rfl rfl rfl fun h_4 st => ?_
      dsimp only [List.set] at st
      refine st_box st 0 rfl rfl rfl rfl fun h_5 st => ?_
      dsimp only [List.set] at st
      refine st_box st 0 rfl rfl rfl rfl fun h_6 st => ?_
      dsimp only [List.set] at st
      refine st_box st 0 rfl rfl rfl (f.mono st.le).one fun h_7 st => ?_
      dsimp only [List.set] at st
      refine st_box st 0 rfl rfl rfl rfl fun h_8 st => ?_
      dsimp only [List.set] at st
      obtain ⟨e24, hx_2, hp⟩ := obind hp
      refine vIdx_C (f1.mono st.le) hx_2 fun p24 ad_2 => ?_
      obtain ⟨cs_2, ck_2, hr_2⟩ := f1.cells ad_2 hx_2 rfl
      obtain ⟨v_3, rfl, f_2⟩ := un_T_impl_Item hr_2
      refine ldS_K (ck_2.mono st.le) 0 rfl rfl ?_
      refine ldI_K (ck_2.mono st.le) 1 rfl rfl ?_
      refine ldI_K (ck_2.mono st.le) 2 rfl rfl ?_
      refine ldV_K (ck_2.mono st.le) 3 rfl rfl ?_
      refine ldS_K (ck_2.mono st.le) 4 rfl rfl ?_
      refine new_S st fun b9 h_9 st => ?_
      refine st_box st 0 rfl rfl rfl rfl fun h_10 st => ?_
      dsimp only [List.set] at st
      refine st_box st 0 rfl rfl rfl rfl fun h_11 st => ?_
      dsimp only [List.set] at st
      refine st_box st 0 rfl rfl rfl rfl fun h_12 st => ?_
      dsimp only [List.set] at st
      refine st_box st 0 rfl rfl rfl (f_2.mono st.le).one fun h_13 st => ?_
      dsimp only [List.set] at st
      refine st_box st 0 rfl rfl rfl rfl fun h_14 st => ?_
      dsimp only [List.set] at st
      refine ldS_K (st.cells 1 rfl) 0 rfl rfl ?_
      refine ldI_K (st.cells 1 rfl) 1 rfl rfl ?_
      refine ldI_K (st.cells 1 rfl) 2 rfl rfl ?_
      refine ldV_K (st.cells 1 rfl) 3 rfl rfl ?_
      refine ldS_K (st.cells 1 rfl) 4 rfl rfl ?_
      refine ldS_K (st.cells 0 rfl) 0 rfl rfl ?_
      refine ldI_K (st.cells 0 rfl) 1 rfl rfl ?_
      refine ldI_K (st.cells 0 rfl) 2 rfl rfl ?_
      refine ldV_K (st.cells 0 rfl) 3 rfl rfl ?_
      refine ldS_K (st.cells 0 rfl) 4 rfl rfl ?_
      obtain ⟨r29, hx_3, hp⟩ := obind hp
      obtain ⟨φ, L, s, r_2⟩ := id st
      refine vOkf_of o2 ?_
      refine (k2 st.ext s.fle hx_3 (f.mono st.le) (f_2.mono st.le)).mono fun v_4 h_15 ⟨eq, t⟩ => ⟨_, eq, ?_⟩
      replace st := join0 s r_2 t
      clear t s r_2
      refine bifP hp (fun hc hp => ?_) (fun hc hp => ?_)
      · obtain rfl := Option.some.inj hp
        obtain rfl := Option.some.inj hs
        exact ⟨rfl, st.pick [] (by decide)⟩
      · obtain rfl := Option.some.inj hp
        exact ⟨m, Nat.lt_succ_self _, st.pick [] (by decide), hs⟩
    · obtain rfl := Option.some.inj hp
      obtain rfl := Option.some.inj hs
      exact ⟨rfl, st.pick [] (by decide)⟩
theorem r_impl_SameCatalog_1 {ψ : CM} {h : Heap} (hψ : CLe ψ (hcell h)) {x0 : T_impl_Item} {v0_3 : Value} {y1 : T_impl_Item} {v1_3 : Value} {r : Bool} (hp : p_impl_SameCatalog_1 x0 y1 = some r) (f0_3 : SlC (hcell h) (El.sl (El.int .i64)) v0_3 x0.Object.Rows) (f1_3 : SlC (hcell h) (El.sl (El.int .i64)) v1_3 y1.Object.Rows) : CallsH P id_impl_SameCatalog_1 #[.agg #[.string x0.Name, .int .i64 x0.Object.Kind, .int .i64 x0.Object.Size, v0_3, .string x0.Key], .agg #[.string y1.Name, .int .i64 y1.Object.Kind, .int .i64 y1.Object.Size, v1_3, .string y1.Key]] h (fun v h' => v = .bool r ∧ S ψ h h' []) := by
  apply w_impl_SameCatalog_1
  unfold F_impl_SameCatalog_1
  rw [p_impl_SameCatalog_1] at hp
  have st : S ψ h h [] := S.start hψ
  refine new_S st fun b2 h_2 st => ?_
  refine new_S st fun b3 h_3 st => ?_
  refine ldS_K (st.cells 1 rfl) 0 rfl rfl ?_
  refine ldS_K (st.cells 0 rfl) 0 rfl rfl ?_
  refine bifP hp (fun hc hp => ?_) (fun hc hp => ?_)
  · refine ldS_K (st.cells 1 rfl) 4 rfl rfl ?_
    refine ldS_K (st.cells 0 rfl) 4 rfl rfl ?_
    refine bifP hp (fun hc hp => ?_) (fun hc hp => ?_)
    · refine ldI_K (st.cells 1 rfl) 1 rfl rfl ?_
      refine ldI_K (st.cells 1 rfl) 2 rfl rfl ?_
      refine ldV_K (st.cells 1 rfl) 3 rfl rfl ?_
      refine ldI_K (st.cells 0 rfl) 1 rfl rfl ?_
      refine ldI_K (st.cells 0 rfl) 2 rfl rfl ?_
      refine ldV_K (st.cells 0 rfl) 3 rfl rfl ?_
      obtain ⟨r22, hx, hp⟩ := obind hp
      obtain ⟨φ, L, s, r_2⟩ := id st
      refine (r_impl_SameObject s.fle hx (f0_3.mono st.le) (f1_3.mono st.le)).mono fun v_2 h_4 ⟨eq, t⟩ => ⟨_, eq, ?_⟩
      replace st := join0 s r_2 t
      clear t s r_2
      obtain rfl := Option.some.inj hp
      exact ⟨rfl, st.pick [] (by decide)⟩
    · obtain rfl := Option.some.inj hp
      exact ⟨rfl, st.pick [] (by decide)⟩
  · obtain rfl := Option.some.inj hp
    exact ⟨rfl, st.pick [] (by decide)⟩
theorem r_impl_SameCatalog {ψ : CM} {h : Heap} (hψ : CLe ψ (hcell h)) {a0 : T_impl_Catalog} {v0_0 : Value} {b1 : T_impl_Catalog} {v1_0 : Value} {r : Bool} (hp : p_impl_SameCatalog a0 b1 = some r) (f0_0 : SlC (hcell h) ef_T_impl_Item v0_0 a0.Items) (f1_0 : SlC (hcell h) ef_T_impl_Item v1_0 b1.Items) : CallsH P id_impl_SameCatalog #[.agg #[v0_0], .agg #[v1_0]] h (fun v h' => v = .bool r ∧ S ψ h h' []) := by
  apply w_impl_SameCatalog
  unfold F_impl_SameCatalog
  rw [p_impl_SameCatalog] at hp
  have st : S ψ h h [] := S.start hψ
  refine new_S st fun b2 h_2 st => ?_
  refine new_S st fun b3 h_3 st => ?_
  refine ldV_K (st.cells 1 rfl) 0 rfl rfl ?_
  refine ldV_K (st.cells 0 rfl) 0 rfl rfl ?_
  obtain ⟨r9, hx, hp⟩ := obind hp
  obtain ⟨φ, L, s, r_2⟩ := id st
  refine (r_slices_EqualFunc_impl_Item_impl_Item_impl_Item_impl_Item s.fle hx (f0_0.mono st.le) (f1_0.mono st.le) (by kernel_rfl) (fun hx1 => fun hψ1 => fun hp1 ff0 ff1 => r_impl_SameCatalog_1 hψ1 hp1 ff0 ff1)).mono fun v_2 h_4 ⟨eq, t⟩ => ⟨_, eq, ?_⟩
  replace st := join0 s r_2 t
  clear t s r_2
  obtain rfl := Option.some.inj hp
  exact ⟨rfl, st.pick [] (by decide)⟩
theorem r_impl_SameDesk {ψ : CM} {h : Heap} (hψ : CLe ψ (hcell h)) {a0 : T_impl_Desk} {v0_0 : Value} {v0_1 : Value} {v0_2 : Value} {b1 : T_impl_Desk} {v1_0 : Value} {v1_1 : Value} {v1_2 : Value} {r : Bool} (hp : p_impl_SameDesk a0 b1 = some r) (f0_0 : SlC (hcell h) ef_T_impl_Recipe v0_0 a0.Lab.Recipes) (f0_1 : SlC (hcell h) ef_T_impl_Object v0_1 a0.Lab.Objects) (f0_2 : SlC (hcell h) ef_T_impl_Item v0_2 a0.Catalog.Items) (f1_0 : SlC (hcell h) ef_T_impl_Recipe v1_0 b1.Lab.Recipes) (f1_1 : SlC (hcell h) ef_T_impl_Object v1_1 b1.Lab.Objects) (f1_2 : SlC (hcell h) ef_T_impl_Item v1_2 b1.Catalog.Items) : CallsH P id_impl_SameDesk #[.agg #[v0_0, v0_1, v0_2], .agg #[v1_0, v1_1, v1_2]] h (fun v h' => v = .bool r ∧ S ψ h h' []) := by
  apply w_impl_SameDesk
  unfold F_impl_SameDesk
  rw [p_impl_SameDesk] at hp
  have st : S ψ h h [] := S.start hψ
  refine new_S st fun b2 h_2 st => ?_
  refine new_S st fun b3 h_3 st => ?_
  refine ldV_K (st.cells 1 rfl) 0 rfl rfl ?_
  refine ldV_K (st.cells 1 rfl) 1 rfl rfl ?_
  refine ldV_K (st.cells 0 rfl) 0 rfl rfl ?_
  refine ldV_K (st.cells 0 rfl) 1 rfl rfl ?_
  obtain ⟨r9, hx, hp⟩ := obind hp
  obtain ⟨φ, L, s, r_2⟩ := id st
  refine (r_impl_SameLab s.fle hx (f0_0.mono st.le) (f0_1.mono st.le) (f1_0.mono st.le) (f1_1.mono st.le)).mono fun v_2 h_4 ⟨eq, t⟩ => ⟨_, eq, ?_⟩
  replace st := join0 s r_2 t
  clear t s r_2
  refine bifP hp (fun hc hp => ?_) (fun hc hp => ?_)
  · refine ldV_K (st.cells 1 rfl) 2 rfl rfl ?_
    refine ldV_K (st.cells 0 rfl) 2 rfl rfl ?_
    obtain ⟨r15, hx_2, hp⟩ := obind hp
    obtain ⟨φ_2, L_2, s_2, r_3⟩ := id st
    refine (r_impl_SameCatalog s_2.fle hx_2 (f0_2.mono st.le) (f1_2.mono st.le)).mono fun v_3 h_5 ⟨eq_2, t_2⟩ => ⟨_, eq_2, ?_⟩
    replace st := join0 s_2 r_3 t_2
    clear t_2 s_2 r_3
    obtain rfl := Option.some.inj hp
    exact ⟨rfl, st.pick [] (by decide)⟩
  · obtain rfl := Option.some.inj hp
    exact ⟨rfl, st.pick [] (by decide)⟩
theorem r_laws_eqInt64S {ψ : CM} {h : Heap} (hψ : CLe ψ (hcell h)) {a0 : List Int} {v0 : Value} {b1 : List Int} {v1 : Value} {r : Bool} (hp : p_laws_eqInt64S a0 b1 = some r) (f0 : SlC (hcell h) (El.int .i64) v0 a0) (f1 : SlC (hcell h) (El.int .i64) v1 b1) : CallsH P id_laws_eqInt64S #[v0, v1] h (fun v h' => v = .bool r ∧ S ψ h h' []) := by
  apply w_laws_eqInt64S
  unfold F_laws_eqInt64S
  rw [p_laws_eqInt64S] at hp
  have st : S ψ h h [] := S.start hψ
  refine vLen_C (f0.mono st.le) ?_
  refine vLen_C (f1.mono st.le) ?_
  refine bifP hp (fun hc hp => ?_) (fun hc hp => ?_)
  · obtain rfl := Option.some.inj hp
    exact ⟨rfl, st.pick [] (by decide)⟩
  · obtain ⟨n_2, hn⟩ := loop_n hp
    refine ⟨fun n i5 h_2 => S ψ h h_2 [] ∧ loopN (p_laws_eqInt64S_b1 a0 b1) n i5 = some r, ⟨n_2, st.pick [] (by decide), hn⟩, ?_⟩
    rintro n _ i5 h_2 ⟨st, hn⟩
    obtain ⟨m, a, rfl, hp, hs⟩ := loopN_step hn
    rw [p_laws_eqInt64S_b1] at hp
    refine vLen_C (f0.mono st.le) ?_
    refine bifP hp (fun hc hp => ?_) (fun hc hp => ?_)
    · obtain ⟨e19, hx, hp⟩ := obind hp
      refine vIdx_C (f0.mono st.le) hx fun p19 ad => ?_
      refine ldI_C (f0.mono st.le) ad hx ?_
      obtain ⟨e23, hx_2, hp⟩ := obind hp
      refine vIdx_C (f1.mono st.le) hx_2 fun p23 ad_2 => ?_
      refine ldI_C (f1.mono st.le) ad_2 hx_2 ?_
      refine bifP hp (fun hc hp => ?_) (fun hc hp => ?_)
      · obtain rfl := Option.some.inj hp
        obtain rfl := Option.some.inj hs
        exact ⟨rfl, st.pick [] (by decide)⟩
      · obtain rfl := Option.some.inj hp
        exact ⟨m, Nat.lt_succ_self _, st.pick [] (by decide), hs⟩
    · obtain rfl := Option.some.inj hp
      obtain rfl := Option.some.inj hs
      exact ⟨rfl, st.pick [] (by decide)⟩
theorem r_laws_eqStringS {ψ : CM} {h : Heap} (hψ : CLe ψ (hcell h)) {a0 : List ByteArray} {v0 : Value} {b1 : List ByteArray} {v1 : Value} {r : Bool} (hp : p_laws_eqStringS a0 b1 = some r) (f0 : SlC (hcell h) El.str v0 a0) (f1 : SlC (hcell h) El.str v1 b1) : CallsH P id_laws_eqStringS #[v0, v1] h (fun v h' => v = .bool r ∧ S ψ h h' []) := by
  apply w_laws_eqStringS
  unfold F_laws_eqStringS
  rw [p_laws_eqStringS] at hp
  have st : S ψ h h [] := S.start hψ
  refine vLen_C (f0.mono st.le) ?_
  refine vLen_C (f1.mono st.le) ?_
  refine bifP hp (fun hc hp => ?_) (fun hc hp => ?_)
  · obtain rfl := Option.some.inj hp
    exact ⟨rfl, st.pick [] (by decide)⟩
  · obtain ⟨n_2, hn⟩ := loop_n hp
    refine ⟨fun n i5 h_2 => S ψ h h_2 [] ∧ loopN (p_laws_eqStringS_b1 a0 b1) n i5 = some r, ⟨n_2, st.pick [] (by decide), hn⟩, ?_⟩
    rintro n _ i5 h_2 ⟨st, hn⟩
    obtain ⟨m, a, rfl, hp, hs⟩ := loopN_step hn
    rw [p_laws_eqStringS_b1] at hp
    refine vLen_C (f0.mono st.le) ?_
    refine bifP hp (fun hc hp => ?_) (fun hc hp => ?_)
    · obtain ⟨e19, hx, hp⟩ := obind hp
      refine vIdx_C (f0.mono st.le) hx fun p19 ad => ?_
      refine ldS_C (f0.mono st.le) ad hx ?_
      obtain ⟨e23, hx_2, hp⟩ := obind hp
      refine vIdx_C (f1.mono st.le) hx_2 fun p23 ad_2 => ?_
      refine ldS_C (f1.mono st.le) ad_2 hx_2 ?_
      refine bifP hp (fun hc hp => ?_) (fun hc hp => ?_)
      · obtain rfl := Option.some.inj hp
        obtain rfl := Option.some.inj hs
        exact ⟨rfl, st.pick [] (by decide)⟩
      · obtain rfl := Option.some.inj hp
        exact ⟨m, Nat.lt_succ_self _, st.pick [] (by decide), hs⟩
    · obtain rfl := Option.some.inj hp
      obtain rfl := Option.some.inj hs
      exact ⟨rfl, st.pick [] (by decide)⟩
theorem r_laws_eqRecipe {ψ : CM} {h : Heap} (hψ : CLe ψ (hcell h)) {a0 : T_impl_Recipe} {v0_2 : Value} {v0_3 : Value} {b1 : T_impl_Recipe} {v1_2 : Value} {v1_3 : Value} {r : Bool} (hp : p_laws_eqRecipe a0 b1 = some r) (f0_2 : SlC (hcell h) (El.int .i64) v0_2 a0.Args) (f0_3 : SlC (hcell h) El.str v0_3 a0.Uses) (f1_2 : SlC (hcell h) (El.int .i64) v1_2 b1.Args) (f1_3 : SlC (hcell h) El.str v1_3 b1.Uses) : CallsH P id_laws_eqRecipe #[.agg #[.string a0.Name, .string a0.Verb, v0_2, v0_3], .agg #[.string b1.Name, .string b1.Verb, v1_2, v1_3]] h (fun v h' => v = .bool r ∧ S ψ h h' []) := by
  apply w_laws_eqRecipe
  unfold F_laws_eqRecipe
  rw [p_laws_eqRecipe] at hp
  have st : S ψ h h [] := S.start hψ
  refine new_S st fun b2 h_2 st => ?_
  refine new_S st fun b3 h_3 st => ?_
  refine ldS_K (st.cells 1 rfl) 0 rfl rfl ?_
  refine ldS_K (st.cells 0 rfl) 0 rfl rfl ?_
  refine bifP hp (fun hc hp => ?_) (fun hc hp => ?_)
  · obtain rfl := Option.some.inj hp
    exact ⟨rfl, st.pick [] (by decide)⟩
  · refine ldS_K (st.cells 1 rfl) 1 rfl rfl ?_
    refine ldS_K (st.cells 0 rfl) 1 rfl rfl ?_
    refine bifP hp (fun hc hp => ?_) (fun hc hp => ?_)
    · obtain rfl := Option.some.inj hp
      exact ⟨rfl, st.pick [] (by decide)⟩
    · refine ldV_K (st.cells 1 rfl) 2 rfl rfl ?_
      refine ldV_K (st.cells 0 rfl) 2 rfl rfl ?_
      obtain ⟨r19, hx, hp⟩ := obind hp
      obtain ⟨φ, L, s, r_2⟩ := id st
      refine (r_laws_eqInt64S s.fle hx (f0_2.mono st.le) (f1_2.mono st.le)).mono fun v_2 h_4 ⟨eq, t⟩ => ⟨_, eq, ?_⟩
      replace st := join0 s r_2 t
      clear t s r_2
      refine bifP hp (fun hc hp => ?_) (fun hc hp => ?_)
      · obtain rfl := Option.some.inj hp
        exact ⟨rfl, st.pick [] (by decide)⟩
      · refine ldV_K (st.cells 1 rfl) 3 rfl rfl ?_
        refine ldV_K (st.cells 0 rfl) 3 rfl rfl ?_
        obtain ⟨r25, hx_2, hp⟩ := obind hp
        obtain ⟨φ_2, L_2, s_2, r_3⟩ := id st
        refine (r_laws_eqStringS s_2.fle hx_2 (f0_3.mono st.le) (f1_3.mono st.le)).mono fun v_3 h_5 ⟨eq_2, t_2⟩ => ⟨_, eq_2, ?_⟩
        replace st := join0 s_2 r_3 t_2
        clear t_2 s_2 r_3
        refine bifP hp (fun hc hp => ?_) (fun hc hp => ?_)
        · obtain rfl := Option.some.inj hp
          exact ⟨rfl, st.pick [] (by decide)⟩
        · obtain rfl := Option.some.inj hp
          exact ⟨rfl, st.pick [] (by decide)⟩
theorem r_laws_eqRecipeS {ψ : CM} {h : Heap} (hψ : CLe ψ (hcell h)) {a0 : List T_impl_Recipe} {v0 : Value} {b1 : List T_impl_Recipe} {v1 : Value} {r : Bool} (hp : p_laws_eqRecipeS a0 b1 = some r) (f0 : SlC (hcell h) ef_T_impl_Recipe v0 a0) (f1 : SlC (hcell h) ef_T_impl_Recipe v1 b1) : CallsH P id_laws_eqRecipeS #[v0, v1] h (fun v h' => v = .bool r ∧ S ψ h h' []) := by
  apply w_laws_eqRecipeS
  unfold F_laws_eqRecipeS
  rw [p_laws_eqRecipeS] at hp
  have st : S ψ h h [] := S.start hψ
  refine vLen_C (f0.mono st.le) ?_
  refine vLen_C (f1.mono st.le) ?_
  refine bifP hp (fun hc hp => ?_) (fun hc hp => ?_)
  · obtain rfl := Option.some.inj hp
    exact ⟨rfl, st.pick [] (by decide)⟩
  · obtain ⟨n_2, hn⟩ := loop_n hp
    refine ⟨fun n i5 h_2 => S ψ h h_2 [] ∧ loopN (p_laws_eqRecipeS_b1 a0 b1) n i5 = some r, ⟨n_2, st.pick [] (by decide), hn⟩, ?_⟩
    rintro n _ i5 h_2 ⟨st, hn⟩
    obtain ⟨m, a, rfl, hp, hs⟩ := loopN_step hn
    rw [p_laws_eqRecipeS_b1] at hp
    refine vLen_C (f0.mono st.le) ?_
    refine bifP hp (fun hc hp => ?_) (fun hc hp => ?_)
    · obtain ⟨e19, hx, hp⟩ := obind hp
      refine vIdx_C (f0.mono st.le) hx fun p19 ad => ?_
      obtain ⟨cs, ck, hr⟩ := f0.cells ad hx rfl
      obtain ⟨v_2, v_3, rfl, f, f_2⟩ := un_T_impl_Recipe hr
      refine ldS_K (ck.mono st.le) 0 rfl rfl ?_
      refine ldS_K (ck.mono st.le) 1 rfl rfl ?_
      refine ldV_K (ck.mono st.le) 2 rfl rfl ?_
      refine ldV_K (ck.mono st.le) 3 rfl rfl ?_
      obtain ⟨e23, hx_2, hp⟩ := obind hp
      refine vIdx_C (f1.mono st.le) hx_2 fun p23 ad_2 => ?_
      obtain ⟨cs_2, ck_2, hr_2⟩ := f1.cells ad_2 hx_2 rfl
      obtain ⟨v_4, v_5, rfl, f_3, f_4⟩ := un_T_impl_Recipe hr_2
      refine ldS_K (ck_2.mono st.le) 0 rfl rfl ?_
      refine ldS_K (ck_2.mono st.le) 1 rfl rfl ?_
      refine ldV_K (ck_2.mono st.le) 2 rfl rfl ?_
      refine ldV_K (ck_2.mono st.le) 3 rfl rfl ?_
      obtain ⟨r25, hx_3, hp⟩ := obind hp
      obtain ⟨φ, L, s, r_2⟩ := id st
      refine (r_laws_eqRecipe s.fle hx_3 (f.mono st.le) (f_2.mono st.le) (f_3.mono st.le) (f_4.mono st.le)).mono fun v_6 h_3 ⟨eq, t⟩ => ⟨_, eq, ?_⟩
      replace st := join0 s r_2 t
      clear t s r_2
      refine bifP hp (fun hc hp => ?_) (fun hc hp => ?_)
      · obtain rfl := Option.some.inj hp
        obtain rfl := Option.some.inj hs
        exact ⟨rfl, st.pick [] (by decide)⟩
      · obtain rfl := Option.some.inj hp
        exact ⟨m, Nat.lt_succ_self _, st.pick [] (by decide), hs⟩
    · obtain rfl := Option.some.inj hp
      obtain rfl := Option.some.inj hs
      exact ⟨rfl, st.pick [] (by decide)⟩
theorem r_laws_eqInt64SS {ψ : CM} {h : Heap} (hψ : CLe ψ (hcell h)) {a0 : List (List Int)} {v0 : Value} {b1 : List (List Int)} {v1 : Value} {r : Bool} (hp : p_laws_eqInt64SS a0 b1 = some r) (f0 : SlC (hcell h) (El.sl (El.int .i64)) v0 a0) (f1 : SlC (hcell h) (El.sl (El.int .i64)) v1 b1) : CallsH P id_laws_eqInt64SS #[v0, v1] h (fun v h' => v = .bool r ∧ S ψ h h' []) := by
  apply w_laws_eqInt64SS
  unfold F_laws_eqInt64SS
  rw [p_laws_eqInt64SS] at hp
  have st : S ψ h h [] := S.start hψ
  refine vLen_C (f0.mono st.le) ?_
  refine vLen_C (f1.mono st.le) ?_
  refine bifP hp (fun hc hp => ?_) (fun hc hp => ?_)
  · obtain rfl := Option.some.inj hp
    exact ⟨rfl, st.pick [] (by decide)⟩
  · obtain ⟨n_2, hn⟩ := loop_n hp
    refine ⟨fun n i5 h_2 => S ψ h h_2 [] ∧ loopN (p_laws_eqInt64SS_b1 a0 b1) n i5 = some r, ⟨n_2, st.pick [] (by decide), hn⟩, ?_⟩
    rintro n _ i5 h_2 ⟨st, hn⟩
    obtain ⟨m, a, rfl, hp, hs⟩ := loopN_step hn
    rw [p_laws_eqInt64SS_b1] at hp
    refine vLen_C (f0.mono st.le) ?_
    refine bifP hp (fun hc hp => ?_) (fun hc hp => ?_)
    · obtain ⟨e19, hx, hp⟩ := obind hp
      refine vIdx_C (f0.mono st.le) hx fun p19 ad => ?_
      refine ldV_C f0 st.le ad hx fun u20 f => ?_
      obtain ⟨e23, hx_2, hp⟩ := obind hp
      refine vIdx_C (f1.mono st.le) hx_2 fun p23 ad_2 => ?_
      refine ldV_C f1 st.le ad_2 hx_2 fun u24 f_2 => ?_
      obtain ⟨r25, hx_3, hp⟩ := obind hp
      obtain ⟨φ, L, s, r_2⟩ := id st
      refine (r_laws_eqInt64S s.fle hx_3 (f.mono st.le) (f_2.mono st.le)).mono fun v_2 h_3 ⟨eq, t⟩ => ⟨_, eq, ?_⟩
      replace st := join0 s r_2 t
      clear t s r_2
      refine bifP hp (fun hc hp => ?_) (fun hc hp => ?_)
      · obtain rfl := Option.some.inj hp
        obtain rfl := Option.some.inj hs
        exact ⟨rfl, st.pick [] (by decide)⟩
      · obtain rfl := Option.some.inj hp
        exact ⟨m, Nat.lt_succ_self _, st.pick [] (by decide), hs⟩
    · obtain rfl := Option.some.inj hp
      obtain rfl := Option.some.inj hs
      exact ⟨rfl, st.pick [] (by decide)⟩
theorem r_laws_eqObject {ψ : CM} {h : Heap} (hψ : CLe ψ (hcell h)) {a0 : T_impl_Object} {v0_2 : Value} {b1 : T_impl_Object} {v1_2 : Value} {r : Bool} (hp : p_laws_eqObject a0 b1 = some r) (f0_2 : SlC (hcell h) (El.sl (El.int .i64)) v0_2 a0.Rows) (f1_2 : SlC (hcell h) (El.sl (El.int .i64)) v1_2 b1.Rows) : CallsH P id_laws_eqObject #[.agg #[.int .i64 a0.Kind, .int .i64 a0.Size, v0_2], .agg #[.int .i64 b1.Kind, .int .i64 b1.Size, v1_2]] h (fun v h' => v = .bool r ∧ S ψ h h' []) := by
  apply w_laws_eqObject
  unfold F_laws_eqObject
  rw [p_laws_eqObject] at hp
  have st : S ψ h h [] := S.start hψ
  refine new_S st fun b2 h_2 st => ?_
  refine new_S st fun b3 h_3 st => ?_
  refine ldI_K (st.cells 1 rfl) 0 rfl rfl ?_
  refine ldI_K (st.cells 0 rfl) 0 rfl rfl ?_
  refine bifP hp (fun hc hp => ?_) (fun hc hp => ?_)
  · obtain rfl := Option.some.inj hp
    exact ⟨rfl, st.pick [] (by decide)⟩
  · refine ldI_K (st.cells 1 rfl) 1 rfl rfl ?_
    refine ldI_K (st.cells 0 rfl) 1 rfl rfl ?_
    refine bifP hp (fun hc hp => ?_) (fun hc hp => ?_)
    · obtain rfl := Option.some.inj hp
      exact ⟨rfl, st.pick [] (by decide)⟩
    · refine ldV_K (st.cells 1 rfl) 2 rfl rfl ?_
      refine ldV_K (st.cells 0 rfl) 2 rfl rfl ?_
      obtain ⟨r19, hx, hp⟩ := obind hp
      obtain ⟨φ, L, s, r_2⟩ := id st
      refine (r_laws_eqInt64SS s.fle hx (f0_2.mono st.le) (f1_2.mono st.le)).mono fun v_2 h_4 ⟨eq, t⟩ => ⟨_, eq, ?_⟩
      replace st := join0 s r_2 t
      clear t s r_2
      refine bifP hp (fun hc hp => ?_) (fun hc hp => ?_)
      · obtain rfl := Option.some.inj hp
        exact ⟨rfl, st.pick [] (by decide)⟩
      · obtain rfl := Option.some.inj hp
        exact ⟨rfl, st.pick [] (by decide)⟩
theorem r_laws_eqObjectS {ψ : CM} {h : Heap} (hψ : CLe ψ (hcell h)) {a0 : List T_impl_Object} {v0 : Value} {b1 : List T_impl_Object} {v1 : Value} {r : Bool} (hp : p_laws_eqObjectS a0 b1 = some r) (f0 : SlC (hcell h) ef_T_impl_Object v0 a0) (f1 : SlC (hcell h) ef_T_impl_Object v1 b1) : CallsH P id_laws_eqObjectS #[v0, v1] h (fun v h' => v = .bool r ∧ S ψ h h' []) := by
  apply w_laws_eqObjectS
  unfold F_laws_eqObjectS
  rw [p_laws_eqObjectS] at hp
  have st : S ψ h h [] := S.start hψ
  refine vLen_C (f0.mono st.le) ?_
  refine vLen_C (f1.mono st.le) ?_
  refine bifP hp (fun hc hp => ?_) (fun hc hp => ?_)
  · obtain rfl := Option.some.inj hp
    exact ⟨rfl, st.pick [] (by decide)⟩
  · obtain ⟨n_2, hn⟩ := loop_n hp
    refine ⟨fun n i5 h_2 => S ψ h h_2 [] ∧ loopN (p_laws_eqObjectS_b1 a0 b1) n i5 = some r, ⟨n_2, st.pick [] (by decide), hn⟩, ?_⟩
    rintro n _ i5 h_2 ⟨st, hn⟩
    obtain ⟨m, a, rfl, hp, hs⟩ := loopN_step hn
    rw [p_laws_eqObjectS_b1] at hp
    refine vLen_C (f0.mono st.le) ?_
    refine bifP hp (fun hc hp => ?_) (fun hc hp => ?_)
    · obtain ⟨e19, hx, hp⟩ := obind hp
      refine vIdx_C (f0.mono st.le) hx fun p19 ad => ?_
      obtain ⟨cs, ck, hr⟩ := f0.cells ad hx rfl
      obtain ⟨v_2, rfl, f⟩ := un_T_impl_Object hr
      refine ldI_K (ck.mono st.le) 0 rfl rfl ?_
      refine ldI_K (ck.mono st.le) 1 rfl rfl ?_
      refine ldV_K (ck.mono st.le) 2 rfl rfl ?_
      obtain ⟨e23, hx_2, hp⟩ := obind hp
      refine vIdx_C (f1.mono st.le) hx_2 fun p23 ad_2 => ?_
      obtain ⟨cs_2, ck_2, hr_2⟩ := f1.cells ad_2 hx_2 rfl
      obtain ⟨v_3, rfl, f_2⟩ := un_T_impl_Object hr_2
      refine ldI_K (ck_2.mono st.le) 0 rfl rfl ?_
      refine ldI_K (ck_2.mono st.le) 1 rfl rfl ?_
      refine ldV_K (ck_2.mono st.le) 2 rfl rfl ?_
      obtain ⟨r25, hx_3, hp⟩ := obind hp
      obtain ⟨φ, L, s, r_2⟩ := id st
      refine (r_laws_eqObject s.fle hx_3 (f.mono st.le) (f_2.mono st.le)).mono fun v_4 h_3 ⟨eq, t⟩ => ⟨_, eq, ?_⟩
      replace st := join0 s r_2 t
      clear t s r_2
      refine bifP hp (fun hc hp => ?_) (fun hc hp => ?_)
      · obtain rfl := Option.some.inj hp
        obtain rfl := Option.some.inj hs
        exact ⟨rfl, st.pick [] (by decide)⟩
      · obtain rfl := Option.some.inj hp
        exact ⟨m, Nat.lt_succ_self _, st.pick [] (by decide), hs⟩
    · obtain rfl := Option.some.inj hp
      obtain rfl := Option.some.inj hs
      exact ⟨rfl, st.pick [] (by decide)⟩
theorem r_laws_eqLab {ψ : CM} {h : Heap} (hψ : CLe ψ (hcell h)) {a0 : T_impl_Lab} {v0_0 : Value} {v0_1 : Value} {b1 : T_impl_Lab} {v1_0 : Value} {v1_1 : Value} {r : Bool} (hp : p_laws_eqLab a0 b1 = some r) (f0_0 : SlC (hcell h) ef_T_impl_Recipe v0_0 a0.Recipes) (f0_1 : SlC (hcell h) ef_T_impl_Object v0_1 a0.Objects) (f1_0 : SlC (hcell h) ef_T_impl_Recipe v1_0 b1.Recipes) (f1_1 : SlC (hcell h) ef_T_impl_Object v1_1 b1.Objects) : CallsH P id_laws_eqLab #[.agg #[v0_0, v0_1], .agg #[v1_0, v1_1]] h (fun v h' => v = .bool r ∧ S ψ h h' []) := by
  apply w_laws_eqLab
  unfold F_laws_eqLab
  rw [p_laws_eqLab] at hp
  have st : S ψ h h [] := S.start hψ
  refine new_S st fun b2 h_2 st => ?_
  refine new_S st fun b3 h_3 st => ?_
  refine ldV_K (st.cells 1 rfl) 0 rfl rfl ?_
  refine ldV_K (st.cells 0 rfl) 0 rfl rfl ?_
  obtain ⟨r9, hx, hp⟩ := obind hp
  obtain ⟨φ, L, s, r_2⟩ := id st
  refine (r_laws_eqRecipeS s.fle hx (f0_0.mono st.le) (f1_0.mono st.le)).mono fun v_2 h_4 ⟨eq, t⟩ => ⟨_, eq, ?_⟩
  replace st := join0 s r_2 t
  clear t s r_2
  refine bifP hp (fun hc hp => ?_) (fun hc hp => ?_)
  · obtain rfl := Option.some.inj hp
    exact ⟨rfl, st.pick [] (by decide)⟩
  · refine ldV_K (st.cells 1 rfl) 1 rfl rfl ?_
    refine ldV_K (st.cells 0 rfl) 1 rfl rfl ?_
    obtain ⟨r15, hx_2, hp⟩ := obind hp
    obtain ⟨φ_2, L_2, s_2, r_3⟩ := id st
    refine (r_laws_eqObjectS s_2.fle hx_2 (f0_1.mono st.le) (f1_1.mono st.le)).mono fun v_3 h_5 ⟨eq_2, t_2⟩ => ⟨_, eq_2, ?_⟩
    replace st := join0 s_2 r_3 t_2
    clear t_2 s_2 r_3
    refine bifP hp (fun hc hp => ?_) (fun hc hp => ?_)
    · obtain rfl := Option.some.inj hp
      exact ⟨rfl, st.pick [] (by decide)⟩
    · obtain rfl := Option.some.inj hp
      exact ⟨rfl, st.pick [] (by decide)⟩
theorem r_laws_eqItem {ψ : CM} {h : Heap} (hψ : CLe ψ (hcell h)) {a0 : T_impl_Item} {v0_3 : Value} {b1 : T_impl_Item} {v1_3 : Value} {r : Bool} (hp : p_laws_eqItem a0 b1 = some r) (f0_3 : SlC (hcell h) (El.sl (El.int .i64)) v0_3 a0.Object.Rows) (f1_3 : SlC (hcell h) (El.sl (El.int .i64)) v1_3 b1.Object.Rows) : CallsH P id_laws_eqItem #[.agg #[.string a0.Name, .int .i64 a0.Object.Kind, .int .i64 a0.Object.Size, v0_3, .string a0.Key], .agg #[.string b1.Name, .int .i64 b1.Object.Kind, .int .i64 b1.Object.Size, v1_3, .string b1.Key]] h (fun v h' => v = .bool r ∧ S ψ h h' []) := by
  apply w_laws_eqItem
  unfold F_laws_eqItem
  rw [p_laws_eqItem] at hp
  have st : S ψ h h [] := S.start hψ
  refine new_S st fun b2 h_2 st => ?_
  refine new_S st fun b3 h_3 st => ?_
  refine ldS_K (st.cells 1 rfl) 0 rfl rfl ?_
  refine ldS_K (st.cells 0 rfl) 0 rfl rfl ?_
  refine bifP hp (fun hc hp => ?_) (fun hc hp => ?_)
  · obtain rfl := Option.some.inj hp
    exact ⟨rfl, st.pick [] (by decide)⟩
  · refine ldI_K (st.cells 1 rfl) 1 rfl rfl ?_
    refine ldI_K (st.cells 1 rfl) 2 rfl rfl ?_
    refine ldV_K (st.cells 1 rfl) 3 rfl rfl ?_
    refine ldI_K (st.cells 0 rfl) 1 rfl rfl ?_
    refine ldI_K (st.cells 0 rfl) 2 rfl rfl ?_
    refine ldV_K (st.cells 0 rfl) 3 rfl rfl ?_
    obtain ⟨r14, hx, hp⟩ := obind hp
    obtain ⟨φ, L, s, r_2⟩ := id st
    refine (r_laws_eqObject s.fle hx (f0_3.mono st.le) (f1_3.mono st.le)).mono fun v_2 h_4 ⟨eq, t⟩ => ⟨_, eq, ?_⟩
    replace st := join0 s r_2 t
    clear t s r_2
    refine bifP hp (fun hc hp => ?_) (fun hc hp => ?_)
    · obtain rfl := Option.some.inj hp
      exact ⟨rfl, st.pick [] (by decide)⟩
    · refine ldS_K (st.cells 1 rfl) 4 rfl rfl ?_
      refine ldS_K (st.cells 0 rfl) 4 rfl rfl ?_
      refine bifP hp (fun hc hp => ?_) (fun hc hp => ?_)
      · obtain rfl := Option.some.inj hp
        exact ⟨rfl, st.pick [] (by decide)⟩
      · obtain rfl := Option.some.inj hp
        exact ⟨rfl, st.pick [] (by decide)⟩
theorem r_laws_eqItemS {ψ : CM} {h : Heap} (hψ : CLe ψ (hcell h)) {a0 : List T_impl_Item} {v0 : Value} {b1 : List T_impl_Item} {v1 : Value} {r : Bool} (hp : p_laws_eqItemS a0 b1 = some r) (f0 : SlC (hcell h) ef_T_impl_Item v0 a0) (f1 : SlC (hcell h) ef_T_impl_Item v1 b1) : CallsH P id_laws_eqItemS #[v0, v1] h (fun v h' => v = .bool r ∧ S ψ h h' []) := by
  apply w_laws_eqItemS
  unfold F_laws_eqItemS
  rw [p_laws_eqItemS] at hp
  have st : S ψ h h [] := S.start hψ
  refine vLen_C (f0.mono st.le) ?_
  refine vLen_C (f1.mono st.le) ?_
  refine bifP hp (fun hc hp => ?_) (fun hc hp => ?_)
  · obtain rfl := Option.some.inj hp
    exact ⟨rfl, st.pick [] (by decide)⟩
  · obtain ⟨n_2, hn⟩ := loop_n hp
    refine ⟨fun n i5 h_2 => S ψ h h_2 [] ∧ loopN (p_laws_eqItemS_b1 a0 b1) n i5 = some r, ⟨n_2, st.pick [] (by decide), hn⟩, ?_⟩
    rintro n _ i5 h_2 ⟨st, hn⟩
    obtain ⟨m, a, rfl, hp, hs⟩ := loopN_step hn
    rw [p_laws_eqItemS_b1] at hp
    refine vLen_C (f0.mono st.le) ?_
    refine bifP hp (fun hc hp => ?_) (fun hc hp => ?_)
    · obtain ⟨e19, hx, hp⟩ := obind hp
      refine vIdx_C (f0.mono st.le) hx fun p19 ad => ?_
      obtain ⟨cs, ck, hr⟩ := f0.cells ad hx rfl
      obtain ⟨v_2, rfl, f⟩ := un_T_impl_Item hr
      refine ldS_K (ck.mono st.le) 0 rfl rfl ?_
      refine ldI_K (ck.mono st.le) 1 rfl rfl ?_
      refine ldI_K (ck.mono st.le) 2 rfl rfl ?_
      refine ldV_K (ck.mono st.le) 3 rfl rfl ?_
      refine ldS_K (ck.mono st.le) 4 rfl rfl ?_
      obtain ⟨e23, hx_2, hp⟩ := obind hp
      refine vIdx_C (f1.mono st.le) hx_2 fun p23 ad_2 => ?_
      obtain ⟨cs_2, ck_2, hr_2⟩ := f1.cells ad_2 hx_2 rfl
      obtain ⟨v_3, rfl, f_2⟩ := un_T_impl_Item hr_2
      refine ldS_K (ck_2.mono st.le) 0 rfl rfl ?_
      refine ldI_K (ck_2.mono st.le) 1 rfl rfl ?_
      refine ldI_K (ck_2.mono st.le) 2 rfl rfl ?_
      refine ldV_K (ck_2.mono st.le) 3 rfl rfl ?_
      refine ldS_K (ck_2.mono st.le) 4 rfl rfl ?_
      obtain ⟨r25, hx_3, hp⟩ := obind hp
      obtain ⟨φ, L, s, r_2⟩ := id st
      refine (r_laws_eqItem s.fle hx_3 (f.mono st.le) (f_2.mono st.le)).mono fun v_4 h_3 ⟨eq, t⟩ => ⟨_, eq, ?_⟩
      replace st := join0 s r_2 t
      clear t s r_2
      refine bifP hp (fun hc hp => ?_) (fun hc hp => ?_)
      · obtain rfl := Option.some.inj hp
        obtain rfl := Option.some.inj hs
        exact ⟨rfl, st.pick [] (by decide)⟩
      · obtain rfl := Option.some.inj hp
        exact ⟨m, Nat.lt_succ_self _, st.pick [] (by decide), hs⟩
    · obtain rfl := Option.some.inj hp
      obtain rfl := Option.some.inj hs
      exact ⟨rfl, st.pick [] (by decide)⟩
theorem r_laws_eqCatalog {ψ : CM} {h : Heap} (hψ : CLe ψ (hcell h)) {a0 : T_impl_Catalog} {v0_0 : Value} {b1 : T_impl_Catalog} {v1_0 : Value} {r : Bool} (hp : p_laws_eqCatalog a0 b1 = some r) (f0_0 : SlC (hcell h) ef_T_impl_Item v0_0 a0.Items) (f1_0 : SlC (hcell h) ef_T_impl_Item v1_0 b1.Items) : CallsH P id_laws_eqCatalog #[.agg #[v0_0], .agg #[v1_0]] h (fun v h' => v = .bool r ∧ S ψ h h' []) := by
  apply w_laws_eqCatalog
  unfold F_laws_eqCatalog
  rw [p_laws_eqCatalog] at hp
  have st : S ψ h h [] := S.start hψ
  refine new_S st fun b2 h_2 st => ?_
  refine new_S st fun b3 h_3 st => ?_
  refine ldV_K (st.cells 1 rfl) 0 rfl rfl ?_
  refine ldV_K (st.cells 0 rfl) 0 rfl rfl ?_
  obtain ⟨r9, hx, hp⟩ := obind hp
  obtain ⟨φ, L, s, r_2⟩ := id st
  refine (r_laws_eqItemS s.fle hx (f0_0.mono st.le) (f1_0.mono st.le)).mono fun v_2 h_4 ⟨eq, t⟩ => ⟨_, eq, ?_⟩
  replace st := join0 s r_2 t
  clear t s r_2
  refine bifP hp (fun hc hp => ?_) (fun hc hp => ?_)
  · obtain rfl := Option.some.inj hp
    exact ⟨rfl, st.pick [] (by decide)⟩
  · obtain rfl := Option.some.inj hp
    exact ⟨rfl, st.pick [] (by decide)⟩
theorem r_laws_eqDesk {ψ : CM} {h : Heap} (hψ : CLe ψ (hcell h)) {a0 : T_impl_Desk} {v0_0 : Value} {v0_1 : Value} {v0_2 : Value} {b1 : T_impl_Desk} {v1_0 : Value} {v1_1 : Value} {v1_2 : Value} {r : Bool} (hp : p_laws_eqDesk a0 b1 = some r) (f0_0 : SlC (hcell h) ef_T_impl_Recipe v0_0 a0.Lab.Recipes) (f0_1 : SlC (hcell h) ef_T_impl_Object v0_1 a0.Lab.Objects) (f0_2 : SlC (hcell h) ef_T_impl_Item v0_2 a0.Catalog.Items) (f1_0 : SlC (hcell h) ef_T_impl_Recipe v1_0 b1.Lab.Recipes) (f1_1 : SlC (hcell h) ef_T_impl_Object v1_1 b1.Lab.Objects) (f1_2 : SlC (hcell h) ef_T_impl_Item v1_2 b1.Catalog.Items) : CallsH P id_laws_eqDesk #[.agg #[v0_0, v0_1, v0_2], .agg #[v1_0, v1_1, v1_2]] h (fun v h' => v = .bool r ∧ S ψ h h' []) := by
  apply w_laws_eqDesk
  unfold F_laws_eqDesk
  rw [p_laws_eqDesk] at hp
  have st : S ψ h h [] := S.start hψ
  refine new_S st fun b2 h_2 st => ?_
  refine new_S st fun b3 h_3 st => ?_
  refine ldV_K (st.cells 1 rfl) 0 rfl rfl ?_
  refine ldV_K (st.cells 1 rfl) 1 rfl rfl ?_
  refine ldV_K (st.cells 0 rfl) 0 rfl rfl ?_
  refine ldV_K (st.cells 0 rfl) 1 rfl rfl ?_
  obtain ⟨r9, hx, hp⟩ := obind hp
  obtain ⟨φ, L, s, r_2⟩ := id st
  refine (r_laws_eqLab s.fle hx (f0_0.mono st.le) (f0_1.mono st.le) (f1_0.mono st.le) (f1_1.mono st.le)).mono fun v_2 h_4 ⟨eq, t⟩ => ⟨_, eq, ?_⟩
  replace st := join0 s r_2 t
  clear t s r_2
  refine bifP hp (fun hc hp => ?_) (fun hc hp => ?_)
  · obtain rfl := Option.some.inj hp
    exact ⟨rfl, st.pick [] (by decide)⟩
  · refine ldV_K (st.cells 1 rfl) 2 rfl rfl ?_
    refine ldV_K (st.cells 0 rfl) 2 rfl rfl ?_
    obtain ⟨r15, hx_2, hp⟩ := obind hp
    obtain ⟨φ_2, L_2, s_2, r_3⟩ := id st
    refine (r_laws_eqCatalog s_2.fle hx_2 (f0_2.mono st.le) (f1_2.mono st.le)).mono fun v_3 h_5 ⟨eq_2, t_2⟩ => ⟨_, eq_2, ?_⟩
    replace st := join0 s_2 r_3 t_2
    clear t_2 s_2 r_3
    refine bifP hp (fun hc hp => ?_) (fun hc hp => ?_)
    · obtain rfl := Option.some.inj hp
      exact ⟨rfl, st.pick [] (by decide)⟩
    · obtain rfl := Option.some.inj hp
      exact ⟨rfl, st.pick [] (by decide)⟩
theorem r_laws_FnExactSameDesk {ψ : CM} {h : Heap} (hψ : CLe ψ (hcell h)) {aA0 : T_laws_Desk} {v0_0 : Value} {v0_1 : Value} {v0_2 : Value} {aB1 : T_laws_Desk} {v1_0 : Value} {v1_1 : Value} {v1_2 : Value} {r : Bool} (hp : p_laws_FnExactSameDesk aA0 aB1 = some r) (f0_0 : SlC (hcell h) ef_T_laws_Recipe v0_0 aA0.Lab.Recipes) (f0_1 : SlC (hcell h) ef_T_laws_Object v0_1 aA0.Lab.Objects) (f0_2 : SlC (hcell h) ef_T_laws_Item v0_2 aA0.Catalog.Items) (f1_0 : SlC (hcell h) ef_T_laws_Recipe v1_0 aB1.Lab.Recipes) (f1_1 : SlC (hcell h) ef_T_laws_Object v1_1 aB1.Lab.Objects) (f1_2 : SlC (hcell h) ef_T_laws_Item v1_2 aB1.Catalog.Items) : CallsH P id_laws_FnExactSameDesk #[.agg #[v0_0, v0_1, v0_2], .agg #[v1_0, v1_1, v1_2]] h (fun v h' => v = .bool r ∧ S ψ h h' []) := by
  apply w_laws_FnExactSameDesk
  unfold F_laws_FnExactSameDesk
  rw [p_laws_FnExactSameDesk] at hp
  have st : S ψ h h [] := S.start hψ
  refine new_S st fun b2 h_2 st => ?_
  refine new_S st fun b3 h_3 st => ?_
  refine ldV_K (st.cells 1 rfl) 0 rfl rfl ?_
  refine ldV_K (st.cells 1 rfl) 1 rfl rfl ?_
  refine ldV_K (st.cells 1 rfl) 2 rfl rfl ?_
  obtain ⟨r12, hx, hp⟩ := obind hp
  obtain ⟨φ, L, s, r_2⟩ := id st
  refine (r_laws_szDesk s.fle hx (f0_0.mono st.le) (f0_1.mono st.le) (f0_2.mono st.le)).mono fun v_2 h_4 ⟨eq, t⟩ => ⟨_, eq, ?_⟩
  replace st := join0 s r_2 t
  clear t s r_2
  refine bifP hp (fun hc hp => ?_) (fun hc hp => ?_)
  · obtain rfl := Option.some.inj hp
    exact ⟨rfl, st.pick [] (by decide)⟩
  · refine ldV_K (st.cells 0 rfl) 0 rfl rfl ?_
    refine ldV_K (st.cells 0 rfl) 1 rfl rfl ?_
    refine ldV_K (st.cells 0 rfl) 2 rfl rfl ?_
    obtain ⟨r17, hx_2, hp⟩ := obind hp
    obtain ⟨φ_2, L_2, s_2, r_3⟩ := id st
    refine (r_laws_szDesk s_2.fle hx_2 (f1_0.mono st.le) (f1_1.mono st.le) (f1_2.mono st.le)).mono fun v_3 h_5 ⟨eq_2, t_2⟩ => ⟨_, eq_2, ?_⟩
    replace st := join0 s_2 r_3 t_2
    clear t_2 s_2 r_3
    refine bifP hp (fun hc hp => ?_) (fun hc hp => ?_)
    · obtain rfl := Option.some.inj hp
      exact ⟨rfl, st.pick [] (by decide)⟩
    · have stR_9 := st
      have xR_9 := ExtH.refl h_5
      refine ldV_K (st.cells 1 rfl) 0 rfl rfl ?_
      refine ldV_K (st.cells 1 rfl) 1 rfl rfl ?_
      refine ldV_K (st.cells 1 rfl) 2 rfl rfl ?_
      obtain ⟨r21, hx_3, hp⟩ := obind hp
      obtain ⟨φ_3, L_3, s_3, r_4⟩ := id st
      refine (r_laws_toDesk s_3.fle hx_3 (f0_0.mono st.le) (f0_1.mono st.le) (f0_2.mono st.le)).mono fun v_4 h_6 ⟨v21, v21_2, v21_3, eq_3, t_3⟩ => ⟨_, _, _, eq_3, xR_9.trans t_3.ext, ?_⟩
      replace xR_9 := xR_9.trans t_3.ext
      replace st := join3 s_3 r_4 t_3
      clear t_3 s_3 r_4
      have st := st.freeze 0 rfl (frz_ow frzo_T_impl_Recipe)
      dsimp only [List.set] at st
      have st := st.freeze 1 rfl (frz_ow frzo_T_impl_Object)
      dsimp only [List.set] at st
      have st := st.freeze 2 rfl (frz_ow frzo_T_impl_Item)
      dsimp only [List.set] at st
      refine ldV_K (stR_9.cells 0 rfl) 0 rfl rfl ?_
      refine ldV_K (stR_9.cells 0 rfl) 1 rfl rfl ?_
      refine ldV_K (stR_9.cells 0 rfl) 2 rfl rfl ?_
      obtain ⟨r23, hx_4, hp⟩ := obind hp
      obtain ⟨φ_4, L_4, s_4, r_5⟩ := id st
      refine (r_laws_toDesk s_4.fle hx_4 (f1_0.mono st.le) (f1_1.mono st.le) (f1_2.mono st.le)).mono fun v_5 h_7 ⟨v23, v23_2, v23_3, eq_4, t_4⟩ => ⟨_, _, _, eq_4, ?_⟩
      replace st := join3 s_4 r_5 t_4
      clear t_4 s_4 r_5
      have st := st.freeze 0 rfl (frz_ow frzo_T_impl_Recipe)
      dsimp only [List.set] at st
      have st := st.freeze 1 rfl (frz_ow frzo_T_impl_Object)
      dsimp only [List.set] at st
      have st := st.freeze 2 rfl (frz_ow frzo_T_impl_Item)
      dsimp only [List.set] at st
      obtain ⟨r24, hx_5, hp⟩ := obind hp
      obtain ⟨φ_5, L_5, s_5, r_6⟩ := id st
      refine (r_spec_SameDesk s_5.fle hx_5 (st.rdF 3 rfl) (st.rdF 4 rfl) (st.rdF 5 rfl) (st.rdF 0 rfl) (st.rdF 1 rfl) (st.rdF 2 rfl)).mono fun v_6 h_8 ⟨eq_5, t_5⟩ => ⟨_, eq_5, ?_⟩
      replace st := join0 s_5 r_6 t_5
      clear t_5 s_5 r_6
      refine ldV_K (st.cells 7 rfl) 0 rfl rfl ?_
      refine ldV_K (st.cells 7 rfl) 1 rfl rfl ?_
      refine ldV_K (st.cells 7 rfl) 2 rfl rfl ?_
      obtain ⟨r26, hx_6, hp⟩ := obind hp
      obtain ⟨φ_6, L_6, s_6, r_7⟩ := id st
      refine (r_laws_toDesk s_6.fle hx_6 (f0_0.mono st.le) (f0_1.mono st.le) (f0_2.mono st.le)).mono fun v_7 h_9 ⟨v26, v26_2, v26_3, eq_6, t_6⟩ => ⟨_, _, _, eq_6, ?_⟩
      replace st := join3 s_6 r_7 t_6
      clear t_6 s_6 r_7
      refine new_S st fun b7 h_10 st => ?_
      refine st_box st 0 rfl rfl rfl (st.rdL 1 rfl frzo_T_impl_Recipe).one fun h_11 st => ?_
      dsimp only [List.set] at st
      refine st_box st 0 rfl rfl rfl (st.rdL 2 rfl frzo_T_impl_Object).one fun h_12 st => ?_
      dsimp only [List.set] at st
      refine st_box st 0 rfl rfl rfl (st.rdL 3 rfl frzo_T_impl_Item).one fun h_13 st => ?_
      dsimp only [List.set] at st
      refine ldV_K (st.cells 10 rfl) 0 rfl rfl ?_
      refine ldV_K (st.cells 10 rfl) 1 rfl rfl ?_
      refine ldV_K (st.cells 10 rfl) 2 rfl rfl ?_
      obtain ⟨r28, hx_7, hp⟩ := obind hp
      obtain ⟨φ_7, L_7, s_7, r_8⟩ := id st
      refine (r_laws_toDesk s_7.fle hx_7 (f1_0.mono st.le) (f1_1.mono st.le) (f1_2.mono st.le)).mono fun v_8 h_14 ⟨v28, v28_2, v28_3, eq_7, t_7⟩ => ⟨_, _, _, eq_7, ?_⟩
      replace st := join3 s_7 r_8 t_7
      clear t_7 s_7 r_8
      refine new_S st fun b8 h_15 st => ?_
      refine st_box st 0 rfl rfl rfl (st.rdL 1 rfl frzo_T_impl_Recipe).one fun h_16 st => ?_
      dsimp only [List.set] at st
      refine st_box st 0 rfl rfl rfl (st.rdL 2 rfl frzo_T_impl_Object).one fun h_17 st => ?_
      dsimp only [List.set] at st
      refine st_box st 0 rfl rfl rfl (st.rdL 3 rfl frzo_T_impl_Item).one fun h_18 st => ?_
      dsimp only [List.set] at st
      refine ldV_K (st.cells 4 rfl) 0 rfl rfl ?_
      refine ldV_K (st.cells 4 rfl) 1 rfl rfl ?_
      refine ldV_K (st.cells 4 rfl) 2 rfl rfl ?_
      refine ldV_K (st.cells 0 rfl) 0 rfl rfl ?_
      refine ldV_K (st.cells 0 rfl) 1 rfl rfl ?_
      refine ldV_K (st.cells 0 rfl) 2 rfl rfl ?_
      obtain ⟨r31, hx_8, hp⟩ := obind hp
      obtain ⟨φ_8, L_8, s_8, r_9⟩ := id st
      refine (r_impl_SameDesk s_8.fle hx_8 (st.rdL 5 rfl frzo_T_impl_Recipe) (st.rdL 6 rfl frzo_T_impl_Object) (st.rdL 7 rfl frzo_T_impl_Item) (st.rdL 1 rfl frzo_T_impl_Recipe) (st.rdL 2 rfl frzo_T_impl_Object) (st.rdL 3 rfl frzo_T_impl_Item)).mono fun v_9 h_19 ⟨eq_8, t_8⟩ => ⟨_, eq_8, ?_⟩
      replace st := join0 s_8 r_9 t_8
      clear t_8 s_8 r_9
      refine bifP hp (fun hc hp => ?_) (fun hc hp => ?_)
      · obtain rfl := Option.some.inj hp
        exact ⟨rfl, st.pick [] (by decide)⟩
      · have stR_15 := st
        have xR_15 := ExtH.refl h_19
        refine ldV_K (st.cells 15 rfl) 0 rfl rfl ?_
        refine ldV_K (st.cells 15 rfl) 1 rfl rfl ?_
        refine ldV_K (st.cells 15 rfl) 2 rfl rfl ?_
        obtain ⟨r37, hx_9, hp⟩ := obind hp
        obtain ⟨φ_9, L_9, s_9, r_10⟩ := id st
        refine (r_laws_toDesk s_9.fle hx_9 (f0_0.mono st.le) (f0_1.mono st.le) (f0_2.mono st.le)).mono fun v_10 h_20 ⟨v37, v37_2, v37_3, eq_9, t_9⟩ => ⟨_, _, _, eq_9, xR_15.trans t_9.ext, ?_⟩
        replace xR_15 := xR_15.trans t_9.ext
        replace st := join3 s_9 r_10 t_9
        clear t_9 s_9 r_10
        have st := st.freeze 0 rfl (frz_ow frzo_T_impl_Recipe)
        dsimp only [List.set] at st
        have st := st.freeze 1 rfl (frz_ow frzo_T_impl_Object)
        dsimp only [List.set] at st
        have st := st.freeze 2 rfl (frz_ow frzo_T_impl_Item)
        dsimp only [List.set] at st
        refine ldV_K (stR_15.cells 4 rfl) 0 rfl rfl ?_
        refine ldV_K (stR_15.cells 4 rfl) 1 rfl rfl ?_
        refine ldV_K (stR_15.cells 4 rfl) 2 rfl rfl ?_
        obtain ⟨r38, hx_10, hp⟩ := obind hp
        obtain ⟨φ_10, L_10, s_10, r_11⟩ := id st
        refine (r_laws_eqDesk s_10.fle hx_10 (st.rdL 8 rfl frzo_T_impl_Recipe) (st.rdL 9 rfl frzo_T_impl_Object) (st.rdL 10 rfl frzo_T_impl_Item) (st.rdF 0 rfl) (st.rdF 1 rfl) (st.rdF 2 rfl)).mono fun v_11 h_21 ⟨eq_10, t_10⟩ => ⟨_, eq_10, ?_⟩
        replace st := join0 s_10 r_11 t_10
        clear t_10 s_10 r_11
        refine bifP hp (fun hc hp => ?_) (fun hc hp => ?_)
        · obtain rfl := Option.some.inj hp
          exact ⟨rfl, st.pick [] (by decide)⟩
        · have stR_17 := st
          have xR_17 := ExtH.refl h_21
          refine ldV_K (st.cells 17 rfl) 0 rfl rfl ?_
          refine ldV_K (st.cells 17 rfl) 1 rfl rfl ?_
          refine ldV_K (st.cells 17 rfl) 2 rfl rfl ?_
          obtain ⟨r42, hx_11, hp⟩ := obind hp
          obtain ⟨φ_11, L_11, s_11, r_12⟩ := id st
          refine (r_laws_toDesk s_11.fle hx_11 (f1_0.mono st.le) (f1_1.mono st.le) (f1_2.mono st.le)).mono fun v_12 h_22 ⟨v42, v42_2, v42_3, eq_11, t_11⟩ => ⟨_, _, _, eq_11, xR_17.trans t_11.ext, ?_⟩
          replace xR_17 := xR_17.trans t_11.ext
          replace st := join3 s_11 r_12 t_11
          clear t_11 s_11 r_12
          have st := st.freeze 0 rfl (frz_ow frzo_T_impl_Recipe)
          dsimp only [List.set] at st
          have st := st.freeze 1 rfl (frz_ow frzo_T_impl_Object)
          dsimp only [List.set] at st
          have st := st.freeze 2 rfl (frz_ow frzo_T_impl_Item)
          dsimp only [List.set] at st
          refine ldV_K (stR_17.cells 3 rfl) 0 rfl rfl ?_
          refine ldV_K (stR_17.cells 3 rfl) 1 rfl rfl ?_
          refine ldV_K (stR_17.cells 3 rfl) 2 rfl rfl ?_
          obtain ⟨r43, hx_12, hp⟩ := obind hp
          obtain ⟨φ_12, L_12, s_12, r_13⟩ := id st
          refine (r_laws_eqDesk s_12.fle hx_12 (st.rdL 7 rfl frzo_T_impl_Recipe) (st.rdL 8 rfl frzo_T_impl_Object) (st.rdL 9 rfl frzo_T_impl_Item) (st.rdF 0 rfl) (st.rdF 1 rfl) (st.rdF 2 rfl)).mono fun v_13 h_23 ⟨eq_12, t_12⟩ => ⟨_, eq_12, ?_⟩
          replace st := join0 s_12 r_13 t_12
          clear t_12 s_12 r_13
          refine bifP hp (fun hc hp => ?_) (fun hc hp => ?_)
          · obtain rfl := Option.some.inj hp
            exact ⟨rfl, st.pick [] (by decide)⟩
          · obtain rfl := Option.some.inj hp
            exact ⟨rfl, st.pick [] (by decide)⟩
end Go.Proofs.Ytclgicpmbcbjlaa
