/- Each call computes its plain function: printed by pgen.py. -/
import Derived.Test.YtkgeocffngdeoaaGreatPuFns
import Derived.Test.YtkgeocffngdeoaaGreatVcFns
import Derived.Test.YtkgeocffngdeoaaGreatVcSw
import Derived.Test.YtkgeocffngdeoaaGreatVcSort
import Derived.Test.YtkgeocffngdeoaaGreatVcLay
namespace Go.Proofs.YtkgeocffngdeoaaGreat
open Go Go.Vc
set_option linter.unusedVariables false
set_option linter.unusedSimpArgs false
def eo_T_laws_Design : El T_laws_Design := El.iso (El.pair (El.int .i64) (El.ow (El.ow (El.int .i64)))) (fun x => (x.Points, x.Blocks)) (T_laws_Design.mk (0 : Int) ([] : List (List Int))) rfl
def ef_T_laws_Design : El T_laws_Design := El.iso (El.pair (El.int .i64) (El.sl (El.sl (El.int .i64)))) (fun x => (x.Points, x.Blocks)) (T_laws_Design.mk (0 : Int) ([] : List (List Int))) rfl
theorem frzo_T_laws_Design : Frz eo_T_laws_Design ef_T_laws_Design := frz_iso (frz_pair (frz_int _) (frz_ow (frz_ow (frz_int _))))
theorem frzf_T_laws_Design : Frz ef_T_laws_Design ef_T_laws_Design := frz_iso (frz_pair (frz_int _) (frz_sl _))
theorem pko_T_laws_Design {ψ : CM} {h0 h : Heap} {os : List Ob} {x0 : Int} {x1 : List (List Int)} {v1 : Value} (st : S ψ h0 h (.it (El.ow (El.ow (El.int .i64))) [v1] x1 :: os)) : S ψ h0 h (.it eo_T_laws_Design [.int .i64 x0, v1] (T_laws_Design.mk x0 x1) :: os) := by
  obtain ⟨φ, M0, s, L1, M1, rfl, a1, r⟩ := st
  exact ⟨φ, _, s, ([] ++ L1), M1, by simp, (pair_mk int_mk a1), r⟩
theorem pkf_T_laws_Design {ψ : CM} {h0 h : Heap} {os : List Ob} {x0 : Int} {x1 : List (List Int)} {v1 : Value} (st : S ψ h0 h (.it (El.sl (El.sl (El.int .i64))) [v1] x1 :: os)) : S ψ h0 h (.it ef_T_laws_Design [.int .i64 x0, v1] (T_laws_Design.mk x0 x1) :: os) := by
  obtain ⟨φ, M0, s, L1, M1, rfl, a1, r⟩ := st
  exact ⟨φ, _, s, ([] ++ L1), M1, by simp, (pair_mk int_mk a1), r⟩
theorem un_T_laws_Design {φ : CM} {L : Rws} {cs : List Value} {x : T_laws_Design} (h : ef_T_laws_Design.R φ L cs x) : ∃ v1 : Value, cs = [.int .i64 x.Points, v1] ∧ SlC φ (El.sl (El.int .i64)) v1 x.Blocks := by
  obtain ⟨_, _, _, _, rfl, _, a1_0, b1_0⟩ := h
  obtain ⟨_, rfl⟩ := a1_0
  obtain ⟨_, w3, rfl, g3⟩ := b1_0
  exact ⟨w3, rfl, g3⟩
def eo_T_impl_Design : El T_impl_Design := El.iso (El.pair (El.int .i64) (El.ow (El.ow (El.int .i64)))) (fun x => (x.Points, x.Blocks)) (T_impl_Design.mk (0 : Int) ([] : List (List Int))) rfl
def ef_T_impl_Design : El T_impl_Design := El.iso (El.pair (El.int .i64) (El.sl (El.sl (El.int .i64)))) (fun x => (x.Points, x.Blocks)) (T_impl_Design.mk (0 : Int) ([] : List (List Int))) rfl
theorem frzo_T_impl_Design : Frz eo_T_impl_Design ef_T_impl_Design := frz_iso (frz_pair (frz_int _) (frz_ow (frz_ow (frz_int _))))
theorem frzf_T_impl_Design : Frz ef_T_impl_Design ef_T_impl_Design := frz_iso (frz_pair (frz_int _) (frz_sl _))
theorem pko_T_impl_Design {ψ : CM} {h0 h : Heap} {os : List Ob} {x0 : Int} {x1 : List (List Int)} {v1 : Value} (st : S ψ h0 h (.it (El.ow (El.ow (El.int .i64))) [v1] x1 :: os)) : S ψ h0 h (.it eo_T_impl_Design [.int .i64 x0, v1] (T_impl_Design.mk x0 x1) :: os) := by
  obtain ⟨φ, M0, s, L1, M1, rfl, a1, r⟩ := st
  exact ⟨φ, _, s, ([] ++ L1), M1, by simp, (pair_mk int_mk a1), r⟩
theorem pkf_T_impl_Design {ψ : CM} {h0 h : Heap} {os : List Ob} {x0 : Int} {x1 : List (List Int)} {v1 : Value} (st : S ψ h0 h (.it (El.sl (El.sl (El.int .i64))) [v1] x1 :: os)) : S ψ h0 h (.it ef_T_impl_Design [.int .i64 x0, v1] (T_impl_Design.mk x0 x1) :: os) := by
  obtain ⟨φ, M0, s, L1, M1, rfl, a1, r⟩ := st
  exact ⟨φ, _, s, ([] ++ L1), M1, by simp, (pair_mk int_mk a1), r⟩
theorem un_T_impl_Design {φ : CM} {L : Rws} {cs : List Value} {x : T_impl_Design} (h : ef_T_impl_Design.R φ L cs x) : ∃ v1 : Value, cs = [.int .i64 x.Points, v1] ∧ SlC φ (El.sl (El.int .i64)) v1 x.Blocks := by
  obtain ⟨_, _, _, _, rfl, _, a1_0, b1_0⟩ := h
  obtain ⟨_, rfl⟩ := a1_0
  obtain ⟨_, w3, rfl, g3⟩ := b1_0
  exact ⟨w3, rfl, g3⟩
def eo_T_spec_l28Search : El T_spec_l28Search := El.iso (El.pair (El.int .i64) (El.pair (El.int .i64) (El.pair (El.ow (El.ow (El.int .i64))) (El.pair (El.ow El.bool) (El.pair (El.ow (El.int .i64)) (El.pair (El.ow (El.int .i64)) (El.pair (El.int .i64) (El.pair (El.int .i64) (El.pair (El.int .i64) (El.pair El.bool (El.ow (El.int .i64)))))))))))) (fun x => (x.qv, x.qlambda, x.qall, x.qused, x.qpairs, x.qchosen, x.qnodes, x.qbudget, x.qcount, x.qfirst, x.qfound)) (T_spec_l28Search.mk (0 : Int) (0 : Int) ([] : List (List Int)) ([] : List Bool) ([] : List Int) ([] : List Int) (0 : Int) (0 : Int) (0 : Int) false ([] : List Int)) rfl
def ef_T_spec_l28Search : El T_spec_l28Search := El.iso (El.pair (El.int .i64) (El.pair (El.int .i64) (El.pair (El.sl (El.sl (El.int .i64))) (El.pair (El.sl El.bool) (El.pair (El.sl (El.int .i64)) (El.pair (El.sl (El.int .i64)) (El.pair (El.int .i64) (El.pair (El.int .i64) (El.pair (El.int .i64) (El.pair El.bool (El.sl (El.int .i64)))))))))))) (fun x => (x.qv, x.qlambda, x.qall, x.qused, x.qpairs, x.qchosen, x.qnodes, x.qbudget, x.qcount, x.qfirst, x.qfound)) (T_spec_l28Search.mk (0 : Int) (0 : Int) ([] : List (List Int)) ([] : List Bool) ([] : List Int) ([] : List Int) (0 : Int) (0 : Int) (0 : Int) false ([] : List Int)) rfl
theorem frzo_T_spec_l28Search : Frz eo_T_spec_l28Search ef_T_spec_l28Search := frz_iso (frz_pair (frz_int _) (frz_pair (frz_int _) (frz_pair (frz_ow (frz_ow (frz_int _))) (frz_pair (frz_ow frz_bool) (frz_pair (frz_ow (frz_int _)) (frz_pair (frz_ow (frz_int _)) (frz_pair (frz_int _) (frz_pair (frz_int _) (frz_pair (frz_int _) (frz_pair frz_bool (frz_ow (frz_int _))))))))))))
theorem frzf_T_spec_l28Search : Frz ef_T_spec_l28Search ef_T_spec_l28Search := frz_iso (frz_pair (frz_int _) (frz_pair (frz_int _) (frz_pair (frz_sl _) (frz_pair (frz_sl _) (frz_pair (frz_sl _) (frz_pair (frz_sl _) (frz_pair (frz_int _) (frz_pair (frz_int _) (frz_pair (frz_int _) (frz_pair frz_bool (frz_sl _)))))))))))
theorem pko_T_spec_l28Search {ψ : CM} {h0 h : Heap} {os : List Ob} {x0 : Int} {x1 : Int} {x2 : List (List Int)} {v2 : Value} {x3 : List Bool} {v3 : Value} {x4 : List Int} {v4 : Value} {x5 : List Int} {v5 : Value} {x6 : Int} {x7 : Int} {x8 : Int} {x9 : Bool} {x10 : List Int} {v10 : Value} (st : S ψ h0 h (.it (El.ow (El.ow (El.int .i64))) [v2] x2 :: .it (El.ow El.bool) [v3] x3 :: .it (El.ow (El.int .i64)) [v4] x4 :: .it (El.ow (El.int .i64)) [v5] x5 :: .it (El.ow (El.int .i64)) [v10] x10 :: os)) : S ψ h0 h (.it eo_T_spec_l28Search [.int .i64 x0, .int .i64 x1, v2, v3, v4, v5, .int .i64 x6, .int .i64 x7, .int .i64 x8, .bool x9, v10] (T_spec_l28Search.mk x0 x1 x2 x3 x4 x5 x6 x7 x8 x9 x10) :: os) := by
  obtain ⟨φ, M0, s, L2, M1, rfl, a2, L3, M2, rfl, a3, L4, M3, rfl, a4, L5, M4, rfl, a5, L10, M5, rfl, a10, r⟩ := st
  exact ⟨φ, _, s, ([] ++ ([] ++ (L2 ++ (L3 ++ (L4 ++ (L5 ++ ([] ++ ([] ++ ([] ++ ([] ++ L10)))))))))), M5, by simp, (pair_mk int_mk (pair_mk int_mk (pair_mk a2 (pair_mk a3 (pair_mk a4 (pair_mk a5 (pair_mk int_mk (pair_mk int_mk (pair_mk int_mk (pair_mk bool_mk a10)))))))))), r⟩
theorem pkf_T_spec_l28Search {ψ : CM} {h0 h : Heap} {os : List Ob} {x0 : Int} {x1 : Int} {x2 : List (List Int)} {v2 : Value} {x3 : List Bool} {v3 : Value} {x4 : List Int} {v4 : Value} {x5 : List Int} {v5 : Value} {x6 : Int} {x7 : Int} {x8 : Int} {x9 : Bool} {x10 : List Int} {v10 : Value} (st : S ψ h0 h (.it (El.sl (El.sl (El.int .i64))) [v2] x2 :: .it (El.sl El.bool) [v3] x3 :: .it (El.sl (El.int .i64)) [v4] x4 :: .it (El.sl (El.int .i64)) [v5] x5 :: .it (El.sl (El.int .i64)) [v10] x10 :: os)) : S ψ h0 h (.it ef_T_spec_l28Search [.int .i64 x0, .int .i64 x1, v2, v3, v4, v5, .int .i64 x6, .int .i64 x7, .int .i64 x8, .bool x9, v10] (T_spec_l28Search.mk x0 x1 x2 x3 x4 x5 x6 x7 x8 x9 x10) :: os) := by
  obtain ⟨φ, M0, s, L2, M1, rfl, a2, L3, M2, rfl, a3, L4, M3, rfl, a4, L5, M4, rfl, a5, L10, M5, rfl, a10, r⟩ := st
  exact ⟨φ, _, s, ([] ++ ([] ++ (L2 ++ (L3 ++ (L4 ++ (L5 ++ ([] ++ ([] ++ ([] ++ ([] ++ L10)))))))))), M5, by simp, (pair_mk int_mk (pair_mk int_mk (pair_mk a2 (pair_mk a3 (pair_mk a4 (pair_mk a5 (pair_mk int_mk (pair_mk int_mk (pair_mk int_mk (pair_mk bool_mk a10)))))))))), r⟩
theorem un_T_spec_l28Search {φ : CM} {L : Rws} {cs : List Value} {x : T_spec_l28Search} (h : ef_T_spec_l28Search.R φ L cs x) : ∃ v2 : Value, ∃ v3 : Value, ∃ v4 : Value, ∃ v5 : Value, ∃ v10 : Value, cs = [.int .i64 x.qv, .int .i64 x.qlambda, v2, v3, v4, v5, .int .i64 x.qnodes, .int .i64 x.qbudget, .int .i64 x.qcount, .bool x.qfirst, v10] ∧ SlC φ (El.sl (El.int .i64)) v2 x.qall ∧ SlC φ El.bool v3 x.qused ∧ SlC φ (El.int .i64) v4 x.qpairs ∧ SlC φ (El.int .i64) v5 x.qchosen ∧ SlC φ (El.int .i64) v10 x.qfound := by
  obtain ⟨_, _, _, _, rfl, _, a1_0, b1_0⟩ := h
  obtain ⟨_, rfl⟩ := a1_0
  obtain ⟨_, _, _, _, rfl, _, a1_1, b1_1⟩ := b1_0
  obtain ⟨_, rfl⟩ := a1_1
  obtain ⟨_, _, _, _, rfl, _, a1_2, b1_2⟩ := b1_1
  obtain ⟨_, w4, rfl, g4⟩ := a1_2
  obtain ⟨_, _, _, _, rfl, _, a1_3, b1_3⟩ := b1_2
  obtain ⟨_, w5, rfl, g5⟩ := a1_3
  obtain ⟨_, _, _, _, rfl, _, a1_4, b1_4⟩ := b1_3
  obtain ⟨_, w6, rfl, g6⟩ := a1_4
  obtain ⟨_, _, _, _, rfl, _, a1_5, b1_5⟩ := b1_4
  obtain ⟨_, w7, rfl, g7⟩ := a1_5
  obtain ⟨_, _, _, _, rfl, _, a1_6, b1_6⟩ := b1_5
  obtain ⟨_, rfl⟩ := a1_6
  obtain ⟨_, _, _, _, rfl, _, a1_7, b1_7⟩ := b1_6
  obtain ⟨_, rfl⟩ := a1_7
  obtain ⟨_, _, _, _, rfl, _, a1_8, b1_8⟩ := b1_7
  obtain ⟨_, rfl⟩ := a1_8
  obtain ⟨_, _, _, _, rfl, _, a1_9, b1_9⟩ := b1_8
  obtain ⟨_, rfl⟩ := a1_9
  obtain ⟨_, w12, rfl, g12⟩ := b1_9
  exact ⟨w4, w5, w6, w7, w12, rfl, g4, g5, g6, g7, g12⟩
def eo_T_impl_counter : El T_impl_counter := El.iso (El.pair (El.int .i64) El.bool) (fun x => (x.qleft, x.qspent)) (T_impl_counter.mk (0 : Int) false) rfl
def ef_T_impl_counter : El T_impl_counter := El.iso (El.pair (El.int .i64) El.bool) (fun x => (x.qleft, x.qspent)) (T_impl_counter.mk (0 : Int) false) rfl
theorem frzo_T_impl_counter : Frz eo_T_impl_counter ef_T_impl_counter := frz_iso (frz_pair (frz_int _) frz_bool)
theorem frzf_T_impl_counter : Frz ef_T_impl_counter ef_T_impl_counter := frz_iso (frz_pair (frz_int _) frz_bool)
theorem plain_T_impl_counter : Plain ef_T_impl_counter := plain_iso (plain_pair (plain_int _) plain_bool)
theorem pko_T_impl_counter {ψ : CM} {h0 h : Heap} {os : List Ob} {x0 : Int} {x1 : Bool} (st : S ψ h0 h (os)) : S ψ h0 h (.it eo_T_impl_counter [.int .i64 x0, .bool x1] (T_impl_counter.mk x0 x1) :: os) := by
  obtain ⟨φ, M0, s, r⟩ := st
  exact ⟨φ, _, s, ([] ++ []), M0, by simp, (pair_mk int_mk bool_mk), r⟩
theorem pkf_T_impl_counter {ψ : CM} {h0 h : Heap} {os : List Ob} {x0 : Int} {x1 : Bool} (st : S ψ h0 h (os)) : S ψ h0 h (.it ef_T_impl_counter [.int .i64 x0, .bool x1] (T_impl_counter.mk x0 x1) :: os) := by
  obtain ⟨φ, M0, s, r⟩ := st
  exact ⟨φ, _, s, ([] ++ []), M0, by simp, (pair_mk int_mk bool_mk), r⟩
theorem un_T_impl_counter {φ : CM} {L : Rws} {cs : List Value} {x : T_impl_counter} (h : ef_T_impl_counter.R φ L cs x) : cs = [.int .i64 x.qleft, .bool x.qspent] := by
  obtain ⟨_, _, _, _, rfl, _, a1_0, b1_0⟩ := h
  obtain ⟨_, rfl⟩ := a1_0
  obtain ⟨_, rfl⟩ := b1_0
  rfl
def eo_T_impl_blocker : El T_impl_blocker := El.iso (El.pair eo_T_impl_counter (El.pair (El.int .i64) (El.pair El.bool (El.pair (El.ow (El.ow (El.int .i64))) (El.pair (El.ow (El.ow (El.int .i64))) (El.pair (El.ow El.bool) (El.pair (El.ow (El.ow (El.int .i64))) (El.pair (El.int .i64) (El.pair (El.int .i64) (El.ow (El.ow (El.int .i64)))))))))))) (fun x => (x.qcounter, x.qlambda, x.qfirst, x.qload, x.qsets, x.qused, x.qblocks, x.qnodes, x.qcount, x.qfound)) (T_impl_blocker.mk (T_impl_counter.mk (0 : Int) false) (0 : Int) false ([] : List (List Int)) ([] : List (List Int)) ([] : List Bool) ([] : List (List Int)) (0 : Int) (0 : Int) ([] : List (List Int))) rfl
def ef_T_impl_blocker : El T_impl_blocker := El.iso (El.pair ef_T_impl_counter (El.pair (El.int .i64) (El.pair El.bool (El.pair (El.sl (El.sl (El.int .i64))) (El.pair (El.sl (El.sl (El.int .i64))) (El.pair (El.sl El.bool) (El.pair (El.sl (El.sl (El.int .i64))) (El.pair (El.int .i64) (El.pair (El.int .i64) (El.sl (El.sl (El.int .i64)))))))))))) (fun x => (x.qcounter, x.qlambda, x.qfirst, x.qload, x.qsets, x.qused, x.qblocks, x.qnodes, x.qcount, x.qfound)) (T_impl_blocker.mk (T_impl_counter.mk (0 : Int) false) (0 : Int) false ([] : List (List Int)) ([] : List (List Int)) ([] : List Bool) ([] : List (List Int)) (0 : Int) (0 : Int) ([] : List (List Int))) rfl
theorem frzo_T_impl_blocker : Frz eo_T_impl_blocker ef_T_impl_blocker := frz_iso (frz_pair frzo_T_impl_counter (frz_pair (frz_int _) (frz_pair frz_bool (frz_pair (frz_ow (frz_ow (frz_int _))) (frz_pair (frz_ow (frz_ow (frz_int _))) (frz_pair (frz_ow frz_bool) (frz_pair (frz_ow (frz_ow (frz_int _))) (frz_pair (frz_int _) (frz_pair (frz_int _) (frz_ow (frz_ow (frz_int _))))))))))))
theorem frzf_T_impl_blocker : Frz ef_T_impl_blocker ef_T_impl_blocker := frz_iso (frz_pair frzf_T_impl_counter (frz_pair (frz_int _) (frz_pair frz_bool (frz_pair (frz_sl _) (frz_pair (frz_sl _) (frz_pair (frz_sl _) (frz_pair (frz_sl _) (frz_pair (frz_int _) (frz_pair (frz_int _) (frz_sl _))))))))))
theorem pko_T_impl_blocker {ψ : CM} {h0 h : Heap} {os : List Ob} {x0 : Int} {x1 : Bool} {x2 : Int} {x3 : Bool} {x4 : List (List Int)} {v4 : Value} {x5 : List (List Int)} {v5 : Value} {x6 : List Bool} {v6 : Value} {x7 : List (List Int)} {v7 : Value} {x8 : Int} {x9 : Int} {x10 : List (List Int)} {v10 : Value} (st : S ψ h0 h (.it (El.ow (El.ow (El.int .i64))) [v4] x4 :: .it (El.ow (El.ow (El.int .i64))) [v5] x5 :: .it (El.ow El.bool) [v6] x6 :: .it (El.ow (El.ow (El.int .i64))) [v7] x7 :: .it (El.ow (El.ow (El.int .i64))) [v10] x10 :: os)) : S ψ h0 h (.it eo_T_impl_blocker [.int .i64 x0, .bool x1, .int .i64 x2, .bool x3, v4, v5, v6, v7, .int .i64 x8, .int .i64 x9, v10] (T_impl_blocker.mk (T_impl_counter.mk x0 x1) x2 x3 x4 x5 x6 x7 x8 x9 x10) :: os) := by
  obtain ⟨φ, M0, s, L4, M1, rfl, a4, L5, M2, rfl, a5, L6, M3, rfl, a6, L7, M4, rfl, a7, L10, M5, rfl, a10, r⟩ := st
  exact ⟨φ, _, s, (([] ++ []) ++ ([] ++ ([] ++ (L4 ++ (L5 ++ (L6 ++ (L7 ++ ([] ++ ([] ++ L10))))))))), M5, by simp, (pair_mk (pair_mk int_mk bool_mk) (pair_mk int_mk (pair_mk bool_mk (pair_mk a4 (pair_mk a5 (pair_mk a6 (pair_mk a7 (pair_mk int_mk (pair_mk int_mk a10))))))))), r⟩
theorem pkf_T_impl_blocker {ψ : CM} {h0 h : Heap} {os : List Ob} {x0 : Int} {x1 : Bool} {x2 : Int} {x3 : Bool} {x4 : List (List Int)} {v4 : Value} {x5 : List (List Int)} {v5 : Value} {x6 : List Bool} {v6 : Value} {x7 : List (List Int)} {v7 : Value} {x8 : Int} {x9 : Int} {x10 : List (List Int)} {v10 : Value} (st : S ψ h0 h (.it (El.sl (El.sl (El.int .i64))) [v4] x4 :: .it (El.sl (El.sl (El.int .i64))) [v5] x5 :: .it (El.sl El.bool) [v6] x6 :: .it (El.sl (El.sl (El.int .i64))) [v7] x7 :: .it (El.sl (El.sl (El.int .i64))) [v10] x10 :: os)) : S ψ h0 h (.it ef_T_impl_blocker [.int .i64 x0, .bool x1, .int .i64 x2, .bool x3, v4, v5, v6, v7, .int .i64 x8, .int .i64 x9, v10] (T_impl_blocker.mk (T_impl_counter.mk x0 x1) x2 x3 x4 x5 x6 x7 x8 x9 x10) :: os) := by
  obtain ⟨φ, M0, s, L4, M1, rfl, a4, L5, M2, rfl, a5, L6, M3, rfl, a6, L7, M4, rfl, a7, L10, M5, rfl, a10, r⟩ := st
  exact ⟨φ, _, s, (([] ++ []) ++ ([] ++ ([] ++ (L4 ++ (L5 ++ (L6 ++ (L7 ++ ([] ++ ([] ++ L10))))))))), M5, by simp, (pair_mk (pair_mk int_mk bool_mk) (pair_mk int_mk (pair_mk bool_mk (pair_mk a4 (pair_mk a5 (pair_mk a6 (pair_mk a7 (pair_mk int_mk (pair_mk int_mk a10))))))))), r⟩
theorem un_T_impl_blocker {φ : CM} {L : Rws} {cs : List Value} {x : T_impl_blocker} (h : ef_T_impl_blocker.R φ L cs x) : ∃ v4 : Value, ∃ v5 : Value, ∃ v6 : Value, ∃ v7 : Value, ∃ v10 : Value, cs = [.int .i64 x.qcounter.qleft, .bool x.qcounter.qspent, .int .i64 x.qlambda, .bool x.qfirst, v4, v5, v6, v7, .int .i64 x.qnodes, .int .i64 x.qcount, v10] ∧ SlC φ (El.sl (El.int .i64)) v4 x.qload ∧ SlC φ (El.sl (El.int .i64)) v5 x.qsets ∧ SlC φ El.bool v6 x.qused ∧ SlC φ (El.sl (El.int .i64)) v7 x.qblocks ∧ SlC φ (El.sl (El.int .i64)) v10 x.qfound := by
  obtain ⟨_, _, _, _, rfl, _, a1_0, b1_0⟩ := h
  obtain ⟨_, _, _, _, rfl, _, a2_0, b2_0⟩ := a1_0
  obtain ⟨_, rfl⟩ := a2_0
  obtain ⟨_, rfl⟩ := b2_0
  obtain ⟨_, _, _, _, rfl, _, a1_1, b1_1⟩ := b1_0
  obtain ⟨_, rfl⟩ := a1_1
  obtain ⟨_, _, _, _, rfl, _, a1_2, b1_2⟩ := b1_1
  obtain ⟨_, rfl⟩ := a1_2
  obtain ⟨_, _, _, _, rfl, _, a1_3, b1_3⟩ := b1_2
  obtain ⟨_, w7, rfl, g7⟩ := a1_3
  obtain ⟨_, _, _, _, rfl, _, a1_4, b1_4⟩ := b1_3
  obtain ⟨_, w8, rfl, g8⟩ := a1_4
  obtain ⟨_, _, _, _, rfl, _, a1_5, b1_5⟩ := b1_4
  obtain ⟨_, w9, rfl, g9⟩ := a1_5
  obtain ⟨_, _, _, _, rfl, _, a1_6, b1_6⟩ := b1_5
  obtain ⟨_, w10, rfl, g10⟩ := a1_6
  obtain ⟨_, _, _, _, rfl, _, a1_7, b1_7⟩ := b1_6
  obtain ⟨_, rfl⟩ := a1_7
  obtain ⟨_, _, _, _, rfl, _, a1_8, b1_8⟩ := b1_7
  obtain ⟨_, rfl⟩ := a1_8
  obtain ⟨_, w13, rfl, g13⟩ := b1_8
  exact ⟨w7, w8, w9, w10, w13, rfl, g7, g8, g9, g10, g13⟩
theorem r_laws_szInt64S {ψ : CM} {h : Heap} (hψ : CLe ψ (hcell h)) {a0 : List Int} {v0 : Value} {left1 : Int} {r : Int} (hp : p_laws_szInt64S a0 left1 = some r) (f0 : SlC (hcell h) (El.int .i64) v0 a0) : CallsH P id_laws_szInt64S #[v0, .int .i64 left1] h (fun v h' => v = .int .i64 r ∧ S ψ h h' []) := by
  apply w_laws_szInt64S
  unfold F_laws_szInt64S
  rw [p_laws_szInt64S] at hp
  have st : S ψ h h [] := S.start hψ
  refine vLen_C (f0.mono st.le) ?_
  refine bifP hp (fun hc hp => ?_) (fun hc hp => ?_)
  · obtain rfl := Option.some.inj hp
    exact ⟨rfl, st.pick [] (by decide)⟩
  · obtain rfl := Option.some.inj hp
    exact ⟨rfl, st.pick [] (by decide)⟩
theorem r_laws_szInt64SS {ψ : CM} {h : Heap} (hψ : CLe ψ (hcell h)) {a0 : List (List Int)} {v0 : Value} {left1 : Int} {r : Int} (hp : p_laws_szInt64SS a0 left1 = some r) (f0 : SlC (hcell h) (El.sl (El.int .i64)) v0 a0) : CallsH P id_laws_szInt64SS #[v0, .int .i64 left1] h (fun v h' => v = .int .i64 r ∧ S ψ h h' []) := by
  apply w_laws_szInt64SS
  unfold F_laws_szInt64SS
  rw [p_laws_szInt64SS] at hp
  have st : S ψ h h [] := S.start hψ
  refine vLen_C (f0.mono st.le) ?_
  refine bifP hp (fun hc hp => ?_) (fun hc hp => ?_)
  · obtain rfl := Option.some.inj hp
    exact ⟨rfl, st.pick [] (by decide)⟩
  · obtain ⟨n_2, hn⟩ := loop_n hp
    refine ⟨fun n left1_2 i5 h_2 => S ψ h h_2 [] ∧ loopN (p_laws_szInt64SS_b1 a0) n (left1_2, i5) = some r, ⟨n_2, st.pick [] (by decide), hn⟩, ?_⟩
    rintro n _ left1_2 i5 h_2 ⟨st, hn⟩
    obtain ⟨m, a, rfl, hp, hs⟩ := loopN_step hn
    rw [p_laws_szInt64SS_b1] at hp
    refine vLen_C (f0.mono st.le) ?_
    refine bifP hp (fun hc hp => ?_) (fun hc hp => ?_)
    · obtain ⟨e20, hx, hp⟩ := obind hp
      refine vIdx_C (f0.mono st.le) hx fun p20 ad => ?_
      refine ldV_C f0 st.le ad hx fun u21 f => ?_
      obtain ⟨r23, hx_2, hp⟩ := obind hp
      obtain ⟨φ, L, s, r_2⟩ := id st
      refine (r_laws_szInt64S s.fle hx_2 (f.mono st.le)).mono fun v_2 h_3 ⟨eq, t⟩ => ⟨_, eq, ?_⟩
      replace st := join0 s r_2 t
      clear t s r_2
      refine bifP hp (fun hc hp => ?_) (fun hc hp => ?_)
      · obtain rfl := Option.some.inj hp
        obtain rfl := Option.some.inj hs
        exact ⟨rfl, st.pick [] (by decide)⟩
      · obtain rfl := Option.some.inj hp
        exact ⟨m, Nat.lt_succ_self _, st.pick [] (by decide), hs⟩
    · obtain rfl := Option.some.inj hp
      obtain rfl := Option.some.inj hs
      exact ⟨rfl, st.pick [] (by decide)⟩
theorem r_laws_szDesign {ψ : CM} {h : Heap} (hψ : CLe ψ (hcell h)) {a0 : T_laws_Design} {v0_1 : Value} {left1 : Int} {r : Int} (hp : p_laws_szDesign a0 left1 = some r) (f0_1 : SlC (hcell h) (El.sl (El.int .i64)) v0_1 a0.Blocks) : CallsH P id_laws_szDesign #[.agg #[.int .i64 a0.Points, v0_1], .int .i64 left1] h (fun v h' => v = .int .i64 r ∧ S ψ h h' []) := by
  apply w_laws_szDesign
  unfold F_laws_szDesign
  rw [p_laws_szDesign] at hp
  have st : S ψ h h [] := S.start hψ
  refine new_S st fun b2 h_2 st => ?_
  refine ldV_K (st.cells 0 rfl) 1 rfl rfl ?_
  obtain ⟨r8, hx, hp⟩ := obind hp
  obtain ⟨φ, L, s, r_2⟩ := id st
  refine (r_laws_szInt64SS s.fle hx (f0_1.mono st.le)).mono fun v_2 h_3 ⟨eq, t⟩ => ⟨_, eq, ?_⟩
  replace st := join0 s r_2 t
  clear t s r_2
  refine bifP hp (fun hc hp => ?_) (fun hc hp => ?_)
  · obtain rfl := Option.some.inj hp
    exact ⟨rfl, st.pick [] (by decide)⟩
  · obtain rfl := Option.some.inj hp
    exact ⟨rfl, st.pick [] (by decide)⟩
theorem r_spec_l00In {ψ : CM} {h : Heap} (hψ : CLe ψ (hcell h)) {n0 : Int} {low1 : Int} {high2 : Int} {r : Bool} (hp : p_spec_l00In n0 low1 high2 = some r)  : CallsH P id_spec_l00In #[.int .i64 n0, .int .i64 low1, .int .i64 high2] h (fun v h' => v = .bool r ∧ S ψ h h' []) := by
  apply w_spec_l00In
  unfold F_spec_l00In
  rw [p_spec_l00In] at hp
  have st : S ψ h h [] := S.start hψ
  refine bifP hp (fun hc hp => ?_) (fun hc hp => ?_)
  · obtain rfl := Option.some.inj hp
    exact ⟨rfl, st.pick [] (by decide)⟩
  · obtain rfl := Option.some.inj hp
    exact ⟨rfl, st.pick [] (by decide)⟩
theorem r_spec_l00Rises {ψ : CM} {h : Heap} (hψ : CLe ψ (hcell h)) {list0 : List Int} {v0 : Value} {low1 : Int} {high2 : Int} {r : Bool} (hp : p_spec_l00Rises list0 low1 high2 = some r) (f0 : SlC (hcell h) (El.int .i64) v0 list0) : CallsH P id_spec_l00Rises #[v0, .int .i64 low1, .int .i64 high2] h (fun v h' => v = .bool r ∧ S ψ h h' []) := by
  apply w_spec_l00Rises
  unfold F_spec_l00Rises
  rw [p_spec_l00Rises] at hp
  have st : S ψ h h [] := S.start hψ
  obtain ⟨n_2, hn⟩ := loop_n hp
  refine ⟨fun n i7 h_2 => S ψ h h_2 [] ∧ loopN (p_spec_l00Rises_b1 list0 low1 high2) n i7 = some r, ⟨n_2, st.pick [] (by decide), hn⟩, ?_⟩
  rintro n _ i7 h_2 ⟨st, hn⟩
  obtain ⟨m, a, rfl, hp, hs⟩ := loopN_step hn
  rw [p_spec_l00Rises_b1] at hp
  refine vLen_C (f0.mono st.le) ?_
  refine bifP hp (fun hc hp => ?_) (fun hc hp => ?_)
  · obtain ⟨e16, hx, hp⟩ := obind hp
    refine vIdx_C (f0.mono st.le) hx fun p16 ad => ?_
    refine ldI_C (f0.mono st.le) ad hx ?_
    obtain ⟨r20, hx_2, hp⟩ := obind hp
    obtain ⟨φ, L, s, r_2⟩ := id st
    refine (r_spec_l00In s.fle hx_2).mono fun v_2 h_3 ⟨eq, t⟩ => ⟨_, eq, ?_⟩
    replace st := join0 s r_2 t
    clear t s r_2
    refine bifP hp (fun hc hp => ?_) (fun hc hp => ?_)
    · obtain rfl := Option.some.inj hp
      obtain rfl := Option.some.inj hs
      exact ⟨rfl, st.pick [] (by decide)⟩
    · refine bifP hp (fun hc hp => ?_) (fun hc hp => ?_)
      · obtain ⟨e29, hx_3, hp⟩ := obind hp
        refine vIdx_C (f0.mono st.le) hx_3 fun p29 ad_2 => ?_
        refine ldI_C (f0.mono st.le) ad_2 hx_3 ?_
        obtain ⟨e33, hx_4, hp⟩ := obind hp
        refine vIdx_C (f0.mono st.le) hx_4 fun p33 ad_3 => ?_
        refine ldI_C (f0.mono st.le) ad_3 hx_4 ?_
        refine bifP hp (fun hc hp => ?_) (fun hc hp => ?_)
        · obtain rfl := Option.some.inj hp
          obtain rfl := Option.some.inj hs
          exact ⟨rfl, st.pick [] (by decide)⟩
        · obtain rfl := Option.some.inj hp
          exact ⟨m, Nat.lt_succ_self _, st.pick [] (by decide), hs⟩
      · obtain rfl := Option.some.inj hp
        exact ⟨m, Nat.lt_succ_self _, st.pick [] (by decide), hs⟩
  · obtain rfl := Option.some.inj hp
    obtain rfl := Option.some.inj hs
    exact ⟨rfl, st.pick [] (by decide)⟩
theorem r_spec_l10Block {ψ : CM} {h : Heap} (hψ : CLe ψ (hcell h)) {set0 : List Int} {v0 : Value} {points1 : Int} {r : Bool} (hp : p_spec_l10Block set0 points1 = some r) (f0 : SlC (hcell h) (El.int .i64) v0 set0) : CallsH P id_spec_l10Block #[v0, .int .i64 points1] h (fun v h' => v = .bool r ∧ S ψ h h' []) := by
  apply w_spec_l10Block
  unfold F_spec_l10Block
  rw [p_spec_l10Block] at hp
  have st : S ψ h h [] := S.start hψ
  refine vLen_C (f0.mono st.le) ?_
  refine bifP hp (fun hc hp => ?_) (fun hc hp => ?_)
  · obtain ⟨r12, hx, hp⟩ := obind hp
    obtain ⟨φ, L, s, r_2⟩ := id st
    refine (r_spec_l00Rises s.fle hx (f0.mono st.le)).mono fun v_2 h_2 ⟨eq, t⟩ => ⟨_, eq, ?_⟩
    replace st := join0 s r_2 t
    clear t s r_2
    obtain rfl := Option.some.inj hp
    exact ⟨rfl, st.pick [] (by decide)⟩
  · obtain rfl := Option.some.inj hp
    exact ⟨rfl, st.pick [] (by decide)⟩
theorem r_spec_CompareLists {ψ : CM} {h : Heap} (hψ : CLe ψ (hcell h)) {a0 : List Int} {v0 : Value} {b1 : List Int} {v1 : Value} {r : Int} (hp : p_spec_CompareLists a0 b1 = some r) (f0 : SlC (hcell h) (El.int .i64) v0 a0) (f1 : SlC (hcell h) (El.int .i64) v1 b1) : CallsH P id_spec_CompareLists #[v0, v1] h (fun v h' => v = .int .i64 r ∧ S ψ h h' []) := by
  apply w_spec_CompareLists
  unfold F_spec_CompareLists
  rw [p_spec_CompareLists] at hp
  have st : S ψ h h [] := S.start hψ
  refine ⟨fun h_2 => S ψ h h_2 [] ∧ p_spec_CompareLists_k1 a0 b1 = some r, ?_, ?_⟩
  · obtain ⟨n_2, hn⟩ := loop_n hp
    refine ⟨fun n i5 h_3 => S ψ h h_3 [] ∧ loopN (p_spec_CompareLists_b1 a0 b1) n i5 = some r, ⟨n_2, st.pick [] (by decide), hn⟩, ?_⟩
    rintro n _ i5 h_3 ⟨st, hn⟩
    obtain ⟨m, a, rfl, hp, hs⟩ := loopN_step hn
    rw [p_spec_CompareLists_b1] at hp
    refine ⟨fun h_4 => S ψ h h_4 [] ∧ p_spec_CompareLists_k2 a0 b1 i5 = some a, ?_, ?_⟩
    · refine vLen_C (f0.mono st.le) ?_
      refine bifP hp (fun hc hp => ?_) (fun hc hp => ?_)
      · refine vLen_C (f1.mono st.le) ?_
        refine bifP hp (fun hc hp => ?_) (fun hc hp => ?_)
        · exact ⟨st.pick [] (by decide), hp⟩
        · obtain ⟨xm, hq, rfl⟩ := omap hp
          obtain rfl := Option.some.inj hs
          exact ⟨st.pick [] (by decide), hq⟩
      · obtain ⟨xm, hq, rfl⟩ := omap hp
        obtain rfl := Option.some.inj hs
        exact ⟨st.pick [] (by decide), hq⟩
    · rintro _ h_4 ⟨st, hp⟩
      rw [p_spec_CompareLists_k2] at hp
      obtain ⟨e20, hx, hp⟩ := obind hp
      refine vIdx_C (f0.mono st.le) hx fun p20 ad => ?_
      refine ldI_C (f0.mono st.le) ad hx ?_
      obtain ⟨e24, hx_2, hp⟩ := obind hp
      refine vIdx_C (f1.mono st.le) hx_2 fun p24 ad_2 => ?_
      refine ldI_C (f1.mono st.le) ad_2 hx_2 ?_
      refine bifP hp (fun hc hp => ?_) (fun hc hp => ?_)
      · obtain rfl := Option.some.inj hp
        obtain rfl := Option.some.inj hs
        exact ⟨rfl, st.pick [] (by decide)⟩
      · obtain ⟨e29, hx_3, hp⟩ := obind hp
        refine vIdx_C (f0.mono st.le) hx_3 fun p29 ad_3 => ?_
        refine ldI_C (f0.mono st.le) ad_3 hx_3 ?_
        obtain ⟨e33, hx_4, hp⟩ := obind hp
        refine vIdx_C (f1.mono st.le) hx_4 fun p33 ad_4 => ?_
        refine ldI_C (f1.mono st.le) ad_4 hx_4 ?_
        refine bifP hp (fun hc hp => ?_) (fun hc hp => ?_)
        · obtain rfl := Option.some.inj hp
          obtain rfl := Option.some.inj hs
          exact ⟨rfl, st.pick [] (by decide)⟩
        · obtain rfl := Option.some.inj hp
          exact ⟨m, Nat.lt_succ_self _, st.pick [] (by decide), hs⟩
  · rintro _ h_2 ⟨st, hp⟩
    rw [p_spec_CompareLists_k1] at hp
    refine vLen_C (f0.mono st.le) ?_
    refine vLen_C (f1.mono st.le) ?_
    refine bifP hp (fun hc hp => ?_) (fun hc hp => ?_)
    · obtain rfl := Option.some.inj hp
      exact ⟨rfl, st.pick [] (by decide)⟩
    · refine vLen_C (f0.mono st.le) ?_
      refine vLen_C (f1.mono st.le) ?_
      refine bifP hp (fun hc hp => ?_) (fun hc hp => ?_)
      · obtain rfl := Option.some.inj hp
        exact ⟨rfl, st.pick [] (by decide)⟩
      · obtain rfl := Option.some.inj hp
        exact ⟨rfl, st.pick [] (by decide)⟩
theorem r_spec_l10Ok {ψ : CM} {h : Heap} (hψ : CLe ψ (hcell h)) {d0 : T_impl_Design} {p0 : Addr} {v0_1 : Value} {r : Bool} (hp : p_spec_l10Ok d0 = some r) (ck0 : CellsC (hcell h) p0 [.int .i64 d0.Points, v0_1]) (f0_1 : SlC (hcell h) (El.sl (El.int .i64)) v0_1 d0.Blocks) : CallsH P id_spec_l10Ok #[.pointer (some p0)] h (fun v h' => v = .bool r ∧ S ψ h h' []) := by
  apply w_spec_l10Ok
  unfold F_spec_l10Ok
  rw [p_spec_l10Ok] at hp
  have st : S ψ h h [] := S.start hψ
  refine ⟨fun h_2 => S ψ h h_2 [] ∧ p_spec_l10Ok_k1 d0 = some r, ?_, ?_⟩
  · refine ldI_K (ck0.mono st.le) 0 rfl rfl ?_
    obtain ⟨r8, hx_6, hp⟩ := obind hp
    obtain ⟨φ_3, L_3, s_3, r_4⟩ := id st
    refine (r_spec_l00In s_3.fle hx_6).mono fun v_4 h_6 ⟨eq_3, t_3⟩ => ⟨_, eq_3, ?_⟩
    replace st := join0 s_3 r_4 t_3
    clear t_3 s_3 r_4
    refine bifP hp (fun hc hp => ?_) (fun hc hp => ?_)
    · obtain rfl := Option.some.inj hp
      exact ⟨rfl, st.pick [] (by decide)⟩
    · refine ldV_K (ck0.mono st.le) 1 rfl rfl ?_
      refine vLen_C (f0_1.mono st.le) ?_
      refine bifP hp (fun hc hp => ?_) (fun hc hp => ?_)
      · obtain rfl := Option.some.inj hp
        exact ⟨rfl, st.pick [] (by decide)⟩
      · exact ⟨st.pick [] (by decide), hp⟩
  · rintro _ h_2 ⟨st, hp⟩
    rw [p_spec_l10Ok_k1] at hp
    obtain ⟨n_2, hn⟩ := loop_n hp
    refine ⟨fun n i3 h_3 => S ψ h h_3 [] ∧ loopN (p_spec_l10Ok_b1 d0) n i3 = some r, ⟨n_2, st.pick [] (by decide), hn⟩, ?_⟩
    rintro n _ i3 h_3 ⟨st, hn⟩
    obtain ⟨m, a, rfl, hp, hs⟩ := loopN_step hn
    rw [p_spec_l10Ok_b1] at hp
    refine ldV_K (ck0.mono st.le) 1 rfl rfl ?_
    refine vLen_C (f0_1.mono st.le) ?_
    refine bifP hp (fun hc hp => ?_) (fun hc hp => ?_)
    · refine ldV_K (ck0.mono st.le) 1 rfl rfl ?_
      obtain ⟨e32, hx, hp⟩ := obind hp
      refine vIdx_C (f0_1.mono st.le) hx fun p32 ad => ?_
      refine ldV_C f0_1 st.le ad hx fun u33 f => ?_
      refine ldI_K (ck0.mono st.le) 0 rfl rfl ?_
      obtain ⟨r38, hx_2, hp⟩ := obind hp
      obtain ⟨φ, L, s, r_2⟩ := id st
      refine (r_spec_l10Block s.fle hx_2 (f.mono st.le)).mono fun v_2 h_4 ⟨eq, t⟩ => ⟨_, eq, ?_⟩
      replace st := join0 s r_2 t
      clear t s r_2
      refine bifP hp (fun hc hp => ?_) (fun hc hp => ?_)
      · obtain rfl := Option.some.inj hp
        obtain rfl := Option.some.inj hs
        exact ⟨rfl, st.pick [] (by decide)⟩
      · refine bifP hp (fun hc hp => ?_) (fun hc hp => ?_)
        · refine ldV_K (ck0.mono st.le) 1 rfl rfl ?_
          obtain ⟨e50, hx_3, hp⟩ := obind hp
          refine vIdx_C (f0_1.mono st.le) hx_3 fun p50 ad_2 => ?_
          refine ldV_C f0_1 st.le ad_2 hx_3 fun u51 f_2 => ?_
          refine ldV_K (ck0.mono st.le) 1 rfl rfl ?_
          obtain ⟨e57, hx_4, hp⟩ := obind hp
          refine vIdx_C (f0_1.mono st.le) hx_4 fun p57 ad_3 => ?_
          refine ldV_C f0_1 st.le ad_3 hx_4 fun u58 f_3 => ?_
          obtain ⟨r59, hx_5, hp⟩ := obind hp
          obtain ⟨φ_2, L_2, s_2, r_3⟩ := id st
          refine (r_spec_CompareLists s_2.fle hx_5 (f_2.mono st.le) (f_3.mono st.le)).mono fun v_3 h_5 ⟨eq_2, t_2⟩ => ⟨_, eq_2, ?_⟩
          replace st := join0 s_2 r_3 t_2
          clear t_2 s_2 r_3
          refine bifP hp (fun hc hp => ?_) (fun hc hp => ?_)
          · obtain rfl := Option.some.inj hp
            obtain rfl := Option.some.inj hs
            exact ⟨rfl, st.pick [] (by decide)⟩
          · obtain rfl := Option.some.inj hp
            exact ⟨m, Nat.lt_succ_self _, st.pick [] (by decide), hs⟩
        · obtain rfl := Option.some.inj hp
          exact ⟨m, Nat.lt_succ_self _, st.pick [] (by decide), hs⟩
    · obtain rfl := Option.some.inj hp
      obtain rfl := Option.some.inj hs
      exact ⟨rfl, st.pick [] (by decide)⟩
theorem r_spec_l00Same {ψ : CM} {h : Heap} (hψ : CLe ψ (hcell h)) {a0 : List Int} {v0 : Value} {b1 : List Int} {v1 : Value} {r : Bool} (hp : p_spec_l00Same a0 b1 = some r) (f0 : SlC (hcell h) (El.int .i64) v0 a0) (f1 : SlC (hcell h) (El.int .i64) v1 b1) : CallsH P id_spec_l00Same #[v0, v1] h (fun v h' => v = .bool r ∧ S ψ h h' []) := by
  apply w_spec_l00Same
  unfold F_spec_l00Same
  rw [p_spec_l00Same] at hp
  have st : S ψ h h [] := S.start hψ
  refine vLen_C (f0.mono st.le) ?_
  refine vLen_C (f1.mono st.le) ?_
  refine bifP hp (fun hc hp => ?_) (fun hc hp => ?_)
  · obtain rfl := Option.some.inj hp
    exact ⟨rfl, st.pick [] (by decide)⟩
  · obtain ⟨n_2, hn⟩ := loop_n hp
    refine ⟨fun n i5 h_2 => S ψ h h_2 [] ∧ loopN (p_spec_l00Same_b1 a0 b1) n i5 = some r, ⟨n_2, st.pick [] (by decide), hn⟩, ?_⟩
    rintro n _ i5 h_2 ⟨st, hn⟩
    obtain ⟨m, a, rfl, hp, hs⟩ := loopN_step hn
    rw [p_spec_l00Same_b1] at hp
    refine vLen_C (f0.mono st.le) ?_
    refine bifP hp (fun hc hp => ?_) (fun hc hp => ?_)
    · obtain ⟨e19, hx, hp⟩ := obind hp
      refine vIdx_C (f0.mono st.le) hx fun p19 ad => ?_
      refine ldI_C (f0.mono st.le) ad hx ?_
      obtain ⟨e23, hx_2, hp⟩ := obind hp
      refine vIdx_C (f1.mono st.le) hx_2 fun p23 ad_2 => ?_
      refine ldI_C (f1.mono st.le) ad_2 hx_2 ?_
      refine bifP hp (fun hc hp => ?_) (fun hc hp => ?_)
      · obtain rfl := Option.some.inj hp
        obtain rfl := Option.some.inj hs
        exact ⟨rfl, st.pick [] (by decide)⟩
      · obtain rfl := Option.some.inj hp
        exact ⟨m, Nat.lt_succ_self _, st.pick [] (by decide), hs⟩
    · obtain rfl := Option.some.inj hp
      obtain rfl := Option.some.inj hs
      exact ⟨rfl, st.pick [] (by decide)⟩
theorem r_spec_l00Has {ψ : CM} {h : Heap} (hψ : CLe ψ (hcell h)) {list0 : List Int} {v0 : Value} {n1 : Int} {r : Bool} (hp : p_spec_l00Has list0 n1 = some r) (f0 : SlC (hcell h) (El.int .i64) v0 list0) : CallsH P id_spec_l00Has #[v0, .int .i64 n1] h (fun v h' => v = .bool r ∧ S ψ h h' []) := by
  apply w_spec_l00Has
  unfold F_spec_l00Has
  rw [p_spec_l00Has] at hp
  have st : S ψ h h [] := S.start hψ
  obtain ⟨n_2, hn⟩ := loop_n hp
  refine ⟨fun n i5 h_2 => S ψ h h_2 [] ∧ loopN (p_spec_l00Has_b1 list0 n1) n i5 = some r, ⟨n_2, st.pick [] (by decide), hn⟩, ?_⟩
  rintro n _ i5 h_2 ⟨st, hn⟩
  obtain ⟨m, a, rfl, hp, hs⟩ := loopN_step hn
  rw [p_spec_l00Has_b1] at hp
  refine vLen_C (f0.mono st.le) ?_
  refine bifP hp (fun hc hp => ?_) (fun hc hp => ?_)
  · obtain ⟨e14, hx, hp⟩ := obind hp
    refine vIdx_C (f0.mono st.le) hx fun p14 ad => ?_
    refine ldI_C (f0.mono st.le) ad hx ?_
    refine bifP hp (fun hc hp => ?_) (fun hc hp => ?_)
    · obtain rfl := Option.some.inj hp
      obtain rfl := Option.some.inj hs
      exact ⟨rfl, st.pick [] (by decide)⟩
    · obtain rfl := Option.some.inj hp
      exact ⟨m, Nat.lt_succ_self _, st.pick [] (by decide), hs⟩
  · obtain rfl := Option.some.inj hp
    obtain rfl := Option.some.inj hs
    exact ⟨rfl, st.pick [] (by decide)⟩
theorem r_spec_l10Pairs {ψ : CM} {h : Heap} (hψ : CLe ψ (hcell h)) {d0 : T_impl_Design} {p0 : Addr} {v0_1 : Value} {r : List Int} (hp : p_spec_l10Pairs d0 = some r) (ck0 : CellsC (hcell h) p0 [.int .i64 d0.Points, v0_1]) (f0_1 : SlC (hcell h) (El.sl (El.int .i64)) v0_1 d0.Blocks) : CallsH P id_spec_l10Pairs #[.pointer (some p0)] h (fun v h' => ∃ w0 : Value, v = w0 ∧ S ψ h h' [.it (El.ow (El.int .i64)) [w0] r]) := by
  apply w_spec_l10Pairs
  unfold F_spec_l10Pairs
  rw [p_spec_l10Pairs] at hp
  have st : S ψ h h [] := S.start hψ
  refine newS_S (E := (El.int .i64)) (css := []) (xs := ([] : List Int)) st (fun _ => rfl) rfl rfl fun v8 h_2 st => ?_
  obtain ⟨n_6, hn⟩ := loop_n hp
  refine ⟨fun n v3 a4 h_3 => ∃ out3 : List Int, S ψ h h_3 [.it (El.ow (El.int .i64)) [v3] out3] ∧ loopN (p_spec_l10Pairs_b1 d0) n (out3, a4) = some r, ⟨n_6, _, st.pick [0] (by decide), hn⟩, ?_⟩
  rintro n _ v3 a4 h_3 ⟨out3, st, hn⟩
  obtain ⟨m, a, rfl, hp, hs⟩ := loopN_step hn
  rw [p_spec_l10Pairs_b1] at hp
  refine ldI_K (ck0.mono st.le) 0 rfl rfl ?_
  refine bifP hp (fun hc hp => ?_) (fun hc hp => ?_)
  · obtain ⟨n_5, hn_2⟩ := loop_n hp
    refine ⟨fun n_2 v3_2 b5 h_4 => ∃ out3_2 : List Int, S ψ h h_4 [.it (El.ow (El.int .i64)) [v3_2] out3_2] ∧ loopN (p_spec_l10Pairs_b2 d0 a4) n_2 (out3_2, b5) = some a, ⟨n_5, _, st.pick [0] (by decide), hn_2⟩, ?_⟩
    rintro n_2 _ v3_2 b5 h_4 ⟨out3_2, st, hn_2⟩
    obtain ⟨m_2, a_2, rfl, hp, hs_2⟩ := loopN_step hn_2
    rw [p_spec_l10Pairs_b2] at hp
    refine ldI_K (ck0.mono st.le) 0 rfl rfl ?_
    refine bifP hp (fun hc hp => ?_) (fun hc hp => ?_)
    · obtain ⟨n_4, hn_3⟩ := loop_n hp
      refine ⟨fun n_3 n6 i7 h_5 => S ψ h h_5 [.it (El.ow (El.int .i64)) [v3_2] out3_2] ∧ loopN (p_spec_l10Pairs_b3 d0 a4 out3_2 b5) n_3 (n6, i7) = some a_2, ⟨n_4, st.pick [0] (by decide), hn_3⟩, ?_⟩
      rintro n_3 _ n6 i7 h_5 ⟨st, hn_3⟩
      obtain ⟨m_3, a_3, rfl, hp, hs_3⟩ := loopN_step hn_3
      rw [p_spec_l10Pairs_b3] at hp
      refine ldV_K (ck0.mono st.le) 1 rfl rfl ?_
      refine vLen_C (f0_1.mono st.le) ?_
      refine bifP hp (fun hc hp => ?_) (fun hc hp => ?_)
      · refine ldV_K (ck0.mono st.le) 1 rfl rfl ?_
        obtain ⟨e41, hx, hp⟩ := obind hp
        refine vIdx_C (f0_1.mono st.le) hx fun p41 ad => ?_
        refine ldV_C f0_1 st.le ad hx fun u42 f => ?_
        obtain ⟨r44, hx_2, hp⟩ := obind hp
        obtain ⟨φ, L, s, r_2⟩ := id st
        refine (r_spec_l00Has s.fle hx_2 (f.mono st.le)).mono fun v_2 h_6 ⟨eq, t⟩ => ⟨_, eq, ?_⟩
        replace st := join0 s r_2 t
        clear t s r_2
        refine bifP hp (fun hc hp => ?_) (fun hc hp => ?_)
        · refine ldV_K (ck0.mono st.le) 1 rfl rfl ?_
          obtain ⟨e51, hx_3, hp⟩ := obind hp
          refine vIdx_C (f0_1.mono st.le) hx_3 fun p51 ad_2 => ?_
          refine ldV_C f0_1 st.le ad_2 hx_3 fun u52 f_2 => ?_
          obtain ⟨r54, hx_4, hp⟩ := obind hp
          obtain ⟨φ_2, L_2, s_2, r_3⟩ := id st
          refine (r_spec_l00Has s_2.fle hx_4 (f_2.mono st.le)).mono fun v_3 h_7 ⟨eq_2, t_2⟩ => ⟨_, eq_2, ?_⟩
          replace st := join0 s_2 r_3 t_2
          clear t_2 s_2 r_3
          refine bifP hp (fun hc hp => ?_) (fun hc hp => ?_)
          · obtain rfl := Option.some.inj hp
            exact ⟨m_3, Nat.lt_succ_self _, st.pick [0] (by decide), hs_3⟩
          · obtain rfl := Option.some.inj hp
            exact ⟨m_3, Nat.lt_succ_self _, st.pick [0] (by decide), hs_3⟩
        · obtain rfl := Option.some.inj hp
          exact ⟨m_3, Nat.lt_succ_self _, st.pick [0] (by decide), hs_3⟩
      · obtain ⟨l61, hx_5, hp⟩ := obind hp
        refine push_S st 0 rfl (fun _ => ⟨rfl, rfl⟩) rfl rfl hx_5 fun v61 h_8 st => ?_
        dsimp only [List.set] at st
        obtain rfl := Option.some.inj hp
        obtain rfl := Option.some.inj hs_3
        exact ⟨m_2, Nat.lt_succ_self _, _, st.pick [0] (by decide), hs_2⟩
    · obtain rfl := Option.some.inj hp
      obtain rfl := Option.some.inj hs_2
      exact ⟨m, Nat.lt_succ_self _, _, st.pick [0] (by decide), hs⟩
  · obtain rfl := Option.some.inj hp
    obtain rfl := Option.some.inj hs
    exact ⟨v3, rfl, st.pick [0] (by decide)⟩
theorem r_spec_l28Packing {ψ : CM} {h : Heap} (hψ : CLe ψ (hcell h)) {y0 : T_impl_Design} {p0 : Addr} {v0_1 : Value} {y1 : Int} {y2 : Int} {r : Bool} (hp : p_spec_l28Packing y0 y1 y2 = some r) (ck0 : CellsC (hcell h) p0 [.int .i64 y0.Points, v0_1]) (f0_1 : SlC (hcell h) (El.sl (El.int .i64)) v0_1 y0.Blocks) : CallsH P id_spec_l28Packing #[.pointer (some p0), .int .i64 y1, .int .i64 y2] h (fun v h' => v = .bool r ∧ S ψ h h' []) := by
  apply w_spec_l28Packing
  unfold F_spec_l28Packing
  rw [p_spec_l28Packing] at hp
  have st : S ψ h h [] := S.start hψ
  refine ⟨fun h_2 => S ψ h h_2 [] ∧ p_spec_l28Packing_k1 y0 y1 y2 = some r, ?_, ?_⟩
  · obtain ⟨r11, hx_7, hp⟩ := obind hp
    obtain ⟨φ_3, L_3, s_3, r_4⟩ := id st
    refine (r_spec_l10Ok s_3.fle hx_7 (ck0.mono st.le) (f0_1.mono st.le)).mono fun v_4 h_7 ⟨eq_3, t_3⟩ => ⟨_, eq_3, ?_⟩
    replace st := join0 s_3 r_4 t_3
    clear t_3 s_3 r_4
    refine bifP hp (fun hc hp => ?_) (fun hc hp => ?_)
    · obtain rfl := Option.some.inj hp
      exact ⟨rfl, st.pick [] (by decide)⟩
    · refine bifP hp (fun hc hp => ?_) (fun hc hp => ?_)
      · obtain rfl := Option.some.inj hp
        exact ⟨rfl, st.pick [] (by decide)⟩
      · exact ⟨st.pick [] (by decide), hp⟩
  · rintro _ h_2 ⟨st, hp⟩
    rw [p_spec_l28Packing_k1] at hp
    obtain ⟨n_4, hn⟩ := loop_n hp
    refine ⟨fun n y7 h_3 => S ψ h h_3 [] ∧ loopN (p_spec_l28Packing_b1 y0 y1 y2) n y7 = some r, ⟨n_4, st.pick [] (by decide), hn⟩, ?_⟩
    rintro n _ y7 h_3 ⟨st, hn⟩
    obtain ⟨m, a, rfl, hp, hs⟩ := loopN_step hn
    rw [p_spec_l28Packing_b1] at hp
    refine ldV_K (ck0.mono st.le) 1 rfl rfl ?_
    refine vLen_C (f0_1.mono st.le) ?_
    refine bifP hp (fun hc hp => ?_) (fun hc hp => ?_)
    · refine ldV_K (ck0.mono st.le) 1 rfl rfl ?_
      obtain ⟨e31, hx, hp⟩ := obind hp
      refine vIdx_C (f0_1.mono st.le) hx fun p31 ad => ?_
      refine ldV_C f0_1 st.le ad hx fun u32 f => ?_
      refine vLen_C (f.mono st.le) ?_
      refine bifP hp (fun hc hp => ?_) (fun hc hp => ?_)
      · obtain rfl := Option.some.inj hp
        obtain rfl := Option.some.inj hs
        exact ⟨rfl, st.pick [] (by decide)⟩
      · refine bifP hp (fun hc hp => ?_) (fun hc hp => ?_)
        · refine ldV_K (ck0.mono st.le) 1 rfl rfl ?_
          obtain ⟨e45, hx_2, hp⟩ := obind hp
          refine vIdx_C (f0_1.mono st.le) hx_2 fun p45 ad_2 => ?_
          refine ldV_C f0_1 st.le ad_2 hx_2 fun u46 f_2 => ?_
          refine ldV_K (ck0.mono st.le) 1 rfl rfl ?_
          obtain ⟨e53, hx_3, hp⟩ := obind hp
          refine vIdx_C (f0_1.mono st.le) hx_3 fun p53 ad_3 => ?_
          refine ldV_C f0_1 st.le ad_3 hx_3 fun u54 f_3 => ?_
          obtain ⟨r55, hx_4, hp⟩ := obind hp
          obtain ⟨φ, L, s, r_2⟩ := id st
          refine (r_spec_l00Same s.fle hx_4 (f_2.mono st.le) (f_3.mono st.le)).mono fun v_2 h_4 ⟨eq, t⟩ => ⟨_, eq, ?_⟩
          replace st := join0 s r_2 t
          clear t s r_2
          refine bifP hp (fun hc hp => ?_) (fun hc hp => ?_)
          · obtain rfl := Option.some.inj hp
            obtain rfl := Option.some.inj hs
            exact ⟨rfl, st.pick [] (by decide)⟩
          · obtain rfl := Option.some.inj hp
            exact ⟨m, Nat.lt_succ_self _, st.pick [] (by decide), hs⟩
        · obtain rfl := Option.some.inj hp
          exact ⟨m, Nat.lt_succ_self _, st.pick [] (by decide), hs⟩
    · obtain ⟨r59, hx_5, hp⟩ := obind hp
      obtain ⟨φ_2, L_2, s_2, r_3⟩ := id st
      refine (r_spec_l10Pairs s_2.fle hx_5 (ck0.mono st.le) (f0_1.mono st.le)).mono fun v_3 h_5 ⟨v59, eq_2, t_2⟩ => ⟨_, eq_2, ?_⟩
      replace st := join1 s_2 r_3 t_2
      clear t_2 s_2 r_3
      obtain ⟨n_3, hn_2⟩ := loop_n hp
      refine ⟨fun n_2 y9 h_6 => S ψ h h_6 [.it (El.ow (El.int .i64)) [v59] r59] ∧ loopN (p_spec_l28Packing_b2 y2 r59) n_2 y9 = some a, ⟨n_3, st.pick [0] (by decide), hn_2⟩, ?_⟩
      rintro n_2 _ y9 h_6 ⟨st, hn_2⟩
      obtain ⟨m_2, a_2, rfl, hp, hs_2⟩ := loopN_step hn_2
      rw [p_spec_l28Packing_b2] at hp
      refine vLen_C (st.rdL 0 rfl (frz_int _)) ?_
      refine bifP hp (fun hc hp => ?_) (fun hc hp => ?_)
      · obtain ⟨e68, hx_6, hp⟩ := obind hp
        refine vIdx_C (st.rdL 0 rfl (frz_int _)) hx_6 fun p68 ad_4 => ?_
        refine ldI_C (st.rdL 0 rfl (frz_int _)) ad_4 hx_6 ?_
        refine bifP hp (fun hc hp => ?_) (fun hc hp => ?_)
        · obtain rfl := Option.some.inj hp
          obtain rfl := Option.some.inj hs_2
          obtain rfl := Option.some.inj hs
          exact ⟨rfl, st.pick [] (by decide)⟩
        · obtain rfl := Option.some.inj hp
          exact ⟨m_2, Nat.lt_succ_self _, st.pick [0] (by decide), hs_2⟩
      · obtain rfl := Option.some.inj hp
        obtain rfl := Option.some.inj hs_2
        obtain rfl := Option.some.inj hs
        exact ⟨rfl, st.pick [] (by decide)⟩
theorem r_spec_Choose {ψ : CM} {h : Heap} (hψ : CLe ψ (hcell h)) {n0 : Int} {k1 : Int} {r : Int} (hp : p_spec_Choose n0 k1 = some r)  : CallsH P id_spec_Choose #[.int .i64 n0, .int .i64 k1] h (fun v h' => v = .int .i64 r ∧ S ψ h h' []) := by
  apply w_spec_Choose
  unfold F_spec_Choose
  rw [p_spec_Choose] at hp
  have st : S ψ h h [] := S.start hψ
  refine ⟨fun h_2 => S ψ h h_2 [] ∧ p_spec_Choose_k1 n0 k1 = some r, ?_, ?_⟩
  · obtain ⟨r8, hx_2, hp⟩ := obind hp
    obtain ⟨φ, L, s, r_2⟩ := id st
    refine (r_spec_l00In s.fle hx_2).mono fun v_2 h_4 ⟨eq, t⟩ => ⟨_, eq, ?_⟩
    replace st := join0 s r_2 t
    clear t s r_2
    refine bifP hp (fun hc hp => ?_) (fun hc hp => ?_)
    · obtain rfl := Option.some.inj hp
      exact ⟨rfl, st.pick [] (by decide)⟩
    · obtain ⟨r13, hx_3, hp⟩ := obind hp
      obtain ⟨φ_2, L_2, s_2, r_3⟩ := id st
      refine (r_spec_l00In s_2.fle hx_3).mono fun v_3 h_5 ⟨eq_2, t_2⟩ => ⟨_, eq_2, ?_⟩
      replace st := join0 s_2 r_3 t_2
      clear t_2 s_2 r_3
      refine bifP hp (fun hc hp => ?_) (fun hc hp => ?_)
      · obtain rfl := Option.some.inj hp
        exact ⟨rfl, st.pick [] (by decide)⟩
      · exact ⟨st.pick [] (by decide), hp⟩
  · rintro _ h_2 ⟨st, hp⟩
    rw [p_spec_Choose_k1] at hp
    obtain ⟨n_2, hn⟩ := loop_n hp
    refine ⟨fun n out5 i6 h_3 => S ψ h h_3 [] ∧ loopN (p_spec_Choose_b1 n0 k1) n (out5, i6) = some r, ⟨n_2, st.pick [] (by decide), hn⟩, ?_⟩
    rintro n _ out5 i6 h_3 ⟨st, hn⟩
    obtain ⟨m, a, rfl, hp, hs⟩ := loopN_step hn
    rw [p_spec_Choose_b1] at hp
    refine bifP hp (fun hc hp => ?_) (fun hc hp => ?_)
    · obtain ⟨_, hx, hp⟩ := obind hp
      refine ⟨gNz_some hx, ?_⟩
      obtain rfl := Option.some.inj hp
      exact ⟨m, Nat.lt_succ_self _, st.pick [] (by decide), hs⟩
    · obtain rfl := Option.some.inj hp
      obtain rfl := Option.some.inj hs
      exact ⟨rfl, st.pick [] (by decide)⟩
theorem r_spec_l28Ask {ψ : CM} {h : Heap} (hψ : CLe ψ (hcell h)) {v0 : Int} {k1 : Int} {lambda2 : Int} {r : Int} (hp : p_spec_l28Ask v0 k1 lambda2 = some r)  : CallsH P id_spec_l28Ask #[.int .i64 v0, .int .i64 k1, .int .i64 lambda2] h (fun v h' => v = .int .i64 r ∧ S ψ h h' []) := by
  apply w_spec_l28Ask
  unfold F_spec_l28Ask
  rw [p_spec_l28Ask] at hp
  have st : S ψ h h [] := S.start hψ
  refine ⟨fun h_2 => S ψ h h_2 [] ∧ p_spec_l28Ask_k1 v0 k1 = some r, ?_, ?_⟩
  · obtain ⟨r8, hx_2, hp⟩ := obind hp
    obtain ⟨φ_2, L_2, s_2, r_3⟩ := id st
    refine (r_spec_l00In s_2.fle hx_2).mono fun v_3 h_4 ⟨eq_2, t_2⟩ => ⟨_, eq_2, ?_⟩
    replace st := join0 s_2 r_3 t_2
    clear t_2 s_2 r_3
    refine bifP hp (fun hc hp => ?_) (fun hc hp => ?_)
    · obtain rfl := Option.some.inj hp
      exact ⟨rfl, st.pick [] (by decide)⟩
    · obtain ⟨r13, hx_3, hp⟩ := obind hp
      obtain ⟨φ_3, L_3, s_3, r_4⟩ := id st
      refine (r_spec_l00In s_3.fle hx_3).mono fun v_4 h_5 ⟨eq_3, t_3⟩ => ⟨_, eq_3, ?_⟩
      replace st := join0 s_3 r_4 t_3
      clear t_3 s_3 r_4
      refine bifP hp (fun hc hp => ?_) (fun hc hp => ?_)
      · obtain rfl := Option.some.inj hp
        exact ⟨rfl, st.pick [] (by decide)⟩
      · obtain ⟨r18, hx_4, hp⟩ := obind hp
        obtain ⟨φ_4, L_4, s_4, r_5⟩ := id st
        refine (r_spec_l00In s_4.fle hx_4).mono fun v_5 h_6 ⟨eq_4, t_4⟩ => ⟨_, eq_4, ?_⟩
        replace st := join0 s_4 r_5 t_4
        clear t_4 s_4 r_5
        refine bifP hp (fun hc hp => ?_) (fun hc hp => ?_)
        · obtain rfl := Option.some.inj hp
          exact ⟨rfl, st.pick [] (by decide)⟩
        · exact ⟨st.pick [] (by decide), hp⟩
  · rintro _ h_2 ⟨st, hp⟩
    rw [p_spec_l28Ask_k1] at hp
    obtain ⟨r23, hx, hp⟩ := obind hp
    obtain ⟨φ, L, s, r_2⟩ := id st
    refine (r_spec_Choose s.fle hx).mono fun v_2 h_3 ⟨eq, t⟩ => ⟨_, eq, ?_⟩
    replace st := join0 s r_2 t
    clear t s r_2
    refine bifP hp (fun hc hp => ?_) (fun hc hp => ?_)
    · obtain rfl := Option.some.inj hp
      exact ⟨rfl, st.pick [] (by decide)⟩
    · obtain rfl := Option.some.inj hp
      exact ⟨rfl, st.pick [] (by decide)⟩
theorem r_spec_l00Own {ψ : CM} {h : Heap} (hψ : CLe ψ (hcell h)) {list0 : List Int} {v0 : Value} {r : List Int} (hp : p_spec_l00Own list0 = some r) (f0 : SlC (hcell h) (El.int .i64) v0 list0) : CallsH P id_spec_l00Own #[v0] h (fun v h' => ∃ w0 : Value, v = w0 ∧ S ψ h h' [.it (El.ow (El.int .i64)) [w0] r]) := by
  apply w_spec_l00Own
  unfold F_spec_l00Own
  rw [p_spec_l00Own] at hp
  have st : S ψ h h [] := S.start hψ
  refine newS_S (E := (El.int .i64)) (css := []) (xs := ([] : List Int)) st (fun _ => rfl) rfl rfl fun v3 h_2 st => ?_
  obtain ⟨l5, hx, hp⟩ := obind hp
  refine app_S st 0 rfl (src_plain (plain_int _) (f0.mono st.le)) rfl rfl hx fun v5 h_3 st => ?_
  dsimp only [List.set] at st
  obtain rfl := Option.some.inj hp
  exact ⟨v5, rfl, st.pick [0] (by decide)⟩
theorem r_spec_l28All {ψ : CM} {h : Heap} (hψ : CLe ψ (hcell h)) {y0 : Int} {y1 : Int} {r : List (List Int)} (hp : p_spec_l28All y0 y1 = some r)  : CallsH P id_spec_l28All #[.int .i64 y0, .int .i64 y1] h (fun v h' => ∃ w0 : Value, v = w0 ∧ S ψ h h' [.it (El.ow (El.sl (El.int .i64))) [w0] r]) := by
  apply w_spec_l28All
  unfold F_spec_l28All
  rw [p_spec_l28All] at hp
  have st : S ψ h h [] := S.start hψ
  refine newS_S (E := (El.int .i64)) (css := []) (xs := ([] : List Int)) st (fun _ => rfl) rfl rfl fun v10 h_2 st => ?_
  obtain ⟨n_8, hn⟩ := loop_n hp
  refine ⟨fun n v5 y6 h_3 => ∃ y5 : List Int, S ψ h h_3 [.it (El.ow (El.int .i64)) [v5] y5] ∧ loopN (p_spec_l28All_b1 y0 y1) n (y5, y6) = some r, ⟨n_8, _, st.pick [0] (by decide), hn⟩, ?_⟩
  rintro n _ v5 y6 h_3 ⟨y5, st, hn⟩
  obtain ⟨m, a, rfl, hp, hs⟩ := loopN_step hn
  rw [p_spec_l28All_b1] at hp
  refine bifP hp (fun hc hp => ?_) (fun hc hp => ?_)
  · obtain ⟨l19, hx, hp⟩ := obind hp
    refine push_S st 0 rfl (fun _ => ⟨rfl, rfl⟩) rfl rfl hx fun v19 h_4 st => ?_
    dsimp only [List.set] at st
    obtain rfl := Option.some.inj hp
    exact ⟨m, Nat.lt_succ_self _, _, st.pick [0] (by decide), hs⟩
  · refine newS_S (E := (El.sl (El.int .i64))) (css := []) (xs := ([] : List (List Int))) st (fun _ => rfl) rfl rfl fun v20 h_5 st => ?_
    obtain ⟨n_7, hn_2⟩ := loop_n hp
    refine ⟨fun n_2 v7 h_6 => ∃ y7 : List (List Int), ∃ xs : List Int, S ψ h h_6 [.it (El.ow (El.sl (El.int .i64))) [v7] y7, .it (El.ow (El.int .i64)) [v5] xs] ∧ loopN (p_spec_l28All_b2 y0 y1) n_2 (y7, xs) = some a, ⟨n_7, _, _, st.pick [0, 1] (by decide), hn_2⟩, ?_⟩
    rintro n_2 _ v7 h_6 ⟨y7, xs, st, hn_2⟩
    obtain ⟨m_2, a_2, rfl, hp, hs_2⟩ := loopN_step hn_2
    rw [p_spec_l28All_b2] at hp
    obtain ⟨r23, hx_2, hp⟩ := obind hp
    obtain ⟨φ, L, s, r_2⟩ := id st
    refine (r_spec_l00Own s.fle hx_2 (st.rdL 1 rfl (frz_int _))).mono fun v_2 h_7 ⟨v23, eq, t⟩ => ⟨_, eq, ?_⟩
    replace st := join1 s r_2 t
    clear t s r_2
    refine vOne_of (st.rdL 0 rfl (frz_int _)).one ?_
    have st := st.freeze 0 rfl (frz_ow (frz_int _))
    dsimp only [List.set] at st
    have st := st.copyF 0 rfl
    obtain ⟨l25, hx_3, hp⟩ := obind hp
    refine push_it st 1 rfl rfl rfl hx_3 fun v25 h_8 st => ?_
    dsimp only [List.set] at st
    refine ⟨fun y8 h_9 => S ψ h h_9 [.it (El.sl (El.int .i64)) [v23] r23, .it (El.ow (El.sl (El.int .i64))) [v25] l25, .it (El.ow (El.int .i64)) [v5] xs] ∧ p_spec_l28All_k1 y1 xs l25 y8 = some a_2, ?_, ?_⟩
    · obtain ⟨n_6, hn_4⟩ := loop_n hp
      refine ⟨fun n_5 y8_2 h_13 => S ψ h h_13 [.it (El.sl (El.int .i64)) [v23] r23, .it (El.ow (El.sl (El.int .i64))) [v25] l25, .it (El.ow (El.int .i64)) [v5] xs] ∧ loopN (p_spec_l28All_b4 y0 y1 xs l25) n_5 y8_2 = some a_2, ⟨n_6, st.pick [0, 1, 2] (by decide), hn_4⟩, ?_⟩
      rintro n_5 _ y8_2 h_13 ⟨st, hn_4⟩
      obtain ⟨m_4, a_4, rfl, hp, hs_4⟩ := loopN_step hn_4
      rw [p_spec_l28All_b4] at hp
      refine bifP hp (fun hc hp => ?_) (fun hc hp => ?_)
      · obtain ⟨e33, hx_8, hp⟩ := obind hp
        refine vIdx_C (st.rdL 2 rfl (frz_int _)) hx_8 fun p33 ad_5 => ?_
        refine ldI_C (st.rdL 2 rfl (frz_int _)) ad_5 hx_8 ?_
        refine bifP hp (fun hc hp => ?_) (fun hc hp => ?_)
        · obtain rfl := Option.some.inj hp
          exact ⟨m_4, Nat.lt_succ_self _, st.pick [0, 1, 2] (by decide), hs_4⟩
        · obtain ⟨xm, hq, rfl⟩ := omap hp
          obtain rfl := Option.some.inj hs_4
          exact ⟨st.pick [0, 1, 2] (by decide), hq⟩
      · obtain ⟨xm, hq, rfl⟩ := omap hp
        obtain rfl := Option.some.inj hs_4
        exact ⟨st.pick [0, 1, 2] (by decide), hq⟩
    · rintro _ y8 h_9 ⟨st, hp⟩
      rw [p_spec_l28All_k1] at hp
      refine bifP hp (fun hc hp => ?_) (fun hc hp => ?_)
      · obtain rfl := Option.some.inj hp
        obtain rfl := Option.some.inj hs_2
        obtain rfl := Option.some.inj hs
        exact ⟨v25, rfl, st.pick [1] (by decide)⟩
      · obtain ⟨e49, hx_4, hp⟩ := obind hp
        refine vIdx_C (st.rdL 2 rfl (frz_int _)) hx_4 fun p49 ad => ?_
        refine ldI_C (st.rdL 2 rfl (frz_int _)) ad hx_4 ?_
        obtain ⟨e52, hx_5, hp⟩ := obind hp
        refine vIdx_C (st.rdL 2 rfl (frz_int _)) hx_5 fun p52 ad_2 => ?_
        refine st1_S st 2 rfl ad_2 hx_5 rfl (fun _ => ⟨rfl, rfl⟩) fun h_10 st => ?_
        dsimp only [List.set] at st
        obtain ⟨n_4, hn_3⟩ := loop_n hp
        refine ⟨fun n_3 y9 h_11 => ∃ xs_2 : List Int, S ψ h h_11 [.it (El.sl (El.int .i64)) [v23] r23, .it (El.ow (El.sl (El.int .i64))) [v25] l25, .it (El.ow (El.int .i64)) [v5] xs_2] ∧ loopN (p_spec_l28All_b3 y1 l25) n_3 (y9, xs_2) = some a_2, ⟨n_4, _, st.pick [0, 1, 2] (by decide), hn_3⟩, ?_⟩
        rintro n_3 _ y9 h_11 ⟨xs_2, st, hn_3⟩
        obtain ⟨m_3, a_3, rfl, hp, hs_3⟩ := loopN_step hn_3
        rw [p_spec_l28All_b3] at hp
        refine bifP hp (fun hc hp => ?_) (fun hc hp => ?_)
        · obtain ⟨e65, hx_6, hp⟩ := obind hp
          refine vIdx_C (st.rdL 2 rfl (frz_int _)) hx_6 fun p65 ad_3 => ?_
          refine ldI_C (st.rdL 2 rfl (frz_int _)) ad_3 hx_6 ?_
          obtain ⟨e68, hx_7, hp⟩ := obind hp
          refine vIdx_C (st.rdL 2 rfl (frz_int _)) hx_7 fun p68 ad_4 => ?_
          refine st1_S st 2 rfl ad_4 hx_7 rfl (fun _ => ⟨rfl, rfl⟩) fun h_12 st => ?_
          dsimp only [List.set] at st
          obtain rfl := Option.some.inj hp
          exact ⟨m_3, Nat.lt_succ_self _, _, st.pick [0, 1, 2] (by decide), hs_3⟩
        · obtain rfl := Option.some.inj hp
          obtain rfl := Option.some.inj hs_3
          exact ⟨m_2, Nat.lt_succ_self _, _, _, st.pick [1, 2] (by decide), hs_2⟩
theorem r_spec_l05Find {ψ : CM} {h : Heap} (hψ : CLe ψ (hcell h)) {list0 : List (List Int)} {v0 : Value} {p1 : List Int} {v1 : Value} {r : Int × Bool} (hp : p_spec_l05Find list0 p1 = some r) (f0 : SlC (hcell h) (El.sl (El.int .i64)) v0 list0) (f1 : SlC (hcell h) (El.int .i64) v1 p1) : CallsH P id_spec_l05Find #[v0, v1] h (fun v h' => v = .tuple #[.int .i64 r.1, .bool r.2] ∧ S ψ h h' []) := by
  apply w_spec_l05Find
  unfold F_spec_l05Find
  rw [p_spec_l05Find] at hp
  have st : S ψ h h [] := S.start hψ
  refine vLen_C (f0.mono st.le) ?_
  obtain ⟨n_2, hn⟩ := loop_n hp
  refine ⟨fun n low6 high7 h_2 => S ψ h h_2 [] ∧ loopN (p_spec_l05Find_b1 list0 p1) n (low6, high7) = some r, ⟨n_2, st.pick [] (by decide), hn⟩, ?_⟩
  rintro n _ low6 high7 h_2 ⟨st, hn⟩
  obtain ⟨m, a, rfl, hp, hs⟩ := loopN_step hn
  rw [p_spec_l05Find_b1] at hp
  refine bifP hp (fun hc hp => ?_) (fun hc hp => ?_)
  · obtain ⟨_, hx, hp⟩ := obind hp
    refine ⟨gNz_some hx, ?_⟩
    obtain ⟨e21, hx_2, hp⟩ := obind hp
    refine vIdx_C (f0.mono st.le) hx_2 fun p21 ad => ?_
    refine ldV_C f0 st.le ad hx_2 fun u22 f => ?_
    obtain ⟨r24, hx_3, hp⟩ := obind hp
    obtain ⟨φ, L, s, r_2⟩ := id st
    refine (r_spec_CompareLists s.fle hx_3 (f.mono st.le) (f1.mono st.le)).mono fun v_2 h_3 ⟨eq, t⟩ => ⟨_, eq, ?_⟩
    replace st := join0 s r_2 t
    clear t s r_2
    refine bifP hp (fun hc hp => ?_) (fun hc hp => ?_)
    · obtain rfl := Option.some.inj hp
      obtain rfl := Option.some.inj hs
      exact ⟨rfl, st.pick [] (by decide)⟩
    · refine bifP hp (fun hc hp => ?_) (fun hc hp => ?_)
      · obtain rfl := Option.some.inj hp
        exact ⟨m, Nat.lt_succ_self _, st.pick [] (by decide), hs⟩
      · obtain rfl := Option.some.inj hp
        exact ⟨m, Nat.lt_succ_self _, st.pick [] (by decide), hs⟩
  · obtain rfl := Option.some.inj hp
    obtain rfl := Option.some.inj hs
    exact ⟨rfl, st.pick [] (by decide)⟩
theorem r_spec_l24Pair {ψ : CM} {h : Heap} (hψ : CLe ψ (hcell h)) {points0 : Int} {a1 : Int} {b2 : Int} {r : Int} (hp : p_spec_l24Pair points0 a1 b2 = some r)  : CallsH P id_spec_l24Pair #[.int .i64 points0, .int .i64 a1, .int .i64 b2] h (fun v h' => v = .int .i64 r ∧ S ψ h h' []) := by
  apply w_spec_l24Pair
  unfold F_spec_l24Pair
  rw [p_spec_l24Pair] at hp
  have st : S ψ h h [] := S.start hψ
  obtain ⟨_, hx, hp⟩ := obind hp
  refine ⟨gNz_some hx, ?_⟩
  obtain rfl := Option.some.inj hp
  exact ⟨rfl, st.pick [] (by decide)⟩
theorem r_spec_l28Search_add {ψ : CM} {h0 h : Heap} {os : List Ob} {x0 : T_spec_l28Search} {b0 : Nat} {post0 : List Value} {v0_2 : Value} {v0_3 : Value} {v0_4 : Value} {v0_5 : Value} {v0_10 : Value} {block1 : Int} {by2 : Int} {r : T_spec_l28Search} (hp : p_spec_l28Search_add x0 block1 by2 = some r) (st : S ψ h0 h (.box b0 (.int .i64 x0.qv :: .int .i64 x0.qlambda :: v0_2 :: v0_3 :: v0_4 :: v0_5 :: .int .i64 x0.qnodes :: .int .i64 x0.qbudget :: .int .i64 x0.qcount :: .bool x0.qfirst :: v0_10 :: post0) :: .it (El.ow El.bool) [v0_3] x0.qused :: .it (El.ow (El.int .i64)) [v0_4] x0.qpairs :: .it (El.ow (El.int .i64)) [v0_5] x0.qchosen :: .it (El.ow (El.int .i64)) [v0_10] x0.qfound :: os)) (f0_2 : SlC (UB ψ h0) (El.sl (El.int .i64)) v0_2 x0.qall) : CallsH P id_spec_l28Search_add #[.pointer (some ⟨b0, 0, none⟩), .int .i64 block1, .int .i64 by2] h (fun v h' => ∃ w0 : Value, ∃ w1 : Value, ∃ w2 : Value, ∃ w3 : Value, v = .tuple #[] ∧ S ψ h0 h' (.box b0 (.int .i64 r.qv :: .int .i64 r.qlambda :: v0_2 :: w0 :: w1 :: w2 :: .int .i64 r.qnodes :: .int .i64 r.qbudget :: .int .i64 r.qcount :: .bool r.qfirst :: w3 :: post0) :: .it (El.ow El.bool) [w0] r.qused :: .it (El.ow (El.int .i64)) [w1] r.qpairs :: .it (El.ow (El.int .i64)) [w2] r.qchosen :: .it (El.ow (El.int .i64)) [w3] r.qfound :: os)) := by
  apply w_spec_l28Search_add
  unfold F_spec_l28Search_add
  rw [p_spec_l28Search_add] at hp
  refine ldV_K (st.cells 0 rfl) 2 rfl rfl ?_
  obtain ⟨e14, hx, hp⟩ := obind hp
  refine vIdx_C (f0_2.mono st.leU) hx fun p14 ad => ?_
  refine ldV_C f0_2 st.leU ad hx fun u15 f => ?_
  refine ldV_K (st.cells 0 rfl) 3 rfl rfl ?_
  obtain ⟨e23, hx_2, hp⟩ := obind hp
  refine vIdx_C (st.rdL 1 rfl frz_bool) hx_2 fun p23 ad_2 => ?_
  refine st1_S st 1 rfl ad_2 hx_2 rfl (fun _ => ⟨rfl, rfl⟩) fun h_2 st => ?_
  dsimp only [List.set] at st
  obtain ⟨n_4, hn⟩ := loop_n hp
  refine ⟨fun n i7 h_3 => ∃ xs : List Int, S ψ h0 h_3 (.box b0 (.int .i64 x0.qv :: .int .i64 x0.qlambda :: v0_2 :: v0_3 :: v0_4 :: v0_5 :: .int .i64 x0.qnodes :: .int .i64 x0.qbudget :: .int .i64 x0.qcount :: .bool x0.qfirst :: v0_10 :: post0) :: .it (El.ow El.bool) [v0_3] (x0.qused.set (block1 : Int).toNat (decide ((by2 : Int) > 0))) :: .it (El.ow (El.int .i64)) [v0_4] xs :: .it (El.ow (El.int .i64)) [v0_5] x0.qchosen :: .it (El.ow (El.int .i64)) [v0_10] x0.qfound :: os) ∧ loopN (p_spec_l28Search_add_b1 x0 block1 by2 e14) n (i7, xs) = some r, ⟨n_4, _, st.pickT 5 [0, 1, 2, 3, 4] (by decide) (by decide), hn⟩, ?_⟩
  rintro n _ i7 h_3 ⟨xs, st, hn⟩
  obtain ⟨m, a, rfl, hp, hs⟩ := loopN_step hn
  rw [p_spec_l28Search_add_b1] at hp
  refine vLen_C (f.mono st.leU) ?_
  refine bifP hp (fun hc hp => ?_) (fun hc hp => ?_)
  · obtain ⟨n_3, hn_2⟩ := loop_n hp
    refine ⟨fun n_2 k8 h_4 => ∃ xs_2 : List Int, S ψ h0 h_4 (.box b0 (.int .i64 x0.qv :: .int .i64 x0.qlambda :: v0_2 :: v0_3 :: v0_4 :: v0_5 :: .int .i64 x0.qnodes :: .int .i64 x0.qbudget :: .int .i64 x0.qcount :: .bool x0.qfirst :: v0_10 :: post0) :: .it (El.ow El.bool) [v0_3] (x0.qused.set (block1 : Int).toNat (decide ((by2 : Int) > 0))) :: .it (El.ow (El.int .i64)) [v0_4] xs_2 :: .it (El.ow (El.int .i64)) [v0_5] x0.qchosen :: .it (El.ow (El.int .i64)) [v0_10] x0.qfound :: os) ∧ loopN (p_spec_l28Search_add_b2 x0 by2 e14 i7) n_2 (k8, xs_2) = some a, ⟨n_3, _, st.pickT 5 [0, 1, 2, 3, 4] (by decide) (by decide), hn_2⟩, ?_⟩
    rintro n_2 _ k8 h_4 ⟨xs_2, st, hn_2⟩
    obtain ⟨m_2, a_2, rfl, hp, hs_2⟩ := loopN_step hn_2
    rw [p_spec_l28Search_add_b2] at hp
    refine vLen_C (f.mono st.leU) ?_
    refine bifP hp (fun hc hp => ?_) (fun hc hp => ?_)
    · have stR_7 := st
      have xR_7 := ExtH.refl h_4
      refine ldI_K (st.cells 0 rfl) 0 rfl rfl ?_
      obtain ⟨e48, hx_3, hp⟩ := obind hp
      refine vIdx_C (f.mono st.leU) hx_3 fun p48 ad_3 => ?_
      refine ldI_C (f.mono st.leU) ad_3 hx_3 ?_
      obtain ⟨e52, hx_4, hp⟩ := obind hp
      refine vIdx_C (f.mono st.leU) hx_4 fun p52 ad_4 => ?_
      refine ldI_C (f.mono st.leU) ad_4 hx_4 ?_
      obtain ⟨r54, hx_5, hp⟩ := obind hp
      obtain ⟨φ, L, s, r_2⟩ := id st
      refine (r_spec_l24Pair s.fle hx_5).mono fun v_2 h_5 ⟨eq, t⟩ => ⟨_, eq, xR_7.trans t.ext, ?_⟩
      replace xR_7 := xR_7.trans t.ext
      replace st := join0 s r_2 t
      clear t s r_2
      refine ldV_K (stR_7.cells 0 rfl) 4 rfl rfl ?_
      obtain ⟨e55, hx_6, hp⟩ := obind hp
      refine vIdx_C (st.rdL 2 rfl (frz_int _)) hx_6 fun p55 ad_5 => ?_
      refine ldI_C (st.rdL 2 rfl (frz_int _)) ad_5 hx_6 ?_
      obtain ⟨e59, hx_7, hp⟩ := obind hp
      refine vIdx_C (st.rdL 2 rfl (frz_int _)) hx_7 fun p59 ad_6 => ?_
      refine st1_S st 2 rfl ad_6 hx_7 rfl (fun _ => ⟨rfl, rfl⟩) fun h_6 st => ?_
      dsimp only [List.set] at st
      obtain rfl := Option.some.inj hp
      exact ⟨m_2, Nat.lt_succ_self _, _, st.pickT 5 [0, 1, 2, 3, 4] (by decide) (by decide), hs_2⟩
    · obtain rfl := Option.some.inj hp
      obtain rfl := Option.some.inj hs_2
      exact ⟨m, Nat.lt_succ_self _, _, st.pickT 5 [0, 1, 2, 3, 4] (by decide) (by decide), hs⟩
  · obtain rfl := Option.some.inj hp
    obtain rfl := Option.some.inj hs
    exact ⟨v0_3, v0_4, v0_5, v0_10, rfl, st.pickT 5 [0, 1, 2, 3, 4] (by decide) (by decide)⟩
theorem r_spec_l28Search_fits {ψ : CM} {h : Heap} (hψ : CLe ψ (hcell h)) {x0 : T_spec_l28Search} {p0 : Addr} {v0_2 : Value} {v0_3 : Value} {v0_4 : Value} {v0_5 : Value} {v0_10 : Value} {block1 : Int} {r : Bool} (hp : p_spec_l28Search_fits x0 block1 = some r) (ck0 : CellsC (hcell h) p0 [.int .i64 x0.qv, .int .i64 x0.qlambda, v0_2, v0_3, v0_4, v0_5, .int .i64 x0.qnodes, .int .i64 x0.qbudget, .int .i64 x0.qcount, .bool x0.qfirst, v0_10]) (f0_2 : SlC (hcell h) (El.sl (El.int .i64)) v0_2 x0.qall) (f0_3 : SlC (hcell h) El.bool v0_3 x0.qused) (f0_4 : SlC (hcell h) (El.int .i64) v0_4 x0.qpairs) (f0_5 : SlC (hcell h) (El.int .i64) v0_5 x0.qchosen) (f0_10 : SlC (hcell h) (El.int .i64) v0_10 x0.qfound) : CallsH P id_spec_l28Search_fits #[.pointer (some p0), .int .i64 block1] h (fun v h' => v = .bool r ∧ S ψ h h' []) := by
  apply w_spec_l28Search_fits
  unfold F_spec_l28Search_fits
  rw [p_spec_l28Search_fits] at hp
  have st : S ψ h h [] := S.start hψ
  refine ldV_K (ck0.mono st.le) 2 rfl rfl ?_
  obtain ⟨e13, hx, hp⟩ := obind hp
  refine vIdx_C (f0_2.mono st.le) hx fun p13 ad => ?_
  refine ldV_C f0_2 st.le ad hx fun u14 f => ?_
  obtain ⟨n_4, hn⟩ := loop_n hp
  refine ⟨fun n i6 h_2 => S ψ h h_2 [] ∧ loopN (p_spec_l28Search_fits_b1 x0 block1 e13) n i6 = some r, ⟨n_4, st.pick [] (by decide), hn⟩, ?_⟩
  rintro n _ i6 h_2 ⟨st, hn⟩
  obtain ⟨m, a, rfl, hp, hs⟩ := loopN_step hn
  rw [p_spec_l28Search_fits_b1] at hp
  refine vLen_C (f.mono st.le) ?_
  refine bifP hp (fun hc hp => ?_) (fun hc hp => ?_)
  · obtain ⟨n_3, hn_2⟩ := loop_n hp
    refine ⟨fun n_2 k7 h_3 => S ψ h h_3 [] ∧ loopN (p_spec_l28Search_fits_b2 x0 e13 i6) n_2 k7 = some a, ⟨n_3, st.pick [] (by decide), hn_2⟩, ?_⟩
    rintro n_2 _ k7 h_3 ⟨st, hn_2⟩
    obtain ⟨m_2, a_2, rfl, hp, hs_2⟩ := loopN_step hn_2
    rw [p_spec_l28Search_fits_b2] at hp
    refine vLen_C (f.mono st.le) ?_
    refine bifP hp (fun hc hp => ?_) (fun hc hp => ?_)
    · have stR_7 := st
      have xR_7 := ExtH.refl h_3
      refine ldI_K (ck0.mono st.le) 0 rfl rfl ?_
      obtain ⟨e39, hx_2, hp⟩ := obind hp
      refine vIdx_C (f.mono st.le) hx_2 fun p39 ad_2 => ?_
      refine ldI_C (f.mono st.le) ad_2 hx_2 ?_
      obtain ⟨e43, hx_3, hp⟩ := obind hp
      refine vIdx_C (f.mono st.le) hx_3 fun p43 ad_3 => ?_
      refine ldI_C (f.mono st.le) ad_3 hx_3 ?_
      obtain ⟨r45, hx_4, hp⟩ := obind hp
      obtain ⟨φ, L, s, r_2⟩ := id st
      refine (r_spec_l24Pair s.fle hx_4).mono fun v_2 h_4 ⟨eq, t⟩ => ⟨_, eq, xR_7.trans t.ext, ?_⟩
      replace xR_7 := xR_7.trans t.ext
      replace st := join0 s r_2 t
      clear t s r_2
      refine ldV_K (ck0.mono stR_7.le) 4 rfl rfl ?_
      obtain ⟨e46, hx_5, hp⟩ := obind hp
      refine vIdx_C (f0_4.mono st.le) hx_5 fun p46 ad_4 => ?_
      refine ldI_C (f0_4.mono st.le) ad_4 hx_5 ?_
      refine ldI_K (ck0.mono stR_7.le) 1 rfl rfl ?_
      refine bifP hp (fun hc hp => ?_) (fun hc hp => ?_)
      · obtain rfl := Option.some.inj hp
        obtain rfl := Option.some.inj hs_2
        obtain rfl := Option.some.inj hs
        exact ⟨rfl, st.pick [] (by decide)⟩
      · obtain rfl := Option.some.inj hp
        exact ⟨m_2, Nat.lt_succ_self _, st.pick [] (by decide), hs_2⟩
    · obtain rfl := Option.some.inj hp
      obtain rfl := Option.some.inj hs_2
      exact ⟨m, Nat.lt_succ_self _, st.pick [] (by decide), hs⟩
  · refine ldV_K (ck0.mono st.le) 3 rfl rfl ?_
    obtain ⟨e58, hx_6, hp⟩ := obind hp
    refine vIdx_C (f0_3.mono st.le) hx_6 fun p58 ad_5 => ?_
    refine ldB_C (f0_3.mono st.le) ad_5 hx_6 ?_
    obtain rfl := Option.some.inj hp
    obtain rfl := Option.some.inj hs
    exact ⟨rfl, st.pick [] (by decide)⟩
theorem rq_spec_l28Search_visit {rf_spec_l28Search_visit : T_spec_l28Search → Int → Int → Option (Bool × T_spec_l28Search)}  (ih_spec_l28Search_visit : ∀ {ψ : CM} {h0 h : Heap} {os : List Ob} {y0 : T_spec_l28Search} {b0 : Nat} {post0 : List Value} {v0_2 : Value} {v0_3 : Value} {v0_4 : Value} {v0_5 : Value} {v0_10 : Value} {y1 : Int} {y2 : Int} {r : Bool × T_spec_l28Search} (hp : rf_spec_l28Search_visit y0 y1 y2 = some r) (st : S ψ h0 h (.box b0 (.int .i64 y0.qv :: .int .i64 y0.qlambda :: v0_2 :: v0_3 :: v0_4 :: v0_5 :: .int .i64 y0.qnodes :: .int .i64 y0.qbudget :: .int .i64 y0.qcount :: .bool y0.qfirst :: v0_10 :: post0) :: .it (El.ow El.bool) [v0_3] y0.qused :: .it (El.ow (El.int .i64)) [v0_4] y0.qpairs :: .it (El.ow (El.int .i64)) [v0_5] y0.qchosen :: .it (El.ow (El.int .i64)) [v0_10] y0.qfound :: os)) (f0_2 : SlC (UB ψ h0) (El.sl (El.int .i64)) v0_2 y0.qall), CallsH P id_spec_l28Search_visit #[.pointer (some ⟨b0, 0, none⟩), .int .i64 y1, .int .i64 y2] h (fun v h' => ∃ w0 : Value, ∃ w1 : Value, ∃ w2 : Value, ∃ w3 : Value, v = .bool r.1 ∧ S ψ h0 h' (.box b0 (.int .i64 r.2.qv :: .int .i64 r.2.qlambda :: v0_2 :: w0 :: w1 :: w2 :: .int .i64 r.2.qnodes :: .int .i64 r.2.qbudget :: .int .i64 r.2.qcount :: .bool r.2.qfirst :: w3 :: post0) :: .it (El.ow El.bool) [w0] r.2.qused :: .it (El.ow (El.int .i64)) [w1] r.2.qpairs :: .it (El.ow (El.int .i64)) [w2] r.2.qchosen :: .it (El.ow (El.int .i64)) [w3] r.2.qfound :: os))) : ∀ {ψ : CM} {h0 h : Heap} {os : List Ob} {y0 : T_spec_l28Search} {b0 : Nat} {post0 : List Value} {v0_2 : Value} {v0_3 : Value} {v0_4 : Value} {v0_5 : Value} {v0_10 : Value} {y1 : Int} {y2 : Int} {r : Bool × T_spec_l28Search} (hp : q_spec_l28Search_visit rf_spec_l28Search_visit y0 y1 y2 = some r) (st : S ψ h0 h (.box b0 (.int .i64 y0.qv :: .int .i64 y0.qlambda :: v0_2 :: v0_3 :: v0_4 :: v0_5 :: .int .i64 y0.qnodes :: .int .i64 y0.qbudget :: .int .i64 y0.qcount :: .bool y0.qfirst :: v0_10 :: post0) :: .it (El.ow El.bool) [v0_3] y0.qused :: .it (El.ow (El.int .i64)) [v0_4] y0.qpairs :: .it (El.ow (El.int .i64)) [v0_5] y0.qchosen :: .it (El.ow (El.int .i64)) [v0_10] y0.qfound :: os)) (f0_2 : SlC (UB ψ h0) (El.sl (El.int .i64)) v0_2 y0.qall), CallsH P id_spec_l28Search_visit #[.pointer (some ⟨b0, 0, none⟩), .int .i64 y1, .int .i64 y2] h (fun v h' => ∃ w0 : Value, ∃ w1 : Value, ∃ w2 : Value, ∃ w3 : Value, v = .bool r.1 ∧ S ψ h0 h' (.box b0 (.int .i64 r.2.qv :: .int .i64 r.2.qlambda :: v0_2 :: w0 :: w1 :: w2 :: .int .i64 r.2.qnodes :: .int .i64 r.2.qbudget :: .int .i64 r.2.qcount :: .bool r.2.qfirst :: w3 :: post0) :: .it (El.ow El.bool) [w0] r.2.qused :: .it (El.ow (El.int .i64)) [w1] r.2.qpairs :: .it (El.ow (El.int .i64)) [w2] r.2.qchosen :: .it (El.ow (El.int .i64)) [w3] r.2.qfound :: os)) := by
  intro ψ h0 h os y0 b0 post0 v0_2 v0_3 v0_4 v0_5 v0_10 y1 y2 r hp st f0_2
  apply w_spec_l28Search_visit
  unfold F_spec_l28Search_visit
  rw [q_spec_l28Search_visit] at hp
  refine ldI_K (st.cells 0 rfl) 6 rfl rfl ?_
  refine st_box st 0 rfl rfl rfl rfl fun h_2 st => ?_
  dsimp only [List.set] at st
  refine ldI_K (st.cells 0 rfl) 6 rfl rfl ?_
  refine ldI_K (st.cells 0 rfl) 7 rfl rfl ?_
  refine bifP hp (fun hc hp => ?_) (fun hc hp => ?_)
  · obtain rfl := Option.some.inj hp
    exact ⟨v0_3, v0_4, v0_5, v0_10, rfl, st.pickT 5 [0, 1, 2, 3, 4] (by decide) (by decide)⟩
  · obtain ⟨n_6, hn⟩ := loop_n hp
    refine ⟨fun n y7 h_3 => S ψ h0 h_3 (.box b0 (.int .i64 y0.qv :: .int .i64 y0.qlambda :: v0_2 :: v0_3 :: v0_4 :: v0_5 :: .int .i64 (IntKind.i64.wrap (y0.qnodes + 1)) :: .int .i64 y0.qbudget :: .int .i64 y0.qcount :: .bool y0.qfirst :: v0_10 :: post0) :: .it (El.ow El.bool) [v0_3] y0.qused :: .it (El.ow (El.int .i64)) [v0_4] y0.qpairs :: .it (El.ow (El.int .i64)) [v0_5] y0.qchosen :: .it (El.ow (El.int .i64)) [v0_10] y0.qfound :: os) ∧ loopN (p_spec_l28Search_visit_b1 rf_spec_l28Search_visit y0 y1 y2) n y7 = some r, ⟨n_6, st.pickT 5 [0, 1, 2, 3, 4] (by decide) (by decide), hn⟩, ?_⟩
    rintro n _ y7 h_3 ⟨st, hn⟩
    obtain ⟨m, a, rfl, hp, hs⟩ := loopN_step hn
    rw [p_spec_l28Search_visit_b1] at hp
    refine ldI_K (st.cells 0 rfl) 0 rfl rfl ?_
    refine bifP hp (fun hc hp => ?_) (fun hc hp => ?_)
    · obtain ⟨n_5, hn_2⟩ := loop_n hp
      refine ⟨fun n_2 y8 h_4 => S ψ h0 h_4 (.box b0 (.int .i64 y0.qv :: .int .i64 y0.qlambda :: v0_2 :: v0_3 :: v0_4 :: v0_5 :: .int .i64 (IntKind.i64.wrap (y0.qnodes + 1)) :: .int .i64 y0.qbudget :: .int .i64 y0.qcount :: .bool y0.qfirst :: v0_10 :: post0) :: .it (El.ow El.bool) [v0_3] y0.qused :: .it (El.ow (El.int .i64)) [v0_4] y0.qpairs :: .it (El.ow (El.int .i64)) [v0_5] y0.qchosen :: .it (El.ow (El.int .i64)) [v0_10] y0.qfound :: os) ∧ loopN (p_spec_l28Search_visit_b2 rf_spec_l28Search_visit y0 y1 y2 y7) n_2 y8 = some a, ⟨n_5, st.pickT 5 [0, 1, 2, 3, 4] (by decide) (by decide), hn_2⟩, ?_⟩
      rintro n_2 _ y8 h_4 ⟨st, hn_2⟩
      obtain ⟨m_2, a_2, rfl, hp, hs_2⟩ := loopN_step hn_2
      rw [p_spec_l28Search_visit_b2] at hp
      refine ldI_K (st.cells 0 rfl) 0 rfl rfl ?_
      refine bifP hp (fun hc hp => ?_) (fun hc hp => ?_)
      · refine ldI_K (st.cells 0 rfl) 0 rfl rfl ?_
        obtain ⟨r52, hx, hp⟩ := obind hp
        obtain ⟨φ, L, s, r_2⟩ := id st
        refine (r_spec_l24Pair s.fle hx).mono fun v_2 h_5 ⟨eq, t⟩ => ⟨_, eq, ?_⟩
        replace st := join0 s r_2 t
        clear t s r_2
        refine ldV_K (st.cells 0 rfl) 4 rfl rfl ?_
        obtain ⟨e58, hx_2, hp⟩ := obind hp
        refine vIdx_C (st.rdL 2 rfl (frz_int _)) hx_2 fun p58 ad => ?_
        refine ldI_C (st.rdL 2 rfl (frz_int _)) ad hx_2 ?_
        refine ldI_K (st.cells 0 rfl) 1 rfl rfl ?_
        refine bifP hp (fun hc hp => ?_) (fun hc hp => ?_)
        · obtain rfl := Option.some.inj hp
          exact ⟨m_2, Nat.lt_succ_self _, st.pickT 5 [0, 1, 2, 3, 4] (by decide) (by decide), hs_2⟩
        · refine ⟨fun y10 h_6 => S ψ h0 h_6 (.box b0 (.int .i64 y0.qv :: .int .i64 y0.qlambda :: v0_2 :: v0_3 :: v0_4 :: v0_5 :: .int .i64 (IntKind.i64.wrap (y0.qnodes + 1)) :: .int .i64 y0.qbudget :: .int .i64 y0.qcount :: .bool y0.qfirst :: v0_10 :: post0) :: .it (El.ow El.bool) [v0_3] y0.qused :: .it (El.ow (El.int .i64)) [v0_4] y0.qpairs :: .it (El.ow (El.int .i64)) [v0_5] y0.qchosen :: .it (El.ow (El.int .i64)) [v0_10] y0.qfound :: os) ∧ p_spec_l28Search_visit_k1 rf_spec_l28Search_visit y0 y7 y8 r52 y10 = some a_2, ?_, ?_⟩
          · refine bifP hp (fun hc hp => ?_) (fun hc hp => ?_)
            · exact ⟨st.pickT 5 [0, 1, 2, 3, 4] (by decide) (by decide), hp⟩
            · exact ⟨st.pickT 5 [0, 1, 2, 3, 4] (by decide) (by decide), hp⟩
          · rintro _ y10 h_6 ⟨st, hp⟩
            rw [p_spec_l28Search_visit_k1] at hp
            obtain ⟨n_4, hn_3⟩ := loop_n hp
            refine ⟨fun n_3 y10_2 h_7 => ∃ q : Int, ∃ q_2 : Int, ∃ q_3 : Int, ∃ q_4 : Int, ∃ q_5 : Int, ∃ q_6 : Bool, ∃ xs : List Bool, ∃ v_3 : Value, ∃ xs_2 : List Int, ∃ v_4 : Value, ∃ xs_3 : List Int, ∃ v_5 : Value, ∃ xs_4 : List Int, ∃ v_6 : Value, S ψ h0 h_7 (.box b0 (.int .i64 q :: .int .i64 q_2 :: v0_2 :: v_3 :: v_4 :: v_5 :: .int .i64 q_3 :: .int .i64 q_4 :: .int .i64 q_5 :: .bool q_6 :: v_6 :: post0) :: .it (El.ow El.bool) [v_3] xs :: .it (El.ow (El.int .i64)) [v_4] xs_2 :: .it (El.ow (El.int .i64)) [v_5] xs_3 :: .it (El.ow (El.int .i64)) [v_6] xs_4 :: os) ∧ loopN (p_spec_l28Search_visit_b3 rf_spec_l28Search_visit y0 y7 y8 r52) n_3 (y10_2, q, q_2, q_3, q_4, q_5, q_6, xs, xs_2, xs_3, xs_4) = some a_2, ⟨n_4, _, _, _, _, _, _, _, _, _, _, _, _, _, _, st.pickT 5 [0, 1, 2, 3, 4] (by decide) (by decide), hn_3⟩, ?_⟩
            rintro n_3 _ y10_2 h_7 ⟨q, q_2, q_3, q_4, q_5, q_6, xs, v_3, xs_2, v_4, xs_3, v_5, xs_4, v_6, st, hn_3⟩
            obtain ⟨m_3, a_3, rfl, hp, hs_3⟩ := loopN_step hn_3
            rw [p_spec_l28Search_visit_b3] at hp
            refine ldV_K (st.cells 0 rfl) 2 rfl rfl ?_
            refine vLen_C (f0_2.mono st.leU) ?_
            refine bifP hp (fun hc hp => ?_) (fun hc hp => ?_)
            · refine ⟨fun h_8 => S ψ h0 h_8 (.box b0 (.int .i64 q :: .int .i64 q_2 :: v0_2 :: v_3 :: v_4 :: v_5 :: .int .i64 q_3 :: .int .i64 q_4 :: .int .i64 q_5 :: .bool q_6 :: v_6 :: post0) :: .it (El.ow El.bool) [v_3] xs :: .it (El.ow (El.int .i64)) [v_4] xs_2 :: .it (El.ow (El.int .i64)) [v_5] xs_3 :: .it (El.ow (El.int .i64)) [v_6] xs_4 :: os) ∧ p_spec_l28Search_visit_k2 rf_spec_l28Search_visit y0 r52 y10_2 q q_2 q_3 q_4 q_5 q_6 xs xs_2 xs_3 xs_4 = some a_3, ?_, ?_⟩
              · refine ldV_K (st.cells 0 rfl) 2 rfl rfl ?_
                obtain ⟨e83, hx_8, hp⟩ := obind hp
                refine vIdx_C (f0_2.mono st.leU) hx_8 fun p83 ad_2 => ?_
                refine ldV_C f0_2 st.leU ad_2 hx_8 fun u84 f => ?_
                obtain ⟨r86, hx_9, hp⟩ := obind hp
                obtain ⟨φ_5, L_5, s_5, r_6⟩ := id st
                refine (r_spec_l00Has s_5.fle hx_9 (f.mono st.leU)).mono fun v_10 h_15 ⟨eq_5, t_5⟩ => ⟨_, eq_5, ?_⟩
                replace st := join0 s_5 r_6 t_5
                clear t_5 s_5 r_6
                refine bifP hp (fun hc hp => ?_) (fun hc hp => ?_)
                · obtain rfl := Option.some.inj hp
                  exact ⟨m_3, Nat.lt_succ_self _, _, _, _, _, _, _, _, _, _, _, _, _, _, _, st.pickT 5 [0, 1, 2, 3, 4] (by decide) (by decide), hs_3⟩
                · refine ldV_K (st.cells 0 rfl) 2 rfl rfl ?_
                  obtain ⟨e94, hx_10, hp⟩ := obind hp
                  refine vIdx_C (f0_2.mono st.leU) hx_10 fun p94 ad_3 => ?_
                  refine ldV_C f0_2 st.leU ad_3 hx_10 fun u95 f_2 => ?_
                  obtain ⟨r97, hx_11, hp⟩ := obind hp
                  obtain ⟨φ_6, L_6, s_6, r_7⟩ := id st
                  refine (r_spec_l00Has s_6.fle hx_11 (f_2.mono st.leU)).mono fun v_11 h_16 ⟨eq_6, t_6⟩ => ⟨_, eq_6, ?_⟩
                  replace st := join0 s_6 r_7 t_6
                  clear t_6 s_6 r_7
                  refine bifP hp (fun hc hp => ?_) (fun hc hp => ?_)
                  · obtain rfl := Option.some.inj hp
                    exact ⟨m_3, Nat.lt_succ_self _, _, _, _, _, _, _, _, _, _, _, _, _, _, _, st.pickT 5 [0, 1, 2, 3, 4] (by decide) (by decide), hs_3⟩
                  · obtain ⟨r103, hx_12, hp⟩ := obind hp
                    obtain ⟨φ_7, L_7, s_7, r_8⟩ := id st
                    refine (r_spec_l28Search_fits s_7.fle hx_12 (CellsC.part 0 11 (st.cells 0 rfl)) (f0_2.mono st.leU) (st.rdL 1 rfl frz_bool) (st.rdL 2 rfl (frz_int _)) (st.rdL 3 rfl (frz_int _)) (st.rdL 4 rfl (frz_int _))).mono fun v_12 h_17 ⟨eq_7, t_7⟩ => ⟨_, eq_7, ?_⟩
                    replace st := join0 s_7 r_8 t_7
                    clear t_7 s_7 r_8
                    refine bifP hp (fun hc hp => ?_) (fun hc hp => ?_)
                    · obtain rfl := Option.some.inj hp
                      exact ⟨m_3, Nat.lt_succ_self _, _, _, _, _, _, _, _, _, _, _, _, _, _, _, st.pickT 5 [0, 1, 2, 3, 4] (by decide) (by decide), hs_3⟩
                    · exact ⟨st.pickT 5 [0, 1, 2, 3, 4] (by decide) (by decide), hp⟩
              · rintro _ h_8 ⟨st, hp⟩
                rw [p_spec_l28Search_visit_k2] at hp
                obtain ⟨r108, hx_3, hp⟩ := obind hp
                obtain ⟨φ_2, L_2, s_2, r_3⟩ := id st
                refine (r_spec_l28Search_add hx_3 (s_2.upS r_3) (f0_2.mono s_2.ubU)).mono fun v_7 h_9 ⟨v108, v108_2, v108_3, v108_4, eq_2, t_2⟩ => ⟨eq_2, ?_⟩
                replace st := s_2.downS t_2
                clear t_2 s_2 r_3
                refine ldV_K (st.cells 0 rfl) 5 rfl rfl ?_
                obtain ⟨l116, hx_4, hp⟩ := obind hp
                refine push_S st 3 rfl (fun _ => ⟨rfl, rfl⟩) rfl rfl hx_4 fun v116 h_10 st => ?_
                dsimp only [List.set] at st
                refine st_box st 0 rfl rfl rfl (st.rdL 3 rfl (frz_int _)).one fun h_11 st => ?_
                dsimp only [List.set] at st
                obtain ⟨r123, hx_5, hp⟩ := obind hp
                obtain ⟨φ_3, L_3, s_3, r_4⟩ := id st
                refine (ih_spec_l28Search_visit hx_5 (s_3.upS r_4) (f0_2.mono s_3.ubU)).mono fun v_8 h_12 ⟨v123, v123_2, v123_3, v123_4, eq_3, t_3⟩ => ⟨_, eq_3, ?_⟩
                replace st := s_3.downS t_3
                clear t_3 s_3 r_4
                refine ldV_K (st.cells 0 rfl) 5 rfl rfl ?_
                refine ldV_K (st.cells 0 rfl) 5 rfl rfl ?_
                refine vLen_C (st.rdL 3 rfl (frz_int _)) ?_
                obtain ⟨l135, hx_6, hp⟩ := obind hp
                refine cut_S none (some (IntKind.i64.wrap ((r123.2.qchosen.length : Int) - 1))) st 3 rfl hx_6 rfl fun v135 st => ?_
                dsimp only [List.set] at st
                refine st_box st 0 rfl rfl rfl (st.rdL 3 rfl (frz_int _)).one fun h_13 st => ?_
                dsimp only [List.set] at st
                obtain ⟨r140, hx_7, hp⟩ := obind hp
                obtain ⟨φ_4, L_4, s_4, r_5⟩ := id st
                refine (r_spec_l28Search_add hx_7 (s_4.upS r_5) (f0_2.mono s_4.ubU)).mono fun v_9 h_14 ⟨v140, v140_2, v140_3, v140_4, eq_4, t_4⟩ => ⟨eq_4, ?_⟩
                replace st := s_4.downS t_4
                clear t_4 s_4 r_5
                refine bifP hp (fun hc hp => ?_) (fun hc hp => ?_)
                · obtain rfl := Option.some.inj hp
                  obtain rfl := Option.some.inj hs_3
                  obtain rfl := Option.some.inj hs_2
                  obtain rfl := Option.some.inj hs
                  exact ⟨v140, v140_2, v140_3, v140_4, rfl, st.pickT 5 [0, 1, 2, 3, 4] (by decide) (by decide)⟩
                · obtain rfl := Option.some.inj hp
                  exact ⟨m_3, Nat.lt_succ_self _, _, _, _, _, _, _, _, _, _, _, _, _, _, _, st.pickT 5 [0, 1, 2, 3, 4] (by decide) (by decide), hs_3⟩
            · obtain rfl := Option.some.inj hp
              obtain rfl := Option.some.inj hs_3
              obtain rfl := Option.some.inj hs_2
              obtain rfl := Option.some.inj hs
              exact ⟨v_3, v_4, v_5, v_6, rfl, st.pickT 5 [0, 1, 2, 3, 4] (by decide) (by decide)⟩
      · obtain rfl := Option.some.inj hp
        obtain rfl := Option.some.inj hs_2
        exact ⟨m, Nat.lt_succ_self _, st.pickT 5 [0, 1, 2, 3, 4] (by decide) (by decide), hs⟩
    · refine ldI_K (st.cells 0 rfl) 8 rfl rfl ?_
      refine st_box st 0 rfl rfl rfl rfl fun h_18 st => ?_
      dsimp only [List.set] at st
      refine newS_S (E := (El.int .i64)) (css := []) (xs := ([] : List Int)) st (fun _ => rfl) rfl rfl fun v151 h_19 st => ?_
      refine ldV_K (st.cells 1 rfl) 5 rfl rfl ?_
      obtain ⟨l156, hx_13, hp⟩ := obind hp
      refine app_S st 0 rfl (src_plain (plain_int _) (st.rdL 4 rfl (frz_int _))) rfl rfl hx_13 fun v156 h_20 st => ?_
      dsimp only [List.set] at st
      refine st_box st 1 rfl rfl rfl (st.rdL 0 rfl (frz_int _)).one fun h_21 st => ?_
      dsimp only [List.set] at st
      refine ldB_K (st.cells 1 rfl) 9 rfl rfl ?_
      obtain rfl := Option.some.inj hp
      obtain rfl := Option.some.inj hs
      exact ⟨v0_3, v0_4, v0_5, v156, rfl, st.pickT 6 [1, 2, 3, 4, 0] (by decide) (by decide)⟩
theorem rn_spec_l28Search_visit : ∀ n, (∀ {ψ : CM} {h0 h : Heap} {os : List Ob} {y0 : T_spec_l28Search} {b0 : Nat} {post0 : List Value} {v0_2 : Value} {v0_3 : Value} {v0_4 : Value} {v0_5 : Value} {v0_10 : Value} {y1 : Int} {y2 : Int} {r : Bool × T_spec_l28Search} (hp : (pn_spec_l28Search_visit n) y0 y1 y2 = some r) (st : S ψ h0 h (.box b0 (.int .i64 y0.qv :: .int .i64 y0.qlambda :: v0_2 :: v0_3 :: v0_4 :: v0_5 :: .int .i64 y0.qnodes :: .int .i64 y0.qbudget :: .int .i64 y0.qcount :: .bool y0.qfirst :: v0_10 :: post0) :: .it (El.ow El.bool) [v0_3] y0.qused :: .it (El.ow (El.int .i64)) [v0_4] y0.qpairs :: .it (El.ow (El.int .i64)) [v0_5] y0.qchosen :: .it (El.ow (El.int .i64)) [v0_10] y0.qfound :: os)) (f0_2 : SlC (UB ψ h0) (El.sl (El.int .i64)) v0_2 y0.qall), CallsH P id_spec_l28Search_visit #[.pointer (some ⟨b0, 0, none⟩), .int .i64 y1, .int .i64 y2] h (fun v h' => ∃ w0 : Value, ∃ w1 : Value, ∃ w2 : Value, ∃ w3 : Value, v = .bool r.1 ∧ S ψ h0 h' (.box b0 (.int .i64 r.2.qv :: .int .i64 r.2.qlambda :: v0_2 :: w0 :: w1 :: w2 :: .int .i64 r.2.qnodes :: .int .i64 r.2.qbudget :: .int .i64 r.2.qcount :: .bool r.2.qfirst :: w3 :: post0) :: .it (El.ow El.bool) [w0] r.2.qused :: .it (El.ow (El.int .i64)) [w1] r.2.qpairs :: .it (El.ow (El.int .i64)) [w2] r.2.qchosen :: .it (El.ow (El.int .i64)) [w3] r.2.qfound :: os))) := by
  intro n
  induction n with
  | zero => exact fun hp => absurd hp (by simp [pn_spec_l28Search_visit])
  | succ n ih => exact rq_spec_l28Search_visit ih
theorem r_spec_l28Search_visit : ∀ {ψ : CM} {h0 h : Heap} {os : List Ob} {y0 : T_spec_l28Search} {b0 : Nat} {post0 : List Value} {v0_2 : Value} {v0_3 : Value} {v0_4 : Value} {v0_5 : Value} {v0_10 : Value} {y1 : Int} {y2 : Int} {r : Bool × T_spec_l28Search} (hp : p_spec_l28Search_visit y0 y1 y2 = some r) (st : S ψ h0 h (.box b0 (.int .i64 y0.qv :: .int .i64 y0.qlambda :: v0_2 :: v0_3 :: v0_4 :: v0_5 :: .int .i64 y0.qnodes :: .int .i64 y0.qbudget :: .int .i64 y0.qcount :: .bool y0.qfirst :: v0_10 :: post0) :: .it (El.ow El.bool) [v0_3] y0.qused :: .it (El.ow (El.int .i64)) [v0_4] y0.qpairs :: .it (El.ow (El.int .i64)) [v0_5] y0.qchosen :: .it (El.ow (El.int .i64)) [v0_10] y0.qfound :: os)) (f0_2 : SlC (UB ψ h0) (El.sl (El.int .i64)) v0_2 y0.qall), CallsH P id_spec_l28Search_visit #[.pointer (some ⟨b0, 0, none⟩), .int .i64 y1, .int .i64 y2] h (fun v h' => ∃ w0 : Value, ∃ w1 : Value, ∃ w2 : Value, ∃ w3 : Value, v = .bool r.1 ∧ S ψ h0 h' (.box b0 (.int .i64 r.2.qv :: .int .i64 r.2.qlambda :: v0_2 :: w0 :: w1 :: w2 :: .int .i64 r.2.qnodes :: .int .i64 r.2.qbudget :: .int .i64 r.2.qcount :: .bool r.2.qfirst :: w3 :: post0) :: .it (El.ow El.bool) [w0] r.2.qused :: .it (El.ow (El.int .i64)) [w1] r.2.qpairs :: .it (El.ow (El.int .i64)) [w2] r.2.qchosen :: .it (El.ow (El.int .i64)) [w3] r.2.qfound :: os)) := (rn_spec_l28Search_visit fuel)
theorem r_spec_l28Run {ψ : CM} {h : Heap} (hψ : CLe ψ (hcell h)) {y0 : T_impl_Design} {p0 : Addr} {v0_1 : Value} {y1 : Int} {y2 : Int} {y3 : Int} {y4 : Bool} {r : T_spec_l28Search × Int} (hp : p_spec_l28Run y0 y1 y2 y3 y4 = some r) (ck0 : CellsC (hcell h) p0 [.int .i64 y0.Points, v0_1]) (f0_1 : SlC (hcell h) (El.sl (El.int .i64)) v0_1 y0.Blocks) : CallsH P id_spec_l28Run #[.pointer (some p0), .int .i64 y1, .int .i64 y2, .int .i64 y3, .bool y4] h (fun v h' => ∃ wb0 : Nat, ∃ w1 : Value, ∃ w2 : Value, ∃ w3 : Value, ∃ w4 : Value, ∃ w5 : Value, v = .tuple #[.pointer (some ⟨wb0, 0, none⟩), .int .i64 r.2] ∧ S ψ h h' [.box wb0 [.int .i64 r.1.qv, .int .i64 r.1.qlambda, w1, w2, w3, w4, .int .i64 r.1.qnodes, .int .i64 r.1.qbudget, .int .i64 r.1.qcount, .bool r.1.qfirst, w5], .it (El.sl (El.sl (El.int .i64))) [w1] r.1.qall, .it (El.ow El.bool) [w2] r.1.qused, .it (El.ow (El.int .i64)) [w3] r.1.qpairs, .it (El.ow (El.int .i64)) [w4] r.1.qchosen, .it (El.ow (El.int .i64)) [w5] r.1.qfound]) := by
  apply w_spec_l28Run
  unfold F_spec_l28Run
  rw [p_spec_l28Run] at hp
  have st : S ψ h h [] := S.start hψ
  refine ldI_K (ck0.mono st.le) 0 rfl rfl ?_
  refine new_S st fun b25 h_2 st => ?_
  obtain ⟨r27, hx, hp⟩ := obind hp
  obtain ⟨φ, L, s, r_2⟩ := id st
  refine (r_spec_l10Ok s.fle hx (ck0.mono st.le) (f0_1.mono st.le)).mono fun v_2 h_3 ⟨eq, t⟩ => ⟨_, eq, ?_⟩
  replace st := join0 s r_2 t
  clear t s r_2
  refine bifP hp (fun hc hp => ?_) (fun hc hp => ?_)
  · have st := st.nilF (E := (El.sl (El.int .i64)))
    have st := st.nilO (E := El.bool)
    have st := st.nilO (E := (El.int .i64))
    have st := st.nilO (E := (El.int .i64))
    have st := st.nilO (E := (El.int .i64))
    obtain rfl := Option.some.inj hp
    exact ⟨b25, (.slice none 0 0), (.slice none 0 0), (.slice none 0 0), (.slice none 0 0), (.slice none 0 0), rfl, st.pick [5, 4, 3, 2, 1, 0] (by decide)⟩
  · obtain ⟨r31, hx_2, hp⟩ := obind hp
    obtain ⟨φ_2, L_2, s_2, r_3⟩ := id st
    refine (r_spec_l00In s_2.fle hx_2).mono fun v_3 h_4 ⟨eq_2, t_2⟩ => ⟨_, eq_2, ?_⟩
    replace st := join0 s_2 r_3 t_2
    clear t_2 s_2 r_3
    refine bifP hp (fun hc hp => ?_) (fun hc hp => ?_)
    · have st := st.nilF (E := (El.sl (El.int .i64)))
      have st := st.nilO (E := El.bool)
      have st := st.nilO (E := (El.int .i64))
      have st := st.nilO (E := (El.int .i64))
      have st := st.nilO (E := (El.int .i64))
      obtain rfl := Option.some.inj hp
      exact ⟨b25, (.slice none 0 0), (.slice none 0 0), (.slice none 0 0), (.slice none 0 0), (.slice none 0 0), rfl, st.pick [5, 4, 3, 2, 1, 0] (by decide)⟩
    · refine ldI_K (ck0.mono st.le) 0 rfl rfl ?_
      obtain ⟨r40, hx_3, hp⟩ := obind hp
      obtain ⟨φ_3, L_3, s_3, r_4⟩ := id st
      refine (r_spec_l28Ask s_3.fle hx_3).mono fun v_4 h_5 ⟨eq_3, t_3⟩ => ⟨_, eq_3, ?_⟩
      replace st := join0 s_3 r_4 t_3
      clear t_3 s_3 r_4
      refine bifP hp (fun hc hp => ?_) (fun hc hp => ?_)
      · have st := st.nilF (E := (El.sl (El.int .i64)))
        have st := st.nilO (E := El.bool)
        have st := st.nilO (E := (El.int .i64))
        have st := st.nilO (E := (El.int .i64))
        have st := st.nilO (E := (El.int .i64))
        obtain rfl := Option.some.inj hp
        exact ⟨b25, (.slice none 0 0), (.slice none 0 0), (.slice none 0 0), (.slice none 0 0), (.slice none 0 0), rfl, st.pick [5, 4, 3, 2, 1, 0] (by decide)⟩
      · obtain ⟨r48, hx_4, hp⟩ := obind hp
        obtain ⟨φ_4, L_4, s_4, r_5⟩ := id st
        refine (r_spec_l28Packing s_4.fle hx_4 (ck0.mono st.le) (f0_1.mono st.le)).mono fun v_5 h_6 ⟨eq_4, t_4⟩ => ⟨_, eq_4, ?_⟩
        replace st := join0 s_4 r_5 t_4
        clear t_4 s_4 r_5
        refine bifP hp (fun hc hp => ?_) (fun hc hp => ?_)
        · have st := st.nilF (E := (El.sl (El.int .i64)))
          have st := st.nilO (E := El.bool)
          have st := st.nilO (E := (El.int .i64))
          have st := st.nilO (E := (El.int .i64))
          have st := st.nilO (E := (El.int .i64))
          obtain rfl := Option.some.inj hp
          exact ⟨b25, (.slice none 0 0), (.slice none 0 0), (.slice none 0 0), (.slice none 0 0), (.slice none 0 0), rfl, st.pick [5, 4, 3, 2, 1, 0] (by decide)⟩
        · refine ldI_K (ck0.mono st.le) 0 rfl rfl ?_
          obtain ⟨r57, hx_5, hp⟩ := obind hp
          obtain ⟨φ_5, L_5, s_5, r_6⟩ := id st
          refine (r_spec_l28All s_5.fle hx_5).mono fun v_6 h_7 ⟨v57, eq_5, t_5⟩ => ⟨_, eq_5, ?_⟩
          replace st := join1 s_5 r_6 t_5
          clear t_5 s_5 r_6
          refine st_box st 1 rfl rfl rfl (st.rdL 0 rfl (frz_sl _)).one fun h_8 st => ?_
          dsimp only [List.set] at st
          refine ldV_K (st.cells 1 rfl) 2 rfl rfl ?_
          refine vLen_C (st.rdL 0 rfl (frz_sl _)) ?_
          obtain ⟨l66, hx_6, hp⟩ := obind hp
          refine make_S (E := El.bool) st rfl hx_6 fun v66 h_9 st => ?_
          refine st_box st 2 rfl rfl rfl (st.rdL 0 rfl frz_bool).one fun h_10 st => ?_
          dsimp only [List.set] at st
          refine ldI_K (ck0.mono st.le) 0 rfl rfl ?_
          refine ldI_K (ck0.mono st.le) 0 rfl rfl ?_
          obtain ⟨_, hx_7, hp⟩ := obind hp
          refine ⟨gNz_some hx_7, ?_⟩
          obtain ⟨l81, hx_8, hp⟩ := obind hp
          refine make_S (E := (El.int .i64)) st rfl hx_8 fun v81 h_11 st => ?_
          refine st_box st 3 rfl rfl rfl (st.rdL 0 rfl (frz_int _)).one fun h_12 st => ?_
          dsimp only [List.set] at st
          have st := st.freeze 2 rfl (frz_ow (frz_sl _))
          dsimp only [List.set] at st
          have st := st.nilO (E := (El.int .i64))
          have st := st.nilO (E := (El.int .i64))
          obtain ⟨n_2, hn⟩ := loop_n hp
          refine ⟨fun n y14 h_13 => ∃ q : Int, ∃ q_2 : Int, ∃ xs : List Int, ∃ v_7 : Value, ∃ q_3 : Int, ∃ q_4 : Int, ∃ q_5 : Int, ∃ q_6 : Bool, ∃ xs_2 : List Int, ∃ v_8 : Value, ∃ xs_3 : List Int, ∃ v_9 : Value, ∃ xs_4 : List Bool, ∃ v_10 : Value, S ψ h h_13 [.it (El.ow (El.int .i64)) [v_9] xs_3, .it (El.ow El.bool) [v_10] xs_4, .it (El.sl (El.sl (El.int .i64))) [v57] r57, .box b25 [.int .i64 q, .int .i64 q_2, v57, v_10, v_9, v_7, .int .i64 q_3, .int .i64 q_4, .int .i64 q_5, .bool q_6, v_8], .it (El.ow (El.int .i64)) [v_7] xs, .it (El.ow (El.int .i64)) [v_8] xs_2] ∧ loopN (p_spec_l28Run_b1 y0 y3 r57) n (y14, q, q_2, xs, q_3, q_4, q_5, q_6, xs_2, xs_3, xs_4) = some r, ⟨n_2, _, _, _, _, _, _, _, _, _, _, _, _, _, _, st.pick [2, 3, 4, 5, 1, 0] (by decide), hn⟩, ?_⟩
          rintro n _ y14 h_13 ⟨q, q_2, xs, v_7, q_3, q_4, q_5, q_6, xs_2, v_8, xs_3, v_9, xs_4, v_10, st, hn⟩
          obtain ⟨m, a, rfl, hp, hs⟩ := loopN_step hn
          rw [p_spec_l28Run_b1] at hp
          refine ldV_K (ck0.mono st.le) 1 rfl rfl ?_
          refine vLen_C (f0_1.mono st.le) ?_
          refine bifP hp (fun hc hp => ?_) (fun hc hp => ?_)
          · refine ldV_K (st.cells 3 rfl) 2 rfl rfl ?_
            refine ldV_K (ck0.mono st.le) 1 rfl rfl ?_
            obtain ⟨e103, hx_9, hp⟩ := obind hp
            refine vIdx_C (f0_1.mono st.le) hx_9 fun p103 ad => ?_
            refine ldV_C f0_1 st.le ad hx_9 fun u104 f => ?_
            obtain ⟨r105, hx_10, hp⟩ := obind hp
            obtain ⟨φ_6, L_6, s_6, r_7⟩ := id st
            refine (r_spec_l05Find s_6.fle hx_10 (st.rdF 2 rfl) (f.mono st.le)).mono fun v_11 h_14 ⟨eq_6, t_6⟩ => ⟨_, _, eq_6, ?_⟩
            replace st := join0 s_6 r_7 t_6
            clear t_6 s_6 r_7
            have st : S ψ h h_14 [.box b25 [.int .i64 q, .int .i64 q_2, v57, v_10, v_9, v_7, .int .i64 q_3, .int .i64 q_4, .int .i64 q_5, .bool q_6, v_8], .it (El.ow El.bool) [v_10] xs_4, .it (El.ow (El.int .i64)) [v_9] xs_3, .it (El.ow (El.int .i64)) [v_7] xs, .it (El.ow (El.int .i64)) [v_8] xs_2, .it (El.sl (El.sl (El.int .i64))) [v57] r57] := st.pick [3, 1, 0, 4, 5, 2] (by decide)
            obtain ⟨r110, hx_11, hp⟩ := obind hp
            obtain ⟨φ_7, L_7, s_7, r_8⟩ := id st
            refine (r_spec_l28Search_add hx_11 (s_7.upS r_8) ((frF r_8 5 rfl).mono s_7.ubF)).mono fun v_12 h_15 ⟨v110, v110_2, v110_3, v110_4, eq_7, t_7⟩ => ⟨eq_7, ?_⟩
            replace st := s_7.downS t_7
            clear t_7 s_7 r_8
            obtain rfl := Option.some.inj hp
            exact ⟨m, Nat.lt_succ_self _, _, _, _, _, _, _, _, _, _, _, _, _, _, _, st.pick [2, 1, 5, 0, 3, 4] (by decide), hs⟩
          · have st : S ψ h h_13 [.box b25 [.int .i64 q, .int .i64 q_2, v57, v_10, v_9, v_7, .int .i64 q_3, .int .i64 q_4, .int .i64 q_5, .bool q_6, v_8], .it (El.ow El.bool) [v_10] xs_4, .it (El.ow (El.int .i64)) [v_9] xs_3, .it (El.ow (El.int .i64)) [v_7] xs, .it (El.ow (El.int .i64)) [v_8] xs_2, .it (El.sl (El.sl (El.int .i64))) [v57] r57] := st.pick [3, 1, 0, 4, 5, 2] (by decide)
            obtain ⟨r112, hx_12, hp⟩ := obind hp
            obtain ⟨φ_8, L_8, s_8, r_9⟩ := id st
            refine (r_spec_l28Search_visit hx_12 (s_8.upS r_9) ((frF r_9 5 rfl).mono s_8.ubF)).mono fun v_13 h_16 ⟨v112, v112_2, v112_3, v112_4, eq_8, t_8⟩ => ⟨_, eq_8, ?_⟩
            replace st := s_8.downS t_8
            clear t_8 s_8 r_9
            refine ldI_K (st.cells 0 rfl) 6 rfl rfl ?_
            refine bifP hp (fun hc hp => ?_) (fun hc hp => ?_)
            · obtain rfl := Option.some.inj hp
              obtain rfl := Option.some.inj hs
              exact ⟨b25, v57, v112, v112_2, v112_3, v112_4, rfl, st.pick [0, 5, 1, 2, 3, 4] (by decide)⟩
            · obtain rfl := Option.some.inj hp
              obtain rfl := Option.some.inj hs
              exact ⟨b25, v57, v112, v112_2, v112_3, v112_4, rfl, st.pick [0, 5, 1, 2, 3, 4] (by decide)⟩
theorem r_spec_l10Sort {ψ : CM} {h : Heap} (hψ : CLe ψ (hcell h)) {list0 : List (List Int)} {v0 : Value} {r : List (List Int)} (hp : p_spec_l10Sort list0 = some r) (f0 : SlC (hcell h) (El.sl (El.int .i64)) v0 list0) : CallsH P id_spec_l10Sort #[v0] h (fun v h' => ∃ w0 : Value, v = w0 ∧ S ψ h h' [.it (El.ow (El.sl (El.int .i64))) [w0] r]) := by
  apply w_spec_l10Sort
  unfold F_spec_l10Sort
  rw [p_spec_l10Sort] at hp
  have st : S ψ h h [] := S.start hψ
  refine newS_S (E := (El.sl (El.int .i64))) (css := []) (xs := ([] : List (List Int))) st (fun _ => rfl) rfl rfl fun v7 h_2 st => ?_
  obtain ⟨n_4, hn⟩ := loop_n hp
  refine ⟨fun n v3 i4 h_3 => ∃ out3 : List (List Int), S ψ h h_3 [.it (El.ow (El.sl (El.int .i64))) [v3] out3] ∧ loopN (p_spec_l10Sort_b1 list0) n (out3, i4) = some r, ⟨n_4, _, st.pick [0] (by decide), hn⟩, ?_⟩
  rintro n _ v3 i4 h_3 ⟨out3, st, hn⟩
  obtain ⟨m, a, rfl, hp, hs⟩ := loopN_step hn
  rw [p_spec_l10Sort_b1] at hp
  refine vLen_C (f0.mono st.le) ?_
  refine bifP hp (fun hc hp => ?_) (fun hc hp => ?_)
  · refine vLen_C (st.rdL 0 rfl (frz_sl _)) ?_
    refine ⟨fun k5 h_4 => S ψ h h_4 [.it (El.ow (El.sl (El.int .i64))) [v3] out3] ∧ p_spec_l10Sort_k1 list0 out3 i4 k5 = some a, ?_, ?_⟩
    · obtain ⟨n_3, hn_2⟩ := loop_n hp
      refine ⟨fun n_2 k5_2 h_10 => S ψ h h_10 [.it (El.ow (El.sl (El.int .i64))) [v3] out3] ∧ loopN (p_spec_l10Sort_b2 list0 out3 i4) n_2 k5_2 = some a, ⟨n_3, st.pick [0] (by decide), hn_2⟩, ?_⟩
      rintro n_2 _ k5_2 h_10 ⟨st, hn_2⟩
      obtain ⟨m_2, a_2, rfl, hp, hs_2⟩ := loopN_step hn_2
      rw [p_spec_l10Sort_b2] at hp
      refine bifP hp (fun hc hp => ?_) (fun hc hp => ?_)
      · obtain ⟨e22, hx_8, hp⟩ := obind hp
        refine vIdx_C (st.rdL 0 rfl (frz_sl _)) hx_8 fun p22 ad_2 => ?_
        refine ldV_ow st 0 rfl ad_2 hx_8 fun u23 st => ?_
        obtain ⟨e26, hx_9, hp⟩ := obind hp
        refine vIdx_C (f0.mono st.le) hx_9 fun p26 ad_3 => ?_
        refine ldV_C f0 st.le ad_3 hx_9 fun u27 f_2 => ?_
        obtain ⟨r28, hx_10, hp⟩ := obind hp
        obtain ⟨φ_2, L_2, s_2, r_3⟩ := id st
        refine (r_spec_CompareLists s_2.fle hx_10 (st.rdF 0 rfl) (f_2.mono st.le)).mono fun v_3 h_11 ⟨eq_2, t_2⟩ => ⟨_, eq_2, ?_⟩
        replace st := join0 s_2 r_3 t_2
        clear t_2 s_2 r_3
        refine bifP hp (fun hc hp => ?_) (fun hc hp => ?_)
        · obtain rfl := Option.some.inj hp
          exact ⟨m_2, Nat.lt_succ_self _, st.pick [1] (by decide), hs_2⟩
        · obtain ⟨xm, hq, rfl⟩ := omap hp
          obtain rfl := Option.some.inj hs_2
          exact ⟨st.pick [1] (by decide), hq⟩
      · obtain ⟨xm, hq, rfl⟩ := omap hp
        obtain rfl := Option.some.inj hs_2
        exact ⟨st.pick [0] (by decide), hq⟩
    · rintro _ k5 h_4 ⟨st, hp⟩
      rw [p_spec_l10Sort_k1] at hp
      refine newS_S (E := (El.sl (El.int .i64))) (css := []) (xs := ([] : List (List Int))) st (fun _ => rfl) rfl rfl fun v33 h_5 st => ?_
      obtain ⟨l36, hx, hp⟩ := obind hp
      refine view_V none (some k5) (st.rdL 1 rfl (frz_sl _)) hx fun v36 hv => ?_
      obtain ⟨l37, hx_2, hp⟩ := obind hp
      refine app_S st 0 rfl (src_view 1 rfl hv hx rfl sl_rows) rfl rfl hx_2 fun v37 h_6 st => ?_
      dsimp only [List.set] at st
      obtain ⟨e41, hx_3, hp⟩ := obind hp
      refine vIdx_C (f0.mono st.le) hx_3 fun p41 ad => ?_
      refine ldV_C f0 st.le ad hx_3 fun u42 f => ?_
      obtain ⟨r43, hx_4, hp⟩ := obind hp
      obtain ⟨φ, L, s, r_2⟩ := id st
      refine (r_spec_l00Own s.fle hx_4 (f.mono st.le)).mono fun v_2 h_7 ⟨v43, eq, t⟩ => ⟨_, eq, ?_⟩
      replace st := join1 s r_2 t
      clear t s r_2
      refine vOne_of (st.rdL 0 rfl (frz_int _)).one ?_
      have st := st.freeze 0 rfl (frz_ow (frz_int _))
      dsimp only [List.set] at st
      have st := st.copyF 0 rfl
      obtain ⟨l45, hx_5, hp⟩ := obind hp
      refine push_it st 1 rfl rfl rfl hx_5 fun v45 h_8 st => ?_
      dsimp only [List.set] at st
      obtain ⟨l49, hx_6, hp⟩ := obind hp
      refine view_V (some k5) none (st.rdL 2 rfl (frz_sl _)) hx_6 fun v49 hv_2 => ?_
      obtain ⟨l50, hx_7, hp⟩ := obind hp
      refine app_S st 1 rfl (src_view 2 rfl hv_2 hx_6 rfl sl_rows) rfl rfl hx_7 fun v50 h_9 st => ?_
      dsimp only [List.set] at st
      obtain rfl := Option.some.inj hp
      exact ⟨m, Nat.lt_succ_self _, _, st.pick [1] (by decide), hs⟩
  · obtain rfl := Option.some.inj hp
    obtain rfl := Option.some.inj hs
    exact ⟨v3, rfl, st.pick [0] (by decide)⟩
theorem r_spec_l10Make {ψ : CM} {h : Heap} (hψ : CLe ψ (hcell h)) {points0 : Int} {blocks1 : List (List Int)} {v1 : Value} {r : T_impl_Design × Int} (hp : p_spec_l10Make points0 blocks1 = some r) (f1 : SlC (hcell h) (El.sl (El.int .i64)) v1 blocks1) : CallsH P id_spec_l10Make #[.int .i64 points0, v1] h (fun v h' => ∃ w0 : Value, v = .tuple #[.agg #[.int .i64 r.1.Points, w0], .int .i64 r.2] ∧ S ψ h h' [.it (El.ow (El.sl (El.int .i64))) [w0] r.1.Blocks]) := by
  apply w_spec_l10Make
  unfold F_spec_l10Make
  rw [p_spec_l10Make] at hp
  have st : S ψ h h [] := S.start hψ
  refine new_S st fun b4 h_2 st => ?_
  obtain ⟨n_2, hn⟩ := loop_n hp
  refine ⟨fun n i6 h_3 => S ψ h h_3 [.box b4 [.int .i64 0, (.slice none 0 0)]] ∧ loopN (p_spec_l10Make_b1 points0 blocks1) n i6 = some r, ⟨n_2, st.pick [0] (by decide), hn⟩, ?_⟩
  rintro n _ i6 h_3 ⟨st, hn⟩
  obtain ⟨m, a, rfl, hp, hs⟩ := loopN_step hn
  rw [p_spec_l10Make_b1] at hp
  refine vLen_C (f1.mono st.le) ?_
  refine bifP hp (fun hc hp => ?_) (fun hc hp => ?_)
  · obtain ⟨e15, hx, hp⟩ := obind hp
    refine vIdx_C (f1.mono st.le) hx fun p15 ad => ?_
    refine ldV_C f1 st.le ad hx fun u16 f => ?_
    obtain ⟨r18, hx_2, hp⟩ := obind hp
    obtain ⟨φ, L, s, r_2⟩ := id st
    refine (r_spec_l10Block s.fle hx_2 (f.mono st.le)).mono fun v_2 h_4 ⟨eq, t⟩ => ⟨_, eq, ?_⟩
    replace st := join0 s r_2 t
    clear t s r_2
    refine bifP hp (fun hc hp => ?_) (fun hc hp => ?_)
    · refine st_box st 0 rfl rfl rfl rfl fun h_5 st => ?_
      dsimp only [List.set] at st
      refine st_box st 0 rfl rfl rfl rfl fun h_6 st => ?_
      dsimp only [List.set] at st
      refine ldI_K (st.cells 0 rfl) 0 rfl rfl ?_
      refine ldV_K (st.cells 0 rfl) 1 rfl rfl ?_
      have st := st.nilO (E := (El.sl (El.int .i64)))
      obtain rfl := Option.some.inj hp
      obtain rfl := Option.some.inj hs
      exact ⟨(.slice none 0 0), rfl, st.pick [0] (by decide)⟩
    · obtain rfl := Option.some.inj hp
      exact ⟨m, Nat.lt_succ_self _, st.pick [0] (by decide), hs⟩
  · refine vLen_C (f1.mono st.le) ?_
    refine bifP hp (fun hc hp => ?_) (fun hc hp => ?_)
    · refine st_box st 0 rfl rfl rfl rfl fun h_7 st => ?_
      dsimp only [List.set] at st
      refine st_box st 0 rfl rfl rfl rfl fun h_8 st => ?_
      dsimp only [List.set] at st
      refine ldI_K (st.cells 0 rfl) 0 rfl rfl ?_
      refine ldV_K (st.cells 0 rfl) 1 rfl rfl ?_
      have st := st.nilO (E := (El.sl (El.int .i64)))
      obtain rfl := Option.some.inj hp
      obtain rfl := Option.some.inj hs
      exact ⟨(.slice none 0 0), rfl, st.pick [0] (by decide)⟩
    · obtain ⟨r27, hx_3, hp⟩ := obind hp
      obtain ⟨φ_2, L_2, s_2, r_3⟩ := id st
      refine (r_spec_l10Sort s_2.fle hx_3 (f1.mono st.le)).mono fun v_3 h_9 ⟨v27, eq_2, t_2⟩ => ⟨_, eq_2, ?_⟩
      replace st := join1 s_2 r_3 t_2
      clear t_2 s_2 r_3
      refine vOne_of (st.rdL 0 rfl (frz_sl _)).one ?_
      refine st_box st 1 rfl rfl rfl rfl fun h_10 st => ?_
      dsimp only [List.set] at st
      refine st_box st 1 rfl rfl rfl (st.rdL 0 rfl (frz_sl _)).one fun h_11 st => ?_
      dsimp only [List.set] at st
      refine ldI_K (st.cells 1 rfl) 0 rfl rfl ?_
      refine ldV_K (st.cells 1 rfl) 1 rfl rfl ?_
      obtain rfl := Option.some.inj hp
      obtain rfl := Option.some.inj hs
      exact ⟨v27, rfl, st.pick [0] (by decide)⟩
theorem r_spec_l28First {ψ : CM} {h : Heap} (hψ : CLe ψ (hcell h)) {y0 : T_impl_Design} {p0 : Addr} {v0_1 : Value} {y1 : Int} {y2 : Int} {y3 : Int} {r : T_impl_Design × Int} (hp : p_spec_l28First y0 y1 y2 y3 = some r) (ck0 : CellsC (hcell h) p0 [.int .i64 y0.Points, v0_1]) (f0_1 : SlC ψ (El.sl (El.int .i64)) v0_1 y0.Blocks) : CallsH P id_spec_l28First #[.pointer (some p0), .int .i64 y1, .int .i64 y2, .int .i64 y3] h (fun v h' => ∃ w0 : Value, v = .tuple #[.agg #[.int .i64 r.1.Points, w0], .int .i64 r.2] ∧ S ψ h h' [.it (El.ow (El.sl (El.int .i64))) [w0] r.1.Blocks]) := by
  apply w_spec_l28First
  unfold F_spec_l28First
  rw [p_spec_l28First] at hp
  have st : S ψ h h [] := S.start hψ
  refine new_S st fun b8 h_2 st => ?_
  obtain ⟨r19, hx, hp⟩ := obind hp
  obtain ⟨φ, L, s, r_2⟩ := id st
  refine (r_spec_l28Run s.fle hx (ck0.mono st.le) (f0_1.mono st.leF)).mono fun v_2 h_3 ⟨b19, v19, v19_2, v19_3, v19_4, v19_5, eq, t⟩ => ⟨_, _, eq, ?_⟩
  replace st := join6 s r_2 t
  clear t s r_2
  refine bifP hp (fun hc hp => ?_) (fun hc hp => ?_)
  · refine st_box st 6 rfl rfl rfl rfl fun h_4 st => ?_
    dsimp only [List.set] at st
    refine st_box st 6 rfl rfl rfl rfl fun h_5 st => ?_
    dsimp only [List.set] at st
    refine ldI_K (st.cells 6 rfl) 0 rfl rfl ?_
    refine ldV_K (st.cells 6 rfl) 1 rfl rfl ?_
    have st := st.nilO (E := (El.sl (El.int .i64)))
    obtain rfl := Option.some.inj hp
    exact ⟨(.slice none 0 0), rfl, st.pick [0] (by decide)⟩
  · refine vNilQ_p ?_
    refine ldI_K (st.cells 0 rfl) 8 rfl rfl ?_
    refine bifP hp (fun hc hp => ?_) (fun hc hp => ?_)
    · refine st_box st 6 rfl rfl rfl rfl fun h_6 st => ?_
      dsimp only [List.set] at st
      refine st_box st 6 rfl rfl rfl rfl fun h_7 st => ?_
      dsimp only [List.set] at st
      refine ldI_K (st.cells 6 rfl) 0 rfl rfl ?_
      refine ldV_K (st.cells 6 rfl) 1 rfl rfl ?_
      have st := st.nilO (E := (El.sl (El.int .i64)))
      obtain rfl := Option.some.inj hp
      exact ⟨(.slice none 0 0), rfl, st.pick [0] (by decide)⟩
    · refine newS_S (E := (El.sl (El.int .i64))) (css := []) (xs := ([] : List (List Int))) st (fun _ => rfl) rfl rfl fun v32 h_8 st => ?_
      refine ldV_K (ck0.mono st.le) 1 rfl rfl ?_
      have st := st.arg f0_1
      obtain ⟨l37, hx_2, hp⟩ := obind hp
      refine app_S st 1 rfl (src_it 0 rfl) rfl rfl hx_2 fun v37 h_9 st => ?_
      dsimp only [List.set] at st
      obtain ⟨n_2, hn⟩ := loop_n hp
      refine ⟨fun n v12 y13 h_10 => ∃ y12 : List (List Int), S ψ h h_10 [.it (El.sl (El.sl (El.int .i64))) [v0_1] y0.Blocks, .it (El.ow (El.sl (El.int .i64))) [v12] y12, .box b19 [.int .i64 r19.1.qv, .int .i64 r19.1.qlambda, v19, v19_2, v19_3, v19_4, .int .i64 r19.1.qnodes, .int .i64 r19.1.qbudget, .int .i64 r19.1.qcount, .bool r19.1.qfirst, v19_5], .it (El.sl (El.sl (El.int .i64))) [v19] r19.1.qall, .it (El.ow El.bool) [v19_2] r19.1.qused, .it (El.ow (El.int .i64)) [v19_3] r19.1.qpairs, .it (El.ow (El.int .i64)) [v19_4] r19.1.qchosen, .it (El.ow (El.int .i64)) [v19_5] r19.1.qfound, .box b8 [.int .i64 0, (.slice none 0 0)]] ∧ loopN (p_spec_l28First_b1 y0 r19) n (y12, y13) = some r, ⟨n_2, _, st.pick [0, 1, 2, 3, 4, 5, 6, 7, 8] (by decide), hn⟩, ?_⟩
      rintro n _ v12 y13 h_10 ⟨y12, st, hn⟩
      obtain ⟨m, a, rfl, hp, hs⟩ := loopN_step hn
      rw [p_spec_l28First_b1] at hp
      refine vNilQ_p ?_
      refine ldV_K (st.cells 2 rfl) 10 rfl rfl ?_
      refine vLen_C (st.rdL 7 rfl (frz_int _)) ?_
      refine bifP hp (fun hc hp => ?_) (fun hc hp => ?_)
      · refine vNilQ_p ?_
        refine ldV_K (st.cells 2 rfl) 2 rfl rfl ?_
        refine vNilQ_p ?_
        refine ldV_K (st.cells 2 rfl) 10 rfl rfl ?_
        obtain ⟨e57, hx_3, hp⟩ := obind hp
        refine vIdx_C (st.rdL 7 rfl (frz_int _)) hx_3 fun p57 ad => ?_
        refine ldI_C (st.rdL 7 rfl (frz_int _)) ad hx_3 ?_
        obtain ⟨e59, hx_4, hp⟩ := obind hp
        refine vIdx_C (st.rdF 3 rfl) hx_4 fun p59 ad_2 => ?_
        refine ldV_it st 3 rfl ad_2 hx_4 fun u60 st => ?_
        refine vOne_of (st.rdF 0 rfl).one ?_
        have st := st.copyF 0 rfl
        obtain ⟨l62, hx_5, hp⟩ := obind hp
        refine push_it st 2 rfl rfl rfl hx_5 fun v62 h_11 st => ?_
        dsimp only [List.set] at st
        obtain rfl := Option.some.inj hp
        exact ⟨m, Nat.lt_succ_self _, _, st.pick [1, 2, 3, 4, 5, 6, 7, 8, 9] (by decide), hs⟩
      · refine ldI_K (ck0.mono st.le) 0 rfl rfl ?_
        obtain ⟨r68, hx_6, hp⟩ := obind hp
        obtain ⟨φ_2, L_2, s_2, r_3⟩ := id st
        refine (r_spec_l10Make s_2.fle hx_6 (st.rdL 1 rfl (frz_sl _))).mono fun v_3 h_12 ⟨v68, eq_2, t_2⟩ => ⟨_, _, _, eq_2, ?_⟩
        replace st := join1 s_2 r_3 t_2
        clear t_2 s_2 r_3
        refine st_box st 9 rfl rfl rfl rfl fun h_13 st => ?_
        dsimp only [List.set] at st
        refine st_box st 9 rfl rfl rfl (st.rdL 0 rfl (frz_sl _)).one fun h_14 st => ?_
        dsimp only [List.set] at st
        refine ldI_K (st.cells 9 rfl) 0 rfl rfl ?_
        refine ldV_K (st.cells 9 rfl) 1 rfl rfl ?_
        obtain rfl := Option.some.inj hp
        obtain rfl := Option.some.inj hs
        exact ⟨v68, rfl, st.pick [0] (by decide)⟩
theorem r_spec_CompleteDesign {ψ : CM} {h : Heap} (hψ : CLe ψ (hcell h)) {d0 : T_impl_Design} {v0_1 : Value} {k1 : Int} {lambda2 : Int} {budget3 : Int} {r : T_impl_Design × Int} (hp : p_spec_CompleteDesign d0 k1 lambda2 budget3 = some r) (f0_1 : SlC ψ (El.sl (El.int .i64)) v0_1 d0.Blocks) : CallsH P id_spec_CompleteDesign #[.agg #[.int .i64 d0.Points, v0_1], .int .i64 k1, .int .i64 lambda2, .int .i64 budget3] h (fun v h' => ∃ w0 : Value, v = .tuple #[.agg #[.int .i64 r.1.Points, w0], .int .i64 r.2] ∧ S ψ h h' [.it (El.ow (El.sl (El.int .i64))) [w0] r.1.Blocks]) := by
  apply w_spec_CompleteDesign
  unfold F_spec_CompleteDesign
  rw [p_spec_CompleteDesign] at hp
  have st : S ψ h h [] := S.start hψ
  refine new_S st fun b4 h_2 st => ?_
  refine new_S st fun b8 h_3 st => ?_
  obtain ⟨r13, hx, hp⟩ := obind hp
  obtain ⟨φ, L, s, r_2⟩ := id st
  refine (r_spec_l28First s.fle hx (st.cells 1 rfl) (f0_1.mono s.bas)).mono fun v_2 h_4 ⟨v13, eq, t⟩ => ⟨_, _, _, eq, ?_⟩
  replace st := join1 s r_2 t
  clear t s r_2
  refine st_box st 1 rfl rfl rfl rfl fun h_5 st => ?_
  dsimp only [List.set] at st
  refine st_box st 1 rfl rfl rfl (st.rdL 0 rfl (frz_sl _)).one fun h_6 st => ?_
  dsimp only [List.set] at st
  refine ldI_K (st.cells 1 rfl) 0 rfl rfl ?_
  refine ldV_K (st.cells 1 rfl) 1 rfl rfl ?_
  obtain rfl := Option.some.inj hp
  exact ⟨v13, rfl, st.pick [0] (by decide)⟩
theorem r_laws_toInt64S {ψ : CM} {h : Heap} (hψ : CLe ψ (hcell h)) {a0 : List Int} {v0 : Value} {r : List Int} (hp : p_laws_toInt64S a0 = some r) (f0 : SlC (hcell h) (El.int .i64) v0 a0) : CallsH P id_laws_toInt64S #[v0] h (fun v h' => ∃ w0 : Value, v = w0 ∧ S ψ h h' [.it (El.ow (El.int .i64)) [w0] r]) := by
  apply w_laws_toInt64S
  unfold F_laws_toInt64S
  rw [p_laws_toInt64S] at hp
  have st : S ψ h h [] := S.start hψ
  refine vLen_C (f0.mono st.le) ?_
  obtain ⟨l7, hx, hp⟩ := obind hp
  refine make_S (E := (El.int .i64)) st rfl hx fun v7 h_2 st => ?_
  obtain ⟨n_2, hn⟩ := loop_n hp
  refine ⟨fun n i4 h_3 => ∃ xs : List Int, S ψ h h_3 [.it (El.ow (El.int .i64)) [v7] xs] ∧ loopN (p_laws_toInt64S_b1 a0) n (i4, xs) = some r, ⟨n_2, _, st.pick [0] (by decide), hn⟩, ?_⟩
  rintro n _ i4 h_3 ⟨xs, st, hn⟩
  obtain ⟨m, a, rfl, hp, hs⟩ := loopN_step hn
  rw [p_laws_toInt64S_b1] at hp
  refine vLen_C (f0.mono st.le) ?_
  refine bifP hp (fun hc hp => ?_) (fun hc hp => ?_)
  · obtain ⟨e18, hx_2, hp⟩ := obind hp
    refine vIdx_C (f0.mono st.le) hx_2 fun p18 ad => ?_
    refine ldI_C (f0.mono st.le) ad hx_2 ?_
    obtain ⟨e20, hx_3, hp⟩ := obind hp
    refine vIdx_C (st.rdL 0 rfl (frz_int _)) hx_3 fun p20 ad_2 => ?_
    refine st1_S st 0 rfl ad_2 hx_3 rfl (fun _ => ⟨rfl, rfl⟩) fun h_4 st => ?_
    dsimp only [List.set] at st
    obtain rfl := Option.some.inj hp
    exact ⟨m, Nat.lt_succ_self _, _, st.pick [0] (by decide), hs⟩
  · obtain rfl := Option.some.inj hp
    obtain rfl := Option.some.inj hs
    exact ⟨v7, rfl, st.pick [0] (by decide)⟩
theorem r_laws_toInt64SS {ψ : CM} {h : Heap} (hψ : CLe ψ (hcell h)) {a0 : List (List Int)} {v0 : Value} {r : List (List Int)} (hp : p_laws_toInt64SS a0 = some r) (f0 : SlC (hcell h) (El.sl (El.int .i64)) v0 a0) : CallsH P id_laws_toInt64SS #[v0] h (fun v h' => ∃ w0 : Value, v = w0 ∧ S ψ h h' [.it (El.ow (El.ow (El.int .i64))) [w0] r]) := by
  apply w_laws_toInt64SS
  unfold F_laws_toInt64SS
  rw [p_laws_toInt64SS] at hp
  have st : S ψ h h [] := S.start hψ
  refine vLen_C (f0.mono st.le) ?_
  obtain ⟨l7, hx, hp⟩ := obind hp
  refine make_S (E := (El.ow (El.int .i64))) st rfl hx fun v7 h_2 st => ?_
  obtain ⟨n_2, hn⟩ := loop_n hp
  refine ⟨fun n i4 h_3 => ∃ xs : List (List Int), S ψ h h_3 [.it (El.ow (El.ow (El.int .i64))) [v7] xs] ∧ loopN (p_laws_toInt64SS_b1 a0) n (i4, xs) = some r, ⟨n_2, _, st.pick [0] (by decide), hn⟩, ?_⟩
  rintro n _ i4 h_3 ⟨xs, st, hn⟩
  obtain ⟨m, a, rfl, hp, hs⟩ := loopN_step hn
  rw [p_laws_toInt64SS_b1] at hp
  refine vLen_C (f0.mono st.le) ?_
  refine bifP hp (fun hc hp => ?_) (fun hc hp => ?_)
  · obtain ⟨e18, hx_2, hp⟩ := obind hp
    refine vIdx_C (f0.mono st.le) hx_2 fun p18 ad => ?_
    refine ldV_C f0 st.le ad hx_2 fun u19 f => ?_
    obtain ⟨r20, hx_3, hp⟩ := obind hp
    obtain ⟨φ, L, s, r_2⟩ := id st
    refine (r_laws_toInt64S s.fle hx_3 (f.mono st.le)).mono fun v_2 h_4 ⟨v20, eq, t⟩ => ⟨_, eq, ?_⟩
    replace st := join1 s r_2 t
    clear t s r_2
    obtain ⟨e21, hx_4, hp⟩ := obind hp
    refine vIdx_C (st.rdL 1 rfl (frz_ow (frz_int _))) hx_4 fun p21 ad_2 => ?_
    refine st1_it st 0 rfl ad_2 hx_4 rfl fun h_5 st => ?_
    dsimp only [List.set] at st
    obtain rfl := Option.some.inj hp
    exact ⟨m, Nat.lt_succ_self _, _, st.pick [0] (by decide), hs⟩
  · obtain rfl := Option.some.inj hp
    obtain rfl := Option.some.inj hs
    exact ⟨v7, rfl, st.pick [0] (by decide)⟩
theorem r_laws_toDesign {ψ : CM} {h : Heap} (hψ : CLe ψ (hcell h)) {a0 : T_laws_Design} {v0_1 : Value} {r : T_impl_Design} (hp : p_laws_toDesign a0 = some r) (f0_1 : SlC (hcell h) (El.sl (El.int .i64)) v0_1 a0.Blocks) : CallsH P id_laws_toDesign #[.agg #[.int .i64 a0.Points, v0_1]] h (fun v h' => ∃ w0 : Value, v = .agg #[.int .i64 r.Points, w0] ∧ S ψ h h' [.it (El.ow (El.ow (El.int .i64))) [w0] r.Blocks]) := by
  apply w_laws_toDesign
  unfold F_laws_toDesign
  rw [p_laws_toDesign] at hp
  have st : S ψ h h [] := S.start hψ
  refine new_S st fun b1 h_2 st => ?_
  refine new_S st fun b2 h_3 st => ?_
  refine new_S st fun b3 h_4 st => ?_
  refine ldI_K (st.cells 2 rfl) 0 rfl rfl ?_
  refine st_box st 0 rfl rfl rfl rfl fun h_5 st => ?_
  dsimp only [List.set] at st
  refine ldV_K (st.cells 2 rfl) 1 rfl rfl ?_
  obtain ⟨r9, hx, hp⟩ := obind hp
  obtain ⟨φ, L, s, r_2⟩ := id st
  refine (r_laws_toInt64SS s.fle hx (f0_1.mono st.le)).mono fun v_2 h_6 ⟨v9, eq, t⟩ => ⟨_, eq, ?_⟩
  replace st := join1 s r_2 t
  clear t s r_2
  refine st_box st 1 rfl rfl rfl (st.rdL 0 rfl (frz_ow (frz_int _))).one fun h_7 st => ?_
  dsimp only [List.set] at st
  refine ldI_K (st.cells 1 rfl) 0 rfl rfl ?_
  refine ldV_K (st.cells 1 rfl) 1 rfl rfl ?_
  refine st_box st 2 rfl rfl rfl rfl fun h_8 st => ?_
  dsimp only [List.set] at st
  refine st_box st 2 rfl rfl rfl (st.rdL 0 rfl (frz_ow (frz_int _))).one fun h_9 st => ?_
  dsimp only [List.set] at st
  refine ldI_K (st.cells 2 rfl) 0 rfl rfl ?_
  refine ldV_K (st.cells 2 rfl) 1 rfl rfl ?_
  obtain rfl := Option.some.inj hp
  exact ⟨v9, rfl, st.pick [0] (by decide)⟩
theorem r_impl_within {ψ : CM} {h : Heap} (hψ : CLe ψ (hcell h)) {n0 : Int} {low1 : Int} {high2 : Int} {r : Bool} (hp : p_impl_within n0 low1 high2 = some r)  : CallsH P id_impl_within #[.int .i64 n0, .int .i64 low1, .int .i64 high2] h (fun v h' => v = .bool r ∧ S ψ h h' []) := by
  apply w_impl_within
  unfold F_impl_within
  rw [p_impl_within] at hp
  have st : S ψ h h [] := S.start hψ
  refine bifP hp (fun hc hp => ?_) (fun hc hp => ?_)
  · obtain rfl := Option.some.inj hp
    exact ⟨rfl, st.pick [] (by decide)⟩
  · obtain rfl := Option.some.inj hp
    exact ⟨rfl, st.pick [] (by decide)⟩
theorem r_slices_IndexFunc_LLint64_Lint64 {ψ : CM} {h : Heap} (hψ : CLe ψ (hcell h)) {s0 : List (List Int)} {v0 : Value} {fn1 : (List Int) → Option Bool} {g1 : Nat} {cap1 : List Value} {r : Int} (hp : p_slices_IndexFunc_LLint64_Lint64 s0 fn1 = some r) (f0 : SlC (hcell h) (El.sl (El.int .i64)) v0 s0) (o1 : ctx.okf g1 = true) (k1 : ∀ {h1 : Heap}, ExtH h h1 → ∀ {ψ1 : CM}, CLe ψ1 (hcell h1) → ∀ {y0 : List Int} {u0_0 : Value} {r1 : Bool}, fn1 y0 = some r1 → SlC (hcell h1) (El.int .i64) u0_0 y0 → CallsH P g1 (([u0_0] : List Value) ++ cap1).toArray h1 (fun v h' => v = .bool r1 ∧ S ψ1 h1 h' [])) : CallsH P id_slices_IndexFunc_LLint64_Lint64 #[v0, .func (.func g1) #[] cap1.toArray] h (fun v h' => v = .int .i64 r ∧ S ψ h h' []) := by
  apply w_slices_IndexFunc_LLint64_Lint64
  unfold F_slices_IndexFunc_LLint64_Lint64
  rw [p_slices_IndexFunc_LLint64_Lint64] at hp
  have st : S ψ h h [] := S.start hψ
  refine vLen_C (f0.mono st.le) ?_
  obtain ⟨n_2, hn⟩ := loop_n hp
  refine ⟨fun n y8 h_2 => S ψ h h_2 [] ∧ loopN (p_slices_IndexFunc_LLint64_Lint64_b1 s0 fn1) n y8 = some r, ⟨n_2, st.pick [] (by decide), hn⟩, ?_⟩
  rintro n _ y8 h_2 ⟨st, hn⟩
  obtain ⟨m, a, rfl, hp, hs⟩ := loopN_step hn
  rw [p_slices_IndexFunc_LLint64_Lint64_b1] at hp
  refine bifP hp (fun hc hp => ?_) (fun hc hp => ?_)
  · obtain ⟨e14, hx, hp⟩ := obind hp
    refine vIdx_C (f0.mono st.le) hx fun p14 ad => ?_
    refine ldV_C f0 st.le ad hx fun u15 f => ?_
    obtain ⟨r16, hx_2, hp⟩ := obind hp
    obtain ⟨φ, L, s, r_2⟩ := id st
    refine vOkf_of o1 ?_
    refine (k1 st.ext s.fle hx_2 (f.mono st.le)).mono fun v_2 h_3 ⟨eq, t⟩ => ⟨_, eq, ?_⟩
    replace st := join0 s r_2 t
    clear t s r_2
    refine bifP hp (fun hc hp => ?_) (fun hc hp => ?_)
    · obtain rfl := Option.some.inj hp
      obtain rfl := Option.some.inj hs
      exact ⟨rfl, st.pick [] (by decide)⟩
    · obtain rfl := Option.some.inj hp
      exact ⟨m, Nat.lt_succ_self _, st.pick [] (by decide), hs⟩
  · obtain rfl := Option.some.inj hp
    obtain rfl := Option.some.inj hs
    exact ⟨rfl, st.pick [] (by decide)⟩
theorem r_slices_ContainsFunc_LLint64_Lint64 {ψ : CM} {h : Heap} (hψ : CLe ψ (hcell h)) {s0 : List (List Int)} {v0 : Value} {fn1 : (List Int) → Option Bool} {g1 : Nat} {cap1 : List Value} {r : Bool} (hp : p_slices_ContainsFunc_LLint64_Lint64 s0 fn1 = some r) (f0 : SlC (hcell h) (El.sl (El.int .i64)) v0 s0) (o1 : ctx.okf g1 = true) (k1 : ∀ {h1 : Heap}, ExtH h h1 → ∀ {ψ1 : CM}, CLe ψ1 (hcell h1) → ∀ {y0 : List Int} {u0_0 : Value} {r1 : Bool}, fn1 y0 = some r1 → SlC (hcell h1) (El.int .i64) u0_0 y0 → CallsH P g1 (([u0_0] : List Value) ++ cap1).toArray h1 (fun v h' => v = .bool r1 ∧ S ψ1 h1 h' [])) : CallsH P id_slices_ContainsFunc_LLint64_Lint64 #[v0, .func (.func g1) #[] cap1.toArray] h (fun v h' => v = .bool r ∧ S ψ h h' []) := by
  apply w_slices_ContainsFunc_LLint64_Lint64
  unfold F_slices_ContainsFunc_LLint64_Lint64
  rw [p_slices_ContainsFunc_LLint64_Lint64] at hp
  have st : S ψ h h [] := S.start hψ
  obtain ⟨r7, hx, hp⟩ := obind hp
  obtain ⟨φ, L, s, r_2⟩ := id st
  refine (r_slices_IndexFunc_LLint64_Lint64 s.fle hx (f0.mono st.le) o1 (fun hx1 => k1 (st.ext.trans hx1))).mono fun v_2 h_2 ⟨eq, t⟩ => ⟨_, eq, ?_⟩
  replace st := join0 s r_2 t
  clear t s r_2
  obtain rfl := Option.some.inj hp
  exact ⟨rfl, st.pick [] (by decide)⟩
theorem r_impl_ValidSet {ψ : CM} {h : Heap} (hψ : CLe ψ (hcell h)) {set0 : List Int} {v0 : Value} {n1 : Int} {r : Bool} (hp : p_impl_ValidSet set0 n1 = some r) (f0 : SlC (hcell h) (El.int .i64) v0 set0) : CallsH P id_impl_ValidSet #[v0, .int .i64 n1] h (fun v h' => v = .bool r ∧ S ψ h h' []) := by
  apply w_impl_ValidSet
  unfold F_impl_ValidSet
  rw [p_impl_ValidSet] at hp
  have st : S ψ h h [] := S.start hψ
  refine vLen_C (f0.mono st.le) ?_
  obtain ⟨n_2, hn⟩ := loop_n hp
  refine ⟨fun n last5 y10 h_2 => S ψ h h_2 [] ∧ loopN (p_impl_ValidSet_b1 set0 n1) n (last5, y10) = some r, ⟨n_2, st.pick [] (by decide), hn⟩, ?_⟩
  rintro n _ last5 y10 h_2 ⟨st, hn⟩
  obtain ⟨m, a, rfl, hp, hs⟩ := loopN_step hn
  rw [p_impl_ValidSet_b1] at hp
  refine bifP hp (fun hc hp => ?_) (fun hc hp => ?_)
  · obtain ⟨e12, hx, hp⟩ := obind hp
    refine vIdx_C (f0.mono st.le) hx fun p12 ad => ?_
    refine ldI_C (f0.mono st.le) ad hx ?_
    refine bifP hp (fun hc hp => ?_) (fun hc hp => ?_)
    · obtain rfl := Option.some.inj hp
      obtain rfl := Option.some.inj hs
      exact ⟨rfl, st.pick [] (by decide)⟩
    · refine bifP hp (fun hc hp => ?_) (fun hc hp => ?_)
      · obtain rfl := Option.some.inj hp
        obtain rfl := Option.some.inj hs
        exact ⟨rfl, st.pick [] (by decide)⟩
      · obtain rfl := Option.some.inj hp
        exact ⟨m, Nat.lt_succ_self _, st.pick [] (by decide), hs⟩
  · obtain ⟨r25, hx_2, hp⟩ := obind hp
    obtain ⟨φ, L, s, r_2⟩ := id st
    refine (r_impl_within s.fle hx_2).mono fun v_2 h_3 ⟨eq, t⟩ => ⟨_, eq, ?_⟩
    replace st := join0 s r_2 t
    clear t s r_2
    obtain rfl := Option.some.inj hp
    obtain rfl := Option.some.inj hs
    exact ⟨rfl, st.pick [] (by decide)⟩
theorem r_impl_isBlock {ψ : CM} {h : Heap} (hψ : CLe ψ (hcell h)) {block0 : List Int} {v0 : Value} {points1 : Int} {r : Bool} (hp : p_impl_isBlock block0 points1 = some r) (f0 : SlC (hcell h) (El.int .i64) v0 block0) : CallsH P id_impl_isBlock #[v0, .int .i64 points1] h (fun v h' => v = .bool r ∧ S ψ h h' []) := by
  apply w_impl_isBlock
  unfold F_impl_isBlock
  rw [p_impl_isBlock] at hp
  have st : S ψ h h [] := S.start hψ
  refine vLen_C (f0.mono st.le) ?_
  refine bifP hp (fun hc hp => ?_) (fun hc hp => ?_)
  · obtain ⟨r11, hx, hp⟩ := obind hp
    obtain ⟨φ, L, s, r_2⟩ := id st
    refine (r_impl_ValidSet s.fle hx (f0.mono st.le)).mono fun v_2 h_2 ⟨eq, t⟩ => ⟨_, eq, ?_⟩
    replace st := join0 s r_2 t
    clear t s r_2
    obtain rfl := Option.some.inj hp
    exact ⟨rfl, st.pick [] (by decide)⟩
  · obtain rfl := Option.some.inj hp
    exact ⟨rfl, st.pick [] (by decide)⟩
theorem r_impl_areBlocks_1 {ψ : CM} {h : Heap} (hψ : CLe ψ (hcell h)) {b0 : List Int} {v0 : Value} {y1 : Int} {p1 : Addr} {r : Bool} (hp : p_impl_areBlocks_1 b0 y1 = some r) (f0 : SlC (hcell h) (El.int .i64) v0 b0) (ck1 : CellsC (hcell h) p1 [.int .i64 y1]) : CallsH P id_impl_areBlocks_1 #[v0, .pointer (some p1)] h (fun v h' => v = .bool r ∧ S ψ h h' []) := by
  apply w_impl_areBlocks_1
  unfold F_impl_areBlocks_1
  rw [p_impl_areBlocks_1] at hp
  have st : S ψ h h [] := S.start hψ
  refine ldI_K (ck1.mono st.le) 0 rfl rfl ?_
  obtain ⟨r6, hx, hp⟩ := obind hp
  obtain ⟨φ, L, s, r_2⟩ := id st
  refine (r_impl_isBlock s.fle hx (f0.mono st.le)).mono fun v_2 h_2 ⟨eq, t⟩ => ⟨_, eq, ?_⟩
  replace st := join0 s r_2 t
  clear t s r_2
  obtain rfl := Option.some.inj hp
  exact ⟨rfl, st.pick [] (by decide)⟩
theorem r_impl_areBlocks {ψ : CM} {h : Heap} (hψ : CLe ψ (hcell h)) {blocks0 : List (List Int)} {v0 : Value} {points1 : Int} {r : Bool} (hp : p_impl_areBlocks blocks0 points1 = some r) (f0 : SlC (hcell h) (El.sl (El.int .i64)) v0 blocks0) : CallsH P id_impl_areBlocks #[v0, .int .i64 points1] h (fun v h' => v = .bool r ∧ S ψ h h' []) := by
  apply w_impl_areBlocks
  unfold F_impl_areBlocks
  rw [p_impl_areBlocks] at hp
  have st : S ψ h h [] := S.start hψ
  refine new_S st fun b3 h_2 st => ?_
  refine ldI_K (st.cells 0 rfl) 0 rfl rfl ?_
  obtain ⟨r6, hx, hp⟩ := obind hp
  obtain ⟨φ, L, s, r_2⟩ := id st
  refine (r_impl_within s.fle hx).mono fun v_2 h_3 ⟨eq, t⟩ => ⟨_, eq, ?_⟩
  replace st := join0 s r_2 t
  clear t s r_2
  refine bifP hp (fun hc hp => ?_) (fun hc hp => ?_)
  · obtain ⟨r10, hx_2, hp⟩ := obind hp
    obtain ⟨φ_2, L_2, s_2, r_3⟩ := id st
    refine (r_slices_ContainsFunc_LLint64_Lint64 s_2.fle hx_2 (f0.mono st.le) (by kernel_rfl) (fun hx1 => fun hψ1 => fun hp1 ff0 => r_impl_areBlocks_1 hψ1 hp1 ff0 ((st.cells 0 rfl).mono (CLe.ext hx1)))).mono fun v_3 h_4 ⟨eq_2, t_2⟩ => ⟨_, eq_2, ?_⟩
    replace st := join0 s_2 r_3 t_2
    clear t_2 s_2 r_3
    obtain rfl := Option.some.inj hp
    exact ⟨rfl, st.pick [] (by decide)⟩
  · obtain rfl := Option.some.inj hp
    exact ⟨rfl, st.pick [] (by decide)⟩
theorem r_slices_IsSortedFunc_LLint64_Lint64 {ψ : CM} {h : Heap} (hψ : CLe ψ (hcell h)) {x0 : List (List Int)} {v0 : Value} {fn1 : (List Int) → (List Int) → Option Int} {g1 : Nat} {cap1 : List Value} {r : Bool} (hp : p_slices_IsSortedFunc_LLint64_Lint64 x0 fn1 = some r) (f0 : SlC (hcell h) (El.sl (El.int .i64)) v0 x0) (o1 : ctx.okf g1 = true) (k1 : ∀ {h1 : Heap}, ExtH h h1 → ∀ {ψ1 : CM}, CLe ψ1 (hcell h1) → ∀ {y0 : List Int} {u0_0 : Value} {y1 : List Int} {u1_0 : Value} {r1 : Int}, fn1 y0 y1 = some r1 → SlC (hcell h1) (El.int .i64) u0_0 y0 → SlC (hcell h1) (El.int .i64) u1_0 y1 → CallsH P g1 (([u0_0, u1_0] : List Value) ++ cap1).toArray h1 (fun v h' => v = .int .i64 r1 ∧ S ψ1 h1 h' [])) : CallsH P id_slices_IsSortedFunc_LLint64_Lint64 #[v0, .func (.func g1) #[] cap1.toArray] h (fun v h' => v = .bool r ∧ S ψ h h' []) := by
  apply w_slices_IsSortedFunc_LLint64_Lint64
  unfold F_slices_IsSortedFunc_LLint64_Lint64
  rw [p_slices_IsSortedFunc_LLint64_Lint64] at hp
  have st : S ψ h h [] := S.start hψ
  refine vLen_C (f0.mono st.le) ?_
  obtain ⟨n_2, hn⟩ := loop_n hp
  refine ⟨fun n i5 h_2 => S ψ h h_2 [] ∧ loopN (p_slices_IsSortedFunc_LLint64_Lint64_b1 x0 fn1) n i5 = some r, ⟨n_2, st.pick [] (by decide), hn⟩, ?_⟩
  rintro n _ i5 h_2 ⟨st, hn⟩
  obtain ⟨m, a, rfl, hp, hs⟩ := loopN_step hn
  rw [p_slices_IsSortedFunc_LLint64_Lint64_b1] at hp
  refine bifP hp (fun hc hp => ?_) (fun hc hp => ?_)
  · obtain ⟨e16, hx, hp⟩ := obind hp
    refine vIdx_C (f0.mono st.le) hx fun p16 ad => ?_
    refine ldV_C f0 st.le ad hx fun u17 f => ?_
    obtain ⟨e21, hx_2, hp⟩ := obind hp
    refine vIdx_C (f0.mono st.le) hx_2 fun p21 ad_2 => ?_
    refine ldV_C f0 st.le ad_2 hx_2 fun u22 f_2 => ?_
    obtain ⟨r23, hx_3, hp⟩ := obind hp
    obtain ⟨φ, L, s, r_2⟩ := id st
    refine vOkf_of o1 ?_
    refine (k1 st.ext s.fle hx_3 (f.mono st.le) (f_2.mono st.le)).mono fun v_2 h_3 ⟨eq, t⟩ => ⟨_, eq, ?_⟩
    replace st := join0 s r_2 t
    clear t s r_2
    refine bifP hp (fun hc hp => ?_) (fun hc hp => ?_)
    · obtain rfl := Option.some.inj hp
      obtain rfl := Option.some.inj hs
      exact ⟨rfl, st.pick [] (by decide)⟩
    · obtain rfl := Option.some.inj hp
      exact ⟨m, Nat.lt_succ_self _, st.pick [] (by decide), hs⟩
  · obtain rfl := Option.some.inj hp
    obtain rfl := Option.some.inj hs
    exact ⟨rfl, st.pick [] (by decide)⟩
theorem r_cmp_isNaN_int64 {ψ : CM} {h : Heap} (hψ : CLe ψ (hcell h)) {x0 : Int} {r : Bool} (hp : p_cmp_isNaN_int64 x0 = some r)  : CallsH P id_cmp_isNaN_int64 #[.int .i64 x0] h (fun v h' => v = .bool r ∧ S ψ h h' []) := by
  apply w_cmp_isNaN_int64
  unfold F_cmp_isNaN_int64
  rw [p_cmp_isNaN_int64] at hp
  have st : S ψ h h [] := S.start hψ
  obtain rfl := Option.some.inj hp
  exact ⟨rfl, st.pick [] (by decide)⟩
theorem r_cmp_Compare_int64 {ψ : CM} {h : Heap} (hψ : CLe ψ (hcell h)) {x0 : Int} {y1 : Int} {r : Int} (hp : p_cmp_Compare_int64 x0 y1 = some r)  : CallsH P id_cmp_Compare_int64 #[.int .i64 x0, .int .i64 y1] h (fun v h' => v = .int .i64 r ∧ S ψ h h' []) := by
  apply w_cmp_Compare_int64
  unfold F_cmp_Compare_int64
  rw [p_cmp_Compare_int64] at hp
  have st : S ψ h h [] := S.start hψ
  obtain ⟨r8, hx, hp⟩ := obind hp
  obtain ⟨φ, L, s, r_2⟩ := id st
  refine (r_cmp_isNaN_int64 s.fle hx).mono fun v_2 h_2 ⟨eq, t⟩ => ⟨_, eq, ?_⟩
  replace st := join0 s r_2 t
  clear t s r_2
  obtain ⟨r10, hx_2, hp⟩ := obind hp
  obtain ⟨φ_2, L_2, s_2, r_3⟩ := id st
  refine (r_cmp_isNaN_int64 s_2.fle hx_2).mono fun v_3 h_3 ⟨eq_2, t_2⟩ => ⟨_, eq_2, ?_⟩
  replace st := join0 s_2 r_3 t_2
  clear t_2 s_2 r_3
  refine bifP hp (fun hc hp => ?_) (fun hc hp => ?_)
  · refine bifP hp (fun hc hp => ?_) (fun hc hp => ?_)
    · obtain rfl := Option.some.inj hp
      exact ⟨rfl, st.pick [] (by decide)⟩
    · obtain rfl := Option.some.inj hp
      exact ⟨rfl, st.pick [] (by decide)⟩
  · refine bifP hp (fun hc hp => ?_) (fun hc hp => ?_)
    · obtain rfl := Option.some.inj hp
      exact ⟨rfl, st.pick [] (by decide)⟩
    · refine bifP hp (fun hc hp => ?_) (fun hc hp => ?_)
      · obtain rfl := Option.some.inj hp
        exact ⟨rfl, st.pick [] (by decide)⟩
      · refine bifP hp (fun hc hp => ?_) (fun hc hp => ?_)
        · obtain rfl := Option.some.inj hp
          exact ⟨rfl, st.pick [] (by decide)⟩
        · obtain rfl := Option.some.inj hp
          exact ⟨rfl, st.pick [] (by decide)⟩
theorem r_slices_Compare_Lint64_int64 {ψ : CM} {h : Heap} (hψ : CLe ψ (hcell h)) {s0 : List Int} {v0 : Value} {s1 : List Int} {v1 : Value} {r : Int} (hp : p_slices_Compare_Lint64_int64 s0 s1 = some r) (f0 : SlC (hcell h) (El.int .i64) v0 s0) (f1 : SlC (hcell h) (El.int .i64) v1 s1) : CallsH P id_slices_Compare_Lint64_int64 #[v0, v1] h (fun v h' => v = .int .i64 r ∧ S ψ h h' []) := by
  apply w_slices_Compare_Lint64_int64
  unfold F_slices_Compare_Lint64_int64
  rw [p_slices_Compare_Lint64_int64] at hp
  have st : S ψ h h [] := S.start hψ
  refine vLen_C (f0.mono st.le) ?_
  obtain ⟨n_2, hn⟩ := loop_n hp
  refine ⟨fun n y11 h_2 => S ψ h h_2 [] ∧ loopN (p_slices_Compare_Lint64_int64_b1 s0 s1) n y11 = some r, ⟨n_2, st.pick [] (by decide), hn⟩, ?_⟩
  rintro n _ y11 h_2 ⟨st, hn⟩
  obtain ⟨m, a, rfl, hp, hs⟩ := loopN_step hn
  rw [p_slices_Compare_Lint64_int64_b1] at hp
  refine bifP hp (fun hc hp => ?_) (fun hc hp => ?_)
  · obtain ⟨e14, hx, hp⟩ := obind hp
    refine vIdx_C (f0.mono st.le) hx fun p14 ad => ?_
    refine ldI_C (f0.mono st.le) ad hx ?_
    refine vLen_C (f1.mono st.le) ?_
    refine bifP hp (fun hc hp => ?_) (fun hc hp => ?_)
    · obtain rfl := Option.some.inj hp
      obtain rfl := Option.some.inj hs
      exact ⟨rfl, st.pick [] (by decide)⟩
    · obtain ⟨e22, hx_2, hp⟩ := obind hp
      refine vIdx_C (f1.mono st.le) hx_2 fun p22 ad_2 => ?_
      refine ldI_C (f1.mono st.le) ad_2 hx_2 ?_
      obtain ⟨r26, hx_3, hp⟩ := obind hp
      obtain ⟨φ, L, s, r_2⟩ := id st
      refine (r_cmp_Compare_int64 s.fle hx_3).mono fun v_2 h_3 ⟨eq, t⟩ => ⟨_, eq, ?_⟩
      replace st := join0 s r_2 t
      clear t s r_2
      refine bifP hp (fun hc hp => ?_) (fun hc hp => ?_)
      · obtain rfl := Option.some.inj hp
        obtain rfl := Option.some.inj hs
        exact ⟨rfl, st.pick [] (by decide)⟩
      · obtain rfl := Option.some.inj hp
        exact ⟨m, Nat.lt_succ_self _, st.pick [] (by decide), hs⟩
  · refine vLen_C (f0.mono st.le) ?_
    refine vLen_C (f1.mono st.le) ?_
    refine bifP hp (fun hc hp => ?_) (fun hc hp => ?_)
    · obtain rfl := Option.some.inj hp
      obtain rfl := Option.some.inj hs
      exact ⟨rfl, st.pick [] (by decide)⟩
    · obtain rfl := Option.some.inj hp
      obtain rfl := Option.some.inj hs
      exact ⟨rfl, st.pick [] (by decide)⟩
theorem r_impl_ValidDesign {ψ : CM} {h : Heap} (hψ : CLe ψ (hcell h)) {d0 : T_impl_Design} {v0_1 : Value} {r : Bool} (hp : p_impl_ValidDesign d0 = some r) (f0_1 : SlC (hcell h) (El.sl (El.int .i64)) v0_1 d0.Blocks) : CallsH P id_impl_ValidDesign #[.agg #[.int .i64 d0.Points, v0_1]] h (fun v h' => v = .bool r ∧ S ψ h h' []) := by
  apply w_impl_ValidDesign
  unfold F_impl_ValidDesign
  rw [p_impl_ValidDesign] at hp
  have st : S ψ h h [] := S.start hψ
  refine new_S st fun b1 h_2 st => ?_
  refine ldV_K (st.cells 0 rfl) 1 rfl rfl ?_
  refine ldI_K (st.cells 0 rfl) 0 rfl rfl ?_
  obtain ⟨r7, hx, hp⟩ := obind hp
  obtain ⟨φ, L, s, r_2⟩ := id st
  refine (r_impl_areBlocks s.fle hx (f0_1.mono st.le)).mono fun v_2 h_3 ⟨eq, t⟩ => ⟨_, eq, ?_⟩
  replace st := join0 s r_2 t
  clear t s r_2
  refine bifP hp (fun hc hp => ?_) (fun hc hp => ?_)
  · refine ldV_K (st.cells 0 rfl) 1 rfl rfl ?_
    refine vLen_C (f0_1.mono st.le) ?_
    refine bifP hp (fun hc hp => ?_) (fun hc hp => ?_)
    · refine ldV_K (st.cells 0 rfl) 1 rfl rfl ?_
      obtain ⟨r17, hx_2, hp⟩ := obind hp
      obtain ⟨φ_2, L_2, s_2, r_3⟩ := id st
      refine (r_slices_IsSortedFunc_LLint64_Lint64 s_2.fle hx_2 (f0_1.mono st.le) (by kernel_rfl) (fun hx1 => fun hψ1 => fun hp1 ff0 ff1 => r_slices_Compare_Lint64_int64 hψ1 hp1 ff0 ff1)).mono fun v_3 h_4 ⟨eq_2, t_2⟩ => ⟨_, eq_2, ?_⟩
      replace st := join0 s_2 r_3 t_2
      clear t_2 s_2 r_3
      obtain rfl := Option.some.inj hp
      exact ⟨rfl, st.pick [] (by decide)⟩
    · obtain rfl := Option.some.inj hp
      exact ⟨rfl, st.pick [] (by decide)⟩
  · obtain rfl := Option.some.inj hp
    exact ⟨rfl, st.pick [] (by decide)⟩
theorem r_impl_Choose {ψ : CM} {h : Heap} (hψ : CLe ψ (hcell h)) {n0 : Int} {k1 : Int} {r : Int} (hp : p_impl_Choose n0 k1 = some r)  : CallsH P id_impl_Choose #[.int .i64 n0, .int .i64 k1] h (fun v h' => v = .int .i64 r ∧ S ψ h h' []) := by
  apply w_impl_Choose
  unfold F_impl_Choose
  rw [p_impl_Choose] at hp
  have st : S ψ h h [] := S.start hψ
  refine ⟨fun h_2 => S ψ h h_2 [] ∧ p_impl_Choose_k1 n0 k1 = some r, ?_, ?_⟩
  · obtain ⟨r8, hx_2, hp⟩ := obind hp
    obtain ⟨φ, L, s, r_2⟩ := id st
    refine (r_impl_within s.fle hx_2).mono fun v_2 h_4 ⟨eq, t⟩ => ⟨_, eq, ?_⟩
    replace st := join0 s r_2 t
    clear t s r_2
    refine bifP hp (fun hc hp => ?_) (fun hc hp => ?_)
    · obtain rfl := Option.some.inj hp
      exact ⟨rfl, st.pick [] (by decide)⟩
    · obtain ⟨r13, hx_3, hp⟩ := obind hp
      obtain ⟨φ_2, L_2, s_2, r_3⟩ := id st
      refine (r_impl_within s_2.fle hx_3).mono fun v_3 h_5 ⟨eq_2, t_2⟩ => ⟨_, eq_2, ?_⟩
      replace st := join0 s_2 r_3 t_2
      clear t_2 s_2 r_3
      refine bifP hp (fun hc hp => ?_) (fun hc hp => ?_)
      · obtain rfl := Option.some.inj hp
        exact ⟨rfl, st.pick [] (by decide)⟩
      · exact ⟨st.pick [] (by decide), hp⟩
  · rintro _ h_2 ⟨st, hp⟩
    rw [p_impl_Choose_k1] at hp
    obtain ⟨n_2, hn⟩ := loop_n hp
    refine ⟨fun n count5 i6 h_3 => S ψ h h_3 [] ∧ loopN (p_impl_Choose_b1 n0 k1) n (count5, i6) = some r, ⟨n_2, st.pick [] (by decide), hn⟩, ?_⟩
    rintro n _ count5 i6 h_3 ⟨st, hn⟩
    obtain ⟨m, a, rfl, hp, hs⟩ := loopN_step hn
    rw [p_impl_Choose_b1] at hp
    refine bifP hp (fun hc hp => ?_) (fun hc hp => ?_)
    · obtain ⟨_, hx, hp⟩ := obind hp
      refine ⟨gNz_some hx, ?_⟩
      obtain rfl := Option.some.inj hp
      exact ⟨m, Nat.lt_succ_self _, st.pick [] (by decide), hs⟩
    · obtain rfl := Option.some.inj hp
      obtain rfl := Option.some.inj hs
      exact ⟨rfl, st.pick [] (by decide)⟩
theorem r_impl_identity {ψ : CM} {h : Heap} (hψ : CLe ψ (hcell h)) {n0 : Int} {r : List Int} (hp : p_impl_identity n0 = some r)  : CallsH P id_impl_identity #[.int .i64 n0] h (fun v h' => ∃ w0 : Value, v = w0 ∧ S ψ h h' [.it (El.ow (El.int .i64)) [w0] r]) := by
  apply w_impl_identity
  unfold F_impl_identity
  rw [p_impl_identity] at hp
  have st : S ψ h h [] := S.start hψ
  obtain ⟨l6, hx, hp⟩ := obind hp
  refine make_S (E := (El.int .i64)) st rfl hx fun v6 h_2 st => ?_
  refine vLen_C (st.rdL 0 rfl (frz_int _)) ?_
  obtain ⟨n_2, hn⟩ := loop_n hp
  refine ⟨fun n y9 h_3 => ∃ xs : List Int, S ψ h h_3 [.it (El.ow (El.int .i64)) [v6] xs] ∧ loopN (p_impl_identity_b1 l6) n (y9, xs) = some r, ⟨n_2, _, st.pick [0] (by decide), hn⟩, ?_⟩
  rintro n _ y9 h_3 ⟨xs, st, hn⟩
  obtain ⟨m, a, rfl, hp, hs⟩ := loopN_step hn
  rw [p_impl_identity_b1] at hp
  refine bifP hp (fun hc hp => ?_) (fun hc hp => ?_)
  · obtain ⟨e15, hx_2, hp⟩ := obind hp
    refine vIdx_C (st.rdL 0 rfl (frz_int _)) hx_2 fun p15 ad => ?_
    refine st1_S st 0 rfl ad hx_2 rfl (fun _ => ⟨rfl, rfl⟩) fun h_4 st => ?_
    dsimp only [List.set] at st
    obtain rfl := Option.some.inj hp
    exact ⟨m, Nat.lt_succ_self _, _, st.pick [0] (by decide), hs⟩
  · obtain rfl := Option.some.inj hp
    obtain rfl := Option.some.inj hs
    exact ⟨v6, rfl, st.pick [0] (by decide)⟩
theorem r_impl_size_int64 {ψ : CM} {h : Heap} (hψ : CLe ψ (hcell h)) {list0 : List Int} {v0 : Value} {r : Int} (hp : p_impl_size_int64 list0 = some r) (f0 : SlC (hcell h) (El.int .i64) v0 list0) : CallsH P id_impl_size_int64 #[v0] h (fun v h' => v = .int .i64 r ∧ S ψ h h' []) := by
  apply w_impl_size_int64
  unfold F_impl_size_int64
  rw [p_impl_size_int64] at hp
  have st : S ψ h h [] := S.start hψ
  refine vLen_C (f0.mono st.le) ?_
  obtain rfl := Option.some.inj hp
  exact ⟨rfl, st.pick [] (by decide)⟩
theorem r_slices_Clone_Lint64_int64 {ψ : CM} {h : Heap} (hψ : CLe ψ (hcell h)) {a0 : List Int} {v0 : Value} {r : List Int} (hp : p_slices_Clone_Lint64_int64 a0 = some r) (f0 : SlC (hcell h) (El.int .i64) v0 a0) : CallsH P id_slices_Clone_Lint64_int64 #[v0] h (fun v h' => ∃ w0 : Value, v = w0 ∧ S ψ h h' [.it (El.ow (El.int .i64)) [w0] r]) := by
  apply w_slices_Clone_Lint64_int64
  unfold F_slices_Clone_Lint64_int64
  rw [p_slices_Clone_Lint64_int64] at hp
  have st : S ψ h h [] := S.start hψ
  refine vNilS_C f0 (fun e1 e2 => bif_pos rfl ?_) (bif_neg rfl ?_)
  · subst e2
    obtain ⟨_, rfl⟩ := gApp_some hp
    exact ⟨_, rfl, st.nilO⟩
  · refine newS_S (E := (El.int .i64)) (css := []) (xs := []) st (fun _ => rfl) rfl rfl fun v1 h1 st => ?_
    refine app_S st 0 rfl (src_plain (plain_int _) (f0.mono st.le)) rfl rfl hp fun v2 h2 st => ?_
    exact ⟨_, rfl, st⟩
theorem r_impl_NextSubset {ψ : CM} {h : Heap} (hψ : CLe ψ (hcell h)) {n0 : Int} {set1 : List Int} {v1 : Value} {r : (List Int) × Bool} (hp : p_impl_NextSubset n0 set1 = some r) (f1 : SlC (hcell h) (El.int .i64) v1 set1) : CallsH P id_impl_NextSubset #[.int .i64 n0, v1] h (fun v h' => ∃ w0 : Value, v = .tuple #[w0, .bool r.2] ∧ S ψ h h' [.it (El.ow (El.int .i64)) [w0] r.1]) := by
  apply w_impl_NextSubset
  unfold F_impl_NextSubset
  rw [p_impl_NextSubset] at hp
  have st : S ψ h h [] := S.start hψ
  obtain ⟨r12, hx, hp⟩ := obind hp
  obtain ⟨φ, L, s, r_2⟩ := id st
  refine (r_impl_ValidSet s.fle hx (f1.mono st.le)).mono fun v_2 h_2 ⟨eq, t⟩ => ⟨_, eq, ?_⟩
  replace st := join0 s r_2 t
  clear t s r_2
  refine bifP hp (fun hc hp => ?_) (fun hc hp => ?_)
  · have st := st.nilO (E := (El.int .i64))
    obtain rfl := Option.some.inj hp
    exact ⟨(.slice none 0 0), rfl, st.pick [0] (by decide)⟩
  · obtain ⟨r15, hx_2, hp⟩ := obind hp
    obtain ⟨φ_2, L_2, s_2, r_3⟩ := id st
    refine (r_impl_size_int64 s_2.fle hx_2 (f1.mono st.le)).mono fun v_3 h_3 ⟨eq_2, t_2⟩ => ⟨_, eq_2, ?_⟩
    replace st := join0 s_2 r_3 t_2
    clear t_2 s_2 r_3
    obtain ⟨n_4, hn⟩ := loop_n hp
    refine ⟨fun n i7 h_4 => S ψ h h_4 [] ∧ loopN (p_impl_NextSubset_b1 n0 set1 r15) n i7 = some r, ⟨n_4, st.pick [] (by decide), hn⟩, ?_⟩
    rintro n _ i7 h_4 ⟨st, hn⟩
    obtain ⟨m, a, rfl, hp, hs⟩ := loopN_step hn
    rw [p_impl_NextSubset_b1] at hp
    refine bifP hp (fun hc hp => ?_) (fun hc hp => ?_)
    · obtain ⟨e24, hx_3, hp⟩ := obind hp
      refine vIdx_C (f1.mono st.le) hx_3 fun p24 ad => ?_
      refine ldI_C (f1.mono st.le) ad hx_3 ?_
      refine bifP hp (fun hc hp => ?_) (fun hc hp => ?_)
      · obtain rfl := Option.some.inj hp
        exact ⟨m, Nat.lt_succ_self _, st.pick [] (by decide), hs⟩
      · obtain ⟨r33, hx_4, hp⟩ := obind hp
        obtain ⟨φ_3, L_3, s_3, r_4⟩ := id st
        refine (r_slices_Clone_Lint64_int64 s_3.fle hx_4 (f1.mono st.le)).mono fun v_4 h_5 ⟨v33, eq_3, t_3⟩ => ⟨_, eq_3, ?_⟩
        replace st := join1 s_3 r_4 t_3
        clear t_3 s_3 r_4
        obtain ⟨n_3, hn_2⟩ := loop_n hp
        refine ⟨fun n_2 j9 h_6 => ∃ xs : List Int, S ψ h h_6 [.it (El.ow (El.int .i64)) [v33] xs] ∧ loopN (p_impl_NextSubset_b2 set1 r15 i7) n_2 (j9, xs) = some a, ⟨n_3, _, st.pick [0] (by decide), hn_2⟩, ?_⟩
        rintro n_2 _ j9 h_6 ⟨xs, st, hn_2⟩
        obtain ⟨m_2, a_2, rfl, hp, hs_2⟩ := loopN_step hn_2
        rw [p_impl_NextSubset_b2] at hp
        refine bifP hp (fun hc hp => ?_) (fun hc hp => ?_)
        · obtain ⟨e44, hx_5, hp⟩ := obind hp
          refine vIdx_C (f1.mono st.le) hx_5 fun p44 ad_2 => ?_
          refine ldI_C (f1.mono st.le) ad_2 hx_5 ?_
          obtain ⟨e51, hx_6, hp⟩ := obind hp
          refine vIdx_C (st.rdL 0 rfl (frz_int _)) hx_6 fun p51 ad_3 => ?_
          refine st1_S st 0 rfl ad_3 hx_6 rfl (fun _ => ⟨rfl, rfl⟩) fun h_7 st => ?_
          dsimp only [List.set] at st
          obtain rfl := Option.some.inj hp
          exact ⟨m_2, Nat.lt_succ_self _, _, st.pick [0] (by decide), hs_2⟩
        · obtain rfl := Option.some.inj hp
          obtain rfl := Option.some.inj hs_2
          obtain rfl := Option.some.inj hs
          exact ⟨v33, rfl, st.pick [0] (by decide)⟩
    · have st := st.nilO (E := (El.int .i64))
      obtain rfl := Option.some.inj hp
      obtain rfl := Option.some.inj hs
      exact ⟨(.slice none 0 0), rfl, st.pick [0] (by decide)⟩
theorem r_impl_allSubsets {ψ : CM} {h : Heap} (hψ : CLe ψ (hcell h)) {n0 : Int} {k1 : Int} {r : List (List Int)} (hp : p_impl_allSubsets n0 k1 = some r)  : CallsH P id_impl_allSubsets #[.int .i64 n0, .int .i64 k1] h (fun v h' => ∃ w0 : Value, v = w0 ∧ S ψ h h' [.it (El.ow (El.sl (El.int .i64))) [w0] r]) := by
  apply w_impl_allSubsets
  unfold F_impl_allSubsets
  rw [p_impl_allSubsets] at hp
  have st : S ψ h h [] := S.start hψ
  obtain ⟨r9, hx, hp⟩ := obind hp
  obtain ⟨φ, L, s, r_2⟩ := id st
  refine (r_impl_identity s.fle hx).mono fun v_2 h_2 ⟨v9, eq, t⟩ => ⟨_, eq, ?_⟩
  replace st := join1 s r_2 t
  clear t s r_2
  have st := st.nilO (E := (El.sl (El.int .i64)))
  obtain ⟨n_2, hn⟩ := loop_n hp
  refine ⟨fun n v5 v6 more7 h_3 => ∃ list5 : List (List Int), ∃ set6 : List Int, S ψ h h_3 [.it (El.ow (El.sl (El.int .i64))) [v5] list5, .it (El.ow (El.int .i64)) [v6] set6] ∧ loopN (p_impl_allSubsets_b1 n0) n (list5, set6, more7) = some r, ⟨n_2, _, _, st.pick [0, 1] (by decide), hn⟩, ?_⟩
  rintro n _ v5 v6 more7 h_3 ⟨list5, set6, st, hn⟩
  obtain ⟨m, a, rfl, hp, hs⟩ := loopN_step hn
  rw [p_impl_allSubsets_b1] at hp
  refine bifP hp (fun hc hp => ?_) (fun hc hp => ?_)
  · refine vOne_of (st.rdL 1 rfl (frz_int _)).one ?_
    have st := st.freeze 1 rfl (frz_ow (frz_int _))
    dsimp only [List.set] at st
    have st := st.copyF 1 rfl
    obtain ⟨l17, hx_2, hp⟩ := obind hp
    refine push_it st 0 rfl rfl rfl hx_2 fun v17 h_4 st => ?_
    dsimp only [List.set] at st
    obtain ⟨r21, hx_3, hp⟩ := obind hp
    obtain ⟨φ_2, L_2, s_2, r_3⟩ := id st
    refine (r_impl_NextSubset s_2.fle hx_3 (st.rdF 1 rfl)).mono fun v_3 h_5 ⟨v21, eq_2, t_2⟩ => ⟨_, _, eq_2, ?_⟩
    replace st := join1 s_2 r_3 t_2
    clear t_2 s_2 r_3
    obtain rfl := Option.some.inj hp
    exact ⟨m, Nat.lt_succ_self _, _, _, st.pick [1, 0] (by decide), hs⟩
  · obtain rfl := Option.some.inj hp
    obtain rfl := Option.some.inj hs
    exact ⟨v5, rfl, st.pick [0] (by decide)⟩
theorem r_impl_filledSquare {ψ : CM} {h : Heap} (hψ : CLe ψ (hcell h)) {n0 : Int} {fn1 : Int → Int → Option Int} {g1 : Nat} {cap1 : List Value} {r : List (List Int)} (hp : p_impl_filledSquare n0 fn1 = some r) (o1 : ctx.okf g1 = true) (k1 : ∀ {h1 : Heap}, ExtH h h1 → ∀ {ψ1 : CM}, CLe ψ1 (hcell h1) → ∀ {y0 : Int} {y1 : Int} {r1 : Int}, fn1 y0 y1 = some r1 → CallsH P g1 (([.int .i64 y0, .int .i64 y1] : List Value) ++ cap1).toArray h1 (fun v h' => v = .int .i64 r1 ∧ S ψ1 h1 h' [])) : CallsH P id_impl_filledSquare #[.int .i64 n0, .func (.func g1) #[] cap1.toArray] h (fun v h' => ∃ w0 : Value, v = w0 ∧ S ψ h h' [.it (El.ow (El.ow (El.int .i64))) [w0] r]) := by
  apply w_impl_filledSquare
  unfold F_impl_filledSquare
  rw [p_impl_filledSquare] at hp
  have st : S ψ h h [] := S.start hψ
  have st := st.nilO (E := (El.ow (El.int .i64)))
  obtain ⟨n_4, hn⟩ := loop_n hp
  refine ⟨fun n v5 x6 h_2 => ∃ a5 : List (List Int), S ψ h h_2 [.it (El.ow (El.ow (El.int .i64))) [v5] a5] ∧ loopN (p_impl_filledSquare_b1 n0 fn1) n (a5, x6) = some r, ⟨n_4, _, st.pick [0] (by decide), hn⟩, ?_⟩
  rintro n _ v5 x6 h_2 ⟨a5, st, hn⟩
  obtain ⟨m, a, rfl, hp, hs⟩ := loopN_step hn
  rw [p_impl_filledSquare_b1] at hp
  refine bifP hp (fun hc hp => ?_) (fun hc hp => ?_)
  · have st := st.nilO (E := (El.int .i64))
    obtain ⟨n_3, hn_2⟩ := loop_n hp
    refine ⟨fun n_2 v7 y8 h_3 => ∃ row7 : List Int, S ψ h h_3 [.it (El.ow (El.int .i64)) [v7] row7, .it (El.ow (El.ow (El.int .i64))) [v5] a5] ∧ loopN (p_impl_filledSquare_b2 n0 fn1 a5 x6) n_2 (row7, y8) = some a, ⟨n_3, _, st.pick [0, 1] (by decide), hn_2⟩, ?_⟩
    rintro n_2 _ v7 y8 h_3 ⟨row7, st, hn_2⟩
    obtain ⟨m_2, a_2, rfl, hp, hs_2⟩ := loopN_step hn_2
    rw [p_impl_filledSquare_b2] at hp
    refine bifP hp (fun hc hp => ?_) (fun hc hp => ?_)
    · obtain ⟨r23, hx, hp⟩ := obind hp
      obtain ⟨φ, L, s, r_2⟩ := id st
      refine vOkf_of o1 ?_
      refine (k1 st.ext s.fle hx).mono fun v_2 h_4 ⟨eq, t⟩ => ⟨_, eq, ?_⟩
      replace st := join0 s r_2 t
      clear t s r_2
      obtain ⟨l25, hx_2, hp⟩ := obind hp
      refine push_S st 0 rfl (fun _ => ⟨rfl, rfl⟩) rfl rfl hx_2 fun v25 h_5 st => ?_
      dsimp only [List.set] at st
      obtain rfl := Option.some.inj hp
      exact ⟨m_2, Nat.lt_succ_self _, _, st.pick [0, 1] (by decide), hs_2⟩
    · refine vOne_of (st.rdL 0 rfl (frz_int _)).one ?_
      obtain ⟨l29, hx_3, hp⟩ := obind hp
      refine push_it st 0 rfl rfl rfl hx_3 fun v29 h_6 st => ?_
      dsimp only [List.set] at st
      obtain rfl := Option.some.inj hp
      obtain rfl := Option.some.inj hs_2
      exact ⟨m, Nat.lt_succ_self _, _, st.pick [0] (by decide), hs⟩
  · obtain rfl := Option.some.inj hp
    obtain rfl := Option.some.inj hs
    exact ⟨v5, rfl, st.pick [0] (by decide)⟩
theorem r_impl_emptySquare_1 {ψ : CM} {h : Heap} (hψ : CLe ψ (hcell h)) {x0 : Int} {y1 : Int} {r : Int} (hp : p_impl_emptySquare_1 x0 y1 = some r)  : CallsH P id_impl_emptySquare_1 #[.int .i64 x0, .int .i64 y1] h (fun v h' => v = .int .i64 r ∧ S ψ h h' []) := by
  apply w_impl_emptySquare_1
  unfold F_impl_emptySquare_1
  rw [p_impl_emptySquare_1] at hp
  have st : S ψ h h [] := S.start hψ
  obtain rfl := Option.some.inj hp
  exact ⟨rfl, st.pick [] (by decide)⟩
theorem r_impl_emptySquare {ψ : CM} {h : Heap} (hψ : CLe ψ (hcell h)) {n0 : Int} {r : List (List Int)} (hp : p_impl_emptySquare n0 = some r)  : CallsH P id_impl_emptySquare #[.int .i64 n0] h (fun v h' => ∃ w0 : Value, v = w0 ∧ S ψ h h' [.it (El.ow (El.ow (El.int .i64))) [w0] r]) := by
  apply w_impl_emptySquare
  unfold F_impl_emptySquare
  rw [p_impl_emptySquare] at hp
  have st : S ψ h h [] := S.start hψ
  obtain ⟨r4, hx, hp⟩ := obind hp
  obtain ⟨φ, L, s, r_2⟩ := id st
  refine (r_impl_filledSquare s.fle hx (by kernel_rfl) (fun hx1 => fun hψ1 => fun hp1  => r_impl_emptySquare_1 hψ1 hp1 )).mono fun v_2 h_2 ⟨v4, eq, t⟩ => ⟨_, eq, ?_⟩
  replace st := join1 s r_2 t
  clear t s r_2
  obtain rfl := Option.some.inj hp
  exact ⟨v4, rfl, st.pick [0] (by decide)⟩
theorem r_impl_pairCounts {ψ : CM} {h : Heap} (hψ : CLe ψ (hcell h)) {y0 : T_impl_Design} {v0_1 : Value} {r : List Int} (hp : p_impl_pairCounts y0 = some r) (f0_1 : SlC (hcell h) (El.sl (El.int .i64)) v0_1 y0.Blocks) : CallsH P id_impl_pairCounts #[.agg #[.int .i64 y0.Points, v0_1]] h (fun v h' => ∃ w0 : Value, v = w0 ∧ S ψ h h' [.it (El.ow (El.int .i64)) [w0] r]) := by
  apply w_impl_pairCounts
  unfold F_impl_pairCounts
  rw [p_impl_pairCounts] at hp
  have st : S ψ h h [] := S.start hψ
  refine new_S st fun b1 h_2 st => ?_
  refine ldI_K (st.cells 0 rfl) 0 rfl rfl ?_
  obtain ⟨r15, hx, hp⟩ := obind hp
  obtain ⟨φ, L, s, r_2⟩ := id st
  refine (r_impl_emptySquare s.fle hx).mono fun v_2 h_3 ⟨v15, eq, t⟩ => ⟨_, eq, ?_⟩
  replace st := join1 s r_2 t
  clear t s r_2
  refine ldV_K (st.cells 1 rfl) 1 rfl rfl ?_
  refine vLen_C (f0_1.mono st.le) ?_
  obtain ⟨n_8, hn⟩ := loop_n hp
  refine ⟨fun n y19 h_4 => ∃ xs : List (List Int), S ψ h h_4 [.it (El.ow (El.ow (El.int .i64))) [v15] xs, .box b1 [.int .i64 y0.Points, v0_1]] ∧ loopN (p_impl_pairCounts_b1 y0) n (y19, xs) = some r, ⟨n_8, _, st.pick [0, 1] (by decide), hn⟩, ?_⟩
  rintro n _ y19 h_4 ⟨xs, st, hn⟩
  obtain ⟨m, a, rfl, hp, hs⟩ := loopN_step hn
  rw [p_impl_pairCounts_b1] at hp
  refine bifP hp (fun hc hp => ?_) (fun hc hp => ?_)
  · obtain ⟨e21, hx_2, hp⟩ := obind hp
    refine vIdx_C (f0_1.mono st.le) hx_2 fun p21 ad => ?_
    refine ldV_C f0_1 st.le ad hx_2 fun u22 f => ?_
    refine vLen_C (f.mono st.le) ?_
    obtain ⟨n_5, hn_2⟩ := loop_n hp
    refine ⟨fun n_2 y25 h_5 => ∃ xs_2 : List (List Int), S ψ h h_5 [.it (El.ow (El.ow (El.int .i64))) [v15] xs_2, .box b1 [.int .i64 y0.Points, v0_1]] ∧ loopN (p_impl_pairCounts_b2 y19 e21) n_2 (y25, xs_2) = some a, ⟨n_5, _, st.pick [0, 1] (by decide), hn_2⟩, ?_⟩
    rintro n_2 _ y25 h_5 ⟨xs_2, st, hn_2⟩
    obtain ⟨m_2, a_2, rfl, hp, hs_2⟩ := loopN_step hn_2
    rw [p_impl_pairCounts_b2] at hp
    refine bifP hp (fun hc hp => ?_) (fun hc hp => ?_)
    · obtain ⟨e28, hx_3, hp⟩ := obind hp
      refine vIdx_C (f.mono st.le) hx_3 fun p28 ad_2 => ?_
      refine ldI_C (f.mono st.le) ad_2 hx_3 ?_
      obtain ⟨l33, hx_4, hp⟩ := obind hp
      refine view_C (some (IntKind.i64.wrap (y25 + 1))) none f hx_4 rfl fun v33 f_2 => ?_
      refine vLen_C (f_2.mono st.le) ?_
      obtain ⟨n_4, hn_3⟩ := loop_n hp
      refine ⟨fun n_3 y35 h_6 => ∃ xs_3 : List (List Int), S ψ h h_6 [.it (El.ow (El.ow (El.int .i64))) [v15] xs_3, .box b1 [.int .i64 y0.Points, v0_1]] ∧ loopN (p_impl_pairCounts_b3 y25 e28 l33) n_3 (y35, xs_3) = some a_2, ⟨n_4, _, st.pick [0, 1] (by decide), hn_3⟩, ?_⟩
      rintro n_3 _ y35 h_6 ⟨xs_3, st, hn_3⟩
      obtain ⟨m_3, a_3, rfl, hp, hs_3⟩ := loopN_step hn_3
      rw [p_impl_pairCounts_b3] at hp
      refine bifP hp (fun hc hp => ?_) (fun hc hp => ?_)
      · obtain ⟨e37, hx_5, hp⟩ := obind hp
        refine vIdx_C (f_2.mono st.le) hx_5 fun p37 ad_3 => ?_
        refine ldI_C (f_2.mono st.le) ad_3 hx_5 ?_
        obtain ⟨e41, hx_6, hp⟩ := obind hp
        refine vIdx_C (st.rdL 0 rfl (frz_ow (frz_int _))) hx_6 fun p41 ad_4 => ?_
        refine ldV_hd st 0 rfl ad_4 hx_6 fun u42 hd => ?_
        obtain ⟨e44, hx_7, hp⟩ := obind hp
        refine vIdx_C (st.rowC 0 rfl hd hx_6 (frz_int _)) hx_7 fun p44 ad_5 => ?_
        refine ldI_C (st.rowC 0 rfl hd hx_6 (frz_int _)) ad_5 hx_7 ?_
        obtain ⟨e47, hx_8, hp⟩ := obind hp
        refine vIdx_C (st.rowC 0 rfl hd hx_6 (frz_int _)) hx_8 fun p47 ad_6 => ?_
        refine st1_row st 0 rfl hd hx_6 ad_6 hx_8 rfl (fun _ => ⟨rfl, rfl⟩) fun h_7 st => ?_
        dsimp only [List.set] at st
        obtain rfl := Option.some.inj hp
        exact ⟨m_3, Nat.lt_succ_self _, _, st.pick [0, 1] (by decide), hs_3⟩
      · obtain rfl := Option.some.inj hp
        obtain rfl := Option.some.inj hs_3
        exact ⟨m_2, Nat.lt_succ_self _, _, st.pick [0, 1] (by decide), hs_2⟩
    · obtain rfl := Option.some.inj hp
      obtain rfl := Option.some.inj hs_2
      exact ⟨m, Nat.lt_succ_self _, _, st.pick [0, 1] (by decide), hs⟩
  · refine vLen_C (st.rdL 0 rfl (frz_ow (frz_int _))) ?_
    have st := st.nilO (E := (El.int .i64))
    obtain ⟨n_7, hn_4⟩ := loop_n hp
    refine ⟨fun n_6 v10 y53 h_8 => ∃ y10 : List Int, S ψ h h_8 [.it (El.ow (El.int .i64)) [v10] y10, .it (El.ow (El.ow (El.int .i64))) [v15] xs, .box b1 [.int .i64 y0.Points, v0_1]] ∧ loopN (p_impl_pairCounts_b4 xs) n_6 (y10, y53) = some a, ⟨n_7, _, st.pick [0, 1, 2] (by decide), hn_4⟩, ?_⟩
    rintro n_6 _ v10 y53 h_8 ⟨y10, st, hn_4⟩
    obtain ⟨m_4, a_4, rfl, hp, hs_4⟩ := loopN_step hn_4
    rw [p_impl_pairCounts_b4] at hp
    refine bifP hp (fun hc hp => ?_) (fun hc hp => ?_)
    · obtain ⟨e56, hx_9, hp⟩ := obind hp
      refine vIdx_C (st.rdL 1 rfl (frz_ow (frz_int _))) hx_9 fun p56 ad_7 => ?_
      refine ldV_hd st 1 rfl ad_7 hx_9 fun u57 hd_2 => ?_
      obtain ⟨l62, hx_10, hp⟩ := obind hp
      refine view_C (some (IntKind.i64.wrap (y53 + 1))) none (st.rowC 1 rfl hd_2 hx_9 (frz_int _)) hx_10 rfl fun v62 f_3 => ?_
      obtain ⟨l63, hx_11, hp⟩ := obind hp
      refine app_S st 0 rfl (src_plain (plain_int _) f_3) rfl rfl hx_11 fun v63 h_9 st => ?_
      dsimp only [List.set] at st
      obtain rfl := Option.some.inj hp
      exact ⟨m_4, Nat.lt_succ_self _, _, st.pick [0, 1, 2] (by decide), hs_4⟩
    · obtain rfl := Option.some.inj hp
      obtain rfl := Option.some.inj hs_4
      obtain rfl := Option.some.inj hs
      exact ⟨v10, rfl, st.pick [0] (by decide)⟩
theorem r_slices_Equal_Lint64_int64 {ψ : CM} {h : Heap} (hψ : CLe ψ (hcell h)) {s0 : List Int} {v0 : Value} {s1 : List Int} {v1 : Value} {r : Bool} (hp : p_slices_Equal_Lint64_int64 s0 s1 = some r) (f0 : SlC (hcell h) (El.int .i64) v0 s0) (f1 : SlC (hcell h) (El.int .i64) v1 s1) : CallsH P id_slices_Equal_Lint64_int64 #[v0, v1] h (fun v h' => v = .bool r ∧ S ψ h h' []) := by
  apply w_slices_Equal_Lint64_int64
  unfold F_slices_Equal_Lint64_int64
  rw [p_slices_Equal_Lint64_int64] at hp
  have st : S ψ h h [] := S.start hψ
  refine vLen_C (f0.mono st.le) ?_
  refine vLen_C (f1.mono st.le) ?_
  refine bifP hp (fun hc hp => ?_) (fun hc hp => ?_)
  · obtain rfl := Option.some.inj hp
    exact ⟨rfl, st.pick [] (by decide)⟩
  · refine vLen_C (f0.mono st.le) ?_
    obtain ⟨n_2, hn⟩ := loop_n hp
    refine ⟨fun n y13 h_2 => S ψ h h_2 [] ∧ loopN (p_slices_Equal_Lint64_int64_b1 s0 s1) n y13 = some r, ⟨n_2, st.pick [] (by decide), hn⟩, ?_⟩
    rintro n _ y13 h_2 ⟨st, hn⟩
    obtain ⟨m, a, rfl, hp, hs⟩ := loopN_step hn
    rw [p_slices_Equal_Lint64_int64_b1] at hp
    refine bifP hp (fun hc hp => ?_) (fun hc hp => ?_)
    · obtain ⟨e18, hx, hp⟩ := obind hp
      refine vIdx_C (f0.mono st.le) hx fun p18 ad => ?_
      refine ldI_C (f0.mono st.le) ad hx ?_
      obtain ⟨e22, hx_2, hp⟩ := obind hp
      refine vIdx_C (f1.mono st.le) hx_2 fun p22 ad_2 => ?_
      refine ldI_C (f1.mono st.le) ad_2 hx_2 ?_
      refine bifP hp (fun hc hp => ?_) (fun hc hp => ?_)
      · obtain rfl := Option.some.inj hp
        obtain rfl := Option.some.inj hs
        exact ⟨rfl, st.pick [] (by decide)⟩
      · obtain rfl := Option.some.inj hp
        exact ⟨m, Nat.lt_succ_self _, st.pick [] (by decide), hs⟩
    · obtain rfl := Option.some.inj hp
      obtain rfl := Option.some.inj hs
      exact ⟨rfl, st.pick [] (by decide)⟩
theorem r_slices_IndexFunc_Lint64_int64 {ψ : CM} {h : Heap} (hψ : CLe ψ (hcell h)) {s0 : List Int} {v0 : Value} {fn1 : Int → Option Bool} {g1 : Nat} {cap1 : List Value} {r : Int} (hp : p_slices_IndexFunc_Lint64_int64 s0 fn1 = some r) (f0 : SlC (hcell h) (El.int .i64) v0 s0) (o1 : ctx.okf g1 = true) (k1 : ∀ {h1 : Heap}, ExtH h h1 → ∀ {ψ1 : CM}, CLe ψ1 (hcell h1) → ∀ {y0 : Int} {r1 : Bool}, fn1 y0 = some r1 → CallsH P g1 (([.int .i64 y0] : List Value) ++ cap1).toArray h1 (fun v h' => v = .bool r1 ∧ S ψ1 h1 h' [])) : CallsH P id_slices_IndexFunc_Lint64_int64 #[v0, .func (.func g1) #[] cap1.toArray] h (fun v h' => v = .int .i64 r ∧ S ψ h h' []) := by
  apply w_slices_IndexFunc_Lint64_int64
  unfold F_slices_IndexFunc_Lint64_int64
  rw [p_slices_IndexFunc_Lint64_int64] at hp
  have st : S ψ h h [] := S.start hψ
  refine vLen_C (f0.mono st.le) ?_
  obtain ⟨n_2, hn⟩ := loop_n hp
  refine ⟨fun n y8 h_2 => S ψ h h_2 [] ∧ loopN (p_slices_IndexFunc_Lint64_int64_b1 s0 fn1) n y8 = some r, ⟨n_2, st.pick [] (by decide), hn⟩, ?_⟩
  rintro n _ y8 h_2 ⟨st, hn⟩
  obtain ⟨m, a, rfl, hp, hs⟩ := loopN_step hn
  rw [p_slices_IndexFunc_Lint64_int64_b1] at hp
  refine bifP hp (fun hc hp => ?_) (fun hc hp => ?_)
  · obtain ⟨e14, hx, hp⟩ := obind hp
    refine vIdx_C (f0.mono st.le) hx fun p14 ad => ?_
    refine ldI_C (f0.mono st.le) ad hx ?_
    obtain ⟨r16, hx_2, hp⟩ := obind hp
    obtain ⟨φ, L, s, r_2⟩ := id st
    refine vOkf_of o1 ?_
    refine (k1 st.ext s.fle hx_2).mono fun v_2 h_3 ⟨eq, t⟩ => ⟨_, eq, ?_⟩
    replace st := join0 s r_2 t
    clear t s r_2
    refine bifP hp (fun hc hp => ?_) (fun hc hp => ?_)
    · obtain rfl := Option.some.inj hp
      obtain rfl := Option.some.inj hs
      exact ⟨rfl, st.pick [] (by decide)⟩
    · obtain rfl := Option.some.inj hp
      exact ⟨m, Nat.lt_succ_self _, st.pick [] (by decide), hs⟩
  · obtain rfl := Option.some.inj hp
    obtain rfl := Option.some.inj hs
    exact ⟨rfl, st.pick [] (by decide)⟩
theorem r_slices_ContainsFunc_Lint64_int64 {ψ : CM} {h : Heap} (hψ : CLe ψ (hcell h)) {s0 : List Int} {v0 : Value} {fn1 : Int → Option Bool} {g1 : Nat} {cap1 : List Value} {r : Bool} (hp : p_slices_ContainsFunc_Lint64_int64 s0 fn1 = some r) (f0 : SlC (hcell h) (El.int .i64) v0 s0) (o1 : ctx.okf g1 = true) (k1 : ∀ {h1 : Heap}, ExtH h h1 → ∀ {ψ1 : CM}, CLe ψ1 (hcell h1) → ∀ {y0 : Int} {r1 : Bool}, fn1 y0 = some r1 → CallsH P g1 (([.int .i64 y0] : List Value) ++ cap1).toArray h1 (fun v h' => v = .bool r1 ∧ S ψ1 h1 h' [])) : CallsH P id_slices_ContainsFunc_Lint64_int64 #[v0, .func (.func g1) #[] cap1.toArray] h (fun v h' => v = .bool r ∧ S ψ h h' []) := by
  apply w_slices_ContainsFunc_Lint64_int64
  unfold F_slices_ContainsFunc_Lint64_int64
  rw [p_slices_ContainsFunc_Lint64_int64] at hp
  have st : S ψ h h [] := S.start hψ
  obtain ⟨r7, hx, hp⟩ := obind hp
  obtain ⟨φ, L, s, r_2⟩ := id st
  refine (r_slices_IndexFunc_Lint64_int64 s.fle hx (f0.mono st.le) o1 (fun hx1 => k1 (st.ext.trans hx1))).mono fun v_2 h_2 ⟨eq, t⟩ => ⟨_, eq, ?_⟩
  replace st := join0 s r_2 t
  clear t s r_2
  obtain rfl := Option.some.inj hp
  exact ⟨rfl, st.pick [] (by decide)⟩
theorem r_impl_isDesignPacking_1 {ψ : CM} {h : Heap} (hψ : CLe ψ (hcell h)) {c0 : Int} {y1 : Int} {p1 : Addr} {r : Bool} (hp : p_impl_isDesignPacking_1 c0 y1 = some r) (ck1 : CellsC (hcell h) p1 [.int .i64 y1]) : CallsH P id_impl_isDesignPacking_1 #[.int .i64 c0, .pointer (some p1)] h (fun v h' => v = .bool r ∧ S ψ h h' []) := by
  apply w_impl_isDesignPacking_1
  unfold F_impl_isDesignPacking_1
  rw [p_impl_isDesignPacking_1] at hp
  have st : S ψ h h [] := S.start hψ
  refine ldI_K (ck1.mono st.le) 0 rfl rfl ?_
  obtain rfl := Option.some.inj hp
  exact ⟨rfl, st.pick [] (by decide)⟩
theorem r_impl_isDesignPacking {ψ : CM} {h : Heap} (hψ : CLe ψ (hcell h)) {d0 : T_impl_Design} {v0_1 : Value} {k1 : Int} {lambda2 : Int} {r : Bool} (hp : p_impl_isDesignPacking d0 k1 lambda2 = some r) (f0_1 : SlC (hcell h) (El.sl (El.int .i64)) v0_1 d0.Blocks) : CallsH P id_impl_isDesignPacking #[.agg #[.int .i64 d0.Points, v0_1], .int .i64 k1, .int .i64 lambda2] h (fun v h' => v = .bool r ∧ S ψ h h' []) := by
  apply w_impl_isDesignPacking
  unfold F_impl_isDesignPacking
  rw [p_impl_isDesignPacking] at hp
  have st : S ψ h h [] := S.start hψ
  refine new_S st fun b3 h_2 st => ?_
  refine new_S st fun b5 h_3 st => ?_
  refine ldV_K (st.cells 1 rfl) 1 rfl rfl ?_
  refine vLen_C (f0_1.mono st.le) ?_
  obtain ⟨n_2, hn⟩ := loop_n hp
  refine ⟨fun n y12 h_4 => S ψ h h_4 [.box b5 [.int .i64 lambda2], .box b3 [.int .i64 d0.Points, v0_1]] ∧ loopN (p_impl_isDesignPacking_b1 d0 k1 lambda2) n y12 = some r, ⟨n_2, st.pick [0, 1] (by decide), hn⟩, ?_⟩
  rintro n _ y12 h_4 ⟨st, hn⟩
  obtain ⟨m, a, rfl, hp, hs⟩ := loopN_step hn
  rw [p_impl_isDesignPacking_b1] at hp
  refine bifP hp (fun hc hp => ?_) (fun hc hp => ?_)
  · obtain ⟨e15, hx, hp⟩ := obind hp
    refine vIdx_C (f0_1.mono st.le) hx fun p15 ad => ?_
    refine ldV_C f0_1 st.le ad hx fun u16 f => ?_
    obtain ⟨r18, hx_2, hp⟩ := obind hp
    obtain ⟨φ, L, s, r_2⟩ := id st
    refine (r_impl_size_int64 s.fle hx_2 (f.mono st.le)).mono fun v_2 h_5 ⟨eq, t⟩ => ⟨_, eq, ?_⟩
    replace st := join0 s r_2 t
    clear t s r_2
    refine bifP hp (fun hc hp => ?_) (fun hc hp => ?_)
    · obtain rfl := Option.some.inj hp
      obtain rfl := Option.some.inj hs
      exact ⟨rfl, st.pick [] (by decide)⟩
    · refine bifP hp (fun hc hp => ?_) (fun hc hp => ?_)
      · refine ldV_K (st.cells 1 rfl) 1 rfl rfl ?_
        obtain ⟨e29, hx_3, hp⟩ := obind hp
        refine vIdx_C (f0_1.mono st.le) hx_3 fun p29 ad_2 => ?_
        refine ldV_C f0_1 st.le ad_2 hx_3 fun u30 f_2 => ?_
        obtain ⟨r32, hx_4, hp⟩ := obind hp
        obtain ⟨φ_2, L_2, s_2, r_3⟩ := id st
        refine (r_slices_Equal_Lint64_int64 s_2.fle hx_4 (f_2.mono st.le) (f.mono st.le)).mono fun v_3 h_6 ⟨eq_2, t_2⟩ => ⟨_, eq_2, ?_⟩
        replace st := join0 s_2 r_3 t_2
        clear t_2 s_2 r_3
        refine bifP hp (fun hc hp => ?_) (fun hc hp => ?_)
        · obtain rfl := Option.some.inj hp
          obtain rfl := Option.some.inj hs
          exact ⟨rfl, st.pick [] (by decide)⟩
        · obtain rfl := Option.some.inj hp
          exact ⟨m, Nat.lt_succ_self _, st.pick [0, 1] (by decide), hs⟩
      · obtain rfl := Option.some.inj hp
        exact ⟨m, Nat.lt_succ_self _, st.pick [0, 1] (by decide), hs⟩
  · refine ldI_K (st.cells 0 rfl) 0 rfl rfl ?_
    refine bifP hp (fun hc hp => ?_) (fun hc hp => ?_)
    · refine ldI_K (st.cells 1 rfl) 0 rfl rfl ?_
      refine ldV_K (st.cells 1 rfl) 1 rfl rfl ?_
      obtain ⟨r40, hx_5, hp⟩ := obind hp
      obtain ⟨φ_3, L_3, s_3, r_4⟩ := id st
      refine (r_impl_pairCounts s_3.fle hx_5 (f0_1.mono st.le)).mono fun v_4 h_7 ⟨v40, eq_3, t_3⟩ => ⟨_, eq_3, ?_⟩
      replace st := join1 s_3 r_4 t_3
      clear t_3 s_3 r_4
      obtain ⟨r42, hx_6, hp⟩ := obind hp
      obtain ⟨φ_4, L_4, s_4, r_5⟩ := id st
      refine (r_slices_ContainsFunc_Lint64_int64 s_4.fle hx_6 (st.rdL 0 rfl (frz_int _)) (by kernel_rfl) (fun hx1 => fun hψ1 => fun hp1  => r_impl_isDesignPacking_1 hψ1 hp1 ((st.cells 1 rfl).mono (CLe.ext hx1)))).mono fun v_5 h_8 ⟨eq_4, t_4⟩ => ⟨_, eq_4, ?_⟩
      replace st := join0 s_4 r_5 t_4
      clear t_4 s_4 r_5
      obtain rfl := Option.some.inj hp
      obtain rfl := Option.some.inj hs
      exact ⟨rfl, st.pick [] (by decide)⟩
    · obtain rfl := Option.some.inj hp
      obtain rfl := Option.some.inj hs
      exact ⟨rfl, st.pick [] (by decide)⟩
theorem r_impl_isSearched {ψ : CM} {h : Heap} (hψ : CLe ψ (hcell h)) {v0 : Int} {k1 : Int} {lambda2 : Int} {r : Bool} (hp : p_impl_isSearched v0 k1 lambda2 = some r)  : CallsH P id_impl_isSearched #[.int .i64 v0, .int .i64 k1, .int .i64 lambda2] h (fun v h' => v = .bool r ∧ S ψ h h' []) := by
  apply w_impl_isSearched
  unfold F_impl_isSearched
  rw [p_impl_isSearched] at hp
  have st : S ψ h h [] := S.start hψ
  obtain ⟨r8, hx, hp⟩ := obind hp
  obtain ⟨φ, L, s, r_2⟩ := id st
  refine (r_impl_within s.fle hx).mono fun v_2 h_2 ⟨eq, t⟩ => ⟨_, eq, ?_⟩
  replace st := join0 s r_2 t
  clear t s r_2
  refine bifP hp (fun hc hp => ?_) (fun hc hp => ?_)
  · obtain ⟨r12, hx_2, hp⟩ := obind hp
    obtain ⟨φ_2, L_2, s_2, r_3⟩ := id st
    refine (r_impl_within s_2.fle hx_2).mono fun v_3 h_3 ⟨eq_2, t_2⟩ => ⟨_, eq_2, ?_⟩
    replace st := join0 s_2 r_3 t_2
    clear t_2 s_2 r_3
    refine bifP hp (fun hc hp => ?_) (fun hc hp => ?_)
    · obtain ⟨r16, hx_3, hp⟩ := obind hp
      obtain ⟨φ_3, L_3, s_3, r_4⟩ := id st
      refine (r_impl_within s_3.fle hx_3).mono fun v_4 h_4 ⟨eq_3, t_3⟩ => ⟨_, eq_3, ?_⟩
      replace st := join0 s_3 r_4 t_3
      clear t_3 s_3 r_4
      obtain rfl := Option.some.inj hp
      exact ⟨rfl, st.pick [] (by decide)⟩
    · obtain rfl := Option.some.inj hp
      exact ⟨rfl, st.pick [] (by decide)⟩
  · obtain rfl := Option.some.inj hp
    exact ⟨rfl, st.pick [] (by decide)⟩
theorem r_impl_load_change {ψ : CM} {h0 h : Heap} {os : List Ob} {l0 : List (List Int)} {v0 : Value} {block1 : List Int} {v1 : Value} {by2 : Int} {r : List (List Int)} (hp : p_impl_load_change l0 block1 by2 = some r) (st : S ψ h0 h (.it (El.ow (El.ow (El.int .i64))) [v0] l0 :: os)) (f1 : SlC (UB ψ h0) (El.int .i64) v1 block1) : CallsH P id_impl_load_change #[v0, v1, .int .i64 by2] h (fun v h' => v = .tuple #[] ∧ S ψ h0 h' (.it (El.ow (El.ow (El.int .i64))) [v0] r :: os)) := by
  apply w_impl_load_change
  unfold F_impl_load_change
  rw [p_impl_load_change] at hp
  refine vLen_C (f1.mono st.leU) ?_
  obtain ⟨n_4, hn⟩ := loop_n hp
  refine ⟨fun n y12 h_2 => ∃ xs : List (List Int), S ψ h0 h_2 (.it (El.ow (El.ow (El.int .i64))) [v0] xs :: os) ∧ loopN (p_impl_load_change_b1 block1 by2) n (y12, xs) = some r, ⟨n_4, _, st.pickT 1 [0] (by decide) (by decide), hn⟩, ?_⟩
  rintro n _ y12 h_2 ⟨xs, st, hn⟩
  obtain ⟨m, a, rfl, hp, hs⟩ := loopN_step hn
  rw [p_impl_load_change_b1] at hp
  refine bifP hp (fun hc hp => ?_) (fun hc hp => ?_)
  · obtain ⟨e15, hx, hp⟩ := obind hp
    refine vIdx_C (f1.mono st.leU) hx fun p15 ad => ?_
    refine ldI_C (f1.mono st.leU) ad hx ?_
    obtain ⟨l20, hx_2, hp⟩ := obind hp
    refine view_C (some (IntKind.i64.wrap (y12 + 1))) none f1 hx_2 rfl fun v20 f => ?_
    refine vLen_C (f.mono st.leU) ?_
    obtain ⟨n_3, hn_2⟩ := loop_n hp
    refine ⟨fun n_2 y22 h_3 => ∃ xs_2 : List (List Int), S ψ h0 h_3 (.it (El.ow (El.ow (El.int .i64))) [v0] xs_2 :: os) ∧ loopN (p_impl_load_change_b2 by2 y12 e15 l20) n_2 (y22, xs_2) = some a, ⟨n_3, _, st.pickT 1 [0] (by decide) (by decide), hn_2⟩, ?_⟩
    rintro n_2 _ y22 h_3 ⟨xs_2, st, hn_2⟩
    obtain ⟨m_2, a_2, rfl, hp, hs_2⟩ := loopN_step hn_2
    rw [p_impl_load_change_b2] at hp
    refine bifP hp (fun hc hp => ?_) (fun hc hp => ?_)
    · obtain ⟨e24, hx_3, hp⟩ := obind hp
      refine vIdx_C (f.mono st.leU) hx_3 fun p24 ad_2 => ?_
      refine ldI_C (f.mono st.leU) ad_2 hx_3 ?_
      obtain ⟨e28, hx_4, hp⟩ := obind hp
      refine vIdx_C (st.rdL 0 rfl (frz_ow (frz_int _))) hx_4 fun p28 ad_3 => ?_
      refine ldV_hd st 0 rfl ad_3 hx_4 fun u29 hd => ?_
      obtain ⟨e31, hx_5, hp⟩ := obind hp
      refine vIdx_C (st.rowC 0 rfl hd hx_4 (frz_int _)) hx_5 fun p31 ad_4 => ?_
      refine ldI_C (st.rowC 0 rfl hd hx_4 (frz_int _)) ad_4 hx_5 ?_
      obtain ⟨e35, hx_6, hp⟩ := obind hp
      refine vIdx_C (st.rowC 0 rfl hd hx_4 (frz_int _)) hx_6 fun p35 ad_5 => ?_
      refine st1_row st 0 rfl hd hx_4 ad_5 hx_6 rfl (fun _ => ⟨rfl, rfl⟩) fun h_4 st => ?_
      dsimp only [List.set] at st
      obtain rfl := Option.some.inj hp
      exact ⟨m_2, Nat.lt_succ_self _, _, st.pickT 1 [0] (by decide) (by decide), hs_2⟩
    · obtain rfl := Option.some.inj hp
      obtain rfl := Option.some.inj hs_2
      exact ⟨m, Nat.lt_succ_self _, _, st.pickT 1 [0] (by decide) (by decide), hs⟩
  · obtain rfl := Option.some.inj hp
    obtain rfl := Option.some.inj hs
    exact ⟨rfl, st.pickT 1 [0] (by decide) (by decide)⟩
theorem r_impl_loadOf {ψ : CM} {h : Heap} (hψ : CLe ψ (hcell h)) {d0 : T_impl_Design} {v0_1 : Value} {r : List (List Int)} (hp : p_impl_loadOf d0 = some r) (f0_1 : SlC (hcell h) (El.sl (El.int .i64)) v0_1 d0.Blocks) : CallsH P id_impl_loadOf #[.agg #[.int .i64 d0.Points, v0_1]] h (fun v h' => ∃ w0 : Value, v = w0 ∧ S ψ h h' [.it (El.ow (El.ow (El.int .i64))) [w0] r]) := by
  apply w_impl_loadOf
  unfold F_impl_loadOf
  rw [p_impl_loadOf] at hp
  have st : S ψ h h [] := S.start hψ
  refine new_S st fun b1 h_2 st => ?_
  refine ldI_K (st.cells 0 rfl) 0 rfl rfl ?_
  obtain ⟨r8, hx, hp⟩ := obind hp
  obtain ⟨φ, L, s, r_2⟩ := id st
  refine (r_impl_emptySquare s.fle hx).mono fun v_2 h_3 ⟨v8, eq, t⟩ => ⟨_, eq, ?_⟩
  replace st := join1 s r_2 t
  clear t s r_2
  refine ldV_K (st.cells 1 rfl) 1 rfl rfl ?_
  refine vLen_C (f0_1.mono st.le) ?_
  obtain ⟨n_2, hn⟩ := loop_n hp
  refine ⟨fun n y12 h_4 => ∃ xs : List (List Int), S ψ h h_4 [.it (El.ow (El.ow (El.int .i64))) [v8] xs, .box b1 [.int .i64 d0.Points, v0_1]] ∧ loopN (p_impl_loadOf_b1 d0) n (y12, xs) = some r, ⟨n_2, _, st.pick [0, 1] (by decide), hn⟩, ?_⟩
  rintro n _ y12 h_4 ⟨xs, st, hn⟩
  obtain ⟨m, a, rfl, hp, hs⟩ := loopN_step hn
  rw [p_impl_loadOf_b1] at hp
  refine bifP hp (fun hc hp => ?_) (fun hc hp => ?_)
  · obtain ⟨e14, hx_2, hp⟩ := obind hp
    refine vIdx_C (f0_1.mono st.le) hx_2 fun p14 ad => ?_
    refine ldV_C f0_1 st.le ad hx_2 fun u15 f => ?_
    obtain ⟨r18, hx_3, hp⟩ := obind hp
    obtain ⟨φ_2, L_2, s_2, r_3⟩ := id st
    refine (r_impl_load_change hx_3 (s_2.upS r_3) (f.mono s_2.ubH)).mono fun v_3 h_5 ⟨eq_2, t_2⟩ => ⟨eq_2, ?_⟩
    replace st := s_2.downS t_2
    clear t_2 s_2 r_3
    obtain rfl := Option.some.inj hp
    exact ⟨m, Nat.lt_succ_self _, _, st.pick [0, 1] (by decide), hs⟩
  · obtain rfl := Option.some.inj hp
    obtain rfl := Option.some.inj hs
    exact ⟨v8, rfl, st.pick [0] (by decide)⟩
theorem r_impl_isBudget {ψ : CM} {h : Heap} (hψ : CLe ψ (hcell h)) {n0 : Int} {r : Bool} (hp : p_impl_isBudget n0 = some r)  : CallsH P id_impl_isBudget #[.int .i64 n0] h (fun v h' => v = .bool r ∧ S ψ h h' []) := by
  apply w_impl_isBudget
  unfold F_impl_isBudget
  rw [p_impl_isBudget] at hp
  have st : S ψ h h [] := S.start hψ
  obtain ⟨r4, hx, hp⟩ := obind hp
  obtain ⟨φ, L, s, r_2⟩ := id st
  refine (r_impl_within s.fle hx).mono fun v_2 h_2 ⟨eq, t⟩ => ⟨_, eq, ?_⟩
  replace st := join0 s r_2 t
  clear t s r_2
  obtain rfl := Option.some.inj hp
  exact ⟨rfl, st.pick [] (by decide)⟩
theorem r_impl_copyLists {ψ : CM} {h : Heap} (hψ : CLe ψ (hcell h)) {lists0 : List (List Int)} {v0 : Value} {r : List (List Int)} (hp : p_impl_copyLists lists0 = some r) (f0 : SlC (hcell h) (El.sl (El.int .i64)) v0 lists0) : CallsH P id_impl_copyLists #[v0] h (fun v h' => ∃ w0 : Value, v = w0 ∧ S ψ h h' [.it (El.ow (El.ow (El.int .i64))) [w0] r]) := by
  apply w_impl_copyLists
  unfold F_impl_copyLists
  rw [p_impl_copyLists] at hp
  have st : S ψ h h [] := S.start hψ
  refine vLen_C (f0.mono st.le) ?_
  have st := st.nilO (E := (El.ow (El.int .i64)))
  obtain ⟨n_2, hn⟩ := loop_n hp
  refine ⟨fun n v3 y8 h_2 => ∃ out3 : List (List Int), S ψ h h_2 [.it (El.ow (El.ow (El.int .i64))) [v3] out3] ∧ loopN (p_impl_copyLists_b1 lists0) n (out3, y8) = some r, ⟨n_2, _, st.pick [0] (by decide), hn⟩, ?_⟩
  rintro n _ v3 y8 h_2 ⟨out3, st, hn⟩
  obtain ⟨m, a, rfl, hp, hs⟩ := loopN_step hn
  rw [p_impl_copyLists_b1] at hp
  refine bifP hp (fun hc hp => ?_) (fun hc hp => ?_)
  · obtain ⟨e10, hx, hp⟩ := obind hp
    refine vIdx_C (f0.mono st.le) hx fun p10 ad => ?_
    refine ldV_C f0 st.le ad hx fun u11 f => ?_
    obtain ⟨r14, hx_2, hp⟩ := obind hp
    obtain ⟨φ, L, s, r_2⟩ := id st
    refine (r_slices_Clone_Lint64_int64 s.fle hx_2 (f.mono st.le)).mono fun v_2 h_3 ⟨v14, eq, t⟩ => ⟨_, eq, ?_⟩
    replace st := join1 s r_2 t
    clear t s r_2
    refine vOne_of (st.rdL 0 rfl (frz_int _)).one ?_
    obtain ⟨l16, hx_3, hp⟩ := obind hp
    refine push_it st 0 rfl rfl rfl hx_3 fun v16 h_4 st => ?_
    dsimp only [List.set] at st
    obtain rfl := Option.some.inj hp
    exact ⟨m, Nat.lt_succ_self _, _, st.pick [0] (by decide), hs⟩
  · obtain rfl := Option.some.inj hp
    obtain rfl := Option.some.inj hs
    exact ⟨v3, rfl, st.pick [0] (by decide)⟩
theorem r_impl_hasList_1 {ψ : CM} {h : Heap} (hψ : CLe ψ (hcell h)) {l0 : List Int} {v0 : Value} {y1 : List Int} {p1 : Addr} {v1 : Value} {r : Bool} (hp : p_impl_hasList_1 l0 y1 = some r) (f0 : SlC (hcell h) (El.int .i64) v0 l0) (ck1 : CellsC (hcell h) p1 [v1]) (f1 : SlC (hcell h) (El.int .i64) v1 y1) : CallsH P id_impl_hasList_1 #[v0, .pointer (some p1)] h (fun v h' => v = .bool r ∧ S ψ h h' []) := by
  apply w_impl_hasList_1
  unfold F_impl_hasList_1
  rw [p_impl_hasList_1] at hp
  have st : S ψ h h [] := S.start hψ
  refine ldV_K (ck1.mono st.le) 0 rfl rfl ?_
  obtain ⟨r6, hx, hp⟩ := obind hp
  obtain ⟨φ, L, s, r_2⟩ := id st
  refine (r_slices_Equal_Lint64_int64 s.fle hx (f0.mono st.le) (f1.mono st.le)).mono fun v_2 h_2 ⟨eq, t⟩ => ⟨_, eq, ?_⟩
  replace st := join0 s r_2 t
  clear t s r_2
  obtain rfl := Option.some.inj hp
  exact ⟨rfl, st.pick [] (by decide)⟩
theorem r_impl_hasList {ψ : CM} {h : Heap} (hψ : CLe ψ (hcell h)) {lists0 : List (List Int)} {v0 : Value} {list1 : List Int} {v1 : Value} {r : Bool} (hp : p_impl_hasList lists0 list1 = some r) (f0 : SlC (hcell h) (El.sl (El.int .i64)) v0 lists0) (f1 : SlC (hcell h) (El.int .i64) v1 list1) : CallsH P id_impl_hasList #[v0, v1] h (fun v h' => v = .bool r ∧ S ψ h h' []) := by
  apply w_impl_hasList
  unfold F_impl_hasList
  rw [p_impl_hasList] at hp
  have st : S ψ h h [] := S.start hψ
  refine vOne_of (f1.mono st.le).one ?_
  refine new_S st fun b3 h_2 st => ?_
  obtain ⟨r7, hx, hp⟩ := obind hp
  obtain ⟨φ, L, s, r_2⟩ := id st
  refine (r_slices_ContainsFunc_LLint64_Lint64 s.fle hx (f0.mono st.le) (by kernel_rfl) (fun hx1 => fun hψ1 => fun hp1 ff0 => r_impl_hasList_1 hψ1 hp1 ff0 ((st.cells 0 rfl).mono (CLe.ext hx1)) ((f1.mono st.le).mono (CLe.ext hx1)))).mono fun v_2 h_3 ⟨eq, t⟩ => ⟨_, eq, ?_⟩
  replace st := join0 s r_2 t
  clear t s r_2
  obtain rfl := Option.some.inj hp
  exact ⟨rfl, st.pick [] (by decide)⟩
theorem r_impl_load_most {ψ : CM} {h : Heap} (hψ : CLe ψ (hcell h)) {l0 : List (List Int)} {v0 : Value} {block1 : List Int} {v1 : Value} {r : Int} (hp : p_impl_load_most l0 block1 = some r) (f0 : SlC (hcell h) (El.sl (El.int .i64)) v0 l0) (f1 : SlC (hcell h) (El.int .i64) v1 block1) : CallsH P id_impl_load_most #[v0, v1] h (fun v h' => v = .int .i64 r ∧ S ψ h h' []) := by
  apply w_impl_load_most
  unfold F_impl_load_most
  rw [p_impl_load_most] at hp
  have st : S ψ h h [] := S.start hψ
  refine vLen_C (f1.mono st.le) ?_
  obtain ⟨n_4, hn⟩ := loop_n hp
  refine ⟨fun n most5 y12 h_2 => S ψ h h_2 [] ∧ loopN (p_impl_load_most_b1 l0 block1) n (most5, y12) = some r, ⟨n_4, st.pick [] (by decide), hn⟩, ?_⟩
  rintro n _ most5 y12 h_2 ⟨st, hn⟩
  obtain ⟨m, a, rfl, hp, hs⟩ := loopN_step hn
  rw [p_impl_load_most_b1] at hp
  refine bifP hp (fun hc hp => ?_) (fun hc hp => ?_)
  · obtain ⟨e15, hx, hp⟩ := obind hp
    refine vIdx_C (f1.mono st.le) hx fun p15 ad => ?_
    refine ldI_C (f1.mono st.le) ad hx ?_
    obtain ⟨l20, hx_2, hp⟩ := obind hp
    refine view_C (some (IntKind.i64.wrap (y12 + 1))) none f1 hx_2 rfl fun v20 f => ?_
    refine vLen_C (f.mono st.le) ?_
    obtain ⟨n_3, hn_2⟩ := loop_n hp
    refine ⟨fun n_2 most5_2 y22 h_3 => S ψ h h_3 [] ∧ loopN (p_impl_load_most_b2 l0 y12 e15 l20) n_2 (most5_2, y22) = some a, ⟨n_3, st.pick [] (by decide), hn_2⟩, ?_⟩
    rintro n_2 _ most5_2 y22 h_3 ⟨st, hn_2⟩
    obtain ⟨m_2, a_2, rfl, hp, hs_2⟩ := loopN_step hn_2
    rw [p_impl_load_most_b2] at hp
    refine bifP hp (fun hc hp => ?_) (fun hc hp => ?_)
    · obtain ⟨e24, hx_3, hp⟩ := obind hp
      refine vIdx_C (f.mono st.le) hx_3 fun p24 ad_2 => ?_
      refine ldI_C (f.mono st.le) ad_2 hx_3 ?_
      obtain ⟨e29, hx_4, hp⟩ := obind hp
      refine vIdx_C (f0.mono st.le) hx_4 fun p29 ad_3 => ?_
      refine ldV_C f0 st.le ad_3 hx_4 fun u30 f_2 => ?_
      obtain ⟨e32, hx_5, hp⟩ := obind hp
      refine vIdx_C (f_2.mono st.le) hx_5 fun p32 ad_4 => ?_
      refine ldI_C (f_2.mono st.le) ad_4 hx_5 ?_
      obtain rfl := Option.some.inj hp
      exact ⟨m_2, Nat.lt_succ_self _, st.pick [] (by decide), hs_2⟩
    · obtain rfl := Option.some.inj hp
      obtain rfl := Option.some.inj hs_2
      exact ⟨m, Nat.lt_succ_self _, st.pick [] (by decide), hs⟩
  · obtain rfl := Option.some.inj hp
    obtain rfl := Option.some.inj hs
    exact ⟨rfl, st.pick [] (by decide)⟩
theorem r_impl_counter_node {ψ : CM} {h0 h : Heap} {os : List Ob} {c0 : T_impl_counter} {b0 : Nat} {post0 : List Value} {r : Bool × T_impl_counter} (hp : p_impl_counter_node c0 = some r) (st : S ψ h0 h (.box b0 (.int .i64 c0.qleft :: .bool c0.qspent :: post0) :: os))  : CallsH P id_impl_counter_node #[.pointer (some ⟨b0, 0, none⟩)] h (fun v h' => v = .bool r.1 ∧ S ψ h0 h' (.box b0 (.int .i64 r.2.qleft :: .bool r.2.qspent :: post0) :: os)) := by
  apply w_impl_counter_node
  unfold F_impl_counter_node
  rw [p_impl_counter_node] at hp
  refine ldI_K (st.cells 0 rfl) 0 rfl rfl ?_
  refine bifP hp (fun hc hp => ?_) (fun hc hp => ?_)
  · refine st_box st 0 rfl rfl rfl rfl fun h_2 st => ?_
    dsimp only [List.set] at st
    obtain rfl := Option.some.inj hp
    exact ⟨rfl, st.pickT 1 [0] (by decide) (by decide)⟩
  · refine ldI_K (st.cells 0 rfl) 0 rfl rfl ?_
    refine st_box st 0 rfl rfl rfl rfl fun h_3 st => ?_
    dsimp only [List.set] at st
    obtain rfl := Option.some.inj hp
    exact ⟨rfl, st.pickT 1 [0] (by decide) (by decide)⟩
theorem r_impl_blocker_shortPair {ψ : CM} {h : Heap} (hψ : CLe ψ (hcell h)) {s0 : T_impl_blocker} {p0 : Addr} {v0_4 : Value} {v0_5 : Value} {v0_6 : Value} {v0_7 : Value} {v0_10 : Value} {r : Int × Int × Bool} (hp : p_impl_blocker_shortPair s0 = some r) (ck0 : CellsC (hcell h) p0 [.int .i64 s0.qcounter.qleft, .bool s0.qcounter.qspent, .int .i64 s0.qlambda, .bool s0.qfirst, v0_4, v0_5, v0_6, v0_7, .int .i64 s0.qnodes, .int .i64 s0.qcount, v0_10]) (f0_4 : SlC (hcell h) (El.sl (El.int .i64)) v0_4 s0.qload) (f0_5 : SlC (hcell h) (El.sl (El.int .i64)) v0_5 s0.qsets) (f0_6 : SlC (hcell h) El.bool v0_6 s0.qused) (f0_7 : SlC (hcell h) (El.sl (El.int .i64)) v0_7 s0.qblocks) (f0_10 : SlC (hcell h) (El.sl (El.int .i64)) v0_10 s0.qfound) : CallsH P id_impl_blocker_shortPair #[.pointer (some p0)] h (fun v h' => v = .tuple #[.int .i64 r.1, .int .i64 r.2.1, .bool r.2.2] ∧ S ψ h h' []) := by
  apply w_impl_blocker_shortPair
  unfold F_impl_blocker_shortPair
  rw [p_impl_blocker_shortPair] at hp
  have st : S ψ h h [] := S.start hψ
  refine ldV_K (ck0.mono st.le) 4 rfl rfl ?_
  refine vLen_C (f0_4.mono st.le) ?_
  obtain ⟨n_4, hn⟩ := loop_n hp
  refine ⟨fun n y13 h_2 => S ψ h h_2 [] ∧ loopN (p_impl_blocker_shortPair_b1 s0) n y13 = some r, ⟨n_4, st.pick [] (by decide), hn⟩, ?_⟩
  rintro n _ y13 h_2 ⟨st, hn⟩
  obtain ⟨m, a, rfl, hp, hs⟩ := loopN_step hn
  rw [p_impl_blocker_shortPair_b1] at hp
  refine bifP hp (fun hc hp => ?_) (fun hc hp => ?_)
  · obtain ⟨e16, hx, hp⟩ := obind hp
    refine vIdx_C (f0_4.mono st.le) hx fun p16 ad => ?_
    refine ldV_C f0_4 st.le ad hx fun u17 f => ?_
    obtain ⟨n_3, hn_2⟩ := loop_n hp
    refine ⟨fun n_2 b7 h_3 => S ψ h h_3 [] ∧ loopN (p_impl_blocker_shortPair_b2 s0 y13 e16) n_2 b7 = some a, ⟨n_3, st.pick [] (by decide), hn_2⟩, ?_⟩
    rintro n_2 _ b7 h_3 ⟨st, hn_2⟩
    obtain ⟨m_2, a_2, rfl, hp, hs_2⟩ := loopN_step hn_2
    rw [p_impl_blocker_shortPair_b2] at hp
    refine vLen_C (f.mono st.le) ?_
    refine bifP hp (fun hc hp => ?_) (fun hc hp => ?_)
    · obtain ⟨e28, hx_2, hp⟩ := obind hp
      refine vIdx_C (f.mono st.le) hx_2 fun p28 ad_2 => ?_
      refine ldI_C (f.mono st.le) ad_2 hx_2 ?_
      refine ldI_K (ck0.mono st.le) 2 rfl rfl ?_
      refine bifP hp (fun hc hp => ?_) (fun hc hp => ?_)
      · obtain rfl := Option.some.inj hp
        obtain rfl := Option.some.inj hs_2
        obtain rfl := Option.some.inj hs
        exact ⟨rfl, st.pick [] (by decide)⟩
      · obtain rfl := Option.some.inj hp
        exact ⟨m_2, Nat.lt_succ_self _, st.pick [] (by decide), hs_2⟩
    · obtain rfl := Option.some.inj hp
      obtain rfl := Option.some.inj hs_2
      exact ⟨m, Nat.lt_succ_self _, st.pick [] (by decide), hs⟩
  · obtain rfl := Option.some.inj hp
    obtain rfl := Option.some.inj hs
    exact ⟨rfl, st.pick [] (by decide)⟩
theorem r_slices_Index_Lint64_int64 {ψ : CM} {h : Heap} (hψ : CLe ψ (hcell h)) {s0 : List Int} {v0 : Value} {v1 : Int} {r : Int} (hp : p_slices_Index_Lint64_int64 s0 v1 = some r) (f0 : SlC (hcell h) (El.int .i64) v0 s0) : CallsH P id_slices_Index_Lint64_int64 #[v0, .int .i64 v1] h (fun v h' => v = .int .i64 r ∧ S ψ h h' []) := by
  apply w_slices_Index_Lint64_int64
  unfold F_slices_Index_Lint64_int64
  rw [p_slices_Index_Lint64_int64] at hp
  have st : S ψ h h [] := S.start hψ
  refine vLen_C (f0.mono st.le) ?_
  obtain ⟨n_2, hn⟩ := loop_n hp
  refine ⟨fun n y8 h_2 => S ψ h h_2 [] ∧ loopN (p_slices_Index_Lint64_int64_b1 s0 v1) n y8 = some r, ⟨n_2, st.pick [] (by decide), hn⟩, ?_⟩
  rintro n _ y8 h_2 ⟨st, hn⟩
  obtain ⟨m, a, rfl, hp, hs⟩ := loopN_step hn
  rw [p_slices_Index_Lint64_int64_b1] at hp
  refine bifP hp (fun hc hp => ?_) (fun hc hp => ?_)
  · obtain ⟨e14, hx, hp⟩ := obind hp
    refine vIdx_C (f0.mono st.le) hx fun p14 ad => ?_
    refine ldI_C (f0.mono st.le) ad hx ?_
    refine bifP hp (fun hc hp => ?_) (fun hc hp => ?_)
    · obtain rfl := Option.some.inj hp
      obtain rfl := Option.some.inj hs
      exact ⟨rfl, st.pick [] (by decide)⟩
    · obtain rfl := Option.some.inj hp
      exact ⟨m, Nat.lt_succ_self _, st.pick [] (by decide), hs⟩
  · obtain rfl := Option.some.inj hp
    obtain rfl := Option.some.inj hs
    exact ⟨rfl, st.pick [] (by decide)⟩
theorem r_slices_Contains_Lint64_int64 {ψ : CM} {h : Heap} (hψ : CLe ψ (hcell h)) {s0 : List Int} {v0 : Value} {v1 : Int} {r : Bool} (hp : p_slices_Contains_Lint64_int64 s0 v1 = some r) (f0 : SlC (hcell h) (El.int .i64) v0 s0) : CallsH P id_slices_Contains_Lint64_int64 #[v0, .int .i64 v1] h (fun v h' => v = .bool r ∧ S ψ h h' []) := by
  apply w_slices_Contains_Lint64_int64
  unfold F_slices_Contains_Lint64_int64
  rw [p_slices_Contains_Lint64_int64] at hp
  have st : S ψ h h [] := S.start hψ
  obtain ⟨r7, hx, hp⟩ := obind hp
  obtain ⟨φ, L, s, r_2⟩ := id st
  refine (r_slices_Index_Lint64_int64 s.fle hx (f0.mono st.le)).mono fun v_2 h_2 ⟨eq, t⟩ => ⟨_, eq, ?_⟩
  replace st := join0 s r_2 t
  clear t s r_2
  obtain rfl := Option.some.inj hp
  exact ⟨rfl, st.pick [] (by decide)⟩
theorem rq_impl_blocker_search {rf_impl_blocker_search : T_impl_blocker → Int → Int → Int → Option T_impl_blocker}  (ih_impl_blocker_search : ∀ {ψ : CM} {h0 h : Heap} {os : List Ob} {y0 : T_impl_blocker} {b0 : Nat} {post0 : List Value} {v0_4 : Value} {v0_5 : Value} {v0_6 : Value} {v0_7 : Value} {v0_10 : Value} {y1 : Int} {y2 : Int} {y3 : Int} {r : T_impl_blocker} (hp : rf_impl_blocker_search y0 y1 y2 y3 = some r) (st : S ψ h0 h (.box b0 (.int .i64 y0.qcounter.qleft :: .bool y0.qcounter.qspent :: .int .i64 y0.qlambda :: .bool y0.qfirst :: v0_4 :: v0_5 :: v0_6 :: v0_7 :: .int .i64 y0.qnodes :: .int .i64 y0.qcount :: v0_10 :: post0) :: .it (El.ow (El.ow (El.int .i64))) [v0_4] y0.qload :: .it (El.ow El.bool) [v0_6] y0.qused :: .it (El.ow (El.sl (El.int .i64))) [v0_7] y0.qblocks :: .it (El.ow (El.ow (El.int .i64))) [v0_10] y0.qfound :: os)) (f0_5 : SlC ψ (El.sl (El.int .i64)) v0_5 y0.qsets), CallsH P id_impl_blocker_search #[.pointer (some ⟨b0, 0, none⟩), .int .i64 y1, .int .i64 y2, .int .i64 y3] h (fun v h' => ∃ w0 : Value, ∃ w1 : Value, ∃ w2 : Value, ∃ w3 : Value, v = .tuple #[] ∧ S ψ h0 h' (.box b0 (.int .i64 r.qcounter.qleft :: .bool r.qcounter.qspent :: .int .i64 r.qlambda :: .bool r.qfirst :: w0 :: v0_5 :: w1 :: w2 :: .int .i64 r.qnodes :: .int .i64 r.qcount :: w3 :: post0) :: .it (El.ow (El.ow (El.int .i64))) [w0] r.qload :: .it (El.ow El.bool) [w1] r.qused :: .it (El.ow (El.sl (El.int .i64))) [w2] r.qblocks :: .it (El.ow (El.ow (El.int .i64))) [w3] r.qfound :: os))) : ∀ {ψ : CM} {h0 h : Heap} {os : List Ob} {y0 : T_impl_blocker} {b0 : Nat} {post0 : List Value} {v0_4 : Value} {v0_5 : Value} {v0_6 : Value} {v0_7 : Value} {v0_10 : Value} {y1 : Int} {y2 : Int} {y3 : Int} {r : T_impl_blocker} (hp : q_impl_blocker_search rf_impl_blocker_search y0 y1 y2 y3 = some r) (st : S ψ h0 h (.box b0 (.int .i64 y0.qcounter.qleft :: .bool y0.qcounter.qspent :: .int .i64 y0.qlambda :: .bool y0.qfirst :: v0_4 :: v0_5 :: v0_6 :: v0_7 :: .int .i64 y0.qnodes :: .int .i64 y0.qcount :: v0_10 :: post0) :: .it (El.ow (El.ow (El.int .i64))) [v0_4] y0.qload :: .it (El.ow El.bool) [v0_6] y0.qused :: .it (El.ow (El.sl (El.int .i64))) [v0_7] y0.qblocks :: .it (El.ow (El.ow (El.int .i64))) [v0_10] y0.qfound :: os)) (f0_5 : SlC ψ (El.sl (El.int .i64)) v0_5 y0.qsets), CallsH P id_impl_blocker_search #[.pointer (some ⟨b0, 0, none⟩), .int .i64 y1, .int .i64 y2, .int .i64 y3] h (fun v h' => ∃ w0 : Value, ∃ w1 : Value, ∃ w2 : Value, ∃ w3 : Value, v = .tuple #[] ∧ S ψ h0 h' (.box b0 (.int .i64 r.qcounter.qleft :: .bool r.qcounter.qspent :: .int .i64 r.qlambda :: .bool r.qfirst :: w0 :: v0_5 :: w1 :: w2 :: .int .i64 r.qnodes :: .int .i64 r.qcount :: w3 :: post0) :: .it (El.ow (El.ow (El.int .i64))) [w0] r.qload :: .it (El.ow El.bool) [w1] r.qused :: .it (El.ow (El.sl (El.int .i64))) [w2] r.qblocks :: .it (El.ow (El.ow (El.int .i64))) [w3] r.qfound :: os)) := by
  intro ψ h0 h os y0 b0 post0 v0_4 v0_5 v0_6 v0_7 v0_10 y1 y2 y3 r hp st f0_5
  apply w_impl_blocker_search
  unfold F_impl_blocker_search
  rw [q_impl_blocker_search] at hp
  refine ⟨fun h_2 => ∃ q : Int, ∃ q_2 : Bool, S ψ h0 h_2 (.box b0 (.int .i64 q :: .bool q_2 :: .int .i64 y0.qlambda :: .bool y0.qfirst :: v0_4 :: v0_5 :: v0_6 :: v0_7 :: .int .i64 y0.qnodes :: .int .i64 y0.qcount :: v0_10 :: post0) :: .it (El.ow (El.ow (El.int .i64))) [v0_4] y0.qload :: .it (El.ow El.bool) [v0_6] y0.qused :: .it (El.ow (El.sl (El.int .i64))) [v0_7] y0.qblocks :: .it (El.ow (El.ow (El.int .i64))) [v0_10] y0.qfound :: os) ∧ p_impl_blocker_search_k1 rf_impl_blocker_search y0 y1 y2 y3 q q_2 = some r, ?_, ?_⟩
  · refine ldB_K (st.cells 0 rfl) 1 rfl rfl ?_
    refine bifP hp (fun hc hp => ?_) (fun hc hp => ?_)
    · obtain rfl := Option.some.inj hp
      exact ⟨v0_4, v0_6, v0_7, v0_10, rfl, st.pickT 5 [0, 1, 2, 3, 4] (by decide) (by decide)⟩
    · refine ldB_K (st.cells 0 rfl) 3 rfl rfl ?_
      refine bifP hp (fun hc hp => ?_) (fun hc hp => ?_)
      · refine ldI_K (st.cells 0 rfl) 9 rfl rfl ?_
        refine bifP hp (fun hc hp => ?_) (fun hc hp => ?_)
        · obtain rfl := Option.some.inj hp
          exact ⟨v0_4, v0_6, v0_7, v0_10, rfl, st.pickT 5 [0, 1, 2, 3, 4] (by decide) (by decide)⟩
        · obtain ⟨r36, hx_15, hp⟩ := obind hp
          obtain ⟨φ_9, L_9, s_9, r_10⟩ := id st
          refine (r_impl_counter_node hx_15 (s_9.upS r_10) ).mono fun v_14 h_22 ⟨eq_9, t_9⟩ => ⟨_, eq_9, ?_⟩
          replace st := s_9.downS t_9
          clear t_9 s_9 r_10
          refine bifP hp (fun hc hp => ?_) (fun hc hp => ?_)
          · obtain rfl := Option.some.inj hp
            exact ⟨v0_4, v0_6, v0_7, v0_10, rfl, st.pickT 5 [0, 1, 2, 3, 4] (by decide) (by decide)⟩
          · exact ⟨_, _, st.pickT 5 [0, 1, 2, 3, 4] (by decide) (by decide), hp⟩
      · obtain ⟨r36_2, hx_16, hp⟩ := obind hp
        obtain ⟨φ_10, L_10, s_10, r_11⟩ := id st
        refine (r_impl_counter_node hx_16 (s_10.upS r_11) ).mono fun v_15 h_23 ⟨eq_10, t_10⟩ => ⟨_, eq_10, ?_⟩
        replace st := s_10.downS t_10
        clear t_10 s_10 r_11
        refine bifP hp (fun hc hp => ?_) (fun hc hp => ?_)
        · obtain rfl := Option.some.inj hp
          exact ⟨v0_4, v0_6, v0_7, v0_10, rfl, st.pickT 5 [0, 1, 2, 3, 4] (by decide) (by decide)⟩
        · exact ⟨_, _, st.pickT 5 [0, 1, 2, 3, 4] (by decide) (by decide), hp⟩
  · rintro _ h_2 ⟨q, q_2, st, hp⟩
    rw [p_impl_blocker_search_k1] at hp
    refine ldI_K (st.cells 0 rfl) 8 rfl rfl ?_
    refine st_box st 0 rfl rfl rfl rfl fun h_3 st => ?_
    dsimp only [List.set] at st
    obtain ⟨r48, hx, hp⟩ := obind hp
    obtain ⟨φ, L, s, r_2⟩ := id st
    refine (r_impl_blocker_shortPair s.fle hx (CellsC.part 0 11 (st.cells 0 rfl)) (st.rdL 1 rfl (frz_ow (frz_int _))) (f0_5.mono st.leF) (st.rdL 2 rfl frz_bool) (st.rdL 3 rfl (frz_sl _)) (st.rdL 4 rfl (frz_ow (frz_int _)))).mono fun v_2 h_4 ⟨eq, t⟩ => ⟨_, _, _, eq, ?_⟩
    replace st := join0 s r_2 t
    clear t s r_2
    refine bifP hp (fun hc hp => ?_) (fun hc hp => ?_)
    · refine ldI_K (st.cells 0 rfl) 9 rfl rfl ?_
      refine st_box st 0 rfl rfl rfl rfl fun h_5 st => ?_
      dsimp only [List.set] at st
      refine ldI_K (st.cells 0 rfl) 9 rfl rfl ?_
      refine bifP hp (fun hc hp => ?_) (fun hc hp => ?_)
      · refine ldV_K (st.cells 0 rfl) 7 rfl rfl ?_
        obtain ⟨r71, hx_2, hp⟩ := obind hp
        obtain ⟨φ_2, L_2, s_2, r_3⟩ := id st
        refine (r_impl_copyLists s_2.fle hx_2 (st.rdL 3 rfl (frz_sl _))).mono fun v_3 h_6 ⟨v71, eq_2, t_2⟩ => ⟨_, eq_2, ?_⟩
        replace st := join1 s_2 r_3 t_2
        clear t_2 s_2 r_3
        refine st_box st 1 rfl rfl rfl (st.rdL 0 rfl (frz_ow (frz_int _))).one fun h_7 st => ?_
        dsimp only [List.set] at st
        obtain rfl := Option.some.inj hp
        exact ⟨v0_4, v0_6, v0_7, v71, rfl, st.pickT 6 [1, 2, 3, 4, 0] (by decide) (by decide)⟩
      · obtain rfl := Option.some.inj hp
        exact ⟨v0_4, v0_6, v0_7, v0_10, rfl, st.pickT 5 [0, 1, 2, 3, 4] (by decide) (by decide)⟩
    · refine ⟨fun y11 h_8 => S ψ h0 h_8 (.box b0 (.int .i64 q :: .bool q_2 :: .int .i64 y0.qlambda :: .bool y0.qfirst :: v0_4 :: v0_5 :: v0_6 :: v0_7 :: .int .i64 (IntKind.i64.wrap (y0.qnodes + 1)) :: .int .i64 y0.qcount :: v0_10 :: post0) :: .it (El.ow (El.ow (El.int .i64))) [v0_4] y0.qload :: .it (El.ow El.bool) [v0_6] y0.qused :: .it (El.ow (El.sl (El.int .i64))) [v0_7] y0.qblocks :: .it (El.ow (El.ow (El.int .i64))) [v0_10] y0.qfound :: os) ∧ p_impl_blocker_search_k2 rf_impl_blocker_search y0 q q_2 r48 y11 = some r, ?_, ?_⟩
      · refine bifP hp (fun hc hp => ?_) (fun hc hp => ?_)
        · refine bifP hp (fun hc hp => ?_) (fun hc hp => ?_)
          · exact ⟨st.pickT 5 [0, 1, 2, 3, 4] (by decide) (by decide), hp⟩
          · exact ⟨st.pickT 5 [0, 1, 2, 3, 4] (by decide) (by decide), hp⟩
        · exact ⟨st.pickT 5 [0, 1, 2, 3, 4] (by decide) (by decide), hp⟩
      · rintro _ y11 h_8 ⟨st, hp⟩
        rw [p_impl_blocker_search_k2] at hp
        obtain ⟨n_2, hn⟩ := loop_n hp
        refine ⟨fun n y12 h_9 => ∃ q_3 : Int, ∃ q_4 : Bool, ∃ q_5 : Int, ∃ q_6 : Bool, ∃ q_7 : Int, ∃ q_8 : Int, ∃ xs : List (List Int), ∃ v_4 : Value, ∃ xs_2 : List Bool, ∃ v_5 : Value, ∃ xs_3 : List (List Int), ∃ v_6 : Value, ∃ xs_4 : List (List Int), ∃ v_7 : Value, S ψ h0 h_9 (.box b0 (.int .i64 q_3 :: .bool q_4 :: .int .i64 q_5 :: .bool q_6 :: v_4 :: v0_5 :: v_5 :: v_6 :: .int .i64 q_7 :: .int .i64 q_8 :: v_7 :: post0) :: .it (El.ow (El.ow (El.int .i64))) [v_4] xs :: .it (El.ow El.bool) [v_5] xs_2 :: .it (El.ow (El.sl (El.int .i64))) [v_6] xs_3 :: .it (El.ow (El.ow (El.int .i64))) [v_7] xs_4 :: os) ∧ loopN (p_impl_blocker_search_b1 rf_impl_blocker_search y0 r48) n (y12, q_3, q_4, q_5, q_6, q_7, q_8, xs, xs_2, xs_3, xs_4) = some r, ⟨n_2, _, _, _, _, _, _, _, _, _, _, _, _, _, _, st.pickT 5 [0, 1, 2, 3, 4] (by decide) (by decide), hn⟩, ?_⟩
        rintro n _ y12 h_9 ⟨q_3, q_4, q_5, q_6, q_7, q_8, xs, v_4, xs_2, v_5, xs_3, v_6, xs_4, v_7, st, hn⟩
        obtain ⟨m, a, rfl, hp, hs⟩ := loopN_step hn
        rw [p_impl_blocker_search_b1] at hp
        refine ldV_K (st.cells 0 rfl) 5 rfl rfl ?_
        refine vLen_C (f0_5.mono st.leF) ?_
        refine bifP hp (fun hc hp => ?_) (fun hc hp => ?_)
        · refine ldV_K (st.cells 0 rfl) 5 rfl rfl ?_
          obtain ⟨e99, hx_3, hp⟩ := obind hp
          refine vIdx_C (f0_5.mono st.leF) hx_3 fun p99 ad => ?_
          refine ldV_C f0_5 st.leF ad hx_3 fun u100 f => ?_
          refine ⟨fun h_10 => S ψ h0 h_10 (.box b0 (.int .i64 q_3 :: .bool q_4 :: .int .i64 q_5 :: .bool q_6 :: v_4 :: v0_5 :: v_5 :: v_6 :: .int .i64 q_7 :: .int .i64 q_8 :: v_7 :: post0) :: .it (El.ow (El.ow (El.int .i64))) [v_4] xs :: .it (El.ow El.bool) [v_5] xs_2 :: .it (El.ow (El.sl (El.int .i64))) [v_6] xs_3 :: .it (El.ow (El.ow (El.int .i64))) [v_7] xs_4 :: os) ∧ p_impl_blocker_search_k3 rf_impl_blocker_search y0 r48 y12 q_3 q_4 q_5 q_6 q_7 q_8 xs xs_2 xs_3 xs_4 e99 = some a, ?_, ?_⟩
          · have stR_19 := st
            have xR_19 := ExtH.refl h_9
            refine ldV_K (st.cells 0 rfl) 6 rfl rfl ?_
            obtain ⟨e106, hx_11, hp⟩ := obind hp
            refine vIdx_C (st.rdL 2 rfl frz_bool) hx_11 fun p106 ad_4 => ?_
            refine ldB_C (st.rdL 2 rfl frz_bool) ad_4 hx_11 ?_
            refine bifP hp (fun hc hp => ?_) (fun hc hp => ?_)
            · obtain rfl := Option.some.inj hp
              exact ⟨m, Nat.lt_succ_self _, _, _, _, _, _, _, _, _, _, _, _, _, _, _, st.pickT 5 [0, 1, 2, 3, 4] (by decide) (by decide), hs⟩
            · obtain ⟨r111, hx_12, hp⟩ := obind hp
              obtain ⟨φ_6, L_6, s_6, r_7⟩ := id st
              refine (r_slices_Contains_Lint64_int64 s_6.fle hx_12 (f.mono st.leF)).mono fun v_11 h_19 ⟨eq_6, t_6⟩ => ⟨_, eq_6, xR_19.trans t_6.ext, ?_⟩
              replace xR_19 := xR_19.trans t_6.ext
              replace st := join0 s_6 r_7 t_6
              clear t_6 s_6 r_7
              refine bifP hp (fun hc hp => ?_) (fun hc hp => ?_)
              · obtain rfl := Option.some.inj hp
                exact ⟨m, Nat.lt_succ_self _, _, _, _, _, _, _, _, _, _, _, _, _, _, _, st.pickT 5 [0, 1, 2, 3, 4] (by decide) (by decide), hs⟩
              · obtain ⟨r117, hx_13, hp⟩ := obind hp
                obtain ⟨φ_7, L_7, s_7, r_8⟩ := id st
                refine (r_slices_Contains_Lint64_int64 s_7.fle hx_13 (f.mono st.leF)).mono fun v_12 h_20 ⟨eq_7, t_7⟩ => ⟨_, eq_7, xR_19.trans t_7.ext, ?_⟩
                replace xR_19 := xR_19.trans t_7.ext
                replace st := join0 s_7 r_8 t_7
                clear t_7 s_7 r_8
                refine bifP hp (fun hc hp => ?_) (fun hc hp => ?_)
                · obtain rfl := Option.some.inj hp
                  exact ⟨m, Nat.lt_succ_self _, _, _, _, _, _, _, _, _, _, _, _, _, _, _, st.pickT 5 [0, 1, 2, 3, 4] (by decide) (by decide), hs⟩
                · refine ldV_K (st.cells 0 rfl) 4 rfl rfl ?_
                  obtain ⟨r126, hx_14, hp⟩ := obind hp
                  obtain ⟨φ_8, L_8, s_8, r_9⟩ := id st
                  refine (r_impl_load_most s_8.fle hx_14 (st.rdL 1 rfl (frz_ow (frz_int _))) (f.mono st.leF)).mono fun v_13 h_21 ⟨eq_8, t_8⟩ => ⟨_, eq_8, xR_19.trans t_8.ext, ?_⟩
                  replace xR_19 := xR_19.trans t_8.ext
                  replace st := join0 s_8 r_9 t_8
                  clear t_8 s_8 r_9
                  refine ldI_K (stR_19.cells 0 rfl) 2 rfl rfl ?_
                  refine bifP hp (fun hc hp => ?_) (fun hc hp => ?_)
                  · obtain rfl := Option.some.inj hp
                    exact ⟨m, Nat.lt_succ_self _, _, _, _, _, _, _, _, _, _, _, _, _, _, _, st.pickT 5 [0, 1, 2, 3, 4] (by decide) (by decide), hs⟩
                  · exact ⟨st.pickT 5 [0, 1, 2, 3, 4] (by decide) (by decide), hp⟩
          · rintro _ h_10 ⟨st, hp⟩
            rw [p_impl_blocker_search_k3] at hp
            refine ldV_K (st.cells 0 rfl) 6 rfl rfl ?_
            obtain ⟨e138, hx_4, hp⟩ := obind hp
            refine vIdx_C (st.rdL 2 rfl frz_bool) hx_4 fun p138 ad_2 => ?_
            refine st1_S st 2 rfl ad_2 hx_4 rfl (fun _ => ⟨rfl, rfl⟩) fun h_11 st => ?_
            dsimp only [List.set] at st
            refine ldV_K (st.cells 0 rfl) 4 rfl rfl ?_
            have st : S ψ h0 h_11 (.it (El.ow (El.ow (El.int .i64))) [v_4] xs :: .box b0 (.int .i64 q_3 :: .bool q_4 :: .int .i64 q_5 :: .bool q_6 :: v_4 :: v0_5 :: v_5 :: v_6 :: .int .i64 q_7 :: .int .i64 q_8 :: v_7 :: post0) :: .it (El.ow El.bool) [v_5] (xs_2.set (y12 : Int).toNat true) :: .it (El.ow (El.sl (El.int .i64))) [v_6] xs_3 :: .it (El.ow (El.ow (El.int .i64))) [v_7] xs_4 :: os) := st.pickT 5 [1, 0, 2, 3, 4] (by decide) (by decide)
            obtain ⟨r144, hx_5, hp⟩ := obind hp
            obtain ⟨φ_3, L_3, s_3, r_4⟩ := id st
            refine (r_impl_load_change hx_5 (s_3.upS r_4) (f.mono (s_3.bas.trans s_3.ubF))).mono fun v_8 h_12 ⟨eq_3, t_3⟩ => ⟨eq_3, ?_⟩
            replace st := s_3.downS t_3
            clear t_3 s_3 r_4
            refine ldV_K (st.cells 1 rfl) 7 rfl rfl ?_
            refine vOne_of (f.mono st.leF).one ?_
            have st := st.arg f
            obtain ⟨l152, hx_6, hp⟩ := obind hp
            refine push_it st 3 rfl rfl rfl hx_6 fun v152 h_13 st => ?_
            dsimp only [List.set] at st
            refine st_box st 1 rfl rfl rfl (st.rdL 3 rfl (frz_sl _)).one fun h_14 st => ?_
            dsimp only [List.set] at st
            have st : S ψ h0 h_14 (.box b0 (.int .i64 q_3 :: .bool q_4 :: .int .i64 q_5 :: .bool q_6 :: v_4 :: v0_5 :: v_5 :: v152 :: .int .i64 q_7 :: .int .i64 q_8 :: v_7 :: post0) :: .it (El.ow (El.ow (El.int .i64))) [v_4] r144 :: .it (El.ow El.bool) [v_5] (xs_2.set (y12 : Int).toNat true) :: .it (El.ow (El.sl (El.int .i64))) [v152] l152 :: .it (El.ow (El.ow (El.int .i64))) [v_7] xs_4 :: os) := st.pickT 5 [1, 0, 2, 3, 4] (by decide) (by decide)
            obtain ⟨r159, hx_7, hp⟩ := obind hp
            obtain ⟨φ_4, L_4, s_4, r_5⟩ := id st
            refine (ih_impl_blocker_search hx_7 (s_4.upS r_5) (f0_5.mono s_4.bas)).mono fun v_9 h_15 ⟨v159, v159_2, v159_3, v159_4, eq_4, t_4⟩ => ⟨eq_4, ?_⟩
            replace st := s_4.downS t_4
            clear t_4 s_4 r_5
            refine ldV_K (st.cells 0 rfl) 7 rfl rfl ?_
            refine ldV_K (st.cells 0 rfl) 7 rfl rfl ?_
            refine vLen_C (st.rdL 3 rfl (frz_sl _)) ?_
            obtain ⟨l171, hx_8, hp⟩ := obind hp
            refine cut_S none (some (IntKind.i64.wrap ((r159.qblocks.length : Int) - 1))) st 3 rfl hx_8 rfl fun v171 st => ?_
            dsimp only [List.set] at st
            refine st_box st 0 rfl rfl rfl (st.rdL 3 rfl (frz_sl _)).one fun h_16 st => ?_
            dsimp only [List.set] at st
            refine ldV_K (st.cells 0 rfl) 4 rfl rfl ?_
            have st : S ψ h0 h_16 (.it (El.ow (El.ow (El.int .i64))) [v159] r159.qload :: .box b0 (.int .i64 r159.qcounter.qleft :: .bool r159.qcounter.qspent :: .int .i64 r159.qlambda :: .bool r159.qfirst :: v159 :: v0_5 :: v159_2 :: v171 :: .int .i64 r159.qnodes :: .int .i64 r159.qcount :: v159_4 :: post0) :: .it (El.ow El.bool) [v159_2] r159.qused :: .it (El.ow (El.sl (El.int .i64))) [v171] l171 :: .it (El.ow (El.ow (El.int .i64))) [v159_4] r159.qfound :: os) := st.pickT 5 [1, 0, 2, 3, 4] (by decide) (by decide)
            obtain ⟨r179, hx_9, hp⟩ := obind hp
            obtain ⟨φ_5, L_5, s_5, r_6⟩ := id st
            refine (r_impl_load_change hx_9 (s_5.upS r_6) (f.mono (s_5.bas.trans s_5.ubF))).mono fun v_10 h_17 ⟨eq_5, t_5⟩ => ⟨eq_5, ?_⟩
            replace st := s_5.downS t_5
            clear t_5 s_5 r_6
            refine ldV_K (st.cells 1 rfl) 6 rfl rfl ?_
            obtain ⟨e185, hx_10, hp⟩ := obind hp
            refine vIdx_C (st.rdL 2 rfl frz_bool) hx_10 fun p185 ad_3 => ?_
            refine st1_S st 2 rfl ad_3 hx_10 rfl (fun _ => ⟨rfl, rfl⟩) fun h_18 st => ?_
            dsimp only [List.set] at st
            obtain rfl := Option.some.inj hp
            exact ⟨m, Nat.lt_succ_self _, _, _, _, _, _, _, _, _, _, _, _, _, _, _, st.pickT 5 [1, 0, 2, 3, 4] (by decide) (by decide), hs⟩
        · obtain rfl := Option.some.inj hp
          obtain rfl := Option.some.inj hs
          exact ⟨v_4, v_5, v_6, v_7, rfl, st.pickT 5 [0, 1, 2, 3, 4] (by decide) (by decide)⟩
theorem rn_impl_blocker_search : ∀ n, (∀ {ψ : CM} {h0 h : Heap} {os : List Ob} {y0 : T_impl_blocker} {b0 : Nat} {post0 : List Value} {v0_4 : Value} {v0_5 : Value} {v0_6 : Value} {v0_7 : Value} {v0_10 : Value} {y1 : Int} {y2 : Int} {y3 : Int} {r : T_impl_blocker} (hp : (pn_impl_blocker_search n) y0 y1 y2 y3 = some r) (st : S ψ h0 h (.box b0 (.int .i64 y0.qcounter.qleft :: .bool y0.qcounter.qspent :: .int .i64 y0.qlambda :: .bool y0.qfirst :: v0_4 :: v0_5 :: v0_6 :: v0_7 :: .int .i64 y0.qnodes :: .int .i64 y0.qcount :: v0_10 :: post0) :: .it (El.ow (El.ow (El.int .i64))) [v0_4] y0.qload :: .it (El.ow El.bool) [v0_6] y0.qused :: .it (El.ow (El.sl (El.int .i64))) [v0_7] y0.qblocks :: .it (El.ow (El.ow (El.int .i64))) [v0_10] y0.qfound :: os)) (f0_5 : SlC ψ (El.sl (El.int .i64)) v0_5 y0.qsets), CallsH P id_impl_blocker_search #[.pointer (some ⟨b0, 0, none⟩), .int .i64 y1, .int .i64 y2, .int .i64 y3] h (fun v h' => ∃ w0 : Value, ∃ w1 : Value, ∃ w2 : Value, ∃ w3 : Value, v = .tuple #[] ∧ S ψ h0 h' (.box b0 (.int .i64 r.qcounter.qleft :: .bool r.qcounter.qspent :: .int .i64 r.qlambda :: .bool r.qfirst :: w0 :: v0_5 :: w1 :: w2 :: .int .i64 r.qnodes :: .int .i64 r.qcount :: w3 :: post0) :: .it (El.ow (El.ow (El.int .i64))) [w0] r.qload :: .it (El.ow El.bool) [w1] r.qused :: .it (El.ow (El.sl (El.int .i64))) [w2] r.qblocks :: .it (El.ow (El.ow (El.int .i64))) [w3] r.qfound :: os))) := by
  intro n
  induction n with
  | zero => exact fun hp => absurd hp (by simp [pn_impl_blocker_search])
  | succ n ih => exact rq_impl_blocker_search ih
theorem r_impl_blocker_search : ∀ {ψ : CM} {h0 h : Heap} {os : List Ob} {y0 : T_impl_blocker} {b0 : Nat} {post0 : List Value} {v0_4 : Value} {v0_5 : Value} {v0_6 : Value} {v0_7 : Value} {v0_10 : Value} {y1 : Int} {y2 : Int} {y3 : Int} {r : T_impl_blocker} (hp : p_impl_blocker_search y0 y1 y2 y3 = some r) (st : S ψ h0 h (.box b0 (.int .i64 y0.qcounter.qleft :: .bool y0.qcounter.qspent :: .int .i64 y0.qlambda :: .bool y0.qfirst :: v0_4 :: v0_5 :: v0_6 :: v0_7 :: .int .i64 y0.qnodes :: .int .i64 y0.qcount :: v0_10 :: post0) :: .it (El.ow (El.ow (El.int .i64))) [v0_4] y0.qload :: .it (El.ow El.bool) [v0_6] y0.qused :: .it (El.ow (El.sl (El.int .i64))) [v0_7] y0.qblocks :: .it (El.ow (El.ow (El.int .i64))) [v0_10] y0.qfound :: os)) (f0_5 : SlC ψ (El.sl (El.int .i64)) v0_5 y0.qsets), CallsH P id_impl_blocker_search #[.pointer (some ⟨b0, 0, none⟩), .int .i64 y1, .int .i64 y2, .int .i64 y3] h (fun v h' => ∃ w0 : Value, ∃ w1 : Value, ∃ w2 : Value, ∃ w3 : Value, v = .tuple #[] ∧ S ψ h0 h' (.box b0 (.int .i64 r.qcounter.qleft :: .bool r.qcounter.qspent :: .int .i64 r.qlambda :: .bool r.qfirst :: w0 :: v0_5 :: w1 :: w2 :: .int .i64 r.qnodes :: .int .i64 r.qcount :: w3 :: post0) :: .it (El.ow (El.ow (El.int .i64))) [w0] r.qload :: .it (El.ow El.bool) [w1] r.qused :: .it (El.ow (El.sl (El.int .i64))) [w2] r.qblocks :: .it (El.ow (El.ow (El.int .i64))) [w3] r.qfound :: os)) := (rn_impl_blocker_search fuel)
theorem r_impl_completed {ψ : CM} {h : Heap} (hψ : CLe ψ (hcell h)) {y0 : T_impl_Design} {v0_1 : Value} {y1 : Int} {y2 : Int} {y3 : Int} {y4 : Bool} {r : (Option T_impl_blocker) × Int} (hp : p_impl_completed y0 y1 y2 y3 y4 = some r) (f0_1 : SlC (hcell h) (El.sl (El.int .i64)) v0_1 y0.Blocks) : CallsH P id_impl_completed #[.agg #[.int .i64 y0.Points, v0_1], .int .i64 y1, .int .i64 y2, .int .i64 y3, .bool y4] h (fun v h' => match r.1 with | none => v = .tuple #[.pointer none, .int .i64 r.2] ∧ S ψ h h' [] | some d => ∃ wb0 : Nat, ∃ w1 : Value, ∃ w2 : Value, ∃ w3 : Value, ∃ w4 : Value, ∃ w5 : Value, v = .tuple #[.pointer (some ⟨wb0, 0, none⟩), .int .i64 r.2] ∧ S ψ h h' [.box wb0 [.int .i64 d.qcounter.qleft, .bool d.qcounter.qspent, .int .i64 d.qlambda, .bool d.qfirst, w1, w2, w3, w4, .int .i64 d.qnodes, .int .i64 d.qcount, w5], .it (El.ow (El.ow (El.int .i64))) [w1] d.qload, .it (El.sl (El.sl (El.int .i64))) [w2] d.qsets, .it (El.ow El.bool) [w3] d.qused, .it (El.ow (El.sl (El.int .i64))) [w4] d.qblocks, .it (El.ow (El.ow (El.int .i64))) [w5] d.qfound]) := by
  apply w_impl_completed
  unfold F_impl_completed
  rw [p_impl_completed] at hp
  have st : S ψ h h [] := S.start hψ
  refine new_S st fun b5 h_2 st => ?_
  refine ⟨fun h_3 => S ψ h h_3 [.box b5 [.int .i64 y0.Points, v0_1]] ∧ p_impl_completed_k1 y0 y1 y2 y3 y4 = some r, ?_, ?_⟩
  · refine ⟨fun y15 h_14 => S ψ h h_14 [.box b5 [.int .i64 y0.Points, v0_1]] ∧ p_impl_completed_k2 y0 y1 y2 y3 y4 y15 = some r, ?_, ?_⟩
    · obtain ⟨r17, hx_10, hp⟩ := obind hp
      obtain ⟨φ_8, L_8, s_8, r_9⟩ := id st
      refine (r_impl_isBudget s_8.fle hx_10).mono fun v_10 h_17 ⟨eq_8, t_8⟩ => ⟨_, eq_8, ?_⟩
      replace st := join0 s_8 r_9 t_8
      clear t_8 s_8 r_9
      refine bifP hp (fun hc hp => ?_) (fun hc hp => ?_)
      · exact ⟨st.pick [0] (by decide), hp⟩
      · refine ldI_K (st.cells 0 rfl) 0 rfl rfl ?_
        obtain ⟨r24, hx_11, hp⟩ := obind hp
        obtain ⟨φ_9, L_9, s_9, r_10⟩ := id st
        refine (r_impl_isSearched s_9.fle hx_11).mono fun v_11 h_18 ⟨eq_9, t_9⟩ => ⟨_, eq_9, ?_⟩
        replace st := join0 s_9 r_10 t_9
        clear t_9 s_9 r_10
        exact ⟨st.pick [0] (by decide), hp⟩
    · rintro _ y15 h_14 ⟨st, hp⟩
      rw [p_impl_completed_k2] at hp
      refine bifP hp (fun hc hp => ?_) (fun hc hp => ?_)
      · obtain rfl := Option.some.inj hp
        exact ⟨rfl, st.pick [] (by decide)⟩
      · refine ldI_K (st.cells 0 rfl) 0 rfl rfl ?_
        obtain ⟨r31, hx_8, hp⟩ := obind hp
        obtain ⟨φ_6, L_6, s_6, r_7⟩ := id st
        refine (r_impl_Choose s_6.fle hx_8).mono fun v_8 h_15 ⟨eq_6, t_6⟩ => ⟨_, eq_6, ?_⟩
        replace st := join0 s_6 r_7 t_6
        clear t_6 s_6 r_7
        refine bifP hp (fun hc hp => ?_) (fun hc hp => ?_)
        · obtain rfl := Option.some.inj hp
          exact ⟨rfl, st.pick [] (by decide)⟩
        · refine ldI_K (st.cells 0 rfl) 0 rfl rfl ?_
          refine ldV_K (st.cells 0 rfl) 1 rfl rfl ?_
          obtain ⟨r37, hx_9, hp⟩ := obind hp
          obtain ⟨φ_7, L_7, s_7, r_8⟩ := id st
          refine (r_impl_isDesignPacking s_7.fle hx_9 (f0_1.mono st.le)).mono fun v_9 h_16 ⟨eq_7, t_7⟩ => ⟨_, eq_7, ?_⟩
          replace st := join0 s_7 r_8 t_7
          clear t_7 s_7 r_8
          refine bifP hp (fun hc hp => ?_) (fun hc hp => ?_)
          · obtain rfl := Option.some.inj hp
            exact ⟨rfl, st.pick [] (by decide)⟩
          · exact ⟨st.pick [0] (by decide), hp⟩
  · rintro _ h_3 ⟨st, hp⟩
    rw [p_impl_completed_k1] at hp
    have stR_2 := st
    have xR_2 := ExtH.refl h_3
    refine ldI_K (st.cells 0 rfl) 0 rfl rfl ?_
    refine ldV_K (st.cells 0 rfl) 1 rfl rfl ?_
    obtain ⟨r44, hx, hp⟩ := obind hp
    obtain ⟨φ, L, s, r_2⟩ := id st
    refine (r_impl_loadOf s.fle hx (f0_1.mono st.le)).mono fun v_2 h_4 ⟨v44, eq, t⟩ => ⟨_, eq, xR_2.trans t.ext, ?_⟩
    replace xR_2 := xR_2.trans t.ext
    replace st := join1 s r_2 t
    clear t s r_2
    refine ldI_K (stR_2.cells 0 rfl) 0 rfl rfl ?_
    obtain ⟨r48, hx_2, hp⟩ := obind hp
    obtain ⟨φ_2, L_2, s_2, r_3⟩ := id st
    refine (r_impl_allSubsets s_2.fle hx_2).mono fun v_3 h_5 ⟨v48, eq_2, t_2⟩ => ⟨_, eq_2, xR_2.trans t_2.ext, ?_⟩
    replace xR_2 := xR_2.trans t_2.ext
    replace st := join1 s_2 r_3 t_2
    clear t_2 s_2 r_3
    refine ldV_K (stR_2.cells 0 rfl) 1 rfl rfl ?_
    obtain ⟨r51, hx_3, hp⟩ := obind hp
    obtain ⟨φ_3, L_3, s_3, r_4⟩ := id st
    refine (r_impl_copyLists s_3.fle hx_3 (f0_1.mono st.le)).mono fun v_4 h_6 ⟨v51, eq_3, t_3⟩ => ⟨_, eq_3, ?_⟩
    replace st := join1 s_3 r_4 t_3
    clear t_3 s_3 r_4
    refine vOne_of (st.rdL 2 rfl (frz_ow (frz_int _))).one ?_
    refine vOne_of (st.rdL 1 rfl (frz_sl _)).one ?_
    refine vOne_of (st.rdL 0 rfl (frz_ow (frz_int _))).one ?_
    refine new_S st fun b53 h_7 st => ?_
    refine ldV_K (st.cells 0 rfl) 5 rfl rfl ?_
    refine vLen_C (st.rdL 2 rfl (frz_sl _)) ?_
    have st := st.nilO (E := El.bool)
    obtain ⟨n_2, hn⟩ := loop_n hp
    refine ⟨fun n y59 h_8 => ∃ xs : List Bool, ∃ v_5 : Value, S ψ h h_8 [.box b53 [.int .i64 y3, .bool false, .int .i64 y2, .bool y4, v44, v48, v_5, v51, .int .i64 0, .int .i64 0, (.slice none 0 0)], .it (El.ow (El.ow (El.int .i64))) [v51] r51, .it (El.ow (El.sl (El.int .i64))) [v48] r48, .it (El.ow (El.ow (El.int .i64))) [v44] r44, .box b5 [.int .i64 y0.Points, v0_1], .it (El.ow El.bool) [v_5] xs] ∧ loopN (p_impl_completed_b1 y0 y2 y3 y4 r44 r48 r51) n (y59, xs) = some r, ⟨n_2, _, _, st.pick [1, 2, 3, 4, 5, 0] (by decide), hn⟩, ?_⟩
    rintro n _ y59 h_8 ⟨xs, v_5, st, hn⟩
    obtain ⟨m, a, rfl, hp, hs⟩ := loopN_step hn
    rw [p_impl_completed_b1] at hp
    refine bifP hp (fun hc hp => ?_) (fun hc hp => ?_)
    · obtain ⟨e61, hx_4, hp⟩ := obind hp
      refine vIdx_C (st.rdL 2 rfl (frz_sl _)) hx_4 fun p61 ad => ?_
      refine ldV_ow st 2 rfl ad hx_4 fun u62 st => ?_
      have stR_6 := st
      have xR_6 := ExtH.refl h_8
      refine ldV_K (st.cells 5 rfl) 1 rfl rfl ?_
      obtain ⟨r71, hx_5, hp⟩ := obind hp
      obtain ⟨φ_4, L_4, s_4, r_5⟩ := id st
      refine (r_impl_hasList s_4.fle hx_5 (f0_1.mono st.le) (st.rdF 0 rfl)).mono fun v_6 h_9 ⟨eq_4, t_4⟩ => ⟨_, eq_4, xR_6.trans t_4.ext, ?_⟩
      replace xR_6 := xR_6.trans t_4.ext
      replace st := join0 s_4 r_5 t_4
      clear t_4 s_4 r_5
      refine newS_SX (E := El.bool) (css := [[.bool r71]]) (xs := ([r71] : List Bool)) st (fun _ => ⟨[], [], rfl, ⟨rfl, rfl⟩, rfl⟩) rfl rfl fun v72 h_10 xE st => ⟨xR_6.trans xE, ?_⟩
      replace xR_6 := xR_6.trans xE
      refine ldV_K (stR_6.cells 1 rfl) 6 rfl rfl ?_
      obtain ⟨l73, hx_6, hp⟩ := obind hp
      refine app_S st 7 rfl (src_plain plain_bool (st.rdL 0 rfl frz_bool)) rfl rfl hx_6 fun v73 h_11 st => ?_
      dsimp only [List.set] at st
      refine st_box st 2 rfl rfl rfl (st.rdL 7 rfl frz_bool).one fun h_12 st => ?_
      dsimp only [List.set] at st
      obtain rfl := Option.some.inj hp
      exact ⟨m, Nat.lt_succ_self _, _, _, st.pick [2, 3, 4, 5, 6, 7] (by decide), hs⟩
    · have st := st.freeze 2 rfl (frz_ow (frz_sl _))
      dsimp only [List.set] at st
      have st := st.frzIn 1 rfl (frz_ow (frz_int _))
      dsimp only [List.set] at st
      have st := st.nil (El.ow (El.int .i64))
      have st : S ψ h h_8 [.box b53 [.int .i64 y3, .bool false, .int .i64 y2, .bool y4, v44, v48, v_5, v51, .int .i64 0, .int .i64 0, (.slice none 0 0)], .it (El.ow (El.ow (El.int .i64))) [v44] r44, .it (El.ow El.bool) [v_5] xs, .it (El.ow (El.sl (El.int .i64))) [v51] r51, .it (El.ow (El.ow (El.int .i64))) [(.slice none 0 0)] ([] : List (List Int)), .it (El.sl (El.sl (El.int .i64))) [v48] r48, .box b5 [.int .i64 y0.Points, v0_1]] := st.pick [1, 4, 6, 2, 0, 3, 5] (by decide)
      obtain ⟨r78, hx_7, hp⟩ := obind hp
      obtain ⟨φ_5, L_5, s_5, r_6⟩ := id st
      refine (r_impl_blocker_search hx_7 (s_5.upS r_6) (frF r_6 5 rfl)).mono fun v_7 h_13 ⟨v78, v78_2, v78_3, v78_4, eq_5, t_5⟩ => ⟨eq_5, ?_⟩
      replace st := s_5.downS t_5
      clear t_5 s_5 r_6
      refine ldB_K (st.cells 0 rfl) 1 rfl rfl ?_
      refine bifP hp (fun hc hp => ?_) (fun hc hp => ?_)
      · obtain rfl := Option.some.inj hp
        obtain rfl := Option.some.inj hs
        exact ⟨rfl, st.pick [] (by decide)⟩
      · obtain rfl := Option.some.inj hp
        obtain rfl := Option.some.inj hs
        exact ⟨b53, v78, v48, v78_2, v78_3, v78_4, rfl, st.pick [0, 1, 5, 2, 3, 4] (by decide)⟩
theorem r_slices_SortFunc_LLint64_Lint64 {ψ : CM} {h0 h : Heap} {os : List Ob} {x0 : List (List Int)} {v0 : Value} {fn1 : (List Int) → (List Int) → Option Int} {g1 : Nat} {cap1 : List Value} {r : List (List Int)} (hp : p_slices_SortFunc_LLint64_Lint64 x0 fn1 = some r) (st : S ψ h0 h (.it (El.ow (El.ow (El.int .i64))) [v0] x0 :: os)) (o1 : ctx.okf g1 = true) (k1 : ∀ {h1 : Heap}, ExtH h0 h1 → ∀ {ψ1 : CM}, CLe ψ1 (hcell h1) → ∀ {y0 : List Int} {u0_0 : Value} {y1 : List Int} {u1_0 : Value} {r1 : Int}, fn1 y0 y1 = some r1 → SlC (hcell h1) (El.int .i64) u0_0 y0 → SlC (hcell h1) (El.int .i64) u1_0 y1 → CallsH P g1 (([u0_0, u1_0] : List Value) ++ cap1).toArray h1 (fun v h' => v = .int .i64 r1 ∧ S ψ1 h1 h' [])) : CallsH P id_slices_SortFunc_LLint64_Lint64 #[v0, .func (.func g1) #[] cap1.toArray] h (fun v h' => v = .tuple #[] ∧ S ψ h0 h' (.it (El.ow (El.ow (El.int .i64))) [v0] r :: os)) := by
  unfold p_slices_SortFunc_LLint64_Lint64 at hp
  split at hp
  · rename_i hc
    obtain rfl := Option.some.inj hp
    obtain ⟨fn, hf, hb, hn⟩ := ctxOk.fns g1 o1
    obtain ⟨c, hb⟩ := Option.isSome_iff_exists.1 hb
    exact sort_H Tryz.sortF Tryz.sortG st (Go.Proofs.enters_of hf hn hb) k1 hc.1 hc.2
  · cases hp
theorem r_impl_sorted {ψ : CM} {h : Heap} (hψ : CLe ψ (hcell h)) {points0 : Int} {blocks1 : List (List Int)} {v1 : Value} {r : T_impl_Design × Int} (hp : p_impl_sorted points0 blocks1 = some r) (f1 : SlC (hcell h) (El.sl (El.int .i64)) v1 blocks1) : CallsH P id_impl_sorted #[.int .i64 points0, v1] h (fun v h' => ∃ w0 : Value, v = .tuple #[.agg #[.int .i64 r.1.Points, w0], .int .i64 r.2] ∧ S ψ h h' [.it (El.ow (El.ow (El.int .i64))) [w0] r.1.Blocks]) := by
  apply w_impl_sorted
  unfold F_impl_sorted
  rw [p_impl_sorted] at hp
  have st : S ψ h h [] := S.start hψ
  refine new_S st fun b4 h_2 st => ?_
  refine vLen_C (f1.mono st.le) ?_
  refine bifP hp (fun hc hp => ?_) (fun hc hp => ?_)
  · refine st_box st 0 rfl rfl rfl rfl fun h_3 st => ?_
    dsimp only [List.set] at st
    refine st_box st 0 rfl rfl rfl rfl fun h_4 st => ?_
    dsimp only [List.set] at st
    refine ldI_K (st.cells 0 rfl) 0 rfl rfl ?_
    refine ldV_K (st.cells 0 rfl) 1 rfl rfl ?_
    have st := st.nilO (E := (El.ow (El.int .i64)))
    obtain rfl := Option.some.inj hp
    exact ⟨(.slice none 0 0), rfl, st.pick [0] (by decide)⟩
  · obtain ⟨r13, hx, hp⟩ := obind hp
    obtain ⟨φ, L, s, r_2⟩ := id st
    refine (r_impl_copyLists s.fle hx (f1.mono st.le)).mono fun v_2 h_5 ⟨v13, eq, t⟩ => ⟨_, eq, ?_⟩
    replace st := join1 s r_2 t
    clear t s r_2
    refine vOne_of (st.rdL 0 rfl (frz_ow (frz_int _))).one ?_
    refine new_S st fun b6 h_6 st => ?_
    refine st_box st 0 rfl rfl rfl rfl fun h_7 st => ?_
    dsimp only [List.set] at st
    refine st_box st 0 rfl rfl rfl (st.rdL 1 rfl (frz_ow (frz_int _))).one fun h_8 st => ?_
    dsimp only [List.set] at st
    refine ldV_K (st.cells 0 rfl) 1 rfl rfl ?_
    have st : S ψ h h_8 [.it (El.ow (El.ow (El.int .i64))) [v13] r13, .box b6 [.int .i64 points0, v13], .box b4 [.int .i64 0, (.slice none 0 0)]] := st.pick [1, 0, 2] (by decide)
    obtain ⟨r17, hx_2, hp⟩ := obind hp
    obtain ⟨φ_2, L_2, s_2, r_3⟩ := id st
    refine (r_slices_SortFunc_LLint64_Lint64 hx_2 (s_2.upS r_3) (by kernel_rfl) (fun hx1 => fun hψ1 => fun hp1 ff0 ff1 => r_slices_Compare_Lint64_int64 hψ1 hp1 ff0 ff1)).mono fun v_3 h_9 ⟨eq_2, t_2⟩ => ⟨eq_2, ?_⟩
    replace st := s_2.downS t_2
    clear t_2 s_2 r_3
    refine ldI_K (st.cells 1 rfl) 0 rfl rfl ?_
    refine ldV_K (st.cells 1 rfl) 1 rfl rfl ?_
    refine st_box st 2 rfl rfl rfl rfl fun h_10 st => ?_
    dsimp only [List.set] at st
    refine st_box st 2 rfl rfl rfl (st.rdL 0 rfl (frz_ow (frz_int _))).one fun h_11 st => ?_
    dsimp only [List.set] at st
    refine ldI_K (st.cells 2 rfl) 0 rfl rfl ?_
    refine ldV_K (st.cells 2 rfl) 1 rfl rfl ?_
    obtain rfl := Option.some.inj hp
    exact ⟨v13, rfl, st.pick [0] (by decide)⟩
theorem r_impl_firstCompletion {ψ : CM} {h : Heap} (hψ : CLe ψ (hcell h)) {d0 : T_impl_Design} {v0_1 : Value} {k1 : Int} {lambda2 : Int} {budget3 : Int} {r : T_impl_Design × Int} (hp : p_impl_firstCompletion d0 k1 lambda2 budget3 = some r) (f0_1 : SlC (hcell h) (El.sl (El.int .i64)) v0_1 d0.Blocks) : CallsH P id_impl_firstCompletion #[.agg #[.int .i64 d0.Points, v0_1], .int .i64 k1, .int .i64 lambda2, .int .i64 budget3] h (fun v h' => ∃ w0 : Value, v = .tuple #[.agg #[.int .i64 r.1.Points, w0], .int .i64 r.2] ∧ S ψ h h' [.it (El.ow (El.ow (El.int .i64))) [w0] r.1.Blocks]) := by
  apply w_impl_firstCompletion
  unfold F_impl_firstCompletion
  rw [p_impl_firstCompletion] at hp
  have st : S ψ h h [] := S.start hψ
  refine new_S st fun b4 h_2 st => ?_
  refine new_S st fun b8 h_3 st => ?_
  refine ldI_K (st.cells 1 rfl) 0 rfl rfl ?_
  refine ldV_K (st.cells 1 rfl) 1 rfl rfl ?_
  obtain ⟨⟨_ | d17, c17⟩, hx, hp⟩ := obind hp
  · dsimp only at hp
    obtain ⟨φ, L, s, r_2⟩ := id st
    refine (r_impl_completed s.fle hx (f0_1.mono st.le)).mono fun v_2 h_4 ⟨eq, t⟩ => ⟨_, _, eq, ?_⟩
    replace st := join0 s r_2 t
    clear t s r_2
    refine bifP hp (fun hc hp => ?_) (fun hc hp => ?_)
    · refine st_box st 0 rfl rfl rfl rfl fun h_5 st => ?_
      dsimp only [List.set] at st
      refine st_box st 0 rfl rfl rfl rfl fun h_6 st => ?_
      dsimp only [List.set] at st
      refine ldI_K (st.cells 0 rfl) 0 rfl rfl ?_
      refine ldV_K (st.cells 0 rfl) 1 rfl rfl ?_
      have st := st.nilO (E := (El.ow (El.int .i64)))
      obtain rfl := Option.some.inj hp
      exact ⟨(.slice none 0 0), rfl, st.pick [0] (by decide)⟩
    · cases hp
  · dsimp only at hp
    obtain ⟨φ, L, s, r_2⟩ := id st
    refine (r_impl_completed s.fle hx (f0_1.mono st.le)).mono fun v_3 h_7 ⟨b17, v17, v17_2, v17_3, v17_4, v17_5, eq_2, t_2⟩ => ⟨_, _, eq_2, ?_⟩
    replace st := join6 s r_2 t_2
    clear t_2 s r_2
    refine bifP hp (fun hc hp => ?_) (fun hc hp => ?_)
    · refine st_box st 6 rfl rfl rfl rfl fun h_8 st => ?_
      dsimp only [List.set] at st
      refine st_box st 6 rfl rfl rfl rfl fun h_9 st => ?_
      dsimp only [List.set] at st
      refine ldI_K (st.cells 6 rfl) 0 rfl rfl ?_
      refine ldV_K (st.cells 6 rfl) 1 rfl rfl ?_
      have st := st.nilO (E := (El.ow (El.int .i64)))
      obtain rfl := Option.some.inj hp
      exact ⟨(.slice none 0 0), rfl, st.pick [0] (by decide)⟩
    · refine vNilQ_p ?_
      refine ldI_K (st.cells 0 rfl) 9 rfl rfl ?_
      refine bifP hp (fun hc hp => ?_) (fun hc hp => ?_)
      · refine st_box st 6 rfl rfl rfl rfl fun h_10 st => ?_
        dsimp only [List.set] at st
        refine st_box st 6 rfl rfl rfl rfl fun h_11 st => ?_
        dsimp only [List.set] at st
        refine ldI_K (st.cells 6 rfl) 0 rfl rfl ?_
        refine ldV_K (st.cells 6 rfl) 1 rfl rfl ?_
        have st := st.nilO (E := (El.ow (El.int .i64)))
        obtain rfl := Option.some.inj hp
        exact ⟨(.slice none 0 0), rfl, st.pick [0] (by decide)⟩
      · refine ldI_K (st.cells 7 rfl) 0 rfl rfl ?_
        refine vNilQ_p ?_
        refine ldV_K (st.cells 0 rfl) 10 rfl rfl ?_
        obtain ⟨r36, hx_2, hp⟩ := obind hp
        obtain ⟨φ_2, L_2, s_2, r_3⟩ := id st
        refine (r_impl_sorted s_2.fle hx_2 (st.rdL 5 rfl (frz_ow (frz_int _)))).mono fun v_4 h_12 ⟨v36, eq_3, t_3⟩ => ⟨_, _, _, eq_3, ?_⟩
        replace st := join1 s_2 r_3 t_3
        clear t_3 s_2 r_3
        refine st_box st 7 rfl rfl rfl rfl fun h_13 st => ?_
        dsimp only [List.set] at st
        refine st_box st 7 rfl rfl rfl (st.rdL 0 rfl (frz_ow (frz_int _))).one fun h_14 st => ?_
        dsimp only [List.set] at st
        refine ldI_K (st.cells 7 rfl) 0 rfl rfl ?_
        refine ldV_K (st.cells 7 rfl) 1 rfl rfl ?_
        obtain rfl := Option.some.inj hp
        exact ⟨v36, rfl, st.pick [0] (by decide)⟩
theorem r_impl_CompleteDesign {ψ : CM} {h : Heap} (hψ : CLe ψ (hcell h)) {d0 : T_impl_Design} {v0_1 : Value} {k1 : Int} {lambda2 : Int} {budget3 : Int} {r : T_impl_Design × Int} (hp : p_impl_CompleteDesign d0 k1 lambda2 budget3 = some r) (f0_1 : SlC (hcell h) (El.sl (El.int .i64)) v0_1 d0.Blocks) : CallsH P id_impl_CompleteDesign #[.agg #[.int .i64 d0.Points, v0_1], .int .i64 k1, .int .i64 lambda2, .int .i64 budget3] h (fun v h' => ∃ w0 : Value, v = .tuple #[.agg #[.int .i64 r.1.Points, w0], .int .i64 r.2] ∧ S ψ h h' [.it (El.ow (El.ow (El.int .i64))) [w0] r.1.Blocks]) := by
  apply w_impl_CompleteDesign
  unfold F_impl_CompleteDesign
  rw [p_impl_CompleteDesign] at hp
  have st : S ψ h h [] := S.start hψ
  refine new_S st fun b4 h_2 st => ?_
  refine new_S st fun b8 h_3 st => ?_
  refine ldI_K (st.cells 1 rfl) 0 rfl rfl ?_
  refine ldV_K (st.cells 1 rfl) 1 rfl rfl ?_
  obtain ⟨r11, hx, hp⟩ := obind hp
  obtain ⟨φ, L, s, r_2⟩ := id st
  refine (r_impl_ValidDesign s.fle hx (f0_1.mono st.le)).mono fun v_2 h_4 ⟨eq, t⟩ => ⟨_, eq, ?_⟩
  replace st := join0 s r_2 t
  clear t s r_2
  refine bifP hp (fun hc hp => ?_) (fun hc hp => ?_)
  · refine st_box st 0 rfl rfl rfl rfl fun h_5 st => ?_
    dsimp only [List.set] at st
    refine st_box st 0 rfl rfl rfl rfl fun h_6 st => ?_
    dsimp only [List.set] at st
    refine ldI_K (st.cells 0 rfl) 0 rfl rfl ?_
    refine ldV_K (st.cells 0 rfl) 1 rfl rfl ?_
    have st := st.nilO (E := (El.ow (El.int .i64)))
    obtain rfl := Option.some.inj hp
    exact ⟨(.slice none 0 0), rfl, st.pick [0] (by decide)⟩
  · refine ldI_K (st.cells 1 rfl) 0 rfl rfl ?_
    refine ldV_K (st.cells 1 rfl) 1 rfl rfl ?_
    obtain ⟨r18, hx_2, hp⟩ := obind hp
    obtain ⟨φ_2, L_2, s_2, r_3⟩ := id st
    refine (r_impl_firstCompletion s_2.fle hx_2 (f0_1.mono st.le)).mono fun v_3 h_7 ⟨v18, eq_2, t_2⟩ => ⟨_, _, _, eq_2, ?_⟩
    replace st := join1 s_2 r_3 t_2
    clear t_2 s_2 r_3
    refine st_box st 1 rfl rfl rfl rfl fun h_8 st => ?_
    dsimp only [List.set] at st
    refine st_box st 1 rfl rfl rfl (st.rdL 0 rfl (frz_ow (frz_int _))).one fun h_9 st => ?_
    dsimp only [List.set] at st
    refine ldI_K (st.cells 1 rfl) 0 rfl rfl ?_
    refine ldV_K (st.cells 1 rfl) 1 rfl rfl ?_
    obtain rfl := Option.some.inj hp
    exact ⟨v18, rfl, st.pick [0] (by decide)⟩
theorem r_laws_eqInt64S {ψ : CM} {h : Heap} (hψ : CLe ψ (hcell h)) {a0 : List Int} {v0 : Value} {b1 : List Int} {v1 : Value} {r : Bool} (hp : p_laws_eqInt64S a0 b1 = some r) (f0 : SlC (hcell h) (El.int .i64) v0 a0) (f1 : SlC (hcell h) (El.int .i64) v1 b1) : CallsH P id_laws_eqInt64S #[v0, v1] h (fun v h' => v = .bool r ∧ S ψ h h' []) := by
  apply w_laws_eqInt64S
  unfold F_laws_eqInt64S
  rw [p_laws_eqInt64S] at hp
  have st : S ψ h h [] := S.start hψ
  refine vLen_C (f0.mono st.le) ?_
  refine vLen_C (f1.mono st.le) ?_
  refine bifP hp (fun hc hp => ?_) (fun hc hp => ?_)
  · obtain rfl := Option.some.inj hp
    exact ⟨rfl, st.pick [] (by decide)⟩
  · obtain ⟨n_2, hn⟩ := loop_n hp
    refine ⟨fun n i5 h_2 => S ψ h h_2 [] ∧ loopN (p_laws_eqInt64S_b1 a0 b1) n i5 = some r, ⟨n_2, st.pick [] (by decide), hn⟩, ?_⟩
    rintro n _ i5 h_2 ⟨st, hn⟩
    obtain ⟨m, a, rfl, hp, hs⟩ := loopN_step hn
    rw [p_laws_eqInt64S_b1] at hp
    refine vLen_C (f0.mono st.le) ?_
    refine bifP hp (fun hc hp => ?_) (fun hc hp => ?_)
    · obtain ⟨e19, hx, hp⟩ := obind hp
      refine vIdx_C (f0.mono st.le) hx fun p19 ad => ?_
      refine ldI_C (f0.mono st.le) ad hx ?_
      obtain ⟨e23, hx_2, hp⟩ := obind hp
      refine vIdx_C (f1.mono st.le) hx_2 fun p23 ad_2 => ?_
      refine ldI_C (f1.mono st.le) ad_2 hx_2 ?_
      refine bifP hp (fun hc hp => ?_) (fun hc hp => ?_)
      · obtain rfl := Option.some.inj hp
        obtain rfl := Option.some.inj hs
        exact ⟨rfl, st.pick [] (by decide)⟩
      · obtain rfl := Option.some.inj hp
        exact ⟨m, Nat.lt_succ_self _, st.pick [] (by decide), hs⟩
    · obtain rfl := Option.some.inj hp
      obtain rfl := Option.some.inj hs
      exact ⟨rfl, st.pick [] (by decide)⟩
theorem r_laws_eqInt64SS {ψ : CM} {h : Heap} (hψ : CLe ψ (hcell h)) {a0 : List (List Int)} {v0 : Value} {b1 : List (List Int)} {v1 : Value} {r : Bool} (hp : p_laws_eqInt64SS a0 b1 = some r) (f0 : SlC (hcell h) (El.sl (El.int .i64)) v0 a0) (f1 : SlC (hcell h) (El.sl (El.int .i64)) v1 b1) : CallsH P id_laws_eqInt64SS #[v0, v1] h (fun v h' => v = .bool r ∧ S ψ h h' []) := by
  apply w_laws_eqInt64SS
  unfold F_laws_eqInt64SS
  rw [p_laws_eqInt64SS] at hp
  have st : S ψ h h [] := S.start hψ
  refine vLen_C (f0.mono st.le) ?_
  refine vLen_C (f1.mono st.le) ?_
  refine bifP hp (fun hc hp => ?_) (fun hc hp => ?_)
  · obtain rfl := Option.some.inj hp
    exact ⟨rfl, st.pick [] (by decide)⟩
  · obtain ⟨n_2, hn⟩ := loop_n hp
    refine ⟨fun n i5 h_2 => S ψ h h_2 [] ∧ loopN (p_laws_eqInt64SS_b1 a0 b1) n i5 = some r, ⟨n_2, st.pick [] (by decide), hn⟩, ?_⟩
    rintro n _ i5 h_2 ⟨st, hn⟩
    obtain ⟨m, a, rfl, hp, hs⟩ := loopN_step hn
    rw [p_laws_eqInt64SS_b1] at hp
    refine vLen_C (f0.mono st.le) ?_
    refine bifP hp (fun hc hp => ?_) (fun hc hp => ?_)
    · obtain ⟨e19, hx, hp⟩ := obind hp
      refine vIdx_C (f0.mono st.le) hx fun p19 ad => ?_
      refine ldV_C f0 st.le ad hx fun u20 f => ?_
      obtain ⟨e23, hx_2, hp⟩ := obind hp
      refine vIdx_C (f1.mono st.le) hx_2 fun p23 ad_2 => ?_
      refine ldV_C f1 st.le ad_2 hx_2 fun u24 f_2 => ?_
      obtain ⟨r25, hx_3, hp⟩ := obind hp
      obtain ⟨φ, L, s, r_2⟩ := id st
      refine (r_laws_eqInt64S s.fle hx_3 (f.mono st.le) (f_2.mono st.le)).mono fun v_2 h_3 ⟨eq, t⟩ => ⟨_, eq, ?_⟩
      replace st := join0 s r_2 t
      clear t s r_2
      refine bifP hp (fun hc hp => ?_) (fun hc hp => ?_)
      · obtain rfl := Option.some.inj hp
        obtain rfl := Option.some.inj hs
        exact ⟨rfl, st.pick [] (by decide)⟩
      · obtain rfl := Option.some.inj hp
        exact ⟨m, Nat.lt_succ_self _, st.pick [] (by decide), hs⟩
    · obtain rfl := Option.some.inj hp
      obtain rfl := Option.some.inj hs
      exact ⟨rfl, st.pick [] (by decide)⟩
theorem r_laws_eqDesign {ψ : CM} {h : Heap} (hψ : CLe ψ (hcell h)) {a0 : T_impl_Design} {v0_1 : Value} {b1 : T_impl_Design} {v1_1 : Value} {r : Bool} (hp : p_laws_eqDesign a0 b1 = some r) (f0_1 : SlC (hcell h) (El.sl (El.int .i64)) v0_1 a0.Blocks) (f1_1 : SlC (hcell h) (El.sl (El.int .i64)) v1_1 b1.Blocks) : CallsH P id_laws_eqDesign #[.agg #[.int .i64 a0.Points, v0_1], .agg #[.int .i64 b1.Points, v1_1]] h (fun v h' => v = .bool r ∧ S ψ h h' []) := by
  apply w_laws_eqDesign
  unfold F_laws_eqDesign
  rw [p_laws_eqDesign] at hp
  have st : S ψ h h [] := S.start hψ
  refine new_S st fun b2 h_2 st => ?_
  refine new_S st fun b3 h_3 st => ?_
  refine ldI_K (st.cells 1 rfl) 0 rfl rfl ?_
  refine ldI_K (st.cells 0 rfl) 0 rfl rfl ?_
  refine bifP hp (fun hc hp => ?_) (fun hc hp => ?_)
  · obtain rfl := Option.some.inj hp
    exact ⟨rfl, st.pick [] (by decide)⟩
  · refine ldV_K (st.cells 1 rfl) 1 rfl rfl ?_
    refine ldV_K (st.cells 0 rfl) 1 rfl rfl ?_
    obtain ⟨r14, hx, hp⟩ := obind hp
    obtain ⟨φ, L, s, r_2⟩ := id st
    refine (r_laws_eqInt64SS s.fle hx (f0_1.mono st.le) (f1_1.mono st.le)).mono fun v_2 h_4 ⟨eq, t⟩ => ⟨_, eq, ?_⟩
    replace st := join0 s r_2 t
    clear t s r_2
    refine bifP hp (fun hc hp => ?_) (fun hc hp => ?_)
    · obtain rfl := Option.some.inj hp
      exact ⟨rfl, st.pick [] (by decide)⟩
    · obtain rfl := Option.some.inj hp
      exact ⟨rfl, st.pick [] (by decide)⟩
theorem r_laws_markInt64S {ψ : CM} {h0 h : Heap} {os : List Ob} {a0 : List Int} {v0 : Value} {k1 : Int} {r : Int × (List Int)} (hp : p_laws_markInt64S a0 k1 = some r) (st : S ψ h0 h (.it (El.ow (El.int .i64)) [v0] a0 :: os))  : CallsH P id_laws_markInt64S #[v0, .int .i64 k1] h (fun v h' => v = .int .i64 r.1 ∧ S ψ h0 h' (.it (El.ow (El.int .i64)) [v0] r.2 :: os)) := by
  apply w_laws_markInt64S
  unfold F_laws_markInt64S
  rw [p_laws_markInt64S] at hp
  obtain ⟨n_2, hn⟩ := loop_n hp
  refine ⟨fun n k1_2 i5 h_2 => ∃ xs : List Int, S ψ h0 h_2 (.it (El.ow (El.int .i64)) [v0] xs :: os) ∧ loopN (p_laws_markInt64S_b1) n (k1_2, i5, xs) = some r, ⟨n_2, _, st.pickT 1 [0] (by decide) (by decide), hn⟩, ?_⟩
  rintro n _ k1_2 i5 h_2 ⟨xs, st, hn⟩
  obtain ⟨m, a, rfl, hp, hs⟩ := loopN_step hn
  rw [p_laws_markInt64S_b1] at hp
  refine vLen_C (st.rdL 0 rfl (frz_int _)) ?_
  refine bifP hp (fun hc hp => ?_) (fun hc hp => ?_)
  · obtain ⟨e15, hx, hp⟩ := obind hp
    refine vIdx_C (st.rdL 0 rfl (frz_int _)) hx fun p15 ad => ?_
    refine st1_S st 0 rfl ad hx rfl (fun _ => ⟨rfl, rfl⟩) fun h_3 st => ?_
    dsimp only [List.set] at st
    obtain rfl := Option.some.inj hp
    exact ⟨m, Nat.lt_succ_self _, _, st.pickT 1 [0] (by decide) (by decide), hs⟩
  · obtain rfl := Option.some.inj hp
    obtain rfl := Option.some.inj hs
    exact ⟨rfl, st.pickT 1 [0] (by decide) (by decide)⟩
theorem r_laws_markInt64SS {ψ : CM} {h0 h : Heap} {os : List Ob} {a0 : List (List Int)} {v0 : Value} {k1 : Int} {r : Int × (List (List Int))} (hp : p_laws_markInt64SS a0 k1 = some r) (st : S ψ h0 h (.it (El.ow (El.ow (El.int .i64))) [v0] a0 :: os))  : CallsH P id_laws_markInt64SS #[v0, .int .i64 k1] h (fun v h' => v = .int .i64 r.1 ∧ S ψ h0 h' (.it (El.ow (El.ow (El.int .i64))) [v0] r.2 :: os)) := by
  apply w_laws_markInt64SS
  unfold F_laws_markInt64SS
  rw [p_laws_markInt64SS] at hp
  obtain ⟨n_2, hn⟩ := loop_n hp
  refine ⟨fun n k1_2 i5 h_2 => ∃ xs : List (List Int), S ψ h0 h_2 (.it (El.ow (El.ow (El.int .i64))) [v0] xs :: os) ∧ loopN (p_laws_markInt64SS_b1) n (k1_2, i5, xs) = some r, ⟨n_2, _, st.pickT 1 [0] (by decide) (by decide), hn⟩, ?_⟩
  rintro n _ k1_2 i5 h_2 ⟨xs, st, hn⟩
  obtain ⟨m, a, rfl, hp, hs⟩ := loopN_step hn
  rw [p_laws_markInt64SS_b1] at hp
  refine vLen_C (st.rdL 0 rfl (frz_ow (frz_int _))) ?_
  refine bifP hp (fun hc hp => ?_) (fun hc hp => ?_)
  · obtain ⟨e14, hx, hp⟩ := obind hp
    refine vIdx_C (st.rdL 0 rfl (frz_ow (frz_int _))) hx fun p14 ad => ?_
    refine ldV_hd st 0 rfl ad hx fun u15 hd => ?_
    have st := foc_S st 0 rfl hd hx
    dsimp only [List.set] at st
    obtain ⟨r17, hx_2, hp⟩ := obind hp
    obtain ⟨φ, L, s, r_2⟩ := id st
    refine (r_laws_markInt64S hx_2 (s.upS r_2) ).mono fun v_2 h_3 ⟨eq, t⟩ => ⟨_, eq, ?_⟩
    replace st := s.downS t
    clear t s r_2
    have st := unf_S st 0 rfl
    dsimp only [List.set] at st
    obtain rfl := Option.some.inj hp
    exact ⟨m, Nat.lt_succ_self _, _, st.pickT 1 [0] (by decide) (by decide), hs⟩
  · obtain rfl := Option.some.inj hp
    obtain rfl := Option.some.inj hs
    exact ⟨rfl, st.pickT 1 [0] (by decide) (by decide)⟩
theorem r_laws_markDesign {ψ : CM} {h0 h : Heap} {os : List Ob} {a0 : T_impl_Design} {v0_1 : Value} {k1 : Int} {r : Int × T_impl_Design} (hp : p_laws_markDesign a0 k1 = some r) (st : S ψ h0 h (.it (El.ow (El.ow (El.int .i64))) [v0_1] a0.Blocks :: os))  : CallsH P id_laws_markDesign #[.agg #[.int .i64 a0.Points, v0_1], .int .i64 k1] h (fun v h' => v = .int .i64 r.1 ∧ S ψ h0 h' (.it (El.ow (El.ow (El.int .i64))) [v0_1] r.2.Blocks :: os)) := by
  apply w_laws_markDesign
  unfold F_laws_markDesign
  rw [p_laws_markDesign] at hp
  refine new_S st fun b2 h_2 st => ?_
  refine ldV_K (st.cells 0 rfl) 1 rfl rfl ?_
  have st : S ψ h0 h_2 (.it (El.ow (El.ow (El.int .i64))) [v0_1] a0.Blocks :: .box b2 [.int .i64 a0.Points, v0_1] :: os) := st.pickT 2 [1, 0] (by decide) (by decide)
  obtain ⟨r8, hx, hp⟩ := obind hp
  obtain ⟨φ, L, s, r_2⟩ := id st
  refine (r_laws_markInt64SS hx (s.upS r_2) ).mono fun v_2 h_3 ⟨eq, t⟩ => ⟨_, eq, ?_⟩
  replace st := s.downS t
  clear t s r_2
  obtain rfl := Option.some.inj hp
  exact ⟨rfl, st.pickT 2 [0] (by decide) (by decide)⟩
theorem r_laws_heldInt64S {ψ : CM} {h : Heap} (hψ : CLe ψ (hcell h)) {a0 : List Int} {v0 : Value} {k1 : Int} {r : Int} (hp : p_laws_heldInt64S a0 k1 = some r) (f0 : SlC (hcell h) (El.int .i64) v0 a0) : CallsH P id_laws_heldInt64S #[v0, .int .i64 k1] h (fun v h' => v = .int .i64 r ∧ S ψ h h' []) := by
  apply w_laws_heldInt64S
  unfold F_laws_heldInt64S
  rw [p_laws_heldInt64S] at hp
  have st : S ψ h h [] := S.start hψ
  obtain ⟨n_2, hn⟩ := loop_n hp
  refine ⟨fun n k1_2 i5 h_2 => S ψ h h_2 [] ∧ loopN (p_laws_heldInt64S_b1 a0) n (k1_2, i5) = some r, ⟨n_2, st.pick [] (by decide), hn⟩, ?_⟩
  rintro n _ k1_2 i5 h_2 ⟨st, hn⟩
  obtain ⟨m, a, rfl, hp, hs⟩ := loopN_step hn
  rw [p_laws_heldInt64S_b1] at hp
  refine vLen_C (f0.mono st.le) ?_
  refine bifP hp (fun hc hp => ?_) (fun hc hp => ?_)
  · obtain ⟨e14, hx, hp⟩ := obind hp
    refine vIdx_C (f0.mono st.le) hx fun p14 ad => ?_
    refine ldI_C (f0.mono st.le) ad hx ?_
    refine bifP hp (fun hc hp => ?_) (fun hc hp => ?_)
    · obtain rfl := Option.some.inj hp
      obtain rfl := Option.some.inj hs
      exact ⟨rfl, st.pick [] (by decide)⟩
    · obtain rfl := Option.some.inj hp
      exact ⟨m, Nat.lt_succ_self _, st.pick [] (by decide), hs⟩
  · obtain rfl := Option.some.inj hp
    obtain rfl := Option.some.inj hs
    exact ⟨rfl, st.pick [] (by decide)⟩
theorem r_laws_heldInt64SS {ψ : CM} {h : Heap} (hψ : CLe ψ (hcell h)) {a0 : List (List Int)} {v0 : Value} {k1 : Int} {r : Int} (hp : p_laws_heldInt64SS a0 k1 = some r) (f0 : SlC (hcell h) (El.sl (El.int .i64)) v0 a0) : CallsH P id_laws_heldInt64SS #[v0, .int .i64 k1] h (fun v h' => v = .int .i64 r ∧ S ψ h h' []) := by
  apply w_laws_heldInt64SS
  unfold F_laws_heldInt64SS
  rw [p_laws_heldInt64SS] at hp
  have st : S ψ h h [] := S.start hψ
  obtain ⟨n_2, hn⟩ := loop_n hp
  refine ⟨fun n k1_2 i5 h_2 => S ψ h h_2 [] ∧ loopN (p_laws_heldInt64SS_b1 a0) n (k1_2, i5) = some r, ⟨n_2, st.pick [] (by decide), hn⟩, ?_⟩
  rintro n _ k1_2 i5 h_2 ⟨st, hn⟩
  obtain ⟨m, a, rfl, hp, hs⟩ := loopN_step hn
  rw [p_laws_heldInt64SS_b1] at hp
  refine vLen_C (f0.mono st.le) ?_
  refine bifP hp (fun hc hp => ?_) (fun hc hp => ?_)
  · obtain ⟨e14, hx, hp⟩ := obind hp
    refine vIdx_C (f0.mono st.le) hx fun p14 ad => ?_
    refine ldV_C f0 st.le ad hx fun u15 f => ?_
    obtain ⟨r17, hx_2, hp⟩ := obind hp
    obtain ⟨φ, L, s, r_2⟩ := id st
    refine (r_laws_heldInt64S s.fle hx_2 (f.mono st.le)).mono fun v_2 h_3 ⟨eq, t⟩ => ⟨_, eq, ?_⟩
    replace st := join0 s r_2 t
    clear t s r_2
    refine bifP hp (fun hc hp => ?_) (fun hc hp => ?_)
    · obtain rfl := Option.some.inj hp
      obtain rfl := Option.some.inj hs
      exact ⟨rfl, st.pick [] (by decide)⟩
    · obtain rfl := Option.some.inj hp
      exact ⟨m, Nat.lt_succ_self _, st.pick [] (by decide), hs⟩
  · obtain rfl := Option.some.inj hp
    obtain rfl := Option.some.inj hs
    exact ⟨rfl, st.pick [] (by decide)⟩
theorem r_laws_heldDesign {ψ : CM} {h : Heap} (hψ : CLe ψ (hcell h)) {a0 : T_impl_Design} {v0_1 : Value} {k1 : Int} {r : Int} (hp : p_laws_heldDesign a0 k1 = some r) (f0_1 : SlC (hcell h) (El.sl (El.int .i64)) v0_1 a0.Blocks) : CallsH P id_laws_heldDesign #[.agg #[.int .i64 a0.Points, v0_1], .int .i64 k1] h (fun v h' => v = .int .i64 r ∧ S ψ h h' []) := by
  apply w_laws_heldDesign
  unfold F_laws_heldDesign
  rw [p_laws_heldDesign] at hp
  have st : S ψ h h [] := S.start hψ
  refine new_S st fun b2 h_2 st => ?_
  refine ldV_K (st.cells 0 rfl) 1 rfl rfl ?_
  obtain ⟨r8, hx, hp⟩ := obind hp
  obtain ⟨φ, L, s, r_2⟩ := id st
  refine (r_laws_heldInt64SS s.fle hx (f0_1.mono st.le)).mono fun v_2 h_3 ⟨eq, t⟩ => ⟨_, eq, ?_⟩
  replace st := join0 s r_2 t
  clear t s r_2
  refine bifP hp (fun hc hp => ?_) (fun hc hp => ?_)
  · obtain rfl := Option.some.inj hp
    exact ⟨rfl, st.pick [] (by decide)⟩
  · obtain rfl := Option.some.inj hp
    exact ⟨rfl, st.pick [] (by decide)⟩
theorem r_laws_FnExactCompleteDesign {ψ : CM} {h : Heap} (hψ : CLe ψ (hcell h)) {y0 : T_laws_Design} {v0_1 : Value} {y1 : Int} {y2 : Int} {y3 : Int} {r : Bool} (hp : p_laws_FnExactCompleteDesign y0 y1 y2 y3 = some r) (f0_1 : SlC (hcell h) (El.sl (El.int .i64)) v0_1 y0.Blocks) : CallsH P id_laws_FnExactCompleteDesign #[.agg #[.int .i64 y0.Points, v0_1], .int .i64 y1, .int .i64 y2, .int .i64 y3] h (fun v h' => v = .bool r ∧ S ψ h h' []) := by
  apply w_laws_FnExactCompleteDesign
  unfold F_laws_FnExactCompleteDesign
  rw [p_laws_FnExactCompleteDesign] at hp
  have st : S ψ h h [] := S.start hψ
  refine new_S st fun b4 h_2 st => ?_
  refine ldI_K (st.cells 0 rfl) 0 rfl rfl ?_
  refine ldV_K (st.cells 0 rfl) 1 rfl rfl ?_
  obtain ⟨r22, hx, hp⟩ := obind hp
  obtain ⟨φ, L, s, r_2⟩ := id st
  refine (r_laws_szDesign s.fle hx (f0_1.mono st.le)).mono fun v_2 h_3 ⟨eq, t⟩ => ⟨_, eq, ?_⟩
  replace st := join0 s r_2 t
  clear t s r_2
  refine bifP hp (fun hc hp => ?_) (fun hc hp => ?_)
  · obtain rfl := Option.some.inj hp
    exact ⟨rfl, st.pick [] (by decide)⟩
  · refine ldI_K (st.cells 0 rfl) 0 rfl rfl ?_
    refine ldV_K (st.cells 0 rfl) 1 rfl rfl ?_
    obtain ⟨r27, hx_2, hp⟩ := obind hp
    obtain ⟨φ_2, L_2, s_2, r_3⟩ := id st
    refine (r_laws_toDesign s_2.fle hx_2 (f0_1.mono st.le)).mono fun v_3 h_4 ⟨v27, eq_2, t_2⟩ => ⟨_, _, eq_2, ?_⟩
    replace st := join1 s_2 r_3 t_2
    clear t_2 s_2 r_3
    have st := st.freeze 0 rfl (frz_ow (frz_ow (frz_int _)))
    dsimp only [List.set] at st
    obtain ⟨r31, hx_3, hp⟩ := obind hp
    obtain ⟨φ_3, L_3, s_3, r_4⟩ := id st
    refine (r_spec_CompleteDesign s_3.fle hx_3 (frF r_4 0 rfl)).mono fun v_4 h_5 ⟨v31, eq_3, t_3⟩ => ⟨_, _, _, eq_3, ?_⟩
    replace st := join1 s_3 r_4 t_3
    clear t_3 s_3 r_4
    refine new_S st fun b10 h_6 st => ?_
    refine st_box st 0 rfl rfl rfl rfl fun h_7 st => ?_
    dsimp only [List.set] at st
    refine st_box st 0 rfl rfl rfl (st.rdL 1 rfl (frz_sl _)).one fun h_8 st => ?_
    dsimp only [List.set] at st
    refine ldI_K (st.cells 3 rfl) 0 rfl rfl ?_
    refine ldV_K (st.cells 3 rfl) 1 rfl rfl ?_
    obtain ⟨r35, hx_4, hp⟩ := obind hp
    obtain ⟨φ_4, L_4, s_4, r_5⟩ := id st
    refine (r_laws_toDesign s_4.fle hx_4 (f0_1.mono st.le)).mono fun v_5 h_9 ⟨v35, eq_4, t_4⟩ => ⟨_, _, eq_4, ?_⟩
    replace st := join1 s_4 r_5 t_4
    clear t_4 s_4 r_5
    refine new_S st fun b12 h_10 st => ?_
    refine st_box st 0 rfl rfl rfl rfl fun h_11 st => ?_
    dsimp only [List.set] at st
    refine st_box st 0 rfl rfl rfl (st.rdL 1 rfl (frz_ow (frz_int _))).one fun h_12 st => ?_
    dsimp only [List.set] at st
    refine ldI_K (st.cells 0 rfl) 0 rfl rfl ?_
    refine ldV_K (st.cells 0 rfl) 1 rfl rfl ?_
    obtain ⟨r41, hx_5, hp⟩ := obind hp
    obtain ⟨φ_5, L_5, s_5, r_6⟩ := id st
    refine (r_impl_CompleteDesign s_5.fle hx_5 (st.rdL 1 rfl (frz_ow (frz_int _)))).mono fun v_6 h_13 ⟨v41, eq_5, t_5⟩ => ⟨_, _, _, eq_5, ?_⟩
    replace st := join1 s_5 r_6 t_5
    clear t_5 s_5 r_6
    refine new_S st fun b13 h_14 st => ?_
    refine st_box st 0 rfl rfl rfl rfl fun h_15 st => ?_
    dsimp only [List.set] at st
    refine st_box st 0 rfl rfl rfl (st.rdL 1 rfl (frz_ow (frz_int _))).one fun h_16 st => ?_
    dsimp only [List.set] at st
    refine ⟨fun h_17 => S ψ h h_17 [.box b13 [.int .i64 r41.1.Points, v41], .it (El.ow (El.ow (El.int .i64))) [v41] r41.1.Blocks, .box b12 [.int .i64 r35.Points, v35], .it (El.ow (El.ow (El.int .i64))) [v35] r35.Blocks, .box b10 [.int .i64 r31.1.Points, v31], .it (El.ow (El.sl (El.int .i64))) [v31] r31.1.Blocks, .it (El.sl (El.sl (El.int .i64))) [v27] r27.Blocks, .box b4 [.int .i64 y0.Points, v0_1]] ∧ p_laws_FnExactCompleteDesign_k1 y0 y1 y2 y3 r31 r35 r41 = some r, ?_, ?_⟩
    · refine ldI_K (st.cells 0 rfl) 0 rfl rfl ?_
      refine ldV_K (st.cells 0 rfl) 1 rfl rfl ?_
      refine ldI_K (st.cells 4 rfl) 0 rfl rfl ?_
      refine ldV_K (st.cells 4 rfl) 1 rfl rfl ?_
      obtain ⟨r46, hx_16, hp⟩ := obind hp
      obtain ⟨φ_16, L_16, s_16, r_17⟩ := id st
      refine (r_laws_eqDesign s_16.fle hx_16 (st.rdL 1 rfl (frz_ow (frz_int _))) (st.rdL 5 rfl (frz_sl _))).mono fun v_17 h_33 ⟨eq_16, t_16⟩ => ⟨_, eq_16, ?_⟩
      replace st := join0 s_16 r_17 t_16
      clear t_16 s_16 r_17
      refine bifP hp (fun hc hp => ?_) (fun hc hp => ?_)
      · obtain rfl := Option.some.inj hp
        exact ⟨rfl, st.pick [] (by decide)⟩
      · refine bifP hp (fun hc hp => ?_) (fun hc hp => ?_)
        · obtain rfl := Option.some.inj hp
          exact ⟨rfl, st.pick [] (by decide)⟩
        · exact ⟨st.pick [0, 1, 2, 3, 4, 5, 6, 7] (by decide), hp⟩
    · rintro _ h_17 ⟨st, hp⟩
      rw [p_laws_FnExactCompleteDesign_k1] at hp
      have stR_9 := st
      have xR_9 := ExtH.refl h_17
      refine ldI_K (st.cells 7 rfl) 0 rfl rfl ?_
      refine ldV_K (st.cells 7 rfl) 1 rfl rfl ?_
      obtain ⟨r55, hx_6, hp⟩ := obind hp
      obtain ⟨φ_6, L_6, s_6, r_7⟩ := id st
      refine (r_laws_toDesign s_6.fle hx_6 (f0_1.mono st.le)).mono fun v_7 h_18 ⟨v55, eq_6, t_6⟩ => ⟨_, _, eq_6, xR_9.trans t_6.ext, ?_⟩
      replace xR_9 := xR_9.trans t_6.ext
      replace st := join1 s_6 r_7 t_6
      clear t_6 s_6 r_7
      have st := st.freeze 0 rfl (frz_ow (frz_ow (frz_int _)))
      dsimp only [List.set] at st
      refine ldI_K (stR_9.cells 2 rfl) 0 rfl rfl ?_
      refine ldV_K (stR_9.cells 2 rfl) 1 rfl rfl ?_
      obtain ⟨r56, hx_7, hp⟩ := obind hp
      obtain ⟨φ_7, L_7, s_7, r_8⟩ := id st
      refine (r_laws_eqDesign s_7.fle hx_7 (st.rdL 4 rfl (frz_ow (frz_int _))) (st.rdF 0 rfl)).mono fun v_8 h_19 ⟨eq_7, t_7⟩ => ⟨_, eq_7, ?_⟩
      replace st := join0 s_7 r_8 t_7
      clear t_7 s_7 r_8
      refine bifP hp (fun hc hp => ?_) (fun hc hp => ?_)
      · obtain rfl := Option.some.inj hp
        exact ⟨rfl, st.pick [] (by decide)⟩
      · refine ldI_K (st.cells 3 rfl) 0 rfl rfl ?_
        refine ldV_K (st.cells 3 rfl) 1 rfl rfl ?_
        have st : S ψ h h_19 [.it (El.ow (El.ow (El.int .i64))) [v35] r35.Blocks, .it (El.sl (El.sl (El.int .i64))) [v55] r55.Blocks, .box b13 [.int .i64 r41.1.Points, v41], .it (El.ow (El.ow (El.int .i64))) [v41] r41.1.Blocks, .box b12 [.int .i64 r35.Points, v35], .box b10 [.int .i64 r31.1.Points, v31], .it (El.ow (El.sl (El.int .i64))) [v31] r31.1.Blocks, .it (El.sl (El.sl (El.int .i64))) [v27] r27.Blocks, .box b4 [.int .i64 y0.Points, v0_1]] := st.pick [4, 0, 1, 2, 3, 5, 6, 7, 8] (by decide)
        obtain ⟨r60, hx_8, hp⟩ := obind hp
        obtain ⟨φ_8, L_8, s_8, r_9⟩ := id st
        refine (r_laws_markDesign hx_8 (s_8.upS r_9) ).mono fun v_9 h_20 ⟨eq_8, t_8⟩ => ⟨_, eq_8, ?_⟩
        replace st := s_8.downS t_8
        clear t_8 s_8 r_9
        refine ⟨fun h_21 => S ψ h h_21 [.it (El.ow (El.ow (El.int .i64))) [v35] r60.2.Blocks, .it (El.sl (El.sl (El.int .i64))) [v55] r55.Blocks, .box b13 [.int .i64 r41.1.Points, v41], .it (El.ow (El.ow (El.int .i64))) [v41] r41.1.Blocks, .box b12 [.int .i64 r35.Points, v35], .box b10 [.int .i64 r31.1.Points, v31], .it (El.ow (El.sl (El.int .i64))) [v31] r31.1.Blocks, .it (El.sl (El.sl (El.int .i64))) [v27] r27.Blocks, .box b4 [.int .i64 y0.Points, v0_1]] ∧ p_laws_FnExactCompleteDesign_k2 y0 y1 y2 y3 r31 r41 = some r, ?_, ?_⟩
        · refine bifP hp (fun hc hp => ?_) (fun hc hp => ?_)
          · obtain rfl := Option.some.inj hp
            exact ⟨rfl, st.pick [] (by decide)⟩
          · refine ldI_K (st.cells 2 rfl) 0 rfl rfl ?_
            refine ldV_K (st.cells 2 rfl) 1 rfl rfl ?_
            refine ldI_K (st.cells 5 rfl) 0 rfl rfl ?_
            refine ldV_K (st.cells 5 rfl) 1 rfl rfl ?_
            obtain ⟨r66, hx_15, hp⟩ := obind hp
            obtain ⟨φ_15, L_15, s_15, r_16⟩ := id st
            refine (r_laws_eqDesign s_15.fle hx_15 (st.rdL 3 rfl (frz_ow (frz_int _))) (st.rdL 6 rfl (frz_sl _))).mono fun v_16 h_32 ⟨eq_15, t_15⟩ => ⟨_, eq_15, ?_⟩
            replace st := join0 s_15 r_16 t_15
            clear t_15 s_15 r_16
            refine bifP hp (fun hc hp => ?_) (fun hc hp => ?_)
            · obtain rfl := Option.some.inj hp
              exact ⟨rfl, st.pick [] (by decide)⟩
            · refine bifP hp (fun hc hp => ?_) (fun hc hp => ?_)
              · obtain rfl := Option.some.inj hp
                exact ⟨rfl, st.pick [] (by decide)⟩
              · exact ⟨st.pick [0, 1, 2, 3, 4, 5, 6, 7, 8] (by decide), hp⟩
        · rintro _ h_21 ⟨st, hp⟩
          rw [p_laws_FnExactCompleteDesign_k2] at hp
          refine ldI_K (st.cells 2 rfl) 0 rfl rfl ?_
          refine ldV_K (st.cells 2 rfl) 1 rfl rfl ?_
          have st : S ψ h h_21 [.it (El.ow (El.ow (El.int .i64))) [v41] r41.1.Blocks, .it (El.ow (El.ow (El.int .i64))) [v35] r60.2.Blocks, .it (El.sl (El.sl (El.int .i64))) [v55] r55.Blocks, .box b13 [.int .i64 r41.1.Points, v41], .box b12 [.int .i64 r35.Points, v35], .box b10 [.int .i64 r31.1.Points, v31], .it (El.ow (El.sl (El.int .i64))) [v31] r31.1.Blocks, .it (El.sl (El.sl (El.int .i64))) [v27] r27.Blocks, .box b4 [.int .i64 y0.Points, v0_1]] := st.pick [3, 0, 1, 2, 4, 5, 6, 7, 8] (by decide)
          obtain ⟨r76, hx_9, hp⟩ := obind hp
          obtain ⟨φ_9, L_9, s_9, r_10⟩ := id st
          refine (r_laws_markDesign hx_9 (s_9.upS r_10) ).mono fun v_10 h_22 ⟨eq_9, t_9⟩ => ⟨_, eq_9, ?_⟩
          replace st := s_9.downS t_9
          clear t_9 s_9 r_10
          refine ldI_K (st.cells 3 rfl) 0 rfl rfl ?_
          refine ldV_K (st.cells 3 rfl) 1 rfl rfl ?_
          obtain ⟨r79, hx_10, hp⟩ := obind hp
          obtain ⟨φ_10, L_10, s_10, r_11⟩ := id st
          refine (r_laws_heldDesign s_10.fle hx_10 (st.rdL 0 rfl (frz_ow (frz_int _)))).mono fun v_11 h_23 ⟨eq_10, t_10⟩ => ⟨_, eq_10, ?_⟩
          replace st := join0 s_10 r_11 t_10
          clear t_10 s_10 r_11
          refine bifP hp (fun hc hp => ?_) (fun hc hp => ?_)
          · obtain rfl := Option.some.inj hp
            exact ⟨rfl, st.pick [] (by decide)⟩
          · refine bifP hp (fun hc hp => ?_) (fun hc hp => ?_)
            · obtain rfl := Option.some.inj hp
              exact ⟨rfl, st.pick [] (by decide)⟩
            · refine ldI_K (st.cells 8 rfl) 0 rfl rfl ?_
              refine ldV_K (st.cells 8 rfl) 1 rfl rfl ?_
              obtain ⟨r87, hx_11, hp⟩ := obind hp
              obtain ⟨φ_11, L_11, s_11, r_12⟩ := id st
              refine (r_laws_toDesign s_11.fle hx_11 (f0_1.mono st.le)).mono fun v_12 h_24 ⟨v87, eq_11, t_11⟩ => ⟨_, _, eq_11, ?_⟩
              replace st := join1 s_11 r_12 t_11
              clear t_11 s_11 r_12
              have st := st.freeze 0 rfl (frz_ow (frz_ow (frz_int _)))
              dsimp only [List.set] at st
              obtain ⟨r91, hx_12, hp⟩ := obind hp
              obtain ⟨φ_12, L_12, s_12, r_13⟩ := id st
              refine (r_impl_CompleteDesign s_12.fle hx_12 (st.rdF 0 rfl)).mono fun v_13 h_25 ⟨v91, eq_12, t_12⟩ => ⟨_, _, _, eq_12, ?_⟩
              replace st := join1 s_12 r_13 t_12
              clear t_12 s_12 r_13
              refine new_S st fun b18 h_26 st => ?_
              refine st_box st 0 rfl rfl rfl rfl fun h_27 st => ?_
              dsimp only [List.set] at st
              refine st_box st 0 rfl rfl rfl (st.rdL 1 rfl (frz_ow (frz_int _))).one fun h_28 st => ?_
              dsimp only [List.set] at st
              refine ⟨fun h_29 => S ψ h h_29 [.box b18 [.int .i64 r91.1.Points, v91], .it (El.ow (El.ow (El.int .i64))) [v91] r91.1.Blocks, .it (El.sl (El.sl (El.int .i64))) [v87] r87.Blocks, .it (El.ow (El.ow (El.int .i64))) [v41] r76.2.Blocks, .it (El.ow (El.ow (El.int .i64))) [v35] r60.2.Blocks, .it (El.sl (El.sl (El.int .i64))) [v55] r55.Blocks, .box b13 [.int .i64 r41.1.Points, v41], .box b12 [.int .i64 r35.Points, v35], .box b10 [.int .i64 r31.1.Points, v31], .it (El.ow (El.sl (El.int .i64))) [v31] r31.1.Blocks, .it (El.sl (El.sl (El.int .i64))) [v27] r27.Blocks, .box b4 [.int .i64 y0.Points, v0_1]] ∧ p_laws_FnExactCompleteDesign_k3 r41 r76 = some r, ?_, ?_⟩
              · refine ldI_K (st.cells 0 rfl) 0 rfl rfl ?_
                refine ldV_K (st.cells 0 rfl) 1 rfl rfl ?_
                refine ldI_K (st.cells 8 rfl) 0 rfl rfl ?_
                refine ldV_K (st.cells 8 rfl) 1 rfl rfl ?_
                obtain ⟨r96, hx_14, hp⟩ := obind hp
                obtain ⟨φ_14, L_14, s_14, r_15⟩ := id st
                refine (r_laws_eqDesign s_14.fle hx_14 (st.rdL 1 rfl (frz_ow (frz_int _))) (st.rdL 9 rfl (frz_sl _))).mono fun v_15 h_31 ⟨eq_14, t_14⟩ => ⟨_, eq_14, ?_⟩
                replace st := join0 s_14 r_15 t_14
                clear t_14 s_14 r_15
                refine bifP hp (fun hc hp => ?_) (fun hc hp => ?_)
                · obtain rfl := Option.some.inj hp
                  exact ⟨rfl, st.pick [] (by decide)⟩
                · refine bifP hp (fun hc hp => ?_) (fun hc hp => ?_)
                  · obtain rfl := Option.some.inj hp
                    exact ⟨rfl, st.pick [] (by decide)⟩
                  · exact ⟨st.pick [0, 1, 2, 3, 4, 5, 6, 7, 8, 9, 10, 11] (by decide), hp⟩
              · rintro _ h_29 ⟨st, hp⟩
                rw [p_laws_FnExactCompleteDesign_k3] at hp
                refine ldI_K (st.cells 6 rfl) 0 rfl rfl ?_
                refine ldV_K (st.cells 6 rfl) 1 rfl rfl ?_
                obtain ⟨r105, hx_13, hp⟩ := obind hp
                obtain ⟨φ_13, L_13, s_13, r_14⟩ := id st
                refine (r_laws_heldDesign s_13.fle hx_13 (st.rdL 3 rfl (frz_ow (frz_int _)))).mono fun v_14 h_30 ⟨eq_13, t_13⟩ => ⟨_, eq_13, ?_⟩
                replace st := join0 s_13 r_14 t_13
                clear t_13 s_13 r_14
                refine bifP hp (fun hc hp => ?_) (fun hc hp => ?_)
                · obtain rfl := Option.some.inj hp
                  exact ⟨rfl, st.pick [] (by decide)⟩
                · refine bifP hp (fun hc hp => ?_) (fun hc hp => ?_)
                  · obtain rfl := Option.some.inj hp
                    exact ⟨rfl, st.pick [] (by decide)⟩
                  · obtain rfl := Option.some.inj hp
                    exact ⟨rfl, st.pick [] (by decide)⟩
end Go.Proofs.YtkgeocffngdeoaaGreat
