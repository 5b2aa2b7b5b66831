/- Each call computes its plain function: printed by pgen.py. -/
import Derived.Test.YtieehpcgmjbceaaPuFns
import Derived.Test.YtieehpcgmjbceaaVcFns
import Derived.Test.YtieehpcgmjbceaaVcS3
namespace Go.Proofs.Ytieehpcgmjbceaa
open Go Go.Vc
set_option linter.unusedVariables false
set_option linter.unusedSimpArgs false
def eo_T_spec_l26Find : El T_spec_l26Find := El.iso (El.pair (El.ow (El.ow (El.int .i64))) (El.pair (El.ow (El.ow (El.int .i64))) (El.pair (El.int .i64) (El.pair (El.ow (El.int .i64)) (El.pair (El.ow (El.int .i64)) (El.pair (El.int .i64) (El.pair (El.int .i64) (El.pair (El.int .i64) (El.pair (El.int .i64) El.bool))))))))) (fun x => (x.qm, x.qlater, x.qlambda, x.qchosen, x.qfirst, x.qcount, x.qlimit, x.qnodes, x.qbudget, x.qfull)) (T_spec_l26Find.mk ([] : List (List Int)) ([] : List (List Int)) (0 : Int) ([] : List Int) ([] : List Int) (0 : Int) (0 : Int) (0 : Int) (0 : Int) false) rfl
def ef_T_spec_l26Find : El T_spec_l26Find := El.iso (El.pair (El.sl (El.sl (El.int .i64))) (El.pair (El.sl (El.sl (El.int .i64))) (El.pair (El.int .i64) (El.pair (El.sl (El.int .i64)) (El.pair (El.sl (El.int .i64)) (El.pair (El.int .i64) (El.pair (El.int .i64) (El.pair (El.int .i64) (El.pair (El.int .i64) El.bool))))))))) (fun x => (x.qm, x.qlater, x.qlambda, x.qchosen, x.qfirst, x.qcount, x.qlimit, x.qnodes, x.qbudget, x.qfull)) (T_spec_l26Find.mk ([] : List (List Int)) ([] : List (List Int)) (0 : Int) ([] : List Int) ([] : List Int) (0 : Int) (0 : Int) (0 : Int) (0 : Int) false) rfl
theorem frzo_T_spec_l26Find : Frz eo_T_spec_l26Find ef_T_spec_l26Find := frz_iso (frz_pair (frz_ow (frz_ow (frz_int _))) (frz_pair (frz_ow (frz_ow (frz_int _))) (frz_pair (frz_int _) (frz_pair (frz_ow (frz_int _)) (frz_pair (frz_ow (frz_int _)) (frz_pair (frz_int _) (frz_pair (frz_int _) (frz_pair (frz_int _) (frz_pair (frz_int _) frz_bool)))))))))
theorem frzf_T_spec_l26Find : Frz ef_T_spec_l26Find ef_T_spec_l26Find := frz_iso (frz_pair (frz_sl _) (frz_pair (frz_sl _) (frz_pair (frz_int _) (frz_pair (frz_sl _) (frz_pair (frz_sl _) (frz_pair (frz_int _) (frz_pair (frz_int _) (frz_pair (frz_int _) (frz_pair (frz_int _) frz_bool)))))))))
theorem pko_T_spec_l26Find {ψ : CM} {h0 h : Heap} {os : List Ob} {x0 : List (List Int)} {v0 : Value} {x1 : List (List Int)} {v1 : Value} {x2 : Int} {x3 : List Int} {v3 : Value} {x4 : List Int} {v4 : Value} {x5 : Int} {x6 : Int} {x7 : Int} {x8 : Int} {x9 : Bool} (st : S ψ h0 h (.it (El.ow (El.ow (El.int .i64))) [v0] x0 :: .it (El.ow (El.ow (El.int .i64))) [v1] x1 :: .it (El.ow (El.int .i64)) [v3] x3 :: .it (El.ow (El.int .i64)) [v4] x4 :: os)) : S ψ h0 h (.it eo_T_spec_l26Find [v0, v1, .int .i64 x2, v3, v4, .int .i64 x5, .int .i64 x6, .int .i64 x7, .int .i64 x8, .bool x9] (T_spec_l26Find.mk x0 x1 x2 x3 x4 x5 x6 x7 x8 x9) :: os) := by
  obtain ⟨φ, M0, s, L0, M1, rfl, a0, L1, M2, rfl, a1, L3, M3, rfl, a3, L4, M4, rfl, a4, r⟩ := st
  exact ⟨φ, _, s, (L0 ++ (L1 ++ ([] ++ (L3 ++ (L4 ++ ([] ++ ([] ++ ([] ++ ([] ++ []))))))))), M4, by simp, (pair_mk a0 (pair_mk a1 (pair_mk int_mk (pair_mk a3 (pair_mk a4 (pair_mk int_mk (pair_mk int_mk (pair_mk int_mk (pair_mk int_mk bool_mk))))))))), r⟩
theorem pkf_T_spec_l26Find {ψ : CM} {h0 h : Heap} {os : List Ob} {x0 : List (List Int)} {v0 : Value} {x1 : List (List Int)} {v1 : Value} {x2 : Int} {x3 : List Int} {v3 : Value} {x4 : List Int} {v4 : Value} {x5 : Int} {x6 : Int} {x7 : Int} {x8 : Int} {x9 : Bool} (st : S ψ h0 h (.it (El.sl (El.sl (El.int .i64))) [v0] x0 :: .it (El.sl (El.sl (El.int .i64))) [v1] x1 :: .it (El.sl (El.int .i64)) [v3] x3 :: .it (El.sl (El.int .i64)) [v4] x4 :: os)) : S ψ h0 h (.it ef_T_spec_l26Find [v0, v1, .int .i64 x2, v3, v4, .int .i64 x5, .int .i64 x6, .int .i64 x7, .int .i64 x8, .bool x9] (T_spec_l26Find.mk x0 x1 x2 x3 x4 x5 x6 x7 x8 x9) :: os) := by
  obtain ⟨φ, M0, s, L0, M1, rfl, a0, L1, M2, rfl, a1, L3, M3, rfl, a3, L4, M4, rfl, a4, r⟩ := st
  exact ⟨φ, _, s, (L0 ++ (L1 ++ ([] ++ (L3 ++ (L4 ++ ([] ++ ([] ++ ([] ++ ([] ++ []))))))))), M4, by simp, (pair_mk a0 (pair_mk a1 (pair_mk int_mk (pair_mk a3 (pair_mk a4 (pair_mk int_mk (pair_mk int_mk (pair_mk int_mk (pair_mk int_mk bool_mk))))))))), r⟩
theorem un_T_spec_l26Find {φ : CM} {L : Rws} {cs : List Value} {x : T_spec_l26Find} (h : ef_T_spec_l26Find.R φ L cs x) : ∃ v0 : Value, ∃ v1 : Value, ∃ v3 : Value, ∃ v4 : Value, cs = [v0, v1, .int .i64 x.qlambda, v3, v4, .int .i64 x.qcount, .int .i64 x.qlimit, .int .i64 x.qnodes, .int .i64 x.qbudget, .bool x.qfull] ∧ SlC φ (El.sl (El.int .i64)) v0 x.qm ∧ SlC φ (El.sl (El.int .i64)) v1 x.qlater ∧ SlC φ (El.int .i64) v3 x.qchosen ∧ SlC φ (El.int .i64) v4 x.qfirst := by
  obtain ⟨_, _, _, _, rfl, _, a1_0, b1_0⟩ := h
  obtain ⟨_, w2, rfl, g2⟩ := a1_0
  obtain ⟨_, _, _, _, rfl, _, a1_1, b1_1⟩ := b1_0
  obtain ⟨_, w3, rfl, g3⟩ := a1_1
  obtain ⟨_, _, _, _, rfl, _, a1_2, b1_2⟩ := b1_1
  obtain ⟨_, rfl⟩ := a1_2
  obtain ⟨_, _, _, _, rfl, _, a1_3, b1_3⟩ := b1_2
  obtain ⟨_, w5, rfl, g5⟩ := a1_3
  obtain ⟨_, _, _, _, rfl, _, a1_4, b1_4⟩ := b1_3
  obtain ⟨_, w6, rfl, g6⟩ := a1_4
  obtain ⟨_, _, _, _, rfl, _, a1_5, b1_5⟩ := b1_4
  obtain ⟨_, rfl⟩ := a1_5
  obtain ⟨_, _, _, _, rfl, _, a1_6, b1_6⟩ := b1_5
  obtain ⟨_, rfl⟩ := a1_6
  obtain ⟨_, _, _, _, rfl, _, a1_7, b1_7⟩ := b1_6
  obtain ⟨_, rfl⟩ := a1_7
  obtain ⟨_, _, _, _, rfl, _, a1_8, b1_8⟩ := b1_7
  obtain ⟨_, rfl⟩ := a1_8
  obtain ⟨_, rfl⟩ := b1_8
  exact ⟨w2, w3, w5, w6, rfl, g2, g3, g5, g6⟩
def eo_T_impl_counter : El T_impl_counter := El.iso (El.pair (El.int .i64) El.bool) (fun x => (x.qleft, x.qspent)) (T_impl_counter.mk (0 : Int) false) rfl
def ef_T_impl_counter : El T_impl_counter := El.iso (El.pair (El.int .i64) El.bool) (fun x => (x.qleft, x.qspent)) (T_impl_counter.mk (0 : Int) false) rfl
theorem frzo_T_impl_counter : Frz eo_T_impl_counter ef_T_impl_counter := frz_iso (frz_pair (frz_int _) frz_bool)
theorem frzf_T_impl_counter : Frz ef_T_impl_counter ef_T_impl_counter := frz_iso (frz_pair (frz_int _) frz_bool)
theorem plain_T_impl_counter : Plain ef_T_impl_counter := plain_iso (plain_pair (plain_int _) plain_bool)
theorem pko_T_impl_counter {ψ : CM} {h0 h : Heap} {os : List Ob} {x0 : Int} {x1 : Bool} (st : S ψ h0 h (os)) : S ψ h0 h (.it eo_T_impl_counter [.int .i64 x0, .bool x1] (T_impl_counter.mk x0 x1) :: os) := by
  obtain ⟨φ, M0, s, r⟩ := st
  exact ⟨φ, _, s, ([] ++ []), M0, by simp, (pair_mk int_mk bool_mk), r⟩
theorem pkf_T_impl_counter {ψ : CM} {h0 h : Heap} {os : List Ob} {x0 : Int} {x1 : Bool} (st : S ψ h0 h (os)) : S ψ h0 h (.it ef_T_impl_counter [.int .i64 x0, .bool x1] (T_impl_counter.mk x0 x1) :: os) := by
  obtain ⟨φ, M0, s, r⟩ := st
  exact ⟨φ, _, s, ([] ++ []), M0, by simp, (pair_mk int_mk bool_mk), r⟩
theorem un_T_impl_counter {φ : CM} {L : Rws} {cs : List Value} {x : T_impl_counter} (h : ef_T_impl_counter.R φ L cs x) : cs = [.int .i64 x.qleft, .bool x.qspent] := by
  obtain ⟨_, _, _, _, rfl, _, a1_0, b1_0⟩ := h
  obtain ⟨_, rfl⟩ := a1_0
  obtain ⟨_, rfl⟩ := b1_0
  rfl
def eo_T_impl_chooser : El T_impl_chooser := El.iso (El.pair eo_T_impl_counter (El.pair (El.ow (El.ow (El.int .i64))) (El.pair (El.int .i64) (El.pair (El.int .i64) (El.pair (El.ow (El.int .i64)) (El.pair (El.ow (El.int .i64)) (El.pair (El.ow (El.int .i64)) (El.pair (El.int .i64) (El.ow (El.int .i64)))))))))) (fun x => (x.qcounter, x.qmatrix, x.qlambda, x.qlimit, x.qsums, x.qlater, x.qchosen, x.qcount, x.qfirst)) (T_impl_chooser.mk (T_impl_counter.mk (0 : Int) false) ([] : List (List Int)) (0 : Int) (0 : Int) ([] : List Int) ([] : List Int) ([] : List Int) (0 : Int) ([] : List Int)) rfl
def ef_T_impl_chooser : El T_impl_chooser := El.iso (El.pair ef_T_impl_counter (El.pair (El.sl (El.sl (El.int .i64))) (El.pair (El.int .i64) (El.pair (El.int .i64) (El.pair (El.sl (El.int .i64)) (El.pair (El.sl (El.int .i64)) (El.pair (El.sl (El.int .i64)) (El.pair (El.int .i64) (El.sl (El.int .i64)))))))))) (fun x => (x.qcounter, x.qmatrix, x.qlambda, x.qlimit, x.qsums, x.qlater, x.qchosen, x.qcount, x.qfirst)) (T_impl_chooser.mk (T_impl_counter.mk (0 : Int) false) ([] : List (List Int)) (0 : Int) (0 : Int) ([] : List Int) ([] : List Int) ([] : List Int) (0 : Int) ([] : List Int)) rfl
theorem frzo_T_impl_chooser : Frz eo_T_impl_chooser ef_T_impl_chooser := frz_iso (frz_pair frzo_T_impl_counter (frz_pair (frz_ow (frz_ow (frz_int _))) (frz_pair (frz_int _) (frz_pair (frz_int _) (frz_pair (frz_ow (frz_int _)) (frz_pair (frz_ow (frz_int _)) (frz_pair (frz_ow (frz_int _)) (frz_pair (frz_int _) (frz_ow (frz_int _))))))))))
theorem frzf_T_impl_chooser : Frz ef_T_impl_chooser ef_T_impl_chooser := frz_iso (frz_pair frzf_T_impl_counter (frz_pair (frz_sl _) (frz_pair (frz_int _) (frz_pair (frz_int _) (frz_pair (frz_sl _) (frz_pair (frz_sl _) (frz_pair (frz_sl _) (frz_pair (frz_int _) (frz_sl _)))))))))
theorem pko_T_impl_chooser {ψ : CM} {h0 h : Heap} {os : List Ob} {x0 : Int} {x1 : Bool} {x2 : List (List Int)} {v2 : Value} {x3 : Int} {x4 : Int} {x5 : List Int} {v5 : Value} {x6 : List Int} {v6 : Value} {x7 : List Int} {v7 : Value} {x8 : Int} {x9 : List Int} {v9 : Value} (st : S ψ h0 h (.it (El.ow (El.ow (El.int .i64))) [v2] x2 :: .it (El.ow (El.int .i64)) [v5] x5 :: .it (El.ow (El.int .i64)) [v6] x6 :: .it (El.ow (El.int .i64)) [v7] x7 :: .it (El.ow (El.int .i64)) [v9] x9 :: os)) : S ψ h0 h (.it eo_T_impl_chooser [.int .i64 x0, .bool x1, v2, .int .i64 x3, .int .i64 x4, v5, v6, v7, .int .i64 x8, v9] (T_impl_chooser.mk (T_impl_counter.mk x0 x1) x2 x3 x4 x5 x6 x7 x8 x9) :: os) := by
  obtain ⟨φ, M0, s, L2, M1, rfl, a2, L5, M2, rfl, a5, L6, M3, rfl, a6, L7, M4, rfl, a7, L9, M5, rfl, a9, r⟩ := st
  exact ⟨φ, _, s, (([] ++ []) ++ (L2 ++ ([] ++ ([] ++ (L5 ++ (L6 ++ (L7 ++ ([] ++ L9)))))))), M5, by simp, (pair_mk (pair_mk int_mk bool_mk) (pair_mk a2 (pair_mk int_mk (pair_mk int_mk (pair_mk a5 (pair_mk a6 (pair_mk a7 (pair_mk int_mk a9)))))))), r⟩
theorem pkf_T_impl_chooser {ψ : CM} {h0 h : Heap} {os : List Ob} {x0 : Int} {x1 : Bool} {x2 : List (List Int)} {v2 : Value} {x3 : Int} {x4 : Int} {x5 : List Int} {v5 : Value} {x6 : List Int} {v6 : Value} {x7 : List Int} {v7 : Value} {x8 : Int} {x9 : List Int} {v9 : Value} (st : S ψ h0 h (.it (El.sl (El.sl (El.int .i64))) [v2] x2 :: .it (El.sl (El.int .i64)) [v5] x5 :: .it (El.sl (El.int .i64)) [v6] x6 :: .it (El.sl (El.int .i64)) [v7] x7 :: .it (El.sl (El.int .i64)) [v9] x9 :: os)) : S ψ h0 h (.it ef_T_impl_chooser [.int .i64 x0, .bool x1, v2, .int .i64 x3, .int .i64 x4, v5, v6, v7, .int .i64 x8, v9] (T_impl_chooser.mk (T_impl_counter.mk x0 x1) x2 x3 x4 x5 x6 x7 x8 x9) :: os) := by
  obtain ⟨φ, M0, s, L2, M1, rfl, a2, L5, M2, rfl, a5, L6, M3, rfl, a6, L7, M4, rfl, a7, L9, M5, rfl, a9, r⟩ := st
  exact ⟨φ, _, s, (([] ++ []) ++ (L2 ++ ([] ++ ([] ++ (L5 ++ (L6 ++ (L7 ++ ([] ++ L9)))))))), M5, by simp, (pair_mk (pair_mk int_mk bool_mk) (pair_mk a2 (pair_mk int_mk (pair_mk int_mk (pair_mk a5 (pair_mk a6 (pair_mk a7 (pair_mk int_mk a9)))))))), r⟩
theorem un_T_impl_chooser {φ : CM} {L : Rws} {cs : List Value} {x : T_impl_chooser} (h : ef_T_impl_chooser.R φ L cs x) : ∃ v2 : Value, ∃ v5 : Value, ∃ v6 : Value, ∃ v7 : Value, ∃ v9 : Value, cs = [.int .i64 x.qcounter.qleft, .bool x.qcounter.qspent, v2, .int .i64 x.qlambda, .int .i64 x.qlimit, v5, v6, v7, .int .i64 x.qcount, v9] ∧ SlC φ (El.sl (El.int .i64)) v2 x.qmatrix ∧ SlC φ (El.int .i64) v5 x.qsums ∧ SlC φ (El.int .i64) v6 x.qlater ∧ SlC φ (El.int .i64) v7 x.qchosen ∧ SlC φ (El.int .i64) v9 x.qfirst := by
  obtain ⟨_, _, _, _, rfl, _, a1_0, b1_0⟩ := h
  obtain ⟨_, _, _, _, rfl, _, a2_0, b2_0⟩ := a1_0
  obtain ⟨_, rfl⟩ := a2_0
  obtain ⟨_, rfl⟩ := b2_0
  obtain ⟨_, _, _, _, rfl, _, a1_1, b1_1⟩ := b1_0
  obtain ⟨_, w5, rfl, g5⟩ := a1_1
  obtain ⟨_, _, _, _, rfl, _, a1_2, b1_2⟩ := b1_1
  obtain ⟨_, rfl⟩ := a1_2
  obtain ⟨_, _, _, _, rfl, _, a1_3, b1_3⟩ := b1_2
  obtain ⟨_, rfl⟩ := a1_3
  obtain ⟨_, _, _, _, rfl, _, a1_4, b1_4⟩ := b1_3
  obtain ⟨_, w8, rfl, g8⟩ := a1_4
  obtain ⟨_, _, _, _, rfl, _, a1_5, b1_5⟩ := b1_4
  obtain ⟨_, w9, rfl, g9⟩ := a1_5
  obtain ⟨_, _, _, _, rfl, _, a1_6, b1_6⟩ := b1_5
  obtain ⟨_, w10, rfl, g10⟩ := a1_6
  obtain ⟨_, _, _, _, rfl, _, a1_7, b1_7⟩ := b1_6
  obtain ⟨_, rfl⟩ := a1_7
  obtain ⟨_, w12, rfl, g12⟩ := b1_7
  exact ⟨w5, w8, w9, w10, w12, rfl, g5, g8, g9, g10, g12⟩
theorem r_laws_eqInt64S {ψ : CM} {h : Heap} (hψ : CLe ψ (hcell h)) {a0 : List Int} {v0 : Value} {b1 : List Int} {v1 : Value} {r : Bool} (hp : p_laws_eqInt64S a0 b1 = some r) (f0 : SlC (hcell h) (El.int .i64) v0 a0) (f1 : SlC (hcell h) (El.int .i64) v1 b1) : CallsH P id_laws_eqInt64S #[v0, v1] h (fun v h' => v = .bool r ∧ S ψ h h' []) := by
  apply w_laws_eqInt64S
  unfold F_laws_eqInt64S
  rw [p_laws_eqInt64S] at hp
  have st : S ψ h h [] := S.start hψ
  refine vLen_C (f0.mono st.le) ?_
  refine vLen_C (f1.mono st.le) ?_
  refine bifP hp (fun hc hp => ?_) (fun hc hp => ?_)
  · obtain rfl := Option.some.inj hp
    exact ⟨rfl, st.pick [] (by decide)⟩
  · obtain ⟨n_2, hn⟩ := loop_n hp
    refine ⟨fun n i5 h_2 => S ψ h h_2 [] ∧ loopN (p_laws_eqInt64S_b1 a0 b1) n i5 = some r, ⟨n_2, st.pick [] (by decide), hn⟩, ?_⟩
    rintro n _ i5 h_2 ⟨st, hn⟩
    obtain ⟨m, a, rfl, hp, hs⟩ := loopN_step hn
    rw [p_laws_eqInt64S_b1] at hp
    refine vLen_C (f0.mono st.le) ?_
    refine bifP hp (fun hc hp => ?_) (fun hc hp => ?_)
    · obtain ⟨e19, hx, hp⟩ := obind hp
      refine vIdx_C (f0.mono st.le) hx fun p19 ad => ?_
      refine ldI_C (f0.mono st.le) ad hx ?_
      obtain ⟨e23, hx_2, hp⟩ := obind hp
      refine vIdx_C (f1.mono st.le) hx_2 fun p23 ad_2 => ?_
      refine ldI_C (f1.mono st.le) ad_2 hx_2 ?_
      refine bifP hp (fun hc hp => ?_) (fun hc hp => ?_)
      · obtain rfl := Option.some.inj hp
        obtain rfl := Option.some.inj hs
        exact ⟨rfl, st.pick [] (by decide)⟩
      · obtain rfl := Option.some.inj hp
        exact ⟨m, Nat.lt_succ_self _, st.pick [] (by decide), hs⟩
    · obtain rfl := Option.some.inj hp
      obtain rfl := Option.some.inj hs
      exact ⟨rfl, st.pick [] (by decide)⟩
theorem r_laws_markInt64S {ψ : CM} {h0 h : Heap} {os : List Ob} {a0 : List Int} {v0 : Value} {k1 : Int} {r : Int × (List Int)} (hp : p_laws_markInt64S a0 k1 = some r) (st : S ψ h0 h (.it (El.ow (El.int .i64)) [v0] a0 :: os))  : CallsH P id_laws_markInt64S #[v0, .int .i64 k1] h (fun v h' => v = .int .i64 r.1 ∧ S ψ h0 h' (.it (El.ow (El.int .i64)) [v0] r.2 :: os)) := by
  apply w_laws_markInt64S
  unfold F_laws_markInt64S
  rw [p_laws_markInt64S] at hp
  obtain ⟨n_2, hn⟩ := loop_n hp
  refine ⟨fun n k1_2 i5 h_2 => ∃ xs : List Int, S ψ h0 h_2 (.it (El.ow (El.int .i64)) [v0] xs :: os) ∧ loopN (p_laws_markInt64S_b1) n (k1_2, i5, xs) = some r, ⟨n_2, _, st.pickT 1 [0] (by decide) (by decide), hn⟩, ?_⟩
  rintro n _ k1_2 i5 h_2 ⟨xs, st, hn⟩
  obtain ⟨m, a, rfl, hp, hs⟩ := loopN_step hn
  rw [p_laws_markInt64S_b1] at hp
  refine vLen_C (st.rdL 0 rfl (frz_int _)) ?_
  refine bifP hp (fun hc hp => ?_) (fun hc hp => ?_)
  · obtain ⟨e15, hx, hp⟩ := obind hp
    refine vIdx_C (st.rdL 0 rfl (frz_int _)) hx fun p15 ad => ?_
    refine st1_S st 0 rfl ad hx rfl (fun _ => ⟨rfl, rfl⟩) fun h_3 st => ?_
    dsimp only [List.set] at st
    obtain rfl := Option.some.inj hp
    exact ⟨m, Nat.lt_succ_self _, _, st.pickT 1 [0] (by decide) (by decide), hs⟩
  · obtain rfl := Option.some.inj hp
    obtain rfl := Option.some.inj hs
    exact ⟨rfl, st.pickT 1 [0] (by decide) (by decide)⟩
theorem r_laws_heldInt64S {ψ : CM} {h : Heap} (hψ : CLe ψ (hcell h)) {a0 : List Int} {v0 : Value} {k1 : Int} {r : Int} (hp : p_laws_heldInt64S a0 k1 = some r) (f0 : SlC (hcell h) (El.int .i64) v0 a0) : CallsH P id_laws_heldInt64S #[v0, .int .i64 k1] h (fun v h' => v = .int .i64 r ∧ S ψ h h' []) := by
  apply w_laws_heldInt64S
  unfold F_laws_heldInt64S
  rw [p_laws_heldInt64S] at hp
  have st : S ψ h h [] := S.start hψ
  obtain ⟨n_2, hn⟩ := loop_n hp
  refine ⟨fun n k1_2 i5 h_2 => S ψ h h_2 [] ∧ loopN (p_laws_heldInt64S_b1 a0) n (k1_2, i5) = some r, ⟨n_2, st.pick [] (by decide), hn⟩, ?_⟩
  rintro n _ k1_2 i5 h_2 ⟨st, hn⟩
  obtain ⟨m, a, rfl, hp, hs⟩ := loopN_step hn
  rw [p_laws_heldInt64S_b1] at hp
  refine vLen_C (f0.mono st.le) ?_
  refine bifP hp (fun hc hp => ?_) (fun hc hp => ?_)
  · obtain ⟨e14, hx, hp⟩ := obind hp
    refine vIdx_C (f0.mono st.le) hx fun p14 ad => ?_
    refine ldI_C (f0.mono st.le) ad hx ?_
    refine bifP hp (fun hc hp => ?_) (fun hc hp => ?_)
    · obtain rfl := Option.some.inj hp
      obtain rfl := Option.some.inj hs
      exact ⟨rfl, st.pick [] (by decide)⟩
    · obtain rfl := Option.some.inj hp
      exact ⟨m, Nat.lt_succ_self _, st.pick [] (by decide), hs⟩
  · obtain rfl := Option.some.inj hp
    obtain rfl := Option.some.inj hs
    exact ⟨rfl, st.pick [] (by decide)⟩
theorem r_laws_szInt64S {ψ : CM} {h : Heap} (hψ : CLe ψ (hcell h)) {a0 : List Int} {v0 : Value} {left1 : Int} {r : Int} (hp : p_laws_szInt64S a0 left1 = some r) (f0 : SlC (hcell h) (El.int .i64) v0 a0) : CallsH P id_laws_szInt64S #[v0, .int .i64 left1] h (fun v h' => v = .int .i64 r ∧ S ψ h h' []) := by
  apply w_laws_szInt64S
  unfold F_laws_szInt64S
  rw [p_laws_szInt64S] at hp
  have st : S ψ h h [] := S.start hψ
  refine vLen_C (f0.mono st.le) ?_
  refine bifP hp (fun hc hp => ?_) (fun hc hp => ?_)
  · obtain rfl := Option.some.inj hp
    exact ⟨rfl, st.pick [] (by decide)⟩
  · obtain rfl := Option.some.inj hp
    exact ⟨rfl, st.pick [] (by decide)⟩
theorem r_laws_szInt64SS {ψ : CM} {h : Heap} (hψ : CLe ψ (hcell h)) {a0 : List (List Int)} {v0 : Value} {left1 : Int} {r : Int} (hp : p_laws_szInt64SS a0 left1 = some r) (f0 : SlC (hcell h) (El.sl (El.int .i64)) v0 a0) : CallsH P id_laws_szInt64SS #[v0, .int .i64 left1] h (fun v h' => v = .int .i64 r ∧ S ψ h h' []) := by
  apply w_laws_szInt64SS
  unfold F_laws_szInt64SS
  rw [p_laws_szInt64SS] at hp
  have st : S ψ h h [] := S.start hψ
  refine vLen_C (f0.mono st.le) ?_
  refine bifP hp (fun hc hp => ?_) (fun hc hp => ?_)
  · obtain rfl := Option.some.inj hp
    exact ⟨rfl, st.pick [] (by decide)⟩
  · obtain ⟨n_2, hn⟩ := loop_n hp
    refine ⟨fun n left1_2 i5 h_2 => S ψ h h_2 [] ∧ loopN (p_laws_szInt64SS_b1 a0) n (left1_2, i5) = some r, ⟨n_2, st.pick [] (by decide), hn⟩, ?_⟩
    rintro n _ left1_2 i5 h_2 ⟨st, hn⟩
    obtain ⟨m, a, rfl, hp, hs⟩ := loopN_step hn
    rw [p_laws_szInt64SS_b1] at hp
    refine vLen_C (f0.mono st.le) ?_
    refine bifP hp (fun hc hp => ?_) (fun hc hp => ?_)
    · obtain ⟨e20, hx, hp⟩ := obind hp
      refine vIdx_C (f0.mono st.le) hx fun p20 ad => ?_
      refine ldV_C f0 st.le ad hx fun u21 f => ?_
      obtain ⟨r23, hx_2, hp⟩ := obind hp
      obtain ⟨φ, L, s, r_2⟩ := id st
      refine (r_laws_szInt64S s.fle hx_2 (f.mono st.le)).mono fun v_2 h_3 ⟨eq, t⟩ => ⟨_, eq, ?_⟩
      replace st := join0 s r_2 t
      clear t s r_2
      refine bifP hp (fun hc hp => ?_) (fun hc hp => ?_)
      · obtain rfl := Option.some.inj hp
        obtain rfl := Option.some.inj hs
        exact ⟨rfl, st.pick [] (by decide)⟩
      · obtain rfl := Option.some.inj hp
        exact ⟨m, Nat.lt_succ_self _, st.pick [] (by decide), hs⟩
    · obtain rfl := Option.some.inj hp
      obtain rfl := Option.some.inj hs
      exact ⟨rfl, st.pick [] (by decide)⟩
theorem r_laws_toInt64S {ψ : CM} {h : Heap} (hψ : CLe ψ (hcell h)) {a0 : List Int} {v0 : Value} {r : List Int} (hp : p_laws_toInt64S a0 = some r) (f0 : SlC (hcell h) (El.int .i64) v0 a0) : CallsH P id_laws_toInt64S #[v0] h (fun v h' => ∃ w0 : Value, v = w0 ∧ S ψ h h' [.it (El.ow (El.int .i64)) [w0] r]) := by
  apply w_laws_toInt64S
  unfold F_laws_toInt64S
  rw [p_laws_toInt64S] at hp
  have st : S ψ h h [] := S.start hψ
  refine vLen_C (f0.mono st.le) ?_
  obtain ⟨l7, hx, hp⟩ := obind hp
  refine make_S (E := (El.int .i64)) st rfl hx fun v7 h_2 st => ?_
  obtain ⟨n_2, hn⟩ := loop_n hp
  refine ⟨fun n i4 h_3 => ∃ xs : List Int, S ψ h h_3 [.it (El.ow (El.int .i64)) [v7] xs] ∧ loopN (p_laws_toInt64S_b1 a0) n (i4, xs) = some r, ⟨n_2, _, st.pick [0] (by decide), hn⟩, ?_⟩
  rintro n _ i4 h_3 ⟨xs, st, hn⟩
  obtain ⟨m, a, rfl, hp, hs⟩ := loopN_step hn
  rw [p_laws_toInt64S_b1] at hp
  refine vLen_C (f0.mono st.le) ?_
  refine bifP hp (fun hc hp => ?_) (fun hc hp => ?_)
  · obtain ⟨e18, hx_2, hp⟩ := obind hp
    refine vIdx_C (f0.mono st.le) hx_2 fun p18 ad => ?_
    refine ldI_C (f0.mono st.le) ad hx_2 ?_
    obtain ⟨e20, hx_3, hp⟩ := obind hp
    refine vIdx_C (st.rdL 0 rfl (frz_int _)) hx_3 fun p20 ad_2 => ?_
    refine st1_S st 0 rfl ad_2 hx_3 rfl (fun _ => ⟨rfl, rfl⟩) fun h_4 st => ?_
    dsimp only [List.set] at st
    obtain rfl := Option.some.inj hp
    exact ⟨m, Nat.lt_succ_self _, _, st.pick [0] (by decide), hs⟩
  · obtain rfl := Option.some.inj hp
    obtain rfl := Option.some.inj hs
    exact ⟨v7, rfl, st.pick [0] (by decide)⟩
theorem r_laws_toInt64SS {ψ : CM} {h : Heap} (hψ : CLe ψ (hcell h)) {a0 : List (List Int)} {v0 : Value} {r : List (List Int)} (hp : p_laws_toInt64SS a0 = some r) (f0 : SlC (hcell h) (El.sl (El.int .i64)) v0 a0) : CallsH P id_laws_toInt64SS #[v0] h (fun v h' => ∃ w0 : Value, v = w0 ∧ S ψ h h' [.it (El.ow (El.ow (El.int .i64))) [w0] r]) := by
  apply w_laws_toInt64SS
  unfold F_laws_toInt64SS
  rw [p_laws_toInt64SS] at hp
  have st : S ψ h h [] := S.start hψ
  refine vLen_C (f0.mono st.le) ?_
  obtain ⟨l7, hx, hp⟩ := obind hp
  refine make_S (E := (El.ow (El.int .i64))) st rfl hx fun v7 h_2 st => ?_
  obtain ⟨n_2, hn⟩ := loop_n hp
  refine ⟨fun n i4 h_3 => ∃ xs : List (List Int), S ψ h h_3 [.it (El.ow (El.ow (El.int .i64))) [v7] xs] ∧ loopN (p_laws_toInt64SS_b1 a0) n (i4, xs) = some r, ⟨n_2, _, st.pick [0] (by decide), hn⟩, ?_⟩
  rintro n _ i4 h_3 ⟨xs, st, hn⟩
  obtain ⟨m, a, rfl, hp, hs⟩ := loopN_step hn
  rw [p_laws_toInt64SS_b1] at hp
  refine vLen_C (f0.mono st.le) ?_
  refine bifP hp (fun hc hp => ?_) (fun hc hp => ?_)
  · obtain ⟨e18, hx_2, hp⟩ := obind hp
    refine vIdx_C (f0.mono st.le) hx_2 fun p18 ad => ?_
    refine ldV_C f0 st.le ad hx_2 fun u19 f => ?_
    obtain ⟨r20, hx_3, hp⟩ := obind hp
    obtain ⟨φ, L, s, r_2⟩ := id st
    refine (r_laws_toInt64S s.fle hx_3 (f.mono st.le)).mono fun v_2 h_4 ⟨v20, eq, t⟩ => ⟨_, eq, ?_⟩
    replace st := join1 s r_2 t
    clear t s r_2
    obtain ⟨e21, hx_4, hp⟩ := obind hp
    refine vIdx_C (st.rdL 1 rfl (frz_ow (frz_int _))) hx_4 fun p21 ad_2 => ?_
    refine st1_it st 0 rfl ad_2 hx_4 rfl fun h_5 st => ?_
    dsimp only [List.set] at st
    obtain rfl := Option.some.inj hp
    exact ⟨m, Nat.lt_succ_self _, _, st.pick [0] (by decide), hs⟩
  · obtain rfl := Option.some.inj hp
    obtain rfl := Option.some.inj hs
    exact ⟨v7, rfl, st.pick [0] (by decide)⟩
theorem r_laws_eqInt64SS {ψ : CM} {h : Heap} (hψ : CLe ψ (hcell h)) {a0 : List (List Int)} {v0 : Value} {b1 : List (List Int)} {v1 : Value} {r : Bool} (hp : p_laws_eqInt64SS a0 b1 = some r) (f0 : SlC (hcell h) (El.sl (El.int .i64)) v0 a0) (f1 : SlC (hcell h) (El.sl (El.int .i64)) v1 b1) : CallsH P id_laws_eqInt64SS #[v0, v1] h (fun v h' => v = .bool r ∧ S ψ h h' []) := by
  apply w_laws_eqInt64SS
  unfold F_laws_eqInt64SS
  rw [p_laws_eqInt64SS] at hp
  have st : S ψ h h [] := S.start hψ
  refine vLen_C (f0.mono st.le) ?_
  refine vLen_C (f1.mono st.le) ?_
  refine bifP hp (fun hc hp => ?_) (fun hc hp => ?_)
  · obtain rfl := Option.some.inj hp
    exact ⟨rfl, st.pick [] (by decide)⟩
  · obtain ⟨n_2, hn⟩ := loop_n hp
    refine ⟨fun n i5 h_2 => S ψ h h_2 [] ∧ loopN (p_laws_eqInt64SS_b1 a0 b1) n i5 = some r, ⟨n_2, st.pick [] (by decide), hn⟩, ?_⟩
    rintro n _ i5 h_2 ⟨st, hn⟩
    obtain ⟨m, a, rfl, hp, hs⟩ := loopN_step hn
    rw [p_laws_eqInt64SS_b1] at hp
    refine vLen_C (f0.mono st.le) ?_
    refine bifP hp (fun hc hp => ?_) (fun hc hp => ?_)
    · obtain ⟨e19, hx, hp⟩ := obind hp
      refine vIdx_C (f0.mono st.le) hx fun p19 ad => ?_
      refine ldV_C f0 st.le ad hx fun u20 f => ?_
      obtain ⟨e23, hx_2, hp⟩ := obind hp
      refine vIdx_C (f1.mono st.le) hx_2 fun p23 ad_2 => ?_
      refine ldV_C f1 st.le ad_2 hx_2 fun u24 f_2 => ?_
      obtain ⟨r25, hx_3, hp⟩ := obind hp
      obtain ⟨φ, L, s, r_2⟩ := id st
      refine (r_laws_eqInt64S s.fle hx_3 (f.mono st.le) (f_2.mono st.le)).mono fun v_2 h_3 ⟨eq, t⟩ => ⟨_, eq, ?_⟩
      replace st := join0 s r_2 t
      clear t s r_2
      refine bifP hp (fun hc hp => ?_) (fun hc hp => ?_)
      · obtain rfl := Option.some.inj hp
        obtain rfl := Option.some.inj hs
        exact ⟨rfl, st.pick [] (by decide)⟩
      · obtain rfl := Option.some.inj hp
        exact ⟨m, Nat.lt_succ_self _, st.pick [] (by decide), hs⟩
    · obtain rfl := Option.some.inj hp
      obtain rfl := Option.some.inj hs
      exact ⟨rfl, st.pick [] (by decide)⟩
theorem r_spec_l00In {ψ : CM} {h : Heap} (hψ : CLe ψ (hcell h)) {n0 : Int} {low1 : Int} {high2 : Int} {r : Bool} (hp : p_spec_l00In n0 low1 high2 = some r)  : CallsH P id_spec_l00In #[.int .i64 n0, .int .i64 low1, .int .i64 high2] h (fun v h' => v = .bool r ∧ S ψ h h' []) := by
  apply w_spec_l00In
  unfold F_spec_l00In
  rw [p_spec_l00In] at hp
  have st : S ψ h h [] := S.start hψ
  refine bifP hp (fun hc hp => ?_) (fun hc hp => ?_)
  · obtain rfl := Option.some.inj hp
    exact ⟨rfl, st.pick [] (by decide)⟩
  · obtain rfl := Option.some.inj hp
    exact ⟨rfl, st.pick [] (by decide)⟩
theorem r_spec_l26Ok {ψ : CM} {h : Heap} (hψ : CLe ψ (hcell h)) {m0 : List (List Int)} {v0 : Value} {r : Bool} (hp : p_spec_l26Ok m0 = some r) (f0 : SlC (hcell h) (El.sl (El.int .i64)) v0 m0) : CallsH P id_spec_l26Ok #[v0] h (fun v h' => v = .bool r ∧ S ψ h h' []) := by
  apply w_spec_l26Ok
  unfold F_spec_l26Ok
  rw [p_spec_l26Ok] at hp
  have st : S ψ h h [] := S.start hψ
  refine ⟨fun h_2 => S ψ h h_2 [] ∧ p_spec_l26Ok_k1 m0 = some r, ?_, ?_⟩
  · refine vLen_C (f0.mono st.le) ?_
    refine bifP hp (fun hc hp => ?_) (fun hc hp => ?_)
    · obtain rfl := Option.some.inj hp
      exact ⟨rfl, st.pick [] (by decide)⟩
    · refine vLen_C (f0.mono st.le) ?_
      refine bifP hp (fun hc hp => ?_) (fun hc hp => ?_)
      · obtain rfl := Option.some.inj hp
        exact ⟨rfl, st.pick [] (by decide)⟩
      · exact ⟨st.pick [] (by decide), hp⟩
  · rintro _ h_2 ⟨st, hp⟩
    rw [p_spec_l26Ok_k1] at hp
    obtain ⟨n_4, hn⟩ := loop_n hp
    refine ⟨fun n i3 h_3 => S ψ h h_3 [] ∧ loopN (p_spec_l26Ok_b1 m0) n i3 = some r, ⟨n_4, st.pick [] (by decide), hn⟩, ?_⟩
    rintro n _ i3 h_3 ⟨st, hn⟩
    obtain ⟨m, a, rfl, hp, hs⟩ := loopN_step hn
    rw [p_spec_l26Ok_b1] at hp
    refine vLen_C (f0.mono st.le) ?_
    refine bifP hp (fun hc hp => ?_) (fun hc hp => ?_)
    · refine ⟨fun h_4 => S ψ h h_4 [] ∧ p_spec_l26Ok_k2 m0 i3 = some a, ?_, ?_⟩
      · obtain ⟨e21, hx_5, hp⟩ := obind hp
        refine vIdx_C (f0.mono st.le) hx_5 fun p21 ad_4 => ?_
        refine ldV_C f0 st.le ad_4 hx_5 fun u22 f_3 => ?_
        refine vLen_C (f_3.mono st.le) ?_
        obtain ⟨e25, hx_6, hp⟩ := obind hp
        refine vIdx_C (f0.mono st.le) hx_6 fun p25 ad_5 => ?_
        refine ldV_C f0 st.le ad_5 hx_6 fun u26 f_4 => ?_
        refine vLen_C (f_4.mono st.le) ?_
        refine bifP hp (fun hc hp => ?_) (fun hc hp => ?_)
        · obtain rfl := Option.some.inj hp
          obtain rfl := Option.some.inj hs
          exact ⟨rfl, st.pick [] (by decide)⟩
        · obtain ⟨e32, hx_7, hp⟩ := obind hp
          refine vIdx_C (f0.mono st.le) hx_7 fun p32 ad_6 => ?_
          refine ldV_C f0 st.le ad_6 hx_7 fun u33 f_5 => ?_
          refine vLen_C (f_5.mono st.le) ?_
          refine bifP hp (fun hc hp => ?_) (fun hc hp => ?_)
          · obtain rfl := Option.some.inj hp
            obtain rfl := Option.some.inj hs
            exact ⟨rfl, st.pick [] (by decide)⟩
          · exact ⟨st.pick [] (by decide), hp⟩
      · rintro _ h_4 ⟨st, hp⟩
        rw [p_spec_l26Ok_k2] at hp
        obtain ⟨n_3, hn_2⟩ := loop_n hp
        refine ⟨fun n_2 j4 h_5 => S ψ h h_5 [] ∧ loopN (p_spec_l26Ok_b2 m0 i3) n_2 j4 = some a, ⟨n_3, st.pick [] (by decide), hn_2⟩, ?_⟩
        rintro n_2 _ j4 h_5 ⟨st, hn_2⟩
        obtain ⟨m_2, a_2, rfl, hp, hs_2⟩ := loopN_step hn_2
        rw [p_spec_l26Ok_b2] at hp
        obtain ⟨e40, hx, hp⟩ := obind hp
        refine vIdx_C (f0.mono st.le) hx fun p40 ad => ?_
        refine ldV_C f0 st.le ad hx fun u41 f => ?_
        refine vLen_C (f.mono st.le) ?_
        refine bifP hp (fun hc hp => ?_) (fun hc hp => ?_)
        · obtain ⟨e48, hx_2, hp⟩ := obind hp
          refine vIdx_C (f0.mono st.le) hx_2 fun p48 ad_2 => ?_
          refine ldV_C f0 st.le ad_2 hx_2 fun u49 f_2 => ?_
          obtain ⟨e51, hx_3, hp⟩ := obind hp
          refine vIdx_C (f_2.mono st.le) hx_3 fun p51 ad_3 => ?_
          refine ldI_C (f_2.mono st.le) ad_3 hx_3 ?_
          obtain ⟨r53, hx_4, hp⟩ := obind hp
          obtain ⟨φ, L, s, r_2⟩ := id st
          refine (r_spec_l00In s.fle hx_4).mono fun v_2 h_6 ⟨eq, t⟩ => ⟨_, eq, ?_⟩
          replace st := join0 s r_2 t
          clear t s r_2
          refine bifP hp (fun hc hp => ?_) (fun hc hp => ?_)
          · obtain rfl := Option.some.inj hp
            obtain rfl := Option.some.inj hs_2
            obtain rfl := Option.some.inj hs
            exact ⟨rfl, st.pick [] (by decide)⟩
          · obtain rfl := Option.some.inj hp
            exact ⟨m_2, Nat.lt_succ_self _, st.pick [] (by decide), hs_2⟩
        · obtain rfl := Option.some.inj hp
          obtain rfl := Option.some.inj hs_2
          exact ⟨m, Nat.lt_succ_self _, st.pick [] (by decide), hs⟩
    · obtain rfl := Option.some.inj hp
      obtain rfl := Option.some.inj hs
      exact ⟨rfl, st.pick [] (by decide)⟩
theorem r_spec_l09Budget {ψ : CM} {h : Heap} (hψ : CLe ψ (hcell h)) {budget0 : Int} {r : Bool} (hp : p_spec_l09Budget budget0 = some r)  : CallsH P id_spec_l09Budget #[.int .i64 budget0] h (fun v h' => v = .bool r ∧ S ψ h h' []) := by
  apply w_spec_l09Budget
  unfold F_spec_l09Budget
  rw [p_spec_l09Budget] at hp
  have st : S ψ h h [] := S.start hψ
  obtain ⟨r4, hx, hp⟩ := obind hp
  obtain ⟨φ, L, s, r_2⟩ := id st
  refine (r_spec_l00In s.fle hx).mono fun v_2 h_2 ⟨eq, t⟩ => ⟨_, eq, ?_⟩
  replace st := join0 s r_2 t
  clear t s r_2
  obtain rfl := Option.some.inj hp
  exact ⟨rfl, st.pick [] (by decide)⟩
theorem r_spec_l26Lambda {ψ : CM} {h : Heap} (hψ : CLe ψ (hcell h)) {lambda0 : Int} {r : Bool} (hp : p_spec_l26Lambda lambda0 = some r)  : CallsH P id_spec_l26Lambda #[.int .i64 lambda0] h (fun v h' => v = .bool r ∧ S ψ h h' []) := by
  apply w_spec_l26Lambda
  unfold F_spec_l26Lambda
  rw [p_spec_l26Lambda] at hp
  have st : S ψ h h [] := S.start hψ
  obtain ⟨r4, hx, hp⟩ := obind hp
  obtain ⟨φ, L, s, r_2⟩ := id st
  refine (r_spec_l00In s.fle hx).mono fun v_2 h_2 ⟨eq, t⟩ => ⟨_, eq, ?_⟩
  replace st := join0 s r_2 t
  clear t s r_2
  obtain rfl := Option.some.inj hp
  exact ⟨rfl, st.pick [] (by decide)⟩
theorem r_spec_l00Own {ψ : CM} {h : Heap} (hψ : CLe ψ (hcell h)) {list0 : List Int} {v0 : Value} {r : List Int} (hp : p_spec_l00Own list0 = some r) (f0 : SlC (hcell h) (El.int .i64) v0 list0) : CallsH P id_spec_l00Own #[v0] h (fun v h' => ∃ w0 : Value, v = w0 ∧ S ψ h h' [.it (El.ow (El.int .i64)) [w0] r]) := by
  apply w_spec_l00Own
  unfold F_spec_l00Own
  rw [p_spec_l00Own] at hp
  have st : S ψ h h [] := S.start hψ
  refine newS_S (E := (El.int .i64)) (css := []) (xs := ([] : List Int)) st (fun _ => rfl) rfl rfl fun v3 h_2 st => ?_
  obtain ⟨l5, hx, hp⟩ := obind hp
  refine app_S st 0 rfl (src_plain (plain_int _) (f0.mono st.le)) rfl rfl hx fun v5 h_3 st => ?_
  dsimp only [List.set] at st
  obtain rfl := Option.some.inj hp
  exact ⟨v5, rfl, st.pick [0] (by decide)⟩
theorem rq_spec_l26Find_on {rf_spec_l26Find_on : T_spec_l26Find → (List Int) → Int → Option T_spec_l26Find} {rf_spec_l26Find_run : T_spec_l26Find → (List Int) → Int → Option T_spec_l26Find}  (ih_spec_l26Find_on : ∀ {ψ : CM} {h0 h : Heap} {os : List Ob} {y0 : T_spec_l26Find} {b0 : Nat} {post0 : List Value} {v0_0 : Value} {v0_1 : Value} {v0_3 : Value} {v0_4 : Value} {y1 : List Int} {v1 : Value} {y2 : Int} {r : T_spec_l26Find} (hp : rf_spec_l26Find_on y0 y1 y2 = some r) (st : S ψ h0 h (.box b0 (v0_0 :: v0_1 :: .int .i64 y0.qlambda :: v0_3 :: v0_4 :: .int .i64 y0.qcount :: .int .i64 y0.qlimit :: .int .i64 y0.qnodes :: .int .i64 y0.qbudget :: .bool y0.qfull :: post0) :: .it (El.ow (El.sl (El.int .i64))) [v0_1] y0.qlater :: .it (El.ow (El.int .i64)) [v0_3] y0.qchosen :: .it (El.ow (El.int .i64)) [v0_4] y0.qfirst :: os)) (f0_0 : SlC (UB ψ h0) (El.sl (El.int .i64)) v0_0 y0.qm) (f1 : SlC (UB ψ h0) (El.int .i64) v1 y1), CallsH P id_spec_l26Find_on #[.pointer (some ⟨b0, 0, none⟩), v1, .int .i64 y2] h (fun v h' => ∃ w0 : Value, ∃ w1 : Value, ∃ w2 : Value, v = .tuple #[] ∧ S ψ h0 h' (.box b0 (v0_0 :: w0 :: .int .i64 r.qlambda :: w1 :: w2 :: .int .i64 r.qcount :: .int .i64 r.qlimit :: .int .i64 r.qnodes :: .int .i64 r.qbudget :: .bool r.qfull :: post0) :: .it (El.ow (El.sl (El.int .i64))) [w0] r.qlater :: .it (El.ow (El.int .i64)) [w1] r.qchosen :: .it (El.ow (El.int .i64)) [w2] r.qfirst :: os))) (ih_spec_l26Find_run : ∀ {ψ : CM} {h0 h : Heap} {os : List Ob} {y0 : T_spec_l26Find} {b0 : Nat} {post0 : List Value} {v0_0 : Value} {v0_1 : Value} {v0_3 : Value} {v0_4 : Value} {y1 : List Int} {v1 : Value} {y2 : Int} {r : T_spec_l26Find} (hp : rf_spec_l26Find_run y0 y1 y2 = some r) (st : S ψ h0 h (.box b0 (v0_0 :: v0_1 :: .int .i64 y0.qlambda :: v0_3 :: v0_4 :: .int .i64 y0.qcount :: .int .i64 y0.qlimit :: .int .i64 y0.qnodes :: .int .i64 y0.qbudget :: .bool y0.qfull :: post0) :: .it (El.ow (El.sl (El.int .i64))) [v0_1] y0.qlater :: .it (El.ow (El.int .i64)) [v0_3] y0.qchosen :: .it (El.ow (El.int .i64)) [v0_4] y0.qfirst :: os)) (f0_0 : SlC (UB ψ h0) (El.sl (El.int .i64)) v0_0 y0.qm) (f1 : SlC (UB ψ h0) (El.int .i64) v1 y1), CallsH P id_spec_l26Find_run #[.pointer (some ⟨b0, 0, none⟩), v1, .int .i64 y2] h (fun v h' => ∃ w0 : Value, ∃ w1 : Value, ∃ w2 : Value, v = .tuple #[] ∧ S ψ h0 h' (.box b0 (v0_0 :: w0 :: .int .i64 r.qlambda :: w1 :: w2 :: .int .i64 r.qcount :: .int .i64 r.qlimit :: .int .i64 r.qnodes :: .int .i64 r.qbudget :: .bool r.qfull :: post0) :: .it (El.ow (El.sl (El.int .i64))) [w0] r.qlater :: .it (El.ow (El.int .i64)) [w1] r.qchosen :: .it (El.ow (El.int .i64)) [w2] r.qfirst :: os))) : ∀ {ψ : CM} {h0 h : Heap} {os : List Ob} {y0 : T_spec_l26Find} {b0 : Nat} {post0 : List Value} {v0_0 : Value} {v0_1 : Value} {v0_3 : Value} {v0_4 : Value} {y1 : List Int} {v1 : Value} {y2 : Int} {r : T_spec_l26Find} (hp : q_spec_l26Find_on rf_spec_l26Find_on rf_spec_l26Find_run y0 y1 y2 = some r) (st : S ψ h0 h (.box b0 (v0_0 :: v0_1 :: .int .i64 y0.qlambda :: v0_3 :: v0_4 :: .int .i64 y0.qcount :: .int .i64 y0.qlimit :: .int .i64 y0.qnodes :: .int .i64 y0.qbudget :: .bool y0.qfull :: post0) :: .it (El.ow (El.sl (El.int .i64))) [v0_1] y0.qlater :: .it (El.ow (El.int .i64)) [v0_3] y0.qchosen :: .it (El.ow (El.int .i64)) [v0_4] y0.qfirst :: os)) (f0_0 : SlC (UB ψ h0) (El.sl (El.int .i64)) v0_0 y0.qm) (f1 : SlC (UB ψ h0) (El.int .i64) v1 y1), CallsH P id_spec_l26Find_on #[.pointer (some ⟨b0, 0, none⟩), v1, .int .i64 y2] h (fun v h' => ∃ w0 : Value, ∃ w1 : Value, ∃ w2 : Value, v = .tuple #[] ∧ S ψ h0 h' (.box b0 (v0_0 :: w0 :: .int .i64 r.qlambda :: w1 :: w2 :: .int .i64 r.qcount :: .int .i64 r.qlimit :: .int .i64 r.qnodes :: .int .i64 r.qbudget :: .bool r.qfull :: post0) :: .it (El.ow (El.sl (El.int .i64))) [w0] r.qlater :: .it (El.ow (El.int .i64)) [w1] r.qchosen :: .it (El.ow (El.int .i64)) [w2] r.qfirst :: os)) := by
  intro ψ h0 h os y0 b0 post0 v0_0 v0_1 v0_3 v0_4 y1 v1 y2 r hp st f0_0 f1
  apply w_spec_l26Find_on
  unfold F_spec_l26Find_on
  rw [q_spec_l26Find_on] at hp
  obtain ⟨n_2, hn⟩ := loop_n hp
  refine ⟨fun n y6 h_2 => S ψ h0 h_2 (.box b0 (v0_0 :: v0_1 :: .int .i64 y0.qlambda :: v0_3 :: v0_4 :: .int .i64 y0.qcount :: .int .i64 y0.qlimit :: .int .i64 y0.qnodes :: .int .i64 y0.qbudget :: .bool y0.qfull :: post0) :: .it (El.ow (El.sl (El.int .i64))) [v0_1] y0.qlater :: .it (El.ow (El.int .i64)) [v0_3] y0.qchosen :: .it (El.ow (El.int .i64)) [v0_4] y0.qfirst :: os) ∧ loopN (p_spec_l26Find_on_b1 rf_spec_l26Find_run y0 y1 y2) n y6 = some r, ⟨n_2, st.pickT 4 [0, 1, 2, 3] (by decide) (by decide), hn⟩, ?_⟩
  rintro n _ y6 h_2 ⟨st, hn⟩
  obtain ⟨m, a, rfl, hp, hs⟩ := loopN_step hn
  rw [p_spec_l26Find_on_b1] at hp
  refine vLen_C (f1.mono st.leU) ?_
  refine bifP hp (fun hc hp => ?_) (fun hc hp => ?_)
  · obtain ⟨e15, hx, hp⟩ := obind hp
    refine vIdx_C (f1.mono st.leU) hx fun p15 ad => ?_
    refine ldI_C (f1.mono st.leU) ad hx ?_
    refine ldV_K (st.cells 0 rfl) 1 rfl rfl ?_
    obtain ⟨e22, hx_2, hp⟩ := obind hp
    refine vIdx_C (st.rdL 1 rfl (frz_sl _)) hx_2 fun p22 ad_2 => ?_
    refine ldV_ow st 1 rfl ad_2 hx_2 fun u23 st => ?_
    obtain ⟨e25, hx_3, hp⟩ := obind hp
    refine vIdx_C (st.rdF 0 rfl) hx_3 fun p25 ad_3 => ?_
    refine ldI_C (st.rdF 0 rfl) ad_3 hx_3 ?_
    refine ldI_K (st.cells 1 rfl) 2 rfl rfl ?_
    refine bifP hp (fun hc hp => ?_) (fun hc hp => ?_)
    · obtain rfl := Option.some.inj hp
      obtain rfl := Option.some.inj hs
      exact ⟨v0_1, v0_3, v0_4, rfl, st.pickT 5 [1, 2, 3, 4] (by decide) (by decide)⟩
    · obtain rfl := Option.some.inj hp
      exact ⟨m, Nat.lt_succ_self _, st.pickT 5 [1, 2, 3, 4] (by decide) (by decide), hs⟩
  · refine ⟨fun h_3 => S ψ h0 h_3 (.box b0 (v0_0 :: v0_1 :: .int .i64 y0.qlambda :: v0_3 :: v0_4 :: .int .i64 y0.qcount :: .int .i64 y0.qlimit :: .int .i64 y0.qnodes :: .int .i64 y0.qbudget :: .bool y0.qfull :: post0) :: .it (El.ow (El.sl (El.int .i64))) [v0_1] y0.qlater :: .it (El.ow (El.int .i64)) [v0_3] y0.qchosen :: .it (El.ow (El.int .i64)) [v0_4] y0.qfirst :: os) ∧ p_spec_l26Find_on_k1 rf_spec_l26Find_run y0 y1 y2 = some a, ?_, ?_⟩
    · refine ldB_K (st.cells 0 rfl) 9 rfl rfl ?_
      refine bifP hp (fun hc hp => ?_) (fun hc hp => ?_)
      · obtain rfl := Option.some.inj hp
        obtain rfl := Option.some.inj hs
        exact ⟨v0_1, v0_3, v0_4, rfl, st.pickT 4 [0, 1, 2, 3] (by decide) (by decide)⟩
      · refine ldI_K (st.cells 0 rfl) 5 rfl rfl ?_
        refine ldI_K (st.cells 0 rfl) 6 rfl rfl ?_
        refine bifP hp (fun hc hp => ?_) (fun hc hp => ?_)
        · obtain rfl := Option.some.inj hp
          obtain rfl := Option.some.inj hs
          exact ⟨v0_1, v0_3, v0_4, rfl, st.pickT 4 [0, 1, 2, 3] (by decide) (by decide)⟩
        · exact ⟨st.pickT 4 [0, 1, 2, 3] (by decide) (by decide), hp⟩
    · rintro _ h_3 ⟨st, hp⟩
      rw [p_spec_l26Find_on_k1] at hp
      refine ldI_K (st.cells 0 rfl) 7 rfl rfl ?_
      refine ldI_K (st.cells 0 rfl) 8 rfl rfl ?_
      refine bifP hp (fun hc hp => ?_) (fun hc hp => ?_)
      · refine st_box st 0 rfl rfl rfl rfl fun h_4 st => ?_
        dsimp only [List.set] at st
        obtain rfl := Option.some.inj hp
        obtain rfl := Option.some.inj hs
        exact ⟨v0_1, v0_3, v0_4, rfl, st.pickT 4 [0, 1, 2, 3] (by decide) (by decide)⟩
      · refine ldI_K (st.cells 0 rfl) 7 rfl rfl ?_
        refine st_box st 0 rfl rfl rfl rfl fun h_5 st => ?_
        dsimp only [List.set] at st
        obtain ⟨r70, hx_4, hp⟩ := obind hp
        obtain ⟨φ, L, s, r_2⟩ := id st
        refine (ih_spec_l26Find_run hx_4 (s.upS r_2) (f0_0.mono s.ubU) (f1.mono s.ubU)).mono fun v_2 h_6 ⟨v70, v70_2, v70_3, eq, t⟩ => ⟨eq, ?_⟩
        replace st := s.downS t
        clear t s r_2
        obtain rfl := Option.some.inj hp
        obtain rfl := Option.some.inj hs
        exact ⟨v70, v70_2, v70_3, rfl, st.pickT 4 [0, 1, 2, 3] (by decide) (by decide)⟩
theorem rq_spec_l26Find_run {rf_spec_l26Find_on : T_spec_l26Find → (List Int) → Int → Option T_spec_l26Find} {rf_spec_l26Find_run : T_spec_l26Find → (List Int) → Int → Option T_spec_l26Find}  (ih_spec_l26Find_on : ∀ {ψ : CM} {h0 h : Heap} {os : List Ob} {y0 : T_spec_l26Find} {b0 : Nat} {post0 : List Value} {v0_0 : Value} {v0_1 : Value} {v0_3 : Value} {v0_4 : Value} {y1 : List Int} {v1 : Value} {y2 : Int} {r : T_spec_l26Find} (hp : rf_spec_l26Find_on y0 y1 y2 = some r) (st : S ψ h0 h (.box b0 (v0_0 :: v0_1 :: .int .i64 y0.qlambda :: v0_3 :: v0_4 :: .int .i64 y0.qcount :: .int .i64 y0.qlimit :: .int .i64 y0.qnodes :: .int .i64 y0.qbudget :: .bool y0.qfull :: post0) :: .it (El.ow (El.sl (El.int .i64))) [v0_1] y0.qlater :: .it (El.ow (El.int .i64)) [v0_3] y0.qchosen :: .it (El.ow (El.int .i64)) [v0_4] y0.qfirst :: os)) (f0_0 : SlC (UB ψ h0) (El.sl (El.int .i64)) v0_0 y0.qm) (f1 : SlC (UB ψ h0) (El.int .i64) v1 y1), CallsH P id_spec_l26Find_on #[.pointer (some ⟨b0, 0, none⟩), v1, .int .i64 y2] h (fun v h' => ∃ w0 : Value, ∃ w1 : Value, ∃ w2 : Value, v = .tuple #[] ∧ S ψ h0 h' (.box b0 (v0_0 :: w0 :: .int .i64 r.qlambda :: w1 :: w2 :: .int .i64 r.qcount :: .int .i64 r.qlimit :: .int .i64 r.qnodes :: .int .i64 r.qbudget :: .bool r.qfull :: post0) :: .it (El.ow (El.sl (El.int .i64))) [w0] r.qlater :: .it (El.ow (El.int .i64)) [w1] r.qchosen :: .it (El.ow (El.int .i64)) [w2] r.qfirst :: os))) (ih_spec_l26Find_run : ∀ {ψ : CM} {h0 h : Heap} {os : List Ob} {y0 : T_spec_l26Find} {b0 : Nat} {post0 : List Value} {v0_0 : Value} {v0_1 : Value} {v0_3 : Value} {v0_4 : Value} {y1 : List Int} {v1 : Value} {y2 : Int} {r : T_spec_l26Find} (hp : rf_spec_l26Find_run y0 y1 y2 = some r) (st : S ψ h0 h (.box b0 (v0_0 :: v0_1 :: .int .i64 y0.qlambda :: v0_3 :: v0_4 :: .int .i64 y0.qcount :: .int .i64 y0.qlimit :: .int .i64 y0.qnodes :: .int .i64 y0.qbudget :: .bool y0.qfull :: post0) :: .it (El.ow (El.sl (El.int .i64))) [v0_1] y0.qlater :: .it (El.ow (El.int .i64)) [v0_3] y0.qchosen :: .it (El.ow (El.int .i64)) [v0_4] y0.qfirst :: os)) (f0_0 : SlC (UB ψ h0) (El.sl (El.int .i64)) v0_0 y0.qm) (f1 : SlC (UB ψ h0) (El.int .i64) v1 y1), CallsH P id_spec_l26Find_run #[.pointer (some ⟨b0, 0, none⟩), v1, .int .i64 y2] h (fun v h' => ∃ w0 : Value, ∃ w1 : Value, ∃ w2 : Value, v = .tuple #[] ∧ S ψ h0 h' (.box b0 (v0_0 :: w0 :: .int .i64 r.qlambda :: w1 :: w2 :: .int .i64 r.qcount :: .int .i64 r.qlimit :: .int .i64 r.qnodes :: .int .i64 r.qbudget :: .bool r.qfull :: post0) :: .it (El.ow (El.sl (El.int .i64))) [w0] r.qlater :: .it (El.ow (El.int .i64)) [w1] r.qchosen :: .it (El.ow (El.int .i64)) [w2] r.qfirst :: os))) : ∀ {ψ : CM} {h0 h : Heap} {os : List Ob} {y0 : T_spec_l26Find} {b0 : Nat} {post0 : List Value} {v0_0 : Value} {v0_1 : Value} {v0_3 : Value} {v0_4 : Value} {y1 : List Int} {v1 : Value} {y2 : Int} {r : T_spec_l26Find} (hp : q_spec_l26Find_run rf_spec_l26Find_on rf_spec_l26Find_run y0 y1 y2 = some r) (st : S ψ h0 h (.box b0 (v0_0 :: v0_1 :: .int .i64 y0.qlambda :: v0_3 :: v0_4 :: .int .i64 y0.qcount :: .int .i64 y0.qlimit :: .int .i64 y0.qnodes :: .int .i64 y0.qbudget :: .bool y0.qfull :: post0) :: .it (El.ow (El.sl (El.int .i64))) [v0_1] y0.qlater :: .it (El.ow (El.int .i64)) [v0_3] y0.qchosen :: .it (El.ow (El.int .i64)) [v0_4] y0.qfirst :: os)) (f0_0 : SlC (UB ψ h0) (El.sl (El.int .i64)) v0_0 y0.qm) (f1 : SlC (UB ψ h0) (El.int .i64) v1 y1), CallsH P id_spec_l26Find_run #[.pointer (some ⟨b0, 0, none⟩), v1, .int .i64 y2] h (fun v h' => ∃ w0 : Value, ∃ w1 : Value, ∃ w2 : Value, v = .tuple #[] ∧ S ψ h0 h' (.box b0 (v0_0 :: w0 :: .int .i64 r.qlambda :: w1 :: w2 :: .int .i64 r.qcount :: .int .i64 r.qlimit :: .int .i64 r.qnodes :: .int .i64 r.qbudget :: .bool r.qfull :: post0) :: .it (El.ow (El.sl (El.int .i64))) [w0] r.qlater :: .it (El.ow (El.int .i64)) [w1] r.qchosen :: .it (El.ow (El.int .i64)) [w2] r.qfirst :: os)) := by
  intro ψ h0 h os y0 b0 post0 v0_0 v0_1 v0_3 v0_4 y1 v1 y2 r hp st f0_0 f1
  apply w_spec_l26Find_run
  unfold F_spec_l26Find_run
  rw [q_spec_l26Find_run] at hp
  refine ldV_K (st.cells 0 rfl) 0 rfl rfl ?_
  obtain ⟨e15, hx, hp⟩ := obind hp
  refine vIdx_C (f0_0.mono st.leU) hx fun p15 ad => ?_
  refine ldV_C f0_0 st.leU ad hx fun u16 f => ?_
  refine vLen_C (f.mono st.leU) ?_
  refine bifP hp (fun hc hp => ?_) (fun hc hp => ?_)
  · refine ⟨fun h_2 => ∃ xs : List Int, ∃ v_2 : Value, S ψ h0 h_2 (.box b0 (v0_0 :: v0_1 :: .int .i64 y0.qlambda :: v0_3 :: v_2 :: .int .i64 y0.qcount :: .int .i64 y0.qlimit :: .int .i64 y0.qnodes :: .int .i64 y0.qbudget :: .bool y0.qfull :: post0) :: .it (El.ow (El.sl (El.int .i64))) [v0_1] y0.qlater :: .it (El.ow (El.int .i64)) [v0_3] y0.qchosen :: .it (El.ow (El.int .i64)) [v_2] xs :: os) ∧ p_spec_l26Find_run_k1 y0 xs = some r, ?_, ?_⟩
    · refine ldI_K (st.cells 0 rfl) 5 rfl rfl ?_
      refine bifP hp (fun hc hp => ?_) (fun hc hp => ?_)
      · refine ldV_K (st.cells 0 rfl) 3 rfl rfl ?_
        obtain ⟨r29, hx_2, hp⟩ := obind hp
        obtain ⟨φ, L, s, r_2⟩ := id st
        refine (r_spec_l00Own s.fle hx_2 (st.rdL 2 rfl (frz_int _))).mono fun v_3 h_4 ⟨v29, eq, t⟩ => ⟨_, eq, ?_⟩
        replace st := join1 s r_2 t
        clear t s r_2
        refine st_box st 1 rfl rfl rfl (st.rdL 0 rfl (frz_int _)).one fun h_5 st => ?_
        dsimp only [List.set] at st
        exact ⟨_, _, st.pickT 5 [1, 2, 3, 0] (by decide) (by decide), hp⟩
      · exact ⟨_, _, st.pickT 4 [0, 1, 2, 3] (by decide) (by decide), hp⟩
    · rintro _ h_2 ⟨xs, v_2, st, hp⟩
      rw [p_spec_l26Find_run_k1] at hp
      refine ldI_K (st.cells 0 rfl) 5 rfl rfl ?_
      refine st_box st 0 rfl rfl rfl rfl fun h_3 st => ?_
      dsimp only [List.set] at st
      obtain rfl := Option.some.inj hp
      exact ⟨v0_1, v0_3, v_2, rfl, st.pickT 4 [0, 1, 2, 3] (by decide) (by decide)⟩
  · refine newS_S (E := (El.int .i64)) (css := []) (xs := ([] : List Int)) st (fun _ => rfl) rfl rfl fun v39 h_6 st => ?_
    obtain ⟨n_2, hn⟩ := loop_n hp
    refine ⟨fun n y6 v7 y8 h_7 => ∃ y7 : List Int, S ψ h0 h_7 (.it (El.ow (El.int .i64)) [v7] y7 :: .box b0 (v0_0 :: v0_1 :: .int .i64 y0.qlambda :: v0_3 :: v0_4 :: .int .i64 y0.qcount :: .int .i64 y0.qlimit :: .int .i64 y0.qnodes :: .int .i64 y0.qbudget :: .bool y0.qfull :: post0) :: .it (El.ow (El.sl (El.int .i64))) [v0_1] y0.qlater :: .it (El.ow (El.int .i64)) [v0_3] y0.qchosen :: .it (El.ow (El.int .i64)) [v0_4] y0.qfirst :: os) ∧ loopN (p_spec_l26Find_run_b1 rf_spec_l26Find_on y0 y1 y2) n (y6, y7, y8) = some r, ⟨n_2, _, st.pickT 5 [0, 1, 2, 3, 4] (by decide) (by decide), hn⟩, ?_⟩
    rintro n _ y6 v7 y8 h_7 ⟨y7, st, hn⟩
    obtain ⟨m, a, rfl, hp, hs⟩ := loopN_step hn
    rw [p_spec_l26Find_run_b1] at hp
    refine vLen_C (f1.mono st.leU) ?_
    refine bifP hp (fun hc hp => ?_) (fun hc hp => ?_)
    · obtain ⟨e49, hx_3, hp⟩ := obind hp
      refine vIdx_C (f1.mono st.leU) hx_3 fun p49 ad_2 => ?_
      refine ldI_C (f1.mono st.leU) ad_2 hx_3 ?_
      refine ldV_K (st.cells 1 rfl) 0 rfl rfl ?_
      obtain ⟨e56, hx_4, hp⟩ := obind hp
      refine vIdx_C (f0_0.mono st.leU) hx_4 fun p56 ad_3 => ?_
      refine ldV_C f0_0 st.leU ad_3 hx_4 fun u57 f_2 => ?_
      obtain ⟨e59, hx_5, hp⟩ := obind hp
      refine vIdx_C (f_2.mono st.leU) hx_5 fun p59 ad_4 => ?_
      refine ldI_C (f_2.mono st.leU) ad_4 hx_5 ?_
      obtain ⟨l63, hx_6, hp⟩ := obind hp
      refine push_S st 0 rfl (fun _ => ⟨rfl, rfl⟩) rfl rfl hx_6 fun v63 h_8 st => ?_
      dsimp only [List.set] at st
      obtain ⟨e66, hx_7, hp⟩ := obind hp
      refine vIdx_C (st.rdL 0 rfl (frz_int _)) hx_7 fun p66 ad_5 => ?_
      refine ldI_C (st.rdL 0 rfl (frz_int _)) ad_5 hx_7 ?_
      refine ldI_K (st.cells 1 rfl) 2 rfl rfl ?_
      refine bifP hp (fun hc hp => ?_) (fun hc hp => ?_)
      · obtain rfl := Option.some.inj hp
        exact ⟨m, Nat.lt_succ_self _, _, st.pickT 5 [0, 1, 2, 3, 4] (by decide) (by decide), hs⟩
      · obtain rfl := Option.some.inj hp
        exact ⟨m, Nat.lt_succ_self _, _, st.pickT 5 [0, 1, 2, 3, 4] (by decide) (by decide), hs⟩
    · have st := st.freeze 0 rfl (frz_ow (frz_int _))
      dsimp only [List.set] at st
      refine ⟨fun h_9 => ∃ q : Int, ∃ q_2 : Int, ∃ q_3 : Int, ∃ q_4 : Int, ∃ q_5 : Int, ∃ q_6 : Bool, ∃ xs_2 : List (List Int), ∃ v_4 : Value, ∃ xs_3 : List Int, ∃ v_5 : Value, ∃ xs_4 : List Int, ∃ v_6 : Value, S ψ h0 h_9 (.it (El.sl (El.int .i64)) [v7] y7 :: .box b0 (v0_0 :: v_4 :: .int .i64 q :: v_5 :: v_6 :: .int .i64 q_2 :: .int .i64 q_3 :: .int .i64 q_4 :: .int .i64 q_5 :: .bool q_6 :: post0) :: .it (El.ow (El.sl (El.int .i64))) [v_4] xs_2 :: .it (El.ow (El.int .i64)) [v_5] xs_3 :: .it (El.ow (El.int .i64)) [v_6] xs_4 :: os) ∧ p_spec_l26Find_run_k2 rf_spec_l26Find_on y0 y1 y2 q q_2 q_3 q_4 q_5 q_6 xs_2 xs_3 xs_4 = some a, ?_, ?_⟩
      · refine bifP hp (fun hc hp => ?_) (fun hc hp => ?_)
        · refine ldV_K (st.cells 1 rfl) 3 rfl rfl ?_
          refine vLen_C (st.rdL 3 rfl (frz_int _)) ?_
          refine ldV_K (st.cells 1 rfl) 3 rfl rfl ?_
          obtain ⟨l86, hx_9, hp⟩ := obind hp
          refine push_S st 3 rfl (fun _ => ⟨rfl, rfl⟩) rfl rfl hx_9 fun v86 h_11 st => ?_
          dsimp only [List.set] at st
          refine st_box st 1 rfl rfl rfl (st.rdL 3 rfl (frz_int _)).one fun h_12 st => ?_
          dsimp only [List.set] at st
          have st : S ψ h0 h_12 (.box b0 (v0_0 :: v0_1 :: .int .i64 y0.qlambda :: v86 :: v0_4 :: .int .i64 y0.qcount :: .int .i64 y0.qlimit :: .int .i64 y0.qnodes :: .int .i64 y0.qbudget :: .bool y0.qfull :: post0) :: .it (El.ow (El.sl (El.int .i64))) [v0_1] y0.qlater :: .it (El.ow (El.int .i64)) [v86] l86 :: .it (El.ow (El.int .i64)) [v0_4] y0.qfirst :: .it (El.sl (El.int .i64)) [v7] y7 :: os) := st.pickT 5 [1, 2, 3, 4, 0] (by decide) (by decide)
          obtain ⟨r93, hx_10, hp⟩ := obind hp
          obtain ⟨φ_3, L_3, s_3, r_4⟩ := id st
          refine (ih_spec_l26Find_on hx_10 (s_3.upS r_4) (f0_0.mono s_3.ubU) ((frF r_4 4 rfl).mono s_3.ubF)).mono fun v_8 h_13 ⟨v93, v93_2, v93_3, eq_3, t_3⟩ => ⟨eq_3, ?_⟩
          replace st := s_3.downS t_3
          clear t_3 s_3 r_4
          refine ldV_K (st.cells 0 rfl) 3 rfl rfl ?_
          obtain ⟨l100, hx_11, hp⟩ := obind hp
          refine cut_S none (some (y0.qchosen.length : Int)) st 2 rfl hx_11 rfl fun v100 st => ?_
          dsimp only [List.set] at st
          refine st_box st 0 rfl rfl rfl (st.rdL 2 rfl (frz_int _)).one fun h_14 st => ?_
          dsimp only [List.set] at st
          exact ⟨_, _, _, _, _, _, _, _, _, _, _, _, st.pickT 5 [4, 0, 1, 2, 3] (by decide) (by decide), hp⟩
        · exact ⟨_, _, _, _, _, _, _, _, _, _, _, _, st.pickT 5 [0, 1, 2, 3, 4] (by decide) (by decide), hp⟩
      · rintro _ h_9 ⟨q, q_2, q_3, q_4, q_5, q_6, xs_2, v_4, xs_3, v_5, xs_4, v_6, st, hp⟩
        rw [p_spec_l26Find_run_k2] at hp
        have st : S ψ h0 h_9 (.box b0 (v0_0 :: v_4 :: .int .i64 q :: v_5 :: v_6 :: .int .i64 q_2 :: .int .i64 q_3 :: .int .i64 q_4 :: .int .i64 q_5 :: .bool q_6 :: post0) :: .it (El.ow (El.sl (El.int .i64))) [v_4] xs_2 :: .it (El.ow (El.int .i64)) [v_5] xs_3 :: .it (El.ow (El.int .i64)) [v_6] xs_4 :: .it (El.sl (El.int .i64)) [v7] y7 :: os) := st.pickT 5 [1, 2, 3, 4, 0] (by decide) (by decide)
        obtain ⟨r107, hx_8, hp⟩ := obind hp
        obtain ⟨φ_2, L_2, s_2, r_3⟩ := id st
        refine (ih_spec_l26Find_on hx_8 (s_2.upS r_3) (f0_0.mono s_2.ubU) (f1.mono s_2.ubU)).mono fun v_7 h_10 ⟨v107, v107_2, v107_3, eq_2, t_2⟩ => ⟨eq_2, ?_⟩
        replace st := s_2.downS t_2
        clear t_2 s_2 r_3
        obtain rfl := Option.some.inj hp
        obtain rfl := Option.some.inj hs
        exact ⟨v107, v107_2, v107_3, rfl, st.pickT 5 [0, 1, 2, 3] (by decide) (by decide)⟩
theorem rn_spec_l26Find_on : ∀ n, (∀ {ψ : CM} {h0 h : Heap} {os : List Ob} {y0 : T_spec_l26Find} {b0 : Nat} {post0 : List Value} {v0_0 : Value} {v0_1 : Value} {v0_3 : Value} {v0_4 : Value} {y1 : List Int} {v1 : Value} {y2 : Int} {r : T_spec_l26Find} (hp : (pn_spec_l26Find_on n).1 y0 y1 y2 = some r) (st : S ψ h0 h (.box b0 (v0_0 :: v0_1 :: .int .i64 y0.qlambda :: v0_3 :: v0_4 :: .int .i64 y0.qcount :: .int .i64 y0.qlimit :: .int .i64 y0.qnodes :: .int .i64 y0.qbudget :: .bool y0.qfull :: post0) :: .it (El.ow (El.sl (El.int .i64))) [v0_1] y0.qlater :: .it (El.ow (El.int .i64)) [v0_3] y0.qchosen :: .it (El.ow (El.int .i64)) [v0_4] y0.qfirst :: os)) (f0_0 : SlC (UB ψ h0) (El.sl (El.int .i64)) v0_0 y0.qm) (f1 : SlC (UB ψ h0) (El.int .i64) v1 y1), CallsH P id_spec_l26Find_on #[.pointer (some ⟨b0, 0, none⟩), v1, .int .i64 y2] h (fun v h' => ∃ w0 : Value, ∃ w1 : Value, ∃ w2 : Value, v = .tuple #[] ∧ S ψ h0 h' (.box b0 (v0_0 :: w0 :: .int .i64 r.qlambda :: w1 :: w2 :: .int .i64 r.qcount :: .int .i64 r.qlimit :: .int .i64 r.qnodes :: .int .i64 r.qbudget :: .bool r.qfull :: post0) :: .it (El.ow (El.sl (El.int .i64))) [w0] r.qlater :: .it (El.ow (El.int .i64)) [w1] r.qchosen :: .it (El.ow (El.int .i64)) [w2] r.qfirst :: os))) ∧ (∀ {ψ : CM} {h0 h : Heap} {os : List Ob} {y0 : T_spec_l26Find} {b0 : Nat} {post0 : List Value} {v0_0 : Value} {v0_1 : Value} {v0_3 : Value} {v0_4 : Value} {y1 : List Int} {v1 : Value} {y2 : Int} {r : T_spec_l26Find} (hp : (pn_spec_l26Find_on n).2 y0 y1 y2 = some r) (st : S ψ h0 h (.box b0 (v0_0 :: v0_1 :: .int .i64 y0.qlambda :: v0_3 :: v0_4 :: .int .i64 y0.qcount :: .int .i64 y0.qlimit :: .int .i64 y0.qnodes :: .int .i64 y0.qbudget :: .bool y0.qfull :: post0) :: .it (El.ow (El.sl (El.int .i64))) [v0_1] y0.qlater :: .it (El.ow (El.int .i64)) [v0_3] y0.qchosen :: .it (El.ow (El.int .i64)) [v0_4] y0.qfirst :: os)) (f0_0 : SlC (UB ψ h0) (El.sl (El.int .i64)) v0_0 y0.qm) (f1 : SlC (UB ψ h0) (El.int .i64) v1 y1), CallsH P id_spec_l26Find_run #[.pointer (some ⟨b0, 0, none⟩), v1, .int .i64 y2] h (fun v h' => ∃ w0 : Value, ∃ w1 : Value, ∃ w2 : Value, v = .tuple #[] ∧ S ψ h0 h' (.box b0 (v0_0 :: w0 :: .int .i64 r.qlambda :: w1 :: w2 :: .int .i64 r.qcount :: .int .i64 r.qlimit :: .int .i64 r.qnodes :: .int .i64 r.qbudget :: .bool r.qfull :: post0) :: .it (El.ow (El.sl (El.int .i64))) [w0] r.qlater :: .it (El.ow (El.int .i64)) [w1] r.qchosen :: .it (El.ow (El.int .i64)) [w2] r.qfirst :: os))) := by
  intro n
  induction n with
  | zero => exact ⟨fun hp => absurd hp (by simp [pn_spec_l26Find_on]), fun hp => absurd hp (by simp [pn_spec_l26Find_on])⟩
  | succ n ih => exact ⟨rq_spec_l26Find_on ih.1 ih.2, rq_spec_l26Find_run ih.1 ih.2⟩
theorem r_spec_l26Find_on : ∀ {ψ : CM} {h0 h : Heap} {os : List Ob} {y0 : T_spec_l26Find} {b0 : Nat} {post0 : List Value} {v0_0 : Value} {v0_1 : Value} {v0_3 : Value} {v0_4 : Value} {y1 : List Int} {v1 : Value} {y2 : Int} {r : T_spec_l26Find} (hp : p_spec_l26Find_on y0 y1 y2 = some r) (st : S ψ h0 h (.box b0 (v0_0 :: v0_1 :: .int .i64 y0.qlambda :: v0_3 :: v0_4 :: .int .i64 y0.qcount :: .int .i64 y0.qlimit :: .int .i64 y0.qnodes :: .int .i64 y0.qbudget :: .bool y0.qfull :: post0) :: .it (El.ow (El.sl (El.int .i64))) [v0_1] y0.qlater :: .it (El.ow (El.int .i64)) [v0_3] y0.qchosen :: .it (El.ow (El.int .i64)) [v0_4] y0.qfirst :: os)) (f0_0 : SlC (UB ψ h0) (El.sl (El.int .i64)) v0_0 y0.qm) (f1 : SlC (UB ψ h0) (El.int .i64) v1 y1), CallsH P id_spec_l26Find_on #[.pointer (some ⟨b0, 0, none⟩), v1, .int .i64 y2] h (fun v h' => ∃ w0 : Value, ∃ w1 : Value, ∃ w2 : Value, v = .tuple #[] ∧ S ψ h0 h' (.box b0 (v0_0 :: w0 :: .int .i64 r.qlambda :: w1 :: w2 :: .int .i64 r.qcount :: .int .i64 r.qlimit :: .int .i64 r.qnodes :: .int .i64 r.qbudget :: .bool r.qfull :: post0) :: .it (El.ow (El.sl (El.int .i64))) [w0] r.qlater :: .it (El.ow (El.int .i64)) [w1] r.qchosen :: .it (El.ow (El.int .i64)) [w2] r.qfirst :: os)) := (rn_spec_l26Find_on fuel).1
theorem r_spec_l26Find_run : ∀ {ψ : CM} {h0 h : Heap} {os : List Ob} {y0 : T_spec_l26Find} {b0 : Nat} {post0 : List Value} {v0_0 : Value} {v0_1 : Value} {v0_3 : Value} {v0_4 : Value} {y1 : List Int} {v1 : Value} {y2 : Int} {r : T_spec_l26Find} (hp : p_spec_l26Find_run y0 y1 y2 = some r) (st : S ψ h0 h (.box b0 (v0_0 :: v0_1 :: .int .i64 y0.qlambda :: v0_3 :: v0_4 :: .int .i64 y0.qcount :: .int .i64 y0.qlimit :: .int .i64 y0.qnodes :: .int .i64 y0.qbudget :: .bool y0.qfull :: post0) :: .it (El.ow (El.sl (El.int .i64))) [v0_1] y0.qlater :: .it (El.ow (El.int .i64)) [v0_3] y0.qchosen :: .it (El.ow (El.int .i64)) [v0_4] y0.qfirst :: os)) (f0_0 : SlC (UB ψ h0) (El.sl (El.int .i64)) v0_0 y0.qm) (f1 : SlC (UB ψ h0) (El.int .i64) v1 y1), CallsH P id_spec_l26Find_run #[.pointer (some ⟨b0, 0, none⟩), v1, .int .i64 y2] h (fun v h' => ∃ w0 : Value, ∃ w1 : Value, ∃ w2 : Value, v = .tuple #[] ∧ S ψ h0 h' (.box b0 (v0_0 :: w0 :: .int .i64 r.qlambda :: w1 :: w2 :: .int .i64 r.qcount :: .int .i64 r.qlimit :: .int .i64 r.qnodes :: .int .i64 r.qbudget :: .bool r.qfull :: post0) :: .it (El.ow (El.sl (El.int .i64))) [w0] r.qlater :: .it (El.ow (El.int .i64)) [w1] r.qchosen :: .it (El.ow (El.int .i64)) [w2] r.qfirst :: os)) := (rn_spec_l26Find_on fuel).2
theorem r_spec_l26Search {ψ : CM} {h : Heap} (hψ : CLe ψ (hcell h)) {y0 : List (List Int)} {v0 : Value} {y1 : Int} {y2 : Int} {y3 : Int} {r : T_spec_l26Find} (hp : p_spec_l26Search y0 y1 y2 y3 = some r) (f0 : SlC (hcell h) (El.sl (El.int .i64)) v0 y0) : CallsH P id_spec_l26Search #[v0, .int .i64 y1, .int .i64 y2, .int .i64 y3] h (fun v h' => ∃ wb0 : Nat, ∃ w1 : Value, ∃ w2 : Value, ∃ w3 : Value, ∃ w4 : Value, v = .pointer (some ⟨wb0, 0, none⟩) ∧ S ψ h h' [.box wb0 [w1, w2, .int .i64 r.qlambda, w3, w4, .int .i64 r.qcount, .int .i64 r.qlimit, .int .i64 r.qnodes, .int .i64 r.qbudget, .bool r.qfull], .it (El.ow (El.sl (El.int .i64))) [w2] r.qlater, .it (El.ow (El.int .i64)) [w3] r.qchosen, .it (El.ow (El.int .i64)) [w4] r.qfirst]) := by
  apply w_spec_l26Search
  unfold F_spec_l26Search
  rw [p_spec_l26Search] at hp
  have st : S ψ h h [] := S.start hψ
  refine vOne_of (f0.mono st.le).one ?_
  refine new_S st fun b19 h_2 st => ?_
  have st := st.nilO (E := (El.sl (El.int .i64)))
  obtain ⟨n_4, hn⟩ := loop_n hp
  refine ⟨fun n y10 y11 h_3 => ∃ xs : List (List Int), ∃ v_2 : Value, S ψ h h_3 [.box b19 [v0, v_2, .int .i64 y1, (.slice none 0 0), (.slice none 0 0), .int .i64 0, .int .i64 y2, .int .i64 0, .int .i64 y3, .bool false], .it (El.ow (El.sl (El.int .i64))) [v_2] xs] ∧ loopN (p_spec_l26Search_b1 y0 y1 y2 y3) n (y10, y11, xs) = some r, ⟨n_4, _, _, st.pick [1, 0] (by decide), hn⟩, ?_⟩
  rintro n _ y10 y11 h_3 ⟨xs, v_2, st, hn⟩
  obtain ⟨m, a, rfl, hp, hs⟩ := loopN_step hn
  rw [p_spec_l26Search_b1] at hp
  refine vLen_C (f0.mono st.le) ?_
  refine bifP hp (fun hc hp => ?_) (fun hc hp => ?_)
  · obtain ⟨e28, hx, hp⟩ := obind hp
    refine vIdx_C (f0.mono st.le) hx fun p28 ad => ?_
    refine ldV_C f0 st.le ad hx fun u29 f => ?_
    refine vLen_C (f.mono st.le) ?_
    obtain ⟨l32, hx_2, hp⟩ := obind hp
    refine make_S (E := (El.int .i64)) st rfl hx_2 fun v32 h_4 st => ?_
    obtain ⟨e35, hx_3, hp⟩ := obind hp
    refine vIdx_C (f0.mono st.le) hx_3 fun p35 ad_2 => ?_
    refine ldV_C f0 st.le ad_2 hx_3 fun u36 f_2 => ?_
    refine vLen_C (f_2.mono st.le) ?_
    obtain ⟨n_3, hn_2⟩ := loop_n hp
    refine ⟨fun n_2 y13 h_5 => ∃ xs_2 : List Int, S ψ h h_5 [.it (El.ow (El.int .i64)) [v32] xs_2, .box b19 [v0, v_2, .int .i64 y1, (.slice none 0 0), (.slice none 0 0), .int .i64 0, .int .i64 y2, .int .i64 0, .int .i64 y3, .bool false], .it (El.ow (El.sl (El.int .i64))) [v_2] xs] ∧ loopN (p_spec_l26Search_b2 y0 y1 y10 y11 xs) n_2 (y13, xs_2) = some a, ⟨n_3, _, st.pick [0, 1, 2] (by decide), hn_2⟩, ?_⟩
    rintro n_2 _ y13 h_5 ⟨xs_2, st, hn_2⟩
    obtain ⟨m_2, a_2, rfl, hp, hs_2⟩ := loopN_step hn_2
    rw [p_spec_l26Search_b2] at hp
    refine bifP hp (fun hc hp => ?_) (fun hc hp => ?_)
    · obtain ⟨e48, hx_4, hp⟩ := obind hp
      refine vIdx_C (st.rdL 0 rfl (frz_int _)) hx_4 fun p48 ad_3 => ?_
      refine ldI_C (st.rdL 0 rfl (frz_int _)) ad_3 hx_4 ?_
      obtain ⟨e52, hx_5, hp⟩ := obind hp
      refine vIdx_C (f0.mono st.le) hx_5 fun p52 ad_4 => ?_
      refine ldV_C f0 st.le ad_4 hx_5 fun u53 f_3 => ?_
      obtain ⟨e55, hx_6, hp⟩ := obind hp
      refine vIdx_C (f_3.mono st.le) hx_6 fun p55 ad_5 => ?_
      refine ldI_C (f_3.mono st.le) ad_5 hx_6 ?_
      obtain ⟨e58, hx_7, hp⟩ := obind hp
      refine vIdx_C (st.rdL 0 rfl (frz_int _)) hx_7 fun p58 ad_6 => ?_
      refine st1_S st 0 rfl ad_6 hx_7 rfl (fun _ => ⟨rfl, rfl⟩) fun h_6 st => ?_
      dsimp only [List.set] at st
      obtain rfl := Option.some.inj hp
      exact ⟨m_2, Nat.lt_succ_self _, _, st.pick [0, 1, 2] (by decide), hs_2⟩
    · refine ldV_K (st.cells 1 rfl) 1 rfl rfl ?_
      refine vOne_of (st.rdL 0 rfl (frz_int _)).one ?_
      have st := st.freeze 0 rfl (frz_ow (frz_int _))
      dsimp only [List.set] at st
      have st := st.copyF 0 rfl
      obtain ⟨l66, hx_8, hp⟩ := obind hp
      refine push_it st 2 rfl rfl rfl hx_8 fun v66 h_7 st => ?_
      dsimp only [List.set] at st
      refine st_box st 1 rfl rfl rfl (st.rdL 2 rfl (frz_sl _)).one fun h_8 st => ?_
      dsimp only [List.set] at st
      obtain ⟨e70, hx_9, hp⟩ := obind hp
      refine vIdx_C (st.rdF 0 rfl) hx_9 fun p70 ad_7 => ?_
      refine ldI_C (st.rdF 0 rfl) ad_7 hx_9 ?_
      refine bifP hp (fun hc hp => ?_) (fun hc hp => ?_)
      · obtain rfl := Option.some.inj hp
        obtain rfl := Option.some.inj hs_2
        exact ⟨m, Nat.lt_succ_self _, _, _, st.pick [1, 2] (by decide), hs⟩
      · obtain rfl := Option.some.inj hp
        obtain rfl := Option.some.inj hs_2
        exact ⟨m, Nat.lt_succ_self _, _, _, st.pick [1, 2] (by decide), hs⟩
  · refine bifP hp (fun hc hp => ?_) (fun hc hp => ?_)
    · refine vLen_C (f0.mono st.le) ?_
      obtain ⟨l78, hx_10, hp⟩ := obind hp
      refine make_S (E := (El.int .i64)) st rfl hx_10 fun v78 h_9 st => ?_
      have st := st.freeze 0 rfl (frz_ow (frz_int _))
      dsimp only [List.set] at st
      have st := st.nil (El.int .i64)
      have st := st.nil (El.int .i64)
      have st : S ψ h h_9 [.box b19 [v0, v_2, .int .i64 y1, (.slice none 0 0), (.slice none 0 0), .int .i64 0, .int .i64 y2, .int .i64 0, .int .i64 y3, .bool false], .it (El.ow (El.sl (El.int .i64))) [v_2] xs, .it (El.ow (El.int .i64)) [(.slice none 0 0)] ([] : List Int), .it (El.ow (El.int .i64)) [(.slice none 0 0)] ([] : List Int), .it (El.sl (El.int .i64)) [v78] l78] := st.pick [3, 4, 1, 0, 2] (by decide)
      obtain ⟨r79, hx_11, hp⟩ := obind hp
      obtain ⟨φ, L, s, r_2⟩ := id st
      refine (r_spec_l26Find_run hx_11 (s.upS r_2) (f0.mono s.ubH) ((frF r_2 4 rfl).mono s.ubF)).mono fun v_3 h_10 ⟨v79, v79_2, v79_3, eq, t⟩ => ⟨eq, ?_⟩
      replace st := s.downS t
      clear t s r_2
      obtain rfl := Option.some.inj hp
      obtain rfl := Option.some.inj hs
      exact ⟨b19, v0, v79, v79_2, v79_3, rfl, st.pick [0, 1, 2, 3] (by decide)⟩
    · have st := st.nilO (E := (El.int .i64))
      have st := st.nilO (E := (El.int .i64))
      obtain rfl := Option.some.inj hp
      obtain rfl := Option.some.inj hs
      exact ⟨b19, v0, v_2, (.slice none 0 0), (.slice none 0 0), rfl, st.pick [2, 3, 1, 0] (by decide)⟩
theorem r_spec_l26First {ψ : CM} {h : Heap} (hψ : CLe ψ (hcell h)) {m0 : List (List Int)} {v0 : Value} {lambda1 : Int} {budget2 : Int} {r : (List Int) × Int} (hp : p_spec_l26First m0 lambda1 budget2 = some r) (f0 : SlC (hcell h) (El.sl (El.int .i64)) v0 m0) : CallsH P id_spec_l26First #[v0, .int .i64 lambda1, .int .i64 budget2] h (fun v h' => ∃ w0 : Value, v = .tuple #[w0, .int .i64 r.2] ∧ S ψ h h' [.it (El.ow (El.int .i64)) [w0] r.1]) := by
  apply w_spec_l26First
  unfold F_spec_l26First
  rw [p_spec_l26First] at hp
  have st : S ψ h h [] := S.start hψ
  obtain ⟨r12, hx, hp⟩ := obind hp
  obtain ⟨φ, L, s, r_2⟩ := id st
  refine (r_spec_l26Search s.fle hx (f0.mono st.le)).mono fun v_2 h_2 ⟨b12, v12, v12_2, v12_3, v12_4, eq, t⟩ => ⟨_, eq, ?_⟩
  replace st := join4 s r_2 t
  clear t s r_2
  refine ldI_K (st.cells 0 rfl) 5 rfl rfl ?_
  refine bifP hp (fun hc hp => ?_) (fun hc hp => ?_)
  · refine ldV_K (st.cells 0 rfl) 4 rfl rfl ?_
    obtain rfl := Option.some.inj hp
    exact ⟨v12_4, rfl, st.pick [3] (by decide)⟩
  · refine ldB_K (st.cells 0 rfl) 9 rfl rfl ?_
    refine bifP hp (fun hc hp => ?_) (fun hc hp => ?_)
    · have st := st.nilO (E := (El.int .i64))
      obtain rfl := Option.some.inj hp
      exact ⟨(.slice none 0 0), rfl, st.pick [0] (by decide)⟩
    · have st := st.nilO (E := (El.int .i64))
      obtain rfl := Option.some.inj hp
      exact ⟨(.slice none 0 0), rfl, st.pick [0] (by decide)⟩
theorem r_spec_ChooseOrbits {ψ : CM} {h : Heap} (hψ : CLe ψ (hcell h)) {m0 : List (List Int)} {v0 : Value} {lambda1 : Int} {budget2 : Int} {r : (List Int) × Int} (hp : p_spec_ChooseOrbits m0 lambda1 budget2 = some r) (f0 : SlC (hcell h) (El.sl (El.int .i64)) v0 m0) : CallsH P id_spec_ChooseOrbits #[v0, .int .i64 lambda1, .int .i64 budget2] h (fun v h' => ∃ w0 : Value, v = .tuple #[w0, .int .i64 r.2] ∧ S ψ h h' [.it (El.ow (El.int .i64)) [w0] r.1]) := by
  apply w_spec_ChooseOrbits
  unfold F_spec_ChooseOrbits
  rw [p_spec_ChooseOrbits] at hp
  have st : S ψ h h [] := S.start hψ
  obtain ⟨r9, hx, hp⟩ := obind hp
  obtain ⟨φ, L, s, r_2⟩ := id st
  refine (r_spec_l26Ok s.fle hx (f0.mono st.le)).mono fun v_2 h_2 ⟨eq, t⟩ => ⟨_, eq, ?_⟩
  replace st := join0 s r_2 t
  clear t s r_2
  refine bifP hp (fun hc hp => ?_) (fun hc hp => ?_)
  · have st := st.nilO (E := (El.int .i64))
    obtain rfl := Option.some.inj hp
    exact ⟨(.slice none 0 0), rfl, st.pick [0] (by decide)⟩
  · refine ⟨fun h_3 => S ψ h h_3 [] ∧ p_spec_ChooseOrbits_k1 m0 lambda1 budget2 = some r, ?_, ?_⟩
    · obtain ⟨r12, hx_3, hp⟩ := obind hp
      obtain ⟨φ_3, L_3, s_3, r_4⟩ := id st
      refine (r_spec_l09Budget s_3.fle hx_3).mono fun v_4 h_5 ⟨eq_3, t_3⟩ => ⟨_, eq_3, ?_⟩
      replace st := join0 s_3 r_4 t_3
      clear t_3 s_3 r_4
      refine bifP hp (fun hc hp => ?_) (fun hc hp => ?_)
      · have st := st.nilO (E := (El.int .i64))
        obtain rfl := Option.some.inj hp
        exact ⟨(.slice none 0 0), rfl, st.pick [0] (by decide)⟩
      · obtain ⟨r16, hx_4, hp⟩ := obind hp
        obtain ⟨φ_4, L_4, s_4, r_5⟩ := id st
        refine (r_spec_l26Lambda s_4.fle hx_4).mono fun v_5 h_6 ⟨eq_4, t_4⟩ => ⟨_, eq_4, ?_⟩
        replace st := join0 s_4 r_5 t_4
        clear t_4 s_4 r_5
        refine bifP hp (fun hc hp => ?_) (fun hc hp => ?_)
        · have st := st.nilO (E := (El.int .i64))
          obtain rfl := Option.some.inj hp
          exact ⟨(.slice none 0 0), rfl, st.pick [0] (by decide)⟩
        · exact ⟨st.pick [] (by decide), hp⟩
    · rintro _ h_3 ⟨st, hp⟩
      rw [p_spec_ChooseOrbits_k1] at hp
      obtain ⟨r22, hx_2, hp⟩ := obind hp
      obtain ⟨φ_2, L_2, s_2, r_3⟩ := id st
      refine (r_spec_l26First s_2.fle hx_2 (f0.mono st.le)).mono fun v_3 h_4 ⟨v22, eq_2, t_2⟩ => ⟨_, _, eq_2, ?_⟩
      replace st := join1 s_2 r_3 t_2
      clear t_2 s_2 r_3
      obtain rfl := Option.some.inj hp
      exact ⟨v22, rfl, st.pick [0] (by decide)⟩
theorem r_impl_within {ψ : CM} {h : Heap} (hψ : CLe ψ (hcell h)) {n0 : Int} {low1 : Int} {high2 : Int} {r : Bool} (hp : p_impl_within n0 low1 high2 = some r)  : CallsH P id_impl_within #[.int .i64 n0, .int .i64 low1, .int .i64 high2] h (fun v h' => v = .bool r ∧ S ψ h h' []) := by
  apply w_impl_within
  unfold F_impl_within
  rw [p_impl_within] at hp
  have st : S ψ h h [] := S.start hψ
  refine bifP hp (fun hc hp => ?_) (fun hc hp => ?_)
  · obtain rfl := Option.some.inj hp
    exact ⟨rfl, st.pick [] (by decide)⟩
  · obtain rfl := Option.some.inj hp
    exact ⟨rfl, st.pick [] (by decide)⟩
theorem r_impl_size_Lint64 {ψ : CM} {h : Heap} (hψ : CLe ψ (hcell h)) {list0 : List (List Int)} {v0 : Value} {r : Int} (hp : p_impl_size_Lint64 list0 = some r) (f0 : SlC (hcell h) (El.sl (El.int .i64)) v0 list0) : CallsH P id_impl_size_Lint64 #[v0] h (fun v h' => v = .int .i64 r ∧ S ψ h h' []) := by
  apply w_impl_size_Lint64
  unfold F_impl_size_Lint64
  rw [p_impl_size_Lint64] at hp
  have st : S ψ h h [] := S.start hψ
  refine vLen_C (f0.mono st.le) ?_
  obtain rfl := Option.some.inj hp
  exact ⟨rfl, st.pick [] (by decide)⟩
theorem r_slices_IndexFunc_LLint64_Lint64 {ψ : CM} {h : Heap} (hψ : CLe ψ (hcell h)) {s0 : List (List Int)} {v0 : Value} {fn1 : (List Int) → Option Bool} {g1 : Nat} {cap1 : List Value} {r : Int} (hp : p_slices_IndexFunc_LLint64_Lint64 s0 fn1 = some r) (f0 : SlC (hcell h) (El.sl (El.int .i64)) v0 s0) (o1 : ctx.okf g1 = true) (k1 : ∀ {h1 : Heap}, ExtH h h1 → ∀ {ψ1 : CM}, CLe ψ1 (hcell h1) → ∀ {y0 : List Int} {u0_0 : Value} {r1 : Bool}, fn1 y0 = some r1 → SlC (hcell h1) (El.int .i64) u0_0 y0 → CallsH P g1 (([u0_0] : List Value) ++ cap1).toArray h1 (fun v h' => v = .bool r1 ∧ S ψ1 h1 h' [])) : CallsH P id_slices_IndexFunc_LLint64_Lint64 #[v0, .func (.func g1) #[] cap1.toArray] h (fun v h' => v = .int .i64 r ∧ S ψ h h' []) := by
  apply w_slices_IndexFunc_LLint64_Lint64
  unfold F_slices_IndexFunc_LLint64_Lint64
  rw [p_slices_IndexFunc_LLint64_Lint64] at hp
  have st : S ψ h h [] := S.start hψ
  refine vLen_C (f0.mono st.le) ?_
  obtain ⟨n_2, hn⟩ := loop_n hp
  refine ⟨fun n y8 h_2 => S ψ h h_2 [] ∧ loopN (p_slices_IndexFunc_LLint64_Lint64_b1 s0 fn1) n y8 = some r, ⟨n_2, st.pick [] (by decide), hn⟩, ?_⟩
  rintro n _ y8 h_2 ⟨st, hn⟩
  obtain ⟨m, a, rfl, hp, hs⟩ := loopN_step hn
  rw [p_slices_IndexFunc_LLint64_Lint64_b1] at hp
  refine bifP hp (fun hc hp => ?_) (fun hc hp => ?_)
  · obtain ⟨e14, hx, hp⟩ := obind hp
    refine vIdx_C (f0.mono st.le) hx fun p14 ad => ?_
    refine ldV_C f0 st.le ad hx fun u15 f => ?_
    obtain ⟨r16, hx_2, hp⟩ := obind hp
    obtain ⟨φ, L, s, r_2⟩ := id st
    refine vOkf_of o1 ?_
    refine (k1 st.ext s.fle hx_2 (f.mono st.le)).mono fun v_2 h_3 ⟨eq, t⟩ => ⟨_, eq, ?_⟩
    replace st := join0 s r_2 t
    clear t s r_2
    refine bifP hp (fun hc hp => ?_) (fun hc hp => ?_)
    · obtain rfl := Option.some.inj hp
      obtain rfl := Option.some.inj hs
      exact ⟨rfl, st.pick [] (by decide)⟩
    · obtain rfl := Option.some.inj hp
      exact ⟨m, Nat.lt_succ_self _, st.pick [] (by decide), hs⟩
  · obtain rfl := Option.some.inj hp
    obtain rfl := Option.some.inj hs
    exact ⟨rfl, st.pick [] (by decide)⟩
theorem r_slices_ContainsFunc_LLint64_Lint64 {ψ : CM} {h : Heap} (hψ : CLe ψ (hcell h)) {s0 : List (List Int)} {v0 : Value} {fn1 : (List Int) → Option Bool} {g1 : Nat} {cap1 : List Value} {r : Bool} (hp : p_slices_ContainsFunc_LLint64_Lint64 s0 fn1 = some r) (f0 : SlC (hcell h) (El.sl (El.int .i64)) v0 s0) (o1 : ctx.okf g1 = true) (k1 : ∀ {h1 : Heap}, ExtH h h1 → ∀ {ψ1 : CM}, CLe ψ1 (hcell h1) → ∀ {y0 : List Int} {u0_0 : Value} {r1 : Bool}, fn1 y0 = some r1 → SlC (hcell h1) (El.int .i64) u0_0 y0 → CallsH P g1 (([u0_0] : List Value) ++ cap1).toArray h1 (fun v h' => v = .bool r1 ∧ S ψ1 h1 h' [])) : CallsH P id_slices_ContainsFunc_LLint64_Lint64 #[v0, .func (.func g1) #[] cap1.toArray] h (fun v h' => v = .bool r ∧ S ψ h h' []) := by
  apply w_slices_ContainsFunc_LLint64_Lint64
  unfold F_slices_ContainsFunc_LLint64_Lint64
  rw [p_slices_ContainsFunc_LLint64_Lint64] at hp
  have st : S ψ h h [] := S.start hψ
  obtain ⟨r7, hx, hp⟩ := obind hp
  obtain ⟨φ, L, s, r_2⟩ := id st
  refine (r_slices_IndexFunc_LLint64_Lint64 s.fle hx (f0.mono st.le) o1 (fun hx1 => k1 (st.ext.trans hx1))).mono fun v_2 h_2 ⟨eq, t⟩ => ⟨_, eq, ?_⟩
  replace st := join0 s r_2 t
  clear t s r_2
  obtain rfl := Option.some.inj hp
  exact ⟨rfl, st.pick [] (by decide)⟩
theorem r_slices_IndexFunc_Lint64_int64 {ψ : CM} {h : Heap} (hψ : CLe ψ (hcell h)) {s0 : List Int} {v0 : Value} {fn1 : Int → Option Bool} {g1 : Nat} {cap1 : List Value} {r : Int} (hp : p_slices_IndexFunc_Lint64_int64 s0 fn1 = some r) (f0 : SlC (hcell h) (El.int .i64) v0 s0) (o1 : ctx.okf g1 = true) (k1 : ∀ {h1 : Heap}, ExtH h h1 → ∀ {ψ1 : CM}, CLe ψ1 (hcell h1) → ∀ {y0 : Int} {r1 : Bool}, fn1 y0 = some r1 → CallsH P g1 (([.int .i64 y0] : List Value) ++ cap1).toArray h1 (fun v h' => v = .bool r1 ∧ S ψ1 h1 h' [])) : CallsH P id_slices_IndexFunc_Lint64_int64 #[v0, .func (.func g1) #[] cap1.toArray] h (fun v h' => v = .int .i64 r ∧ S ψ h h' []) := by
  apply w_slices_IndexFunc_Lint64_int64
  unfold F_slices_IndexFunc_Lint64_int64
  rw [p_slices_IndexFunc_Lint64_int64] at hp
  have st : S ψ h h [] := S.start hψ
  refine vLen_C (f0.mono st.le) ?_
  obtain ⟨n_2, hn⟩ := loop_n hp
  refine ⟨fun n y8 h_2 => S ψ h h_2 [] ∧ loopN (p_slices_IndexFunc_Lint64_int64_b1 s0 fn1) n y8 = some r, ⟨n_2, st.pick [] (by decide), hn⟩, ?_⟩
  rintro n _ y8 h_2 ⟨st, hn⟩
  obtain ⟨m, a, rfl, hp, hs⟩ := loopN_step hn
  rw [p_slices_IndexFunc_Lint64_int64_b1] at hp
  refine bifP hp (fun hc hp => ?_) (fun hc hp => ?_)
  · obtain ⟨e14, hx, hp⟩ := obind hp
    refine vIdx_C (f0.mono st.le) hx fun p14 ad => ?_
    refine ldI_C (f0.mono st.le) ad hx ?_
    obtain ⟨r16, hx_2, hp⟩ := obind hp
    obtain ⟨φ, L, s, r_2⟩ := id st
    refine vOkf_of o1 ?_
    refine (k1 st.ext s.fle hx_2).mono fun v_2 h_3 ⟨eq, t⟩ => ⟨_, eq, ?_⟩
    replace st := join0 s r_2 t
    clear t s r_2
    refine bifP hp (fun hc hp => ?_) (fun hc hp => ?_)
    · obtain rfl := Option.some.inj hp
      obtain rfl := Option.some.inj hs
      exact ⟨rfl, st.pick [] (by decide)⟩
    · obtain rfl := Option.some.inj hp
      exact ⟨m, Nat.lt_succ_self _, st.pick [] (by decide), hs⟩
  · obtain rfl := Option.some.inj hp
    obtain rfl := Option.some.inj hs
    exact ⟨rfl, st.pick [] (by decide)⟩
theorem r_slices_ContainsFunc_Lint64_int64 {ψ : CM} {h : Heap} (hψ : CLe ψ (hcell h)) {s0 : List Int} {v0 : Value} {fn1 : Int → Option Bool} {g1 : Nat} {cap1 : List Value} {r : Bool} (hp : p_slices_ContainsFunc_Lint64_int64 s0 fn1 = some r) (f0 : SlC (hcell h) (El.int .i64) v0 s0) (o1 : ctx.okf g1 = true) (k1 : ∀ {h1 : Heap}, ExtH h h1 → ∀ {ψ1 : CM}, CLe ψ1 (hcell h1) → ∀ {y0 : Int} {r1 : Bool}, fn1 y0 = some r1 → CallsH P g1 (([.int .i64 y0] : List Value) ++ cap1).toArray h1 (fun v h' => v = .bool r1 ∧ S ψ1 h1 h' [])) : CallsH P id_slices_ContainsFunc_Lint64_int64 #[v0, .func (.func g1) #[] cap1.toArray] h (fun v h' => v = .bool r ∧ S ψ h h' []) := by
  apply w_slices_ContainsFunc_Lint64_int64
  unfold F_slices_ContainsFunc_Lint64_int64
  rw [p_slices_ContainsFunc_Lint64_int64] at hp
  have st : S ψ h h [] := S.start hψ
  obtain ⟨r7, hx, hp⟩ := obind hp
  obtain ⟨φ, L, s, r_2⟩ := id st
  refine (r_slices_IndexFunc_Lint64_int64 s.fle hx (f0.mono st.le) o1 (fun hx1 => k1 (st.ext.trans hx1))).mono fun v_2 h_2 ⟨eq, t⟩ => ⟨_, eq, ?_⟩
  replace st := join0 s r_2 t
  clear t s r_2
  obtain rfl := Option.some.inj hp
  exact ⟨rfl, st.pick [] (by decide)⟩
theorem r_impl_areIn_1 {ψ : CM} {h : Heap} (hψ : CLe ψ (hcell h)) {x0 : Int} {y1 : Int} {p1 : Addr} {r : Bool} (hp : p_impl_areIn_1 x0 y1 = some r) (ck1 : CellsC (hcell h) p1 [.int .i64 y1]) : CallsH P id_impl_areIn_1 #[.int .i64 x0, .pointer (some p1)] h (fun v h' => v = .bool r ∧ S ψ h h' []) := by
  apply w_impl_areIn_1
  unfold F_impl_areIn_1
  rw [p_impl_areIn_1] at hp
  have st : S ψ h h [] := S.start hψ
  refine ldI_K (ck1.mono st.le) 0 rfl rfl ?_
  obtain ⟨r7, hx, hp⟩ := obind hp
  obtain ⟨φ, L, s, r_2⟩ := id st
  refine (r_impl_within s.fle hx).mono fun v_2 h_2 ⟨eq, t⟩ => ⟨_, eq, ?_⟩
  replace st := join0 s r_2 t
  clear t s r_2
  obtain rfl := Option.some.inj hp
  exact ⟨rfl, st.pick [] (by decide)⟩
theorem r_impl_areIn {ψ : CM} {h : Heap} (hψ : CLe ψ (hcell h)) {q0 : Int} {list1 : List Int} {v1 : Value} {r : Bool} (hp : p_impl_areIn q0 list1 = some r) (f1 : SlC (hcell h) (El.int .i64) v1 list1) : CallsH P id_impl_areIn #[.int .i64 q0, v1] h (fun v h' => v = .bool r ∧ S ψ h h' []) := by
  apply w_impl_areIn
  unfold F_impl_areIn
  rw [p_impl_areIn] at hp
  have st : S ψ h h [] := S.start hψ
  refine new_S st fun b2 h_2 st => ?_
  obtain ⟨r7, hx, hp⟩ := obind hp
  obtain ⟨φ, L, s, r_2⟩ := id st
  refine (r_slices_ContainsFunc_Lint64_int64 s.fle hx (f1.mono st.le) (by kernel_rfl) (fun hx1 => fun hψ1 => fun hp1  => r_impl_areIn_1 hψ1 hp1 ((st.cells 0 rfl).mono (CLe.ext hx1)))).mono fun v_2 h_3 ⟨eq, t⟩ => ⟨_, eq, ?_⟩
  replace st := join0 s r_2 t
  clear t s r_2
  obtain rfl := Option.some.inj hp
  exact ⟨rfl, st.pick [] (by decide)⟩
theorem r_impl_isCounts_1 {ψ : CM} {h : Heap} (hψ : CLe ψ (hcell h)) {row0 : List Int} {v0 : Value} {y1 : List (List Int)} {p1 : Addr} {v1 : Value} {r : Bool} (hp : p_impl_isCounts_1 row0 y1 = some r) (f0 : SlC (hcell h) (El.int .i64) v0 row0) (ck1 : CellsC (hcell h) p1 [v1]) (f1 : SlC (hcell h) (El.sl (El.int .i64)) v1 y1) : CallsH P id_impl_isCounts_1 #[v0, .pointer (some p1)] h (fun v h' => v = .bool r ∧ S ψ h h' []) := by
  apply w_impl_isCounts_1
  unfold F_impl_isCounts_1
  rw [p_impl_isCounts_1] at hp
  have st : S ψ h h [] := S.start hψ
  refine vLen_C (f0.mono st.le) ?_
  refine ldV_K (ck1.mono st.le) 0 rfl rfl ?_
  obtain ⟨e7, hx, hp⟩ := obind hp
  refine vIdx_C (f1.mono st.le) hx fun p7 ad => ?_
  refine ldV_C f1 st.le ad hx fun u8 f => ?_
  refine vLen_C (f.mono st.le) ?_
  refine bifP hp (fun hc hp => ?_) (fun hc hp => ?_)
  · obtain rfl := Option.some.inj hp
    exact ⟨rfl, st.pick [] (by decide)⟩
  · obtain ⟨r13, hx_2, hp⟩ := obind hp
    obtain ⟨φ, L, s, r_2⟩ := id st
    refine (r_impl_areIn s.fle hx_2 (f0.mono st.le)).mono fun v_2 h_2 ⟨eq, t⟩ => ⟨_, eq, ?_⟩
    replace st := join0 s r_2 t
    clear t s r_2
    obtain rfl := Option.some.inj hp
    exact ⟨rfl, st.pick [] (by decide)⟩
theorem r_impl_isCounts {ψ : CM} {h : Heap} (hψ : CLe ψ (hcell h)) {m0 : List (List Int)} {v0 : Value} {r : Bool} (hp : p_impl_isCounts m0 = some r) (f0 : SlC (hcell h) (El.sl (El.int .i64)) v0 m0) : CallsH P id_impl_isCounts #[v0] h (fun v h' => v = .bool r ∧ S ψ h h' []) := by
  apply w_impl_isCounts
  unfold F_impl_isCounts
  rw [p_impl_isCounts] at hp
  have st : S ψ h h [] := S.start hψ
  refine vOne_of (f0.mono st.le).one ?_
  refine new_S st fun b1 h_2 st => ?_
  refine ⟨fun h_3 => S ψ h h_3 [.box b1 [v0]] ∧ p_impl_isCounts_k1 m0 = some r, ?_, ?_⟩
  · refine ldV_K (st.cells 0 rfl) 0 rfl rfl ?_
    obtain ⟨r4, hx_2, hp⟩ := obind hp
    obtain ⟨φ_2, L_2, s_2, r_3⟩ := id st
    refine (r_impl_size_Lint64 s_2.fle hx_2 (f0.mono st.le)).mono fun v_3 h_5 ⟨eq_2, t_2⟩ => ⟨_, eq_2, ?_⟩
    replace st := join0 s_2 r_3 t_2
    clear t_2 s_2 r_3
    obtain ⟨r5, hx_3, hp⟩ := obind hp
    obtain ⟨φ_3, L_3, s_3, r_4⟩ := id st
    refine (r_impl_within s_3.fle hx_3).mono fun v_4 h_6 ⟨eq_3, t_3⟩ => ⟨_, eq_3, ?_⟩
    replace st := join0 s_3 r_4 t_3
    clear t_3 s_3 r_4
    refine bifP hp (fun hc hp => ?_) (fun hc hp => ?_)
    · obtain rfl := Option.some.inj hp
      exact ⟨rfl, st.pick [] (by decide)⟩
    · refine ldV_K (st.cells 0 rfl) 0 rfl rfl ?_
      obtain ⟨e9, hx_4, hp⟩ := obind hp
      refine vIdx_C (f0.mono st.le) hx_4 fun p9 ad => ?_
      refine ldV_C f0 st.le ad hx_4 fun u10 f => ?_
      refine vLen_C (f.mono st.le) ?_
      refine bifP hp (fun hc hp => ?_) (fun hc hp => ?_)
      · obtain rfl := Option.some.inj hp
        exact ⟨rfl, st.pick [] (by decide)⟩
      · exact ⟨st.pick [0] (by decide), hp⟩
  · rintro _ h_3 ⟨st, hp⟩
    rw [p_impl_isCounts_k1] at hp
    refine ldV_K (st.cells 0 rfl) 0 rfl rfl ?_
    obtain ⟨r16, hx, hp⟩ := obind hp
    obtain ⟨φ, L, s, r_2⟩ := id st
    refine (r_slices_ContainsFunc_LLint64_Lint64 s.fle hx (f0.mono st.le) (by kernel_rfl) (fun hx1 => fun hψ1 => fun hp1 ff0 => r_impl_isCounts_1 hψ1 hp1 ff0 ((st.cells 0 rfl).mono (CLe.ext hx1)) ((f0.mono st.le).mono (CLe.ext hx1)))).mono fun v_2 h_4 ⟨eq, t⟩ => ⟨_, eq, ?_⟩
    replace st := join0 s r_2 t
    clear t s r_2
    obtain rfl := Option.some.inj hp
    exact ⟨rfl, st.pick [] (by decide)⟩
theorem r_impl_isBudget {ψ : CM} {h : Heap} (hψ : CLe ψ (hcell h)) {n0 : Int} {r : Bool} (hp : p_impl_isBudget n0 = some r)  : CallsH P id_impl_isBudget #[.int .i64 n0] h (fun v h' => v = .bool r ∧ S ψ h h' []) := by
  apply w_impl_isBudget
  unfold F_impl_isBudget
  rw [p_impl_isBudget] at hp
  have st : S ψ h h [] := S.start hψ
  obtain ⟨r4, hx, hp⟩ := obind hp
  obtain ⟨φ, L, s, r_2⟩ := id st
  refine (r_impl_within s.fle hx).mono fun v_2 h_2 ⟨eq, t⟩ => ⟨_, eq, ?_⟩
  replace st := join0 s r_2 t
  clear t s r_2
  obtain rfl := Option.some.inj hp
  exact ⟨rfl, st.pick [] (by decide)⟩
theorem r_impl_isLambda {ψ : CM} {h : Heap} (hψ : CLe ψ (hcell h)) {lambda0 : Int} {r : Bool} (hp : p_impl_isLambda lambda0 = some r)  : CallsH P id_impl_isLambda #[.int .i64 lambda0] h (fun v h' => v = .bool r ∧ S ψ h h' []) := by
  apply w_impl_isLambda
  unfold F_impl_isLambda
  rw [p_impl_isLambda] at hp
  have st : S ψ h h [] := S.start hψ
  obtain ⟨r4, hx, hp⟩ := obind hp
  obtain ⟨φ, L, s, r_2⟩ := id st
  refine (r_impl_within s.fle hx).mono fun v_2 h_2 ⟨eq, t⟩ => ⟨_, eq, ?_⟩
  replace st := join0 s r_2 t
  clear t s r_2
  obtain rfl := Option.some.inj hp
  exact ⟨rfl, st.pick [] (by decide)⟩
theorem r_impl_chooser_change {ψ : CM} {h0 h : Heap} {os : List Ob} {c0 : T_impl_chooser} {b0 : Nat} {post0 : List Value} {v0_2 : Value} {v0_5 : Value} {v0_6 : Value} {v0_7 : Value} {v0_9 : Value} {sums1 : List Int} {v1 : Value} {column2 : Int} {factor3 : Int} {r : List Int} (hp : p_impl_chooser_change c0 sums1 column2 factor3 = some r) (st : S ψ h0 h (.box b0 (.int .i64 c0.qcounter.qleft :: .bool c0.qcounter.qspent :: v0_2 :: .int .i64 c0.qlambda :: .int .i64 c0.qlimit :: v0_5 :: v0_6 :: v0_7 :: .int .i64 c0.qcount :: v0_9 :: post0) :: .it (El.ow (El.int .i64)) [v1] sums1 :: os)) (f0_2 : SlC (UB ψ h0) (El.sl (El.int .i64)) v0_2 c0.qmatrix) : CallsH P id_impl_chooser_change #[.pointer (some ⟨b0, 0, none⟩), v1, .int .i64 column2, .int .i64 factor3] h (fun v h' => v = .tuple #[] ∧ S ψ h0 h' (.box b0 (.int .i64 c0.qcounter.qleft :: .bool c0.qcounter.qspent :: v0_2 :: .int .i64 c0.qlambda :: .int .i64 c0.qlimit :: v0_5 :: v0_6 :: v0_7 :: .int .i64 c0.qcount :: v0_9 :: post0) :: .it (El.ow (El.int .i64)) [v1] r :: os)) := by
  apply w_impl_chooser_change
  unfold F_impl_chooser_change
  rw [p_impl_chooser_change] at hp
  refine ldV_K (st.cells 0 rfl) 2 rfl rfl ?_
  refine vLen_C (f0_2.mono st.leU) ?_
  obtain ⟨n_2, hn⟩ := loop_n hp
  refine ⟨fun n y15 h_2 => ∃ xs : List Int, S ψ h0 h_2 (.box b0 (.int .i64 c0.qcounter.qleft :: .bool c0.qcounter.qspent :: v0_2 :: .int .i64 c0.qlambda :: .int .i64 c0.qlimit :: v0_5 :: v0_6 :: v0_7 :: .int .i64 c0.qcount :: v0_9 :: post0) :: .it (El.ow (El.int .i64)) [v1] xs :: os) ∧ loopN (p_impl_chooser_change_b1 c0 column2 factor3) n (y15, xs) = some r, ⟨n_2, _, st.pickT 2 [0, 1] (by decide) (by decide), hn⟩, ?_⟩
  rintro n _ y15 h_2 ⟨xs, st, hn⟩
  obtain ⟨m, a, rfl, hp, hs⟩ := loopN_step hn
  rw [p_impl_chooser_change_b1] at hp
  refine bifP hp (fun hc hp => ?_) (fun hc hp => ?_)
  · obtain ⟨e18, hx, hp⟩ := obind hp
    refine vIdx_C (f0_2.mono st.leU) hx fun p18 ad => ?_
    refine ldV_C f0_2 st.leU ad hx fun u19 f => ?_
    obtain ⟨e22, hx_2, hp⟩ := obind hp
    refine vIdx_C (st.rdL 1 rfl (frz_int _)) hx_2 fun p22 ad_2 => ?_
    refine ldI_C (st.rdL 1 rfl (frz_int _)) ad_2 hx_2 ?_
    obtain ⟨e27, hx_3, hp⟩ := obind hp
    refine vIdx_C (f.mono st.leU) hx_3 fun p27 ad_3 => ?_
    refine ldI_C (f.mono st.leU) ad_3 hx_3 ?_
    obtain ⟨e31, hx_4, hp⟩ := obind hp
    refine vIdx_C (st.rdL 1 rfl (frz_int _)) hx_4 fun p31 ad_4 => ?_
    refine st1_S st 1 rfl ad_4 hx_4 rfl (fun _ => ⟨rfl, rfl⟩) fun h_3 st => ?_
    dsimp only [List.set] at st
    obtain rfl := Option.some.inj hp
    exact ⟨m, Nat.lt_succ_self _, _, st.pickT 2 [0, 1] (by decide) (by decide), hs⟩
  · obtain rfl := Option.some.inj hp
    obtain rfl := Option.some.inj hs
    exact ⟨rfl, st.pickT 2 [0, 1] (by decide) (by decide)⟩
theorem r_impl_chooser_possible {ψ : CM} {h : Heap} (hψ : CLe ψ (hcell h)) {c0 : T_impl_chooser} {p0 : Addr} {v0_2 : Value} {v0_5 : Value} {v0_6 : Value} {v0_7 : Value} {v0_9 : Value} {r : Bool} (hp : p_impl_chooser_possible c0 = some r) (ck0 : CellsC (hcell h) p0 [.int .i64 c0.qcounter.qleft, .bool c0.qcounter.qspent, v0_2, .int .i64 c0.qlambda, .int .i64 c0.qlimit, v0_5, v0_6, v0_7, .int .i64 c0.qcount, v0_9]) (f0_2 : SlC (hcell h) (El.sl (El.int .i64)) v0_2 c0.qmatrix) (f0_5 : SlC (hcell h) (El.int .i64) v0_5 c0.qsums) (f0_6 : SlC (hcell h) (El.int .i64) v0_6 c0.qlater) (f0_7 : SlC (hcell h) (El.int .i64) v0_7 c0.qchosen) (f0_9 : SlC (hcell h) (El.int .i64) v0_9 c0.qfirst) : CallsH P id_impl_chooser_possible #[.pointer (some p0)] h (fun v h' => v = .bool r ∧ S ψ h h' []) := by
  apply w_impl_chooser_possible
  unfold F_impl_chooser_possible
  rw [p_impl_chooser_possible] at hp
  have st : S ψ h h [] := S.start hψ
  refine ldV_K (ck0.mono st.le) 5 rfl rfl ?_
  refine vLen_C (f0_5.mono st.le) ?_
  obtain ⟨n_2, hn⟩ := loop_n hp
  refine ⟨fun n y10 h_2 => S ψ h h_2 [] ∧ loopN (p_impl_chooser_possible_b1 c0) n y10 = some r, ⟨n_2, st.pick [] (by decide), hn⟩, ?_⟩
  rintro n _ y10 h_2 ⟨st, hn⟩
  obtain ⟨m, a, rfl, hp, hs⟩ := loopN_step hn
  rw [p_impl_chooser_possible_b1] at hp
  refine bifP hp (fun hc hp => ?_) (fun hc hp => ?_)
  · obtain ⟨e13, hx, hp⟩ := obind hp
    refine vIdx_C (f0_5.mono st.le) hx fun p13 ad => ?_
    refine ldI_C (f0_5.mono st.le) ad hx ?_
    refine ldI_K (ck0.mono st.le) 3 rfl rfl ?_
    refine bifP hp (fun hc hp => ?_) (fun hc hp => ?_)
    · obtain rfl := Option.some.inj hp
      obtain rfl := Option.some.inj hs
      exact ⟨rfl, st.pick [] (by decide)⟩
    · refine ldV_K (ck0.mono st.le) 6 rfl rfl ?_
      obtain ⟨e28, hx_2, hp⟩ := obind hp
      refine vIdx_C (f0_6.mono st.le) hx_2 fun p28 ad_2 => ?_
      refine ldI_C (f0_6.mono st.le) ad_2 hx_2 ?_
      refine ldI_K (ck0.mono st.le) 3 rfl rfl ?_
      refine bifP hp (fun hc hp => ?_) (fun hc hp => ?_)
      · obtain rfl := Option.some.inj hp
        obtain rfl := Option.some.inj hs
        exact ⟨rfl, st.pick [] (by decide)⟩
      · obtain rfl := Option.some.inj hp
        exact ⟨m, Nat.lt_succ_self _, st.pick [] (by decide), hs⟩
  · obtain rfl := Option.some.inj hp
    obtain rfl := Option.some.inj hs
    exact ⟨rfl, st.pick [] (by decide)⟩
theorem r_slices_Clone_Lint64_int64 {ψ : CM} {h : Heap} (hψ : CLe ψ (hcell h)) {a0 : List Int} {v0 : Value} {r : List Int} (hp : p_slices_Clone_Lint64_int64 a0 = some r) (f0 : SlC (hcell h) (El.int .i64) v0 a0) : CallsH P id_slices_Clone_Lint64_int64 #[v0] h (fun v h' => ∃ w0 : Value, v = w0 ∧ S ψ h h' [.it (El.ow (El.int .i64)) [w0] r]) := by
  apply w_slices_Clone_Lint64_int64
  unfold F_slices_Clone_Lint64_int64
  rw [p_slices_Clone_Lint64_int64] at hp
  have st : S ψ h h [] := S.start hψ
  refine vNilS_C f0 (fun e1 e2 => bif_pos rfl ?_) (bif_neg rfl ?_)
  · subst e2
    obtain ⟨_, rfl⟩ := gApp_some hp
    exact ⟨_, rfl, st.nilO⟩
  · refine newS_S (E := (El.int .i64)) (css := []) (xs := []) st (fun _ => rfl) rfl rfl fun v1 h1 st => ?_
    refine app_S st 0 rfl (src_plain (plain_int _) (f0.mono st.le)) rfl rfl hp fun v2 h2 st => ?_
    exact ⟨_, rfl, st⟩
theorem r_impl_counter_node {ψ : CM} {h0 h : Heap} {os : List Ob} {c0 : T_impl_counter} {b0 : Nat} {post0 : List Value} {r : Bool × T_impl_counter} (hp : p_impl_counter_node c0 = some r) (st : S ψ h0 h (.box b0 (.int .i64 c0.qleft :: .bool c0.qspent :: post0) :: os))  : CallsH P id_impl_counter_node #[.pointer (some ⟨b0, 0, none⟩)] h (fun v h' => v = .bool r.1 ∧ S ψ h0 h' (.box b0 (.int .i64 r.2.qleft :: .bool r.2.qspent :: post0) :: os)) := by
  apply w_impl_counter_node
  unfold F_impl_counter_node
  rw [p_impl_counter_node] at hp
  refine ldI_K (st.cells 0 rfl) 0 rfl rfl ?_
  refine bifP hp (fun hc hp => ?_) (fun hc hp => ?_)
  · refine st_box st 0 rfl rfl rfl rfl fun h_2 st => ?_
    dsimp only [List.set] at st
    obtain rfl := Option.some.inj hp
    exact ⟨rfl, st.pickT 1 [0] (by decide) (by decide)⟩
  · refine ldI_K (st.cells 0 rfl) 0 rfl rfl ?_
    refine st_box st 0 rfl rfl rfl rfl fun h_3 st => ?_
    dsimp only [List.set] at st
    obtain rfl := Option.some.inj hp
    exact ⟨rfl, st.pickT 1 [0] (by decide) (by decide)⟩
theorem rq_impl_chooser_search {rf_impl_chooser_search : T_impl_chooser → Int → Option T_impl_chooser}  (ih_impl_chooser_search : ∀ {ψ : CM} {h0 h : Heap} {os : List Ob} {y0 : T_impl_chooser} {b0 : Nat} {post0 : List Value} {v0_2 : Value} {v0_5 : Value} {v0_6 : Value} {v0_7 : Value} {v0_9 : Value} {y1 : Int} {r : T_impl_chooser} (hp : rf_impl_chooser_search y0 y1 = some r) (st : S ψ h0 h (.box b0 (.int .i64 y0.qcounter.qleft :: .bool y0.qcounter.qspent :: v0_2 :: .int .i64 y0.qlambda :: .int .i64 y0.qlimit :: v0_5 :: v0_6 :: v0_7 :: .int .i64 y0.qcount :: v0_9 :: post0) :: .it (El.ow (El.int .i64)) [v0_5] y0.qsums :: .it (El.ow (El.int .i64)) [v0_6] y0.qlater :: .it (El.ow (El.int .i64)) [v0_7] y0.qchosen :: .it (El.ow (El.int .i64)) [v0_9] y0.qfirst :: os)) (f0_2 : SlC (UB ψ h0) (El.sl (El.int .i64)) v0_2 y0.qmatrix), CallsH P id_impl_chooser_search #[.pointer (some ⟨b0, 0, none⟩), .int .i64 y1] h (fun v h' => ∃ w0 : Value, ∃ w1 : Value, ∃ w2 : Value, ∃ w3 : Value, v = .tuple #[] ∧ S ψ h0 h' (.box b0 (.int .i64 r.qcounter.qleft :: .bool r.qcounter.qspent :: v0_2 :: .int .i64 r.qlambda :: .int .i64 r.qlimit :: w0 :: w1 :: w2 :: .int .i64 r.qcount :: w3 :: post0) :: .it (El.ow (El.int .i64)) [w0] r.qsums :: .it (El.ow (El.int .i64)) [w1] r.qlater :: .it (El.ow (El.int .i64)) [w2] r.qchosen :: .it (El.ow (El.int .i64)) [w3] r.qfirst :: os))) : ∀ {ψ : CM} {h0 h : Heap} {os : List Ob} {y0 : T_impl_chooser} {b0 : Nat} {post0 : List Value} {v0_2 : Value} {v0_5 : Value} {v0_6 : Value} {v0_7 : Value} {v0_9 : Value} {y1 : Int} {r : T_impl_chooser} (hp : q_impl_chooser_search rf_impl_chooser_search y0 y1 = some r) (st : S ψ h0 h (.box b0 (.int .i64 y0.qcounter.qleft :: .bool y0.qcounter.qspent :: v0_2 :: .int .i64 y0.qlambda :: .int .i64 y0.qlimit :: v0_5 :: v0_6 :: v0_7 :: .int .i64 y0.qcount :: v0_9 :: post0) :: .it (El.ow (El.int .i64)) [v0_5] y0.qsums :: .it (El.ow (El.int .i64)) [v0_6] y0.qlater :: .it (El.ow (El.int .i64)) [v0_7] y0.qchosen :: .it (El.ow (El.int .i64)) [v0_9] y0.qfirst :: os)) (f0_2 : SlC (UB ψ h0) (El.sl (El.int .i64)) v0_2 y0.qmatrix), CallsH P id_impl_chooser_search #[.pointer (some ⟨b0, 0, none⟩), .int .i64 y1] h (fun v h' => ∃ w0 : Value, ∃ w1 : Value, ∃ w2 : Value, ∃ w3 : Value, v = .tuple #[] ∧ S ψ h0 h' (.box b0 (.int .i64 r.qcounter.qleft :: .bool r.qcounter.qspent :: v0_2 :: .int .i64 r.qlambda :: .int .i64 r.qlimit :: w0 :: w1 :: w2 :: .int .i64 r.qcount :: w3 :: post0) :: .it (El.ow (El.int .i64)) [w0] r.qsums :: .it (El.ow (El.int .i64)) [w1] r.qlater :: .it (El.ow (El.int .i64)) [w2] r.qchosen :: .it (El.ow (El.int .i64)) [w3] r.qfirst :: os)) := by
  intro ψ h0 h os y0 b0 post0 v0_2 v0_5 v0_6 v0_7 v0_9 y1 r hp st f0_2
  apply w_impl_chooser_search
  unfold F_impl_chooser_search
  rw [q_impl_chooser_search] at hp
  refine ldV_K (st.cells 0 rfl) 2 rfl rfl ?_
  obtain ⟨e11, hx, hp⟩ := obind hp
  refine vIdx_C (f0_2.mono st.leU) hx fun p11 ad => ?_
  refine ldV_C f0_2 st.leU ad hx fun u12 f => ?_
  refine vLen_C (f.mono st.leU) ?_
  refine bifP hp (fun hc hp => ?_) (fun hc hp => ?_)
  · obtain ⟨r16, hx_2, hp⟩ := obind hp
    obtain ⟨φ, L, s, r_2⟩ := id st
    refine (r_impl_chooser_possible s.fle hx_2 (CellsC.part 0 10 (st.cells 0 rfl)) (f0_2.mono st.leU) (st.rdL 1 rfl (frz_int _)) (st.rdL 2 rfl (frz_int _)) (st.rdL 3 rfl (frz_int _)) (st.rdL 4 rfl (frz_int _))).mono fun v_2 h_2 ⟨eq, t⟩ => ⟨_, eq, ?_⟩
    replace st := join0 s r_2 t
    clear t s r_2
    refine bifP hp (fun hc hp => ?_) (fun hc hp => ?_)
    · refine ⟨fun h_3 => ∃ xs : List Int, ∃ v_3 : Value, S ψ h0 h_3 (.box b0 (.int .i64 y0.qcounter.qleft :: .bool y0.qcounter.qspent :: v0_2 :: .int .i64 y0.qlambda :: .int .i64 y0.qlimit :: v0_5 :: v0_6 :: v0_7 :: .int .i64 y0.qcount :: v_3 :: post0) :: .it (El.ow (El.int .i64)) [v0_5] y0.qsums :: .it (El.ow (El.int .i64)) [v0_6] y0.qlater :: .it (El.ow (El.int .i64)) [v0_7] y0.qchosen :: .it (El.ow (El.int .i64)) [v_3] xs :: os) ∧ p_impl_chooser_search_k1 y0 xs = some r, ?_, ?_⟩
      · refine ldI_K (st.cells 0 rfl) 8 rfl rfl ?_
        refine bifP hp (fun hc hp => ?_) (fun hc hp => ?_)
        · refine ldV_K (st.cells 0 rfl) 7 rfl rfl ?_
          obtain ⟨r27, hx_3, hp⟩ := obind hp
          obtain ⟨φ_2, L_2, s_2, r_3⟩ := id st
          refine (r_slices_Clone_Lint64_int64 s_2.fle hx_3 (st.rdL 3 rfl (frz_int _))).mono fun v_4 h_5 ⟨v27, eq_2, t_2⟩ => ⟨_, eq_2, ?_⟩
          replace st := join1 s_2 r_3 t_2
          clear t_2 s_2 r_3
          refine st_box st 1 rfl rfl rfl (st.rdL 0 rfl (frz_int _)).one fun h_6 st => ?_
          dsimp only [List.set] at st
          exact ⟨_, _, st.pickT 6 [1, 2, 3, 4, 0] (by decide) (by decide), hp⟩
        · exact ⟨_, _, st.pickT 5 [0, 1, 2, 3, 4] (by decide) (by decide), hp⟩
      · rintro _ h_3 ⟨xs, v_3, st, hp⟩
        rw [p_impl_chooser_search_k1] at hp
        refine ldI_K (st.cells 0 rfl) 8 rfl rfl ?_
        refine st_box st 0 rfl rfl rfl rfl fun h_4 st => ?_
        dsimp only [List.set] at st
        obtain rfl := Option.some.inj hp
        exact ⟨v0_5, v0_6, v0_7, v_3, rfl, st.pickT 5 [0, 1, 2, 3, 4] (by decide) (by decide)⟩
    · obtain rfl := Option.some.inj hp
      exact ⟨v0_5, v0_6, v0_7, v0_9, rfl, st.pickT 5 [0, 1, 2, 3, 4] (by decide) (by decide)⟩
  · refine ldV_K (st.cells 0 rfl) 6 rfl rfl ?_
    have st : S ψ h0 h (.box b0 (.int .i64 y0.qcounter.qleft :: .bool y0.qcounter.qspent :: v0_2 :: .int .i64 y0.qlambda :: .int .i64 y0.qlimit :: v0_5 :: v0_6 :: v0_7 :: .int .i64 y0.qcount :: v0_9 :: post0) :: .it (El.ow (El.int .i64)) [v0_6] y0.qlater :: .it (El.ow (El.int .i64)) [v0_5] y0.qsums :: .it (El.ow (El.int .i64)) [v0_7] y0.qchosen :: .it (El.ow (El.int .i64)) [v0_9] y0.qfirst :: os) := st.pickT 5 [0, 2, 1, 3, 4] (by decide) (by decide)
    obtain ⟨r43, hx_4, hp⟩ := obind hp
    obtain ⟨φ_3, L_3, s_3, r_4⟩ := id st
    refine (r_impl_chooser_change hx_4 (s_3.upS r_4) (f0_2.mono s_3.ubU)).mono fun v_5 h_7 ⟨eq_3, t_3⟩ => ⟨eq_3, ?_⟩
    replace st := s_3.downS t_3
    clear t_3 s_3 r_4
    refine newS_S (E := El.bool) (css := [[.bool true], [.bool false]]) (xs := ([true, false] : List Bool)) st (fun _ => ⟨[], [], rfl, ⟨rfl, rfl⟩, ⟨[], [], rfl, ⟨rfl, rfl⟩, rfl⟩⟩) rfl rfl fun v44 h_8 st => ?_
    refine vLen_C (st.rdL 0 rfl frz_bool) ?_
    obtain ⟨n_2, hn⟩ := loop_n hp
    refine ⟨fun n y46 h_9 => ∃ q : Int, ∃ q_2 : Bool, ∃ q_3 : Int, ∃ q_4 : Int, ∃ q_5 : Int, ∃ xs_2 : List Int, ∃ v_6 : Value, ∃ xs_3 : List Int, ∃ v_7 : Value, ∃ xs_4 : List Int, ∃ v_8 : Value, ∃ xs_5 : List Int, ∃ v_9 : Value, S ψ h0 h_9 (.it (El.ow El.bool) [v44] ([true, false] : List Bool) :: .box b0 (.int .i64 q :: .bool q_2 :: v0_2 :: .int .i64 q_3 :: .int .i64 q_4 :: v_7 :: v_6 :: v_8 :: .int .i64 q_5 :: v_9 :: post0) :: .it (El.ow (El.int .i64)) [v_6] xs_2 :: .it (El.ow (El.int .i64)) [v_7] xs_3 :: .it (El.ow (El.int .i64)) [v_8] xs_4 :: .it (El.ow (El.int .i64)) [v_9] xs_5 :: os) ∧ loopN (p_impl_chooser_search_b1 rf_impl_chooser_search y0 y1) n (y46, q, q_2, q_3, q_4, q_5, xs_2, xs_3, xs_4, xs_5) = some r, ⟨n_2, _, _, _, _, _, _, _, _, _, _, _, _, _, st.pickT 6 [0, 1, 2, 3, 4, 5] (by decide) (by decide), hn⟩, ?_⟩
    rintro n _ y46 h_9 ⟨q, q_2, q_3, q_4, q_5, xs_2, v_6, xs_3, v_7, xs_4, v_8, xs_5, v_9, st, hn⟩
    obtain ⟨m, a, rfl, hp, hs⟩ := loopN_step hn
    rw [p_impl_chooser_search_b1] at hp
    refine bifP hp (fun hc hp => ?_) (fun hc hp => ?_)
    · obtain ⟨e48, hx_5, hp⟩ := obind hp
      refine vIdx_C (st.rdL 0 rfl frz_bool) hx_5 fun p48 ad_2 => ?_
      refine ldB_C (st.rdL 0 rfl frz_bool) ad_2 hx_5 ?_
      refine ⟨fun h_10 => ∃ xs_6 : List Int, ∃ xs_7 : List Int, ∃ v_10 : Value, S ψ h0 h_10 (.it (El.ow El.bool) [v44] ([true, false] : List Bool) :: .box b0 (.int .i64 q :: .bool q_2 :: v0_2 :: .int .i64 q_3 :: .int .i64 q_4 :: v_7 :: v_6 :: v_10 :: .int .i64 q_5 :: v_9 :: post0) :: .it (El.ow (El.int .i64)) [v_6] xs_2 :: .it (El.ow (El.int .i64)) [v_7] xs_6 :: .it (El.ow (El.int .i64)) [v_10] xs_7 :: .it (El.ow (El.int .i64)) [v_9] xs_5 :: os) ∧ p_impl_chooser_search_k2 rf_impl_chooser_search y0 y1 y46 q q_2 q_3 q_4 q_5 xs_2 xs_5 e48 xs_6 xs_7 = some a, ?_, ?_⟩
      · refine bifP hp (fun hc hp => ?_) (fun hc hp => ?_)
        · refine ldV_K (st.cells 1 rfl) 5 rfl rfl ?_
          have st : S ψ h0 h_9 (.box b0 (.int .i64 q :: .bool q_2 :: v0_2 :: .int .i64 q_3 :: .int .i64 q_4 :: v_7 :: v_6 :: v_8 :: .int .i64 q_5 :: v_9 :: post0) :: .it (El.ow (El.int .i64)) [v_7] xs_3 :: .it (El.ow El.bool) [v44] ([true, false] : List Bool) :: .it (El.ow (El.int .i64)) [v_6] xs_2 :: .it (El.ow (El.int .i64)) [v_8] xs_4 :: .it (El.ow (El.int .i64)) [v_9] xs_5 :: os) := st.pickT 6 [1, 3, 0, 2, 4, 5] (by decide) (by decide)
          obtain ⟨r57, hx_11, hp⟩ := obind hp
          obtain ⟨φ_8, L_8, s_8, r_9⟩ := id st
          refine (r_impl_chooser_change hx_11 (s_8.upS r_9) (f0_2.mono s_8.ubU)).mono fun v_19 h_17 ⟨eq_8, t_8⟩ => ⟨eq_8, ?_⟩
          replace st := s_8.downS t_8
          clear t_8 s_8 r_9
          refine ldV_K (st.cells 0 rfl) 7 rfl rfl ?_
          obtain ⟨l65, hx_12, hp⟩ := obind hp
          refine push_S st 4 rfl (fun _ => ⟨rfl, rfl⟩) rfl rfl hx_12 fun v65 h_18 st => ?_
          dsimp only [List.set] at st
          refine st_box st 0 rfl rfl rfl (st.rdL 4 rfl (frz_int _)).one fun h_19 st => ?_
          dsimp only [List.set] at st
          exact ⟨_, _, _, st.pickT 6 [2, 0, 3, 1, 4, 5] (by decide) (by decide), hp⟩
        · exact ⟨_, _, _, st.pickT 6 [0, 1, 2, 3, 4, 5] (by decide) (by decide), hp⟩
      · rintro _ h_10 ⟨xs_6, xs_7, v_10, st, hp⟩
        rw [p_impl_chooser_search_k2] at hp
        refine ⟨fun h_11 => ∃ q_6 : Int, ∃ q_7 : Bool, ∃ q_8 : Int, ∃ q_9 : Int, ∃ q_10 : Int, ∃ xs_8 : List Int, ∃ v_11 : Value, ∃ xs_9 : List Int, ∃ v_12 : Value, ∃ xs_10 : List Int, ∃ v_13 : Value, ∃ xs_11 : List Int, ∃ v_14 : Value, S ψ h0 h_11 (.it (El.ow El.bool) [v44] ([true, false] : List Bool) :: .box b0 (.int .i64 q_6 :: .bool q_7 :: v0_2 :: .int .i64 q_8 :: .int .i64 q_9 :: v_12 :: v_11 :: v_13 :: .int .i64 q_10 :: v_14 :: post0) :: .it (El.ow (El.int .i64)) [v_11] xs_8 :: .it (El.ow (El.int .i64)) [v_12] xs_9 :: .it (El.ow (El.int .i64)) [v_13] xs_10 :: .it (El.ow (El.int .i64)) [v_14] xs_11 :: os) ∧ p_impl_chooser_search_k3 y0 y1 y46 e48 q_6 q_7 q_8 q_9 q_10 xs_8 xs_9 xs_10 xs_11 = some a, ?_, ?_⟩
        · obtain ⟨r69, hx_8, hp⟩ := obind hp
          obtain ⟨φ_5, L_5, s_5, r_6⟩ := id st
          refine (r_impl_chooser_possible s_5.fle hx_8 (CellsC.part 0 10 (st.cells 1 rfl)) (f0_2.mono st.leU) (st.rdL 3 rfl (frz_int _)) (st.rdL 2 rfl (frz_int _)) (st.rdL 4 rfl (frz_int _)) (st.rdL 5 rfl (frz_int _))).mono fun v_16 h_14 ⟨eq_5, t_5⟩ => ⟨_, eq_5, ?_⟩
          replace st := join0 s_5 r_6 t_5
          clear t_5 s_5 r_6
          refine bifP hp (fun hc hp => ?_) (fun hc hp => ?_)
          · refine ldI_K (st.cells 1 rfl) 8 rfl rfl ?_
            refine ldI_K (st.cells 1 rfl) 4 rfl rfl ?_
            refine bifP hp (fun hc hp => ?_) (fun hc hp => ?_)
            · refine ldB_K (st.cells 1 rfl) 1 rfl rfl ?_
              refine bifP hp (fun hc hp => ?_) (fun hc hp => ?_)
              · have st : S ψ h0 h_14 (.box b0 (.int .i64 q :: .bool q_2 :: v0_2 :: .int .i64 q_3 :: .int .i64 q_4 :: v_7 :: v_6 :: v_10 :: .int .i64 q_5 :: v_9 :: post0) :: .it (El.ow El.bool) [v44] ([true, false] : List Bool) :: .it (El.ow (El.int .i64)) [v_6] xs_2 :: .it (El.ow (El.int .i64)) [v_7] xs_6 :: .it (El.ow (El.int .i64)) [v_10] xs_7 :: .it (El.ow (El.int .i64)) [v_9] xs_5 :: os) := st.pickT 6 [1, 0, 2, 3, 4, 5] (by decide) (by decide)
                obtain ⟨r93, hx_9, hp⟩ := obind hp
                obtain ⟨φ_6, L_6, s_6, r_7⟩ := id st
                refine (r_impl_counter_node hx_9 (s_6.upS r_7) ).mono fun v_17 h_15 ⟨eq_6, t_6⟩ => ⟨_, eq_6, ?_⟩
                replace st := s_6.downS t_6
                clear t_6 s_6 r_7
                refine bifP hp (fun hc hp => ?_) (fun hc hp => ?_)
                · have st : S ψ h0 h_15 (.box b0 (.int .i64 r93.2.qleft :: .bool r93.2.qspent :: v0_2 :: .int .i64 q_3 :: .int .i64 q_4 :: v_7 :: v_6 :: v_10 :: .int .i64 q_5 :: v_9 :: post0) :: .it (El.ow (El.int .i64)) [v_7] xs_6 :: .it (El.ow (El.int .i64)) [v_6] xs_2 :: .it (El.ow (El.int .i64)) [v_10] xs_7 :: .it (El.ow (El.int .i64)) [v_9] xs_5 :: .it (El.ow El.bool) [v44] ([true, false] : List Bool) :: os) := st.pickT 6 [0, 3, 2, 4, 5, 1] (by decide) (by decide)
                  obtain ⟨r98, hx_10, hp⟩ := obind hp
                  obtain ⟨φ_7, L_7, s_7, r_8⟩ := id st
                  refine (ih_impl_chooser_search hx_10 (s_7.upS r_8) (f0_2.mono s_7.ubU)).mono fun v_18 h_16 ⟨v98, v98_2, v98_3, v98_4, eq_7, t_7⟩ => ⟨eq_7, ?_⟩
                  replace st := s_7.downS t_7
                  clear t_7 s_7 r_8
                  exact ⟨_, _, _, _, _, _, _, _, _, _, _, _, _, st.pickT 6 [5, 0, 2, 1, 3, 4] (by decide) (by decide), hp⟩
                · exact ⟨_, _, _, _, _, _, _, _, _, _, _, _, _, st.pickT 6 [1, 0, 2, 3, 4, 5] (by decide) (by decide), hp⟩
              · exact ⟨_, _, _, _, _, _, _, _, _, _, _, _, _, st.pickT 6 [0, 1, 2, 3, 4, 5] (by decide) (by decide), hp⟩
            · exact ⟨_, _, _, _, _, _, _, _, _, _, _, _, _, st.pickT 6 [0, 1, 2, 3, 4, 5] (by decide) (by decide), hp⟩
          · exact ⟨_, _, _, _, _, _, _, _, _, _, _, _, _, st.pickT 6 [0, 1, 2, 3, 4, 5] (by decide) (by decide), hp⟩
        · rintro _ h_11 ⟨q_6, q_7, q_8, q_9, q_10, xs_8, v_11, xs_9, v_12, xs_10, v_13, xs_11, v_14, st, hp⟩
          rw [p_impl_chooser_search_k3] at hp
          refine bifP hp (fun hc hp => ?_) (fun hc hp => ?_)
          · refine ldV_K (st.cells 1 rfl) 5 rfl rfl ?_
            have st : S ψ h0 h_11 (.box b0 (.int .i64 q_6 :: .bool q_7 :: v0_2 :: .int .i64 q_8 :: .int .i64 q_9 :: v_12 :: v_11 :: v_13 :: .int .i64 q_10 :: v_14 :: post0) :: .it (El.ow (El.int .i64)) [v_12] xs_9 :: .it (El.ow El.bool) [v44] ([true, false] : List Bool) :: .it (El.ow (El.int .i64)) [v_11] xs_8 :: .it (El.ow (El.int .i64)) [v_13] xs_10 :: .it (El.ow (El.int .i64)) [v_14] xs_11 :: os) := st.pickT 6 [1, 3, 0, 2, 4, 5] (by decide) (by decide)
            obtain ⟨r106, hx_6, hp⟩ := obind hp
            obtain ⟨φ_4, L_4, s_4, r_5⟩ := id st
            refine (r_impl_chooser_change hx_6 (s_4.upS r_5) (f0_2.mono s_4.ubU)).mono fun v_15 h_12 ⟨eq_4, t_4⟩ => ⟨eq_4, ?_⟩
            replace st := s_4.downS t_4
            clear t_4 s_4 r_5
            refine ldV_K (st.cells 0 rfl) 7 rfl rfl ?_
            refine ldV_K (st.cells 0 rfl) 7 rfl rfl ?_
            refine vLen_C (st.rdL 4 rfl (frz_int _)) ?_
            obtain ⟨l118, hx_7, hp⟩ := obind hp
            refine cut_S none (some (IntKind.i64.wrap ((xs_10.length : Int) - 1))) st 4 rfl hx_7 rfl fun v118 st => ?_
            dsimp only [List.set] at st
            refine st_box st 0 rfl rfl rfl (st.rdL 4 rfl (frz_int _)).one fun h_13 st => ?_
            dsimp only [List.set] at st
            obtain rfl := Option.some.inj hp
            exact ⟨m, Nat.lt_succ_self _, _, _, _, _, _, _, _, _, _, _, _, _, _, st.pickT 6 [2, 0, 3, 1, 4, 5] (by decide) (by decide), hs⟩
          · obtain rfl := Option.some.inj hp
            exact ⟨m, Nat.lt_succ_self _, _, _, _, _, _, _, _, _, _, _, _, _, _, st.pickT 6 [0, 1, 2, 3, 4, 5] (by decide) (by decide), hs⟩
    · refine ldV_K (st.cells 1 rfl) 6 rfl rfl ?_
      have st : S ψ h0 h_9 (.box b0 (.int .i64 q :: .bool q_2 :: v0_2 :: .int .i64 q_3 :: .int .i64 q_4 :: v_7 :: v_6 :: v_8 :: .int .i64 q_5 :: v_9 :: post0) :: .it (El.ow (El.int .i64)) [v_6] xs_2 :: .it (El.ow El.bool) [v44] ([true, false] : List Bool) :: .it (El.ow (El.int .i64)) [v_7] xs_3 :: .it (El.ow (El.int .i64)) [v_8] xs_4 :: .it (El.ow (El.int .i64)) [v_9] xs_5 :: os) := st.pickT 6 [1, 2, 0, 3, 4, 5] (by decide) (by decide)
      obtain ⟨r128, hx_13, hp⟩ := obind hp
      obtain ⟨φ_9, L_9, s_9, r_10⟩ := id st
      refine (r_impl_chooser_change hx_13 (s_9.upS r_10) (f0_2.mono s_9.ubU)).mono fun v_20 h_20 ⟨eq_9, t_9⟩ => ⟨eq_9, ?_⟩
      replace st := s_9.downS t_9
      clear t_9 s_9 r_10
      obtain rfl := Option.some.inj hp
      obtain rfl := Option.some.inj hs
      exact ⟨v_7, v_6, v_8, v_9, rfl, st.pickT 6 [0, 3, 1, 4, 5] (by decide) (by decide)⟩
theorem rn_impl_chooser_search : ∀ n, (∀ {ψ : CM} {h0 h : Heap} {os : List Ob} {y0 : T_impl_chooser} {b0 : Nat} {post0 : List Value} {v0_2 : Value} {v0_5 : Value} {v0_6 : Value} {v0_7 : Value} {v0_9 : Value} {y1 : Int} {r : T_impl_chooser} (hp : (pn_impl_chooser_search n) y0 y1 = some r) (st : S ψ h0 h (.box b0 (.int .i64 y0.qcounter.qleft :: .bool y0.qcounter.qspent :: v0_2 :: .int .i64 y0.qlambda :: .int .i64 y0.qlimit :: v0_5 :: v0_6 :: v0_7 :: .int .i64 y0.qcount :: v0_9 :: post0) :: .it (El.ow (El.int .i64)) [v0_5] y0.qsums :: .it (El.ow (El.int .i64)) [v0_6] y0.qlater :: .it (El.ow (El.int .i64)) [v0_7] y0.qchosen :: .it (El.ow (El.int .i64)) [v0_9] y0.qfirst :: os)) (f0_2 : SlC (UB ψ h0) (El.sl (El.int .i64)) v0_2 y0.qmatrix), CallsH P id_impl_chooser_search #[.pointer (some ⟨b0, 0, none⟩), .int .i64 y1] h (fun v h' => ∃ w0 : Value, ∃ w1 : Value, ∃ w2 : Value, ∃ w3 : Value, v = .tuple #[] ∧ S ψ h0 h' (.box b0 (.int .i64 r.qcounter.qleft :: .bool r.qcounter.qspent :: v0_2 :: .int .i64 r.qlambda :: .int .i64 r.qlimit :: w0 :: w1 :: w2 :: .int .i64 r.qcount :: w3 :: post0) :: .it (El.ow (El.int .i64)) [w0] r.qsums :: .it (El.ow (El.int .i64)) [w1] r.qlater :: .it (El.ow (El.int .i64)) [w2] r.qchosen :: .it (El.ow (El.int .i64)) [w3] r.qfirst :: os))) := by
  intro n
  induction n with
  | zero => exact fun hp => absurd hp (by simp [pn_impl_chooser_search])
  | succ n ih => exact rq_impl_chooser_search ih
theorem r_impl_chooser_search : ∀ {ψ : CM} {h0 h : Heap} {os : List Ob} {y0 : T_impl_chooser} {b0 : Nat} {post0 : List Value} {v0_2 : Value} {v0_5 : Value} {v0_6 : Value} {v0_7 : Value} {v0_9 : Value} {y1 : Int} {r : T_impl_chooser} (hp : p_impl_chooser_search y0 y1 = some r) (st : S ψ h0 h (.box b0 (.int .i64 y0.qcounter.qleft :: .bool y0.qcounter.qspent :: v0_2 :: .int .i64 y0.qlambda :: .int .i64 y0.qlimit :: v0_5 :: v0_6 :: v0_7 :: .int .i64 y0.qcount :: v0_9 :: post0) :: .it (El.ow (El.int .i64)) [v0_5] y0.qsums :: .it (El.ow (El.int .i64)) [v0_6] y0.qlater :: .it (El.ow (El.int .i64)) [v0_7] y0.qchosen :: .it (El.ow (El.int .i64)) [v0_9] y0.qfirst :: os)) (f0_2 : SlC (UB ψ h0) (El.sl (El.int .i64)) v0_2 y0.qmatrix), CallsH P id_impl_chooser_search #[.pointer (some ⟨b0, 0, none⟩), .int .i64 y1] h (fun v h' => ∃ w0 : Value, ∃ w1 : Value, ∃ w2 : Value, ∃ w3 : Value, v = .tuple #[] ∧ S ψ h0 h' (.box b0 (.int .i64 r.qcounter.qleft :: .bool r.qcounter.qspent :: v0_2 :: .int .i64 r.qlambda :: .int .i64 r.qlimit :: w0 :: w1 :: w2 :: .int .i64 r.qcount :: w3 :: post0) :: .it (El.ow (El.int .i64)) [w0] r.qsums :: .it (El.ow (El.int .i64)) [w1] r.qlater :: .it (El.ow (El.int .i64)) [w2] r.qchosen :: .it (El.ow (El.int .i64)) [w3] r.qfirst :: os)) := (rn_impl_chooser_search fuel)
theorem r_impl_choices {ψ : CM} {h : Heap} (hψ : CLe ψ (hcell h)) {m0 : List (List Int)} {v0 : Value} {lambda1 : Int} {limit2 : Int} {budget3 : Int} {r : T_impl_chooser} (hp : p_impl_choices m0 lambda1 limit2 budget3 = some r) (f0 : SlC (hcell h) (El.sl (El.int .i64)) v0 m0) : CallsH P id_impl_choices #[v0, .int .i64 lambda1, .int .i64 limit2, .int .i64 budget3] h (fun v h' => ∃ wb0 : Nat, ∃ w1 : Value, ∃ w2 : Value, ∃ w3 : Value, ∃ w4 : Value, ∃ w5 : Value, v = .pointer (some ⟨wb0, 0, none⟩) ∧ S ψ h h' [.box wb0 [.int .i64 r.qcounter.qleft, .bool r.qcounter.qspent, w1, .int .i64 r.qlambda, .int .i64 r.qlimit, w2, w3, w4, .int .i64 r.qcount, w5], .it (El.ow (El.int .i64)) [w2] r.qsums, .it (El.ow (El.int .i64)) [w3] r.qlater, .it (El.ow (El.int .i64)) [w4] r.qchosen, .it (El.ow (El.int .i64)) [w5] r.qfirst]) := by
  apply w_impl_choices
  unfold F_impl_choices
  rw [p_impl_choices] at hp
  have st : S ψ h h [] := S.start hψ
  obtain ⟨l18, hx, hp⟩ := obind hp
  obtain ⟨l21, hx_2, hp⟩ := obind hp
  refine ⟨?_, ?_⟩
  · refine vLen_C (f0.mono st.le) ?_
    refine make_S (E := (El.int .i64)) st rfl hx fun v18_2 h_5 st => ?_
    refine vLen_C (f0.mono st.le) ?_
    refine make_S (E := (El.int .i64)) st rfl hx_2 fun v21_2 h_6 st => ?_
    refine vOne_of (f0.mono st.le).one ?_
    refine vOne_of (st.rdL 1 rfl (frz_int _)).one ?_
    refine vOne_of (st.rdL 0 rfl (frz_int _)).one ?_
    refine new_S st fun b23_2 h_7 st => ?_
    obtain ⟨e25, hx_3, hp⟩ := obind hp
    refine vIdx_C (f0.mono st.le) hx_3 fun p25 ad => ?_
    refine ldV_C f0 st.le ad hx_3 fun u26 f => ?_
    refine vLen_C (f.mono st.le) ?_
    obtain ⟨n_2, hn⟩ := loop_n hp
    refine ⟨fun n y28 h_8 => ∃ xs : List Int, S ψ h h_8 [.box b23_2 [.int .i64 budget3, .bool false, v0, .int .i64 lambda1, .int .i64 limit2, v18_2, v21_2, (.slice none 0 0), .int .i64 0, (.slice none 0 0)], .it (El.ow (El.int .i64)) [v21_2] xs, .it (El.ow (El.int .i64)) [v18_2] l18] ∧ loopN (p_impl_choices_b1 m0 lambda1 limit2 budget3 l18 e25) n (y28, xs) = some r, ⟨n_2, _, st.pick [0, 1, 2] (by decide), hn⟩, ?_⟩
    rintro n _ y28 h_8 ⟨xs, st, hn⟩
    obtain ⟨m, a, rfl, hp, hs⟩ := loopN_step hn
    rw [p_impl_choices_b1] at hp
    refine bifP hp (fun hc hp => ?_) (fun hc hp => ?_)
    · refine ldV_K (st.cells 0 rfl) 6 rfl rfl ?_
      obtain ⟨r37, hx_4, hp⟩ := obind hp
      obtain ⟨φ, L, s, r_2⟩ := id st
      refine (r_impl_chooser_change hx_4 (s.upS r_2) (f0.mono s.ubH)).mono fun v_2 h_9 ⟨eq, t⟩ => ⟨eq, ?_⟩
      replace st := s.downS t
      clear t s r_2
      obtain rfl := Option.some.inj hp
      exact ⟨m, Nat.lt_succ_self _, _, st.pick [0, 1, 2] (by decide), hs⟩
    · have st := st.nil (El.int .i64)
      have st := st.nil (El.int .i64)
      have st : S ψ h h_8 [.box b23_2 [.int .i64 budget3, .bool false, v0, .int .i64 lambda1, .int .i64 limit2, v18_2, v21_2, (.slice none 0 0), .int .i64 0, (.slice none 0 0)], .it (El.ow (El.int .i64)) [v18_2] l18, .it (El.ow (El.int .i64)) [v21_2] xs, .it (El.ow (El.int .i64)) [(.slice none 0 0)] ([] : List Int), .it (El.ow (El.int .i64)) [(.slice none 0 0)] ([] : List Int)] := st.pick [2, 4, 3, 1, 0] (by decide)
      obtain ⟨r40, hx_5, hp⟩ := obind hp
      obtain ⟨φ_2, L_2, s_2, r_3⟩ := id st
      refine (r_impl_chooser_search hx_5 (s_2.upS r_3) (f0.mono s_2.ubH)).mono fun v_3 h_10 ⟨v40, v40_2, v40_3, v40_4, eq_2, t_2⟩ => ⟨eq_2, ?_⟩
      replace st := s_2.downS t_2
      clear t_2 s_2 r_3
      obtain rfl := Option.some.inj hp
      obtain rfl := Option.some.inj hs
      exact ⟨b23_2, v0, v40, v40_2, v40_3, v40_4, rfl, st.pick [0, 1, 2, 3, 4] (by decide)⟩
  · refine vLen_C (f0.mono st.le) ?_
    refine make_S (E := (El.int .i64)) st rfl hx_2 fun v21_3 h_11 st => ?_
    refine vLen_C (f0.mono st.le) ?_
    refine make_S (E := (El.int .i64)) st rfl hx fun v18_3 h_12 st => ?_
    refine vOne_of (f0.mono st.le).one ?_
    refine vOne_of (st.rdL 0 rfl (frz_int _)).one ?_
    refine vOne_of (st.rdL 1 rfl (frz_int _)).one ?_
    refine new_S st fun b23_3 h_13 st => ?_
    obtain ⟨e25_2, hx_6, hp⟩ := obind hp
    refine vIdx_C (f0.mono st.le) hx_6 fun p25_2 ad_2 => ?_
    refine ldV_C f0 st.le ad_2 hx_6 fun u26_2 f_2 => ?_
    refine vLen_C (f_2.mono st.le) ?_
    obtain ⟨n_4, hn_2⟩ := loop_n hp
    refine ⟨fun n_3 y28_2 h_14 => ∃ xs_2 : List Int, S ψ h h_14 [.box b23_3 [.int .i64 budget3, .bool false, v0, .int .i64 lambda1, .int .i64 limit2, v18_3, v21_3, (.slice none 0 0), .int .i64 0, (.slice none 0 0)], .it (El.ow (El.int .i64)) [v18_3] l18, .it (El.ow (El.int .i64)) [v21_3] xs_2] ∧ loopN (p_impl_choices_b2 m0 lambda1 limit2 budget3 l18 e25_2) n_3 (y28_2, xs_2) = some r, ⟨n_4, _, st.pick [0, 1, 2] (by decide), hn_2⟩, ?_⟩
    rintro n_3 _ y28_2 h_14 ⟨xs_2, st, hn_2⟩
    obtain ⟨m_2, a_2, rfl, hp, hs_2⟩ := loopN_step hn_2
    rw [p_impl_choices_b2] at hp
    refine bifP hp (fun hc hp => ?_) (fun hc hp => ?_)
    · refine ldV_K (st.cells 0 rfl) 6 rfl rfl ?_
      have st : S ψ h h_14 [.box b23_3 [.int .i64 budget3, .bool false, v0, .int .i64 lambda1, .int .i64 limit2, v18_3, v21_3, (.slice none 0 0), .int .i64 0, (.slice none 0 0)], .it (El.ow (El.int .i64)) [v21_3] xs_2, .it (El.ow (El.int .i64)) [v18_3] l18] := st.pick [0, 2, 1] (by decide)
      obtain ⟨r37_2, hx_7, hp⟩ := obind hp
      obtain ⟨φ_3, L_3, s_3, r_4⟩ := id st
      refine (r_impl_chooser_change hx_7 (s_3.upS r_4) (f0.mono s_3.ubH)).mono fun v_4 h_15 ⟨eq_3, t_3⟩ => ⟨eq_3, ?_⟩
      replace st := s_3.downS t_3
      clear t_3 s_3 r_4
      obtain rfl := Option.some.inj hp
      exact ⟨m_2, Nat.lt_succ_self _, _, st.pick [0, 2, 1] (by decide), hs_2⟩
    · have st := st.nil (El.int .i64)
      have st := st.nil (El.int .i64)
      have st : S ψ h h_14 [.box b23_3 [.int .i64 budget3, .bool false, v0, .int .i64 lambda1, .int .i64 limit2, v18_3, v21_3, (.slice none 0 0), .int .i64 0, (.slice none 0 0)], .it (El.ow (El.int .i64)) [v18_3] l18, .it (El.ow (El.int .i64)) [v21_3] xs_2, .it (El.ow (El.int .i64)) [(.slice none 0 0)] ([] : List Int), .it (El.ow (El.int .i64)) [(.slice none 0 0)] ([] : List Int)] := st.pick [2, 3, 4, 1, 0] (by decide)
      obtain ⟨r40_2, hx_8, hp⟩ := obind hp
      obtain ⟨φ_4, L_4, s_4, r_5⟩ := id st
      refine (r_impl_chooser_search hx_8 (s_4.upS r_5) (f0.mono s_4.ubH)).mono fun v_5 h_16 ⟨v40_5, v40_6, v40_7, v40_8, eq_4, t_4⟩ => ⟨eq_4, ?_⟩
      replace st := s_4.downS t_4
      clear t_4 s_4 r_5
      obtain rfl := Option.some.inj hp
      obtain rfl := Option.some.inj hs_2
      exact ⟨b23_3, v0, v40_5, v40_6, v40_7, v40_8, rfl, st.pick [0, 1, 2, 3, 4] (by decide)⟩
theorem r_impl_ChooseOrbits {ψ : CM} {h : Heap} (hψ : CLe ψ (hcell h)) {m0 : List (List Int)} {v0 : Value} {lambda1 : Int} {budget2 : Int} {r : (List Int) × Int} (hp : p_impl_ChooseOrbits m0 lambda1 budget2 = some r) (f0 : SlC (hcell h) (El.sl (El.int .i64)) v0 m0) : CallsH P id_impl_ChooseOrbits #[v0, .int .i64 lambda1, .int .i64 budget2] h (fun v h' => ∃ w0 : Value, v = .tuple #[w0, .int .i64 r.2] ∧ S ψ h h' [.it (El.ow (El.int .i64)) [w0] r.1]) := by
  apply w_impl_ChooseOrbits
  unfold F_impl_ChooseOrbits
  rw [p_impl_ChooseOrbits] at hp
  have st : S ψ h h [] := S.start hψ
  obtain ⟨r10, hx, hp⟩ := obind hp
  obtain ⟨φ, L, s, r_2⟩ := id st
  refine (r_impl_isCounts s.fle hx (f0.mono st.le)).mono fun v_2 h_2 ⟨eq, t⟩ => ⟨_, eq, ?_⟩
  replace st := join0 s r_2 t
  clear t s r_2
  refine bifP hp (fun hc hp => ?_) (fun hc hp => ?_)
  · have st := st.nilO (E := (El.int .i64))
    obtain rfl := Option.some.inj hp
    exact ⟨(.slice none 0 0), rfl, st.pick [0] (by decide)⟩
  · refine ⟨fun h_3 => S ψ h h_3 [] ∧ p_impl_ChooseOrbits_k1 m0 lambda1 budget2 = some r, ?_, ?_⟩
    · obtain ⟨r13, hx_3, hp⟩ := obind hp
      obtain ⟨φ_3, L_3, s_3, r_4⟩ := id st
      refine (r_impl_isBudget s_3.fle hx_3).mono fun v_4 h_5 ⟨eq_3, t_3⟩ => ⟨_, eq_3, ?_⟩
      replace st := join0 s_3 r_4 t_3
      clear t_3 s_3 r_4
      refine bifP hp (fun hc hp => ?_) (fun hc hp => ?_)
      · have st := st.nilO (E := (El.int .i64))
        obtain rfl := Option.some.inj hp
        exact ⟨(.slice none 0 0), rfl, st.pick [0] (by decide)⟩
      · obtain ⟨r17, hx_4, hp⟩ := obind hp
        obtain ⟨φ_4, L_4, s_4, r_5⟩ := id st
        refine (r_impl_isLambda s_4.fle hx_4).mono fun v_5 h_6 ⟨eq_4, t_4⟩ => ⟨_, eq_4, ?_⟩
        replace st := join0 s_4 r_5 t_4
        clear t_4 s_4 r_5
        refine bifP hp (fun hc hp => ?_) (fun hc hp => ?_)
        · have st := st.nilO (E := (El.int .i64))
          obtain rfl := Option.some.inj hp
          exact ⟨(.slice none 0 0), rfl, st.pick [0] (by decide)⟩
        · exact ⟨st.pick [] (by decide), hp⟩
    · rintro _ h_3 ⟨st, hp⟩
      rw [p_impl_ChooseOrbits_k1] at hp
      obtain ⟨r23, hx_2, hp⟩ := obind hp
      obtain ⟨φ_2, L_2, s_2, r_3⟩ := id st
      refine (r_impl_choices s_2.fle hx_2 (f0.mono st.le)).mono fun v_3 h_4 ⟨b23, v23, v23_2, v23_3, v23_4, v23_5, eq_2, t_2⟩ => ⟨_, eq_2, ?_⟩
      replace st := join5 s_2 r_3 t_2
      clear t_2 s_2 r_3
      refine ldB_K (st.cells 0 rfl) 1 rfl rfl ?_
      refine bifP hp (fun hc hp => ?_) (fun hc hp => ?_)
      · have st := st.nilO (E := (El.int .i64))
        obtain rfl := Option.some.inj hp
        exact ⟨(.slice none 0 0), rfl, st.pick [0] (by decide)⟩
      · refine ldI_K (st.cells 0 rfl) 8 rfl rfl ?_
        refine bifP hp (fun hc hp => ?_) (fun hc hp => ?_)
        · have st := st.nilO (E := (El.int .i64))
          obtain rfl := Option.some.inj hp
          exact ⟨(.slice none 0 0), rfl, st.pick [0] (by decide)⟩
        · refine ldV_K (st.cells 0 rfl) 9 rfl rfl ?_
          obtain rfl := Option.some.inj hp
          exact ⟨v23_5, rfl, st.pick [4] (by decide)⟩
theorem r_laws_markInt64SS {ψ : CM} {h0 h : Heap} {os : List Ob} {a0 : List (List Int)} {v0 : Value} {k1 : Int} {r : Int × (List (List Int))} (hp : p_laws_markInt64SS a0 k1 = some r) (st : S ψ h0 h (.it (El.ow (El.ow (El.int .i64))) [v0] a0 :: os))  : CallsH P id_laws_markInt64SS #[v0, .int .i64 k1] h (fun v h' => v = .int .i64 r.1 ∧ S ψ h0 h' (.it (El.ow (El.ow (El.int .i64))) [v0] r.2 :: os)) := by
  apply w_laws_markInt64SS
  unfold F_laws_markInt64SS
  rw [p_laws_markInt64SS] at hp
  obtain ⟨n_2, hn⟩ := loop_n hp
  refine ⟨fun n k1_2 i5 h_2 => ∃ xs : List (List Int), S ψ h0 h_2 (.it (El.ow (El.ow (El.int .i64))) [v0] xs :: os) ∧ loopN (p_laws_markInt64SS_b1) n (k1_2, i5, xs) = some r, ⟨n_2, _, st.pickT 1 [0] (by decide) (by decide), hn⟩, ?_⟩
  rintro n _ k1_2 i5 h_2 ⟨xs, st, hn⟩
  obtain ⟨m, a, rfl, hp, hs⟩ := loopN_step hn
  rw [p_laws_markInt64SS_b1] at hp
  refine vLen_C (st.rdL 0 rfl (frz_ow (frz_int _))) ?_
  refine bifP hp (fun hc hp => ?_) (fun hc hp => ?_)
  · obtain ⟨e14, hx, hp⟩ := obind hp
    refine vIdx_C (st.rdL 0 rfl (frz_ow (frz_int _))) hx fun p14 ad => ?_
    refine ldV_hd st 0 rfl ad hx fun u15 hd => ?_
    have st := foc_S st 0 rfl hd hx
    dsimp only [List.set] at st
    obtain ⟨r17, hx_2, hp⟩ := obind hp
    obtain ⟨φ, L, s, r_2⟩ := id st
    refine (r_laws_markInt64S hx_2 (s.upS r_2) ).mono fun v_2 h_3 ⟨eq, t⟩ => ⟨_, eq, ?_⟩
    replace st := s.downS t
    clear t s r_2
    have st := unf_S st 0 rfl
    dsimp only [List.set] at st
    obtain rfl := Option.some.inj hp
    exact ⟨m, Nat.lt_succ_self _, _, st.pickT 1 [0] (by decide) (by decide), hs⟩
  · obtain rfl := Option.some.inj hp
    obtain rfl := Option.some.inj hs
    exact ⟨rfl, st.pickT 1 [0] (by decide) (by decide)⟩
theorem r_laws_FnExactChooseOrbits {ψ : CM} {h : Heap} (hψ : CLe ψ (hcell h)) {y0 : List (List Int)} {v0 : Value} {y1 : Int} {y2 : Int} {r : Bool} (hp : p_laws_FnExactChooseOrbits y0 y1 y2 = some r) (f0 : SlC (hcell h) (El.sl (El.int .i64)) v0 y0) : CallsH P id_laws_FnExactChooseOrbits #[v0, .int .i64 y1, .int .i64 y2] h (fun v h' => v = .bool r ∧ S ψ h h' []) := by
  apply w_laws_FnExactChooseOrbits
  unfold F_laws_FnExactChooseOrbits
  rw [p_laws_FnExactChooseOrbits] at hp
  have st : S ψ h h [] := S.start hψ
  obtain ⟨r20, hx, hp⟩ := obind hp
  obtain ⟨φ, L, s, r_2⟩ := id st
  refine (r_laws_szInt64SS s.fle hx (f0.mono st.le)).mono fun v_2 h_2 ⟨eq, t⟩ => ⟨_, eq, ?_⟩
  replace st := join0 s r_2 t
  clear t s r_2
  refine bifP hp (fun hc hp => ?_) (fun hc hp => ?_)
  · obtain rfl := Option.some.inj hp
    exact ⟨rfl, st.pick [] (by decide)⟩
  · obtain ⟨r25, hx_2, hp⟩ := obind hp
    obtain ⟨φ_2, L_2, s_2, r_3⟩ := id st
    refine (r_laws_toInt64SS s_2.fle hx_2 (f0.mono st.le)).mono fun v_3 h_3 ⟨v25, eq_2, t_2⟩ => ⟨_, eq_2, ?_⟩
    replace st := join1 s_2 r_3 t_2
    clear t_2 s_2 r_3
    have st := st.freeze 0 rfl (frz_ow (frz_ow (frz_int _)))
    dsimp only [List.set] at st
    obtain ⟨r28, hx_3, hp⟩ := obind hp
    obtain ⟨φ_3, L_3, s_3, r_4⟩ := id st
    refine (r_spec_ChooseOrbits s_3.fle hx_3 (st.rdF 0 rfl)).mono fun v_4 h_4 ⟨v28, eq_3, t_3⟩ => ⟨_, _, eq_3, ?_⟩
    replace st := join1 s_3 r_4 t_3
    clear t_3 s_3 r_4
    obtain ⟨r32, hx_4, hp⟩ := obind hp
    obtain ⟨φ_4, L_4, s_4, r_5⟩ := id st
    refine (r_laws_toInt64SS s_4.fle hx_4 (f0.mono st.le)).mono fun v_5 h_5 ⟨v32, eq_4, t_4⟩ => ⟨_, eq_4, ?_⟩
    replace st := join1 s_4 r_5 t_4
    clear t_4 s_4 r_5
    obtain ⟨r37, hx_5, hp⟩ := obind hp
    obtain ⟨φ_5, L_5, s_5, r_6⟩ := id st
    refine (r_impl_ChooseOrbits s_5.fle hx_5 (st.rdL 0 rfl (frz_ow (frz_int _)))).mono fun v_6 h_6 ⟨v37, eq_5, t_5⟩ => ⟨_, _, eq_5, ?_⟩
    replace st := join1 s_5 r_6 t_5
    clear t_5 s_5 r_6
    refine ⟨fun h_7 => S ψ h h_7 [.it (El.ow (El.int .i64)) [v37] r37.1, .it (El.ow (El.ow (El.int .i64))) [v32] r32, .it (El.ow (El.int .i64)) [v28] r28.1, .it (El.sl (El.sl (El.int .i64))) [v25] r25] ∧ p_laws_FnExactChooseOrbits_k1 y0 y1 y2 r28 r32 r37 = some r, ?_, ?_⟩
    · obtain ⟨r42, hx_16, hp⟩ := obind hp
      obtain ⟨φ_16, L_16, s_16, r_17⟩ := id st
      refine (r_laws_eqInt64S s_16.fle hx_16 (st.rdL 0 rfl (frz_int _)) (st.rdL 2 rfl (frz_int _))).mono fun v_17 h_20 ⟨eq_16, t_16⟩ => ⟨_, eq_16, ?_⟩
      replace st := join0 s_16 r_17 t_16
      clear t_16 s_16 r_17
      refine bifP hp (fun hc hp => ?_) (fun hc hp => ?_)
      · obtain rfl := Option.some.inj hp
        exact ⟨rfl, st.pick [] (by decide)⟩
      · refine bifP hp (fun hc hp => ?_) (fun hc hp => ?_)
        · obtain rfl := Option.some.inj hp
          exact ⟨rfl, st.pick [] (by decide)⟩
        · exact ⟨st.pick [0, 1, 2, 3] (by decide), hp⟩
    · rintro _ h_7 ⟨st, hp⟩
      rw [p_laws_FnExactChooseOrbits_k1] at hp
      obtain ⟨r51, hx_6, hp⟩ := obind hp
      obtain ⟨φ_6, L_6, s_6, r_7⟩ := id st
      refine (r_laws_toInt64SS s_6.fle hx_6 (f0.mono st.le)).mono fun v_7 h_8 ⟨v51, eq_6, t_6⟩ => ⟨_, eq_6, ?_⟩
      replace st := join1 s_6 r_7 t_6
      clear t_6 s_6 r_7
      have st := st.freeze 0 rfl (frz_ow (frz_ow (frz_int _)))
      dsimp only [List.set] at st
      obtain ⟨r52, hx_7, hp⟩ := obind hp
      obtain ⟨φ_7, L_7, s_7, r_8⟩ := id st
      refine (r_laws_eqInt64SS s_7.fle hx_7 (st.rdL 2 rfl (frz_ow (frz_int _))) (st.rdF 0 rfl)).mono fun v_8 h_9 ⟨eq_7, t_7⟩ => ⟨_, eq_7, ?_⟩
      replace st := join0 s_7 r_8 t_7
      clear t_7 s_7 r_8
      refine bifP hp (fun hc hp => ?_) (fun hc hp => ?_)
      · obtain rfl := Option.some.inj hp
        exact ⟨rfl, st.pick [] (by decide)⟩
      · have st : S ψ h h_9 [.it (El.ow (El.ow (El.int .i64))) [v32] r32, .it (El.sl (El.sl (El.int .i64))) [v51] r51, .it (El.ow (El.int .i64)) [v37] r37.1, .it (El.ow (El.int .i64)) [v28] r28.1, .it (El.sl (El.sl (El.int .i64))) [v25] r25] := st.pick [2, 0, 1, 3, 4] (by decide)
        obtain ⟨r56, hx_8, hp⟩ := obind hp
        obtain ⟨φ_8, L_8, s_8, r_9⟩ := id st
        refine (r_laws_markInt64SS hx_8 (s_8.upS r_9) ).mono fun v_9 h_10 ⟨eq_8, t_8⟩ => ⟨_, eq_8, ?_⟩
        replace st := s_8.downS t_8
        clear t_8 s_8 r_9
        refine ⟨fun h_11 => S ψ h h_11 [.it (El.ow (El.ow (El.int .i64))) [v32] r56.2, .it (El.sl (El.sl (El.int .i64))) [v51] r51, .it (El.ow (El.int .i64)) [v37] r37.1, .it (El.ow (El.int .i64)) [v28] r28.1, .it (El.sl (El.sl (El.int .i64))) [v25] r25] ∧ p_laws_FnExactChooseOrbits_k2 y0 y1 y2 r28 r37 = some r, ?_, ?_⟩
        · refine bifP hp (fun hc hp => ?_) (fun hc hp => ?_)
          · obtain rfl := Option.some.inj hp
            exact ⟨rfl, st.pick [] (by decide)⟩
          · obtain ⟨r62, hx_15, hp⟩ := obind hp
            obtain ⟨φ_15, L_15, s_15, r_16⟩ := id st
            refine (r_laws_eqInt64S s_15.fle hx_15 (st.rdL 2 rfl (frz_int _)) (st.rdL 3 rfl (frz_int _))).mono fun v_16 h_19 ⟨eq_15, t_15⟩ => ⟨_, eq_15, ?_⟩
            replace st := join0 s_15 r_16 t_15
            clear t_15 s_15 r_16
            refine bifP hp (fun hc hp => ?_) (fun hc hp => ?_)
            · obtain rfl := Option.some.inj hp
              exact ⟨rfl, st.pick [] (by decide)⟩
            · refine bifP hp (fun hc hp => ?_) (fun hc hp => ?_)
              · obtain rfl := Option.some.inj hp
                exact ⟨rfl, st.pick [] (by decide)⟩
              · exact ⟨st.pick [0, 1, 2, 3, 4] (by decide), hp⟩
        · rintro _ h_11 ⟨st, hp⟩
          rw [p_laws_FnExactChooseOrbits_k2] at hp
          have st : S ψ h h_11 [.it (El.ow (El.int .i64)) [v37] r37.1, .it (El.ow (El.ow (El.int .i64))) [v32] r56.2, .it (El.sl (El.sl (El.int .i64))) [v51] r51, .it (El.ow (El.int .i64)) [v28] r28.1, .it (El.sl (El.sl (El.int .i64))) [v25] r25] := st.pick [2, 0, 1, 3, 4] (by decide)
          obtain ⟨r72, hx_9, hp⟩ := obind hp
          obtain ⟨φ_9, L_9, s_9, r_10⟩ := id st
          refine (r_laws_markInt64S hx_9 (s_9.upS r_10) ).mono fun v_10 h_12 ⟨eq_9, t_9⟩ => ⟨_, eq_9, ?_⟩
          replace st := s_9.downS t_9
          clear t_9 s_9 r_10
          obtain ⟨r75, hx_10, hp⟩ := obind hp
          obtain ⟨φ_10, L_10, s_10, r_11⟩ := id st
          refine (r_laws_heldInt64S s_10.fle hx_10 (st.rdL 0 rfl (frz_int _))).mono fun v_11 h_13 ⟨eq_10, t_10⟩ => ⟨_, eq_10, ?_⟩
          replace st := join0 s_10 r_11 t_10
          clear t_10 s_10 r_11
          refine bifP hp (fun hc hp => ?_) (fun hc hp => ?_)
          · obtain rfl := Option.some.inj hp
            exact ⟨rfl, st.pick [] (by decide)⟩
          · refine bifP hp (fun hc hp => ?_) (fun hc hp => ?_)
            · obtain rfl := Option.some.inj hp
              exact ⟨rfl, st.pick [] (by decide)⟩
            · obtain ⟨r83, hx_11, hp⟩ := obind hp
              obtain ⟨φ_11, L_11, s_11, r_12⟩ := id st
              refine (r_laws_toInt64SS s_11.fle hx_11 (f0.mono st.le)).mono fun v_12 h_14 ⟨v83, eq_11, t_11⟩ => ⟨_, eq_11, ?_⟩
              replace st := join1 s_11 r_12 t_11
              clear t_11 s_11 r_12
              have st := st.freeze 0 rfl (frz_ow (frz_ow (frz_int _)))
              dsimp only [List.set] at st
              obtain ⟨r86, hx_12, hp⟩ := obind hp
              obtain ⟨φ_12, L_12, s_12, r_13⟩ := id st
              refine (r_impl_ChooseOrbits s_12.fle hx_12 (st.rdF 0 rfl)).mono fun v_13 h_15 ⟨v86, eq_12, t_12⟩ => ⟨_, _, eq_12, ?_⟩
              replace st := join1 s_12 r_13 t_12
              clear t_12 s_12 r_13
              refine ⟨fun h_16 => S ψ h h_16 [.it (El.ow (El.int .i64)) [v86] r86.1, .it (El.sl (El.sl (El.int .i64))) [v83] r83, .it (El.ow (El.int .i64)) [v37] r72.2, .it (El.ow (El.ow (El.int .i64))) [v32] r56.2, .it (El.sl (El.sl (El.int .i64))) [v51] r51, .it (El.ow (El.int .i64)) [v28] r28.1, .it (El.sl (El.sl (El.int .i64))) [v25] r25] ∧ p_laws_FnExactChooseOrbits_k3 r72 = some r, ?_, ?_⟩
              · obtain ⟨r91, hx_14, hp⟩ := obind hp
                obtain ⟨φ_14, L_14, s_14, r_15⟩ := id st
                refine (r_laws_eqInt64S s_14.fle hx_14 (st.rdL 0 rfl (frz_int _)) (st.rdL 5 rfl (frz_int _))).mono fun v_15 h_18 ⟨eq_14, t_14⟩ => ⟨_, eq_14, ?_⟩
                replace st := join0 s_14 r_15 t_14
                clear t_14 s_14 r_15
                refine bifP hp (fun hc hp => ?_) (fun hc hp => ?_)
                · obtain rfl := Option.some.inj hp
                  exact ⟨rfl, st.pick [] (by decide)⟩
                · refine bifP hp (fun hc hp => ?_) (fun hc hp => ?_)
                  · obtain rfl := Option.some.inj hp
                    exact ⟨rfl, st.pick [] (by decide)⟩
                  · exact ⟨st.pick [0, 1, 2, 3, 4, 5, 6] (by decide), hp⟩
              · rintro _ h_16 ⟨st, hp⟩
                rw [p_laws_FnExactChooseOrbits_k3] at hp
                obtain ⟨r100, hx_13, hp⟩ := obind hp
                obtain ⟨φ_13, L_13, s_13, r_14⟩ := id st
                refine (r_laws_heldInt64S s_13.fle hx_13 (st.rdL 2 rfl (frz_int _))).mono fun v_14 h_17 ⟨eq_13, t_13⟩ => ⟨_, eq_13, ?_⟩
                replace st := join0 s_13 r_14 t_13
                clear t_13 s_13 r_14
                refine bifP hp (fun hc hp => ?_) (fun hc hp => ?_)
                · obtain rfl := Option.some.inj hp
                  exact ⟨rfl, st.pick [] (by decide)⟩
                · refine bifP hp (fun hc hp => ?_) (fun hc hp => ?_)
                  · obtain rfl := Option.some.inj hp
                    exact ⟨rfl, st.pick [] (by decide)⟩
                  · obtain rfl := Option.some.inj hp
                    exact ⟨rfl, st.pick [] (by decide)⟩
end Go.Proofs.Ytieehpcgmjbceaa
