/- The program's own test of a valid design. -/
import Derived.Test.YtkgeocffngdeoaaGreatPuDesB
namespace Go.Proofs.YtkgeocffngdeoaaGreat
open Go Go.Vc
set_option linter.unusedSimpArgs false
set_option linter.unusedVariables false

theorem block_impl {b : List Int} {P : Int} (hb : (b.length : Int) ≤ 1048576) (h1 : 1 ≤ P) (h2 : P ≤ 32) : IsQ (p_impl_isBlock b P) (Blk b P) := by
  unfold p_impl_isBlock Blk
  by_cases h : 0 < (b.length : Int)
  · simp (disch := omega) only [wr64, dec_t, dec_f, beq_t, beq_f, bne_t, bne_f, gIdx_ix, gNz_ok, gSl_from, gApp1, Option.bind_some, Option.map_some, cond_true, cond_false, Bool.not_true, Bool.not_false, List.length_set, Int.toNat_natCast, List.take_length]
    exact (set_ok (by omega)).bind_id.congr ⟨fun x => ⟨h, x.1⟩, fun x => ⟨x.2, by omega, by omega⟩⟩
  · simp (disch := omega) only [wr64, dec_t, dec_f, beq_t, beq_f, bne_t, bne_f, gIdx_ix, gNz_ok, gSl_from, gApp1, Option.bind_some, Option.map_some, cond_true, cond_false, Bool.not_true, Bool.not_false, List.length_set, Int.toNat_natCast, List.take_length]
    exact IsQ.f fun x => h x.1
theorem sorted_ok {bs : List (List Int)} (hd : Sz2 bs) : IsQ (p_slices_IsSortedFunc_LLint64_Lint64 bs (fun y0 y1 => p_slices_Compare_Lint64_int64 y0 y1)) (∀ k, 0 < k → k < (bs.length : Int) → cmpL (ix bs (k - 1)) (ix bs k) ≤ 0) := by
  unfold p_slices_IsSortedFunc_LLint64_Lint64
  have hl := hd.1
  by_cases h0 : (bs.length : Int) = 0
  · simp (disch := omega) only [wr64, dec_t, dec_f, beq_t, beq_f, bne_t, bne_f, gIdx_ix, gNz_ok, gSl_from, gApp1, Option.bind_some, Option.map_some, cond_true, cond_false, Bool.not_true, Bool.not_false, List.length_set, Int.toNat_natCast, List.take_length]
    rw [loop_end (r := true) (by simp (disch := omega) only [wr64, dec_t, dec_f, beq_t, beq_f, bne_t, bne_f, gIdx_ix, gNz_ok, gSl_from, gApp1, Option.bind_some, Option.map_some, cond_true, cond_false, Bool.not_true, Bool.not_false, List.length_set, Int.toNat_natCast, List.take_length, p_slices_IsSortedFunc_LLint64_Lint64_b1])]
    exact IsQ.t fun k a b => by omega
  · simp (disch := omega) only [wr64, dec_t, dec_f, beq_t, beq_f, bne_t, bne_f, gIdx_ix, gNz_ok, gSl_from, gApp1, Option.bind_some, Option.map_some, cond_true, cond_false, Bool.not_true, Bool.not_false, List.length_set, Int.toNat_natCast, List.take_length]
    rcases loop_down (B := p_slices_IsSortedFunc_LLint64_Lint64_b1 bs (fun y0 y1 => p_slices_Compare_Lint64_int64 y0 y1)) (fun k => k) (fun k => ¬ cmpL (ix bs (k - 1)) (ix bs k) ≤ 0) (i := bs.length - 1) (m := 0) (by omega) (fun k h1 h2 h3 => by
        have hr := hd.row (k := k) (by omega) (by omega)
        have hr2 := hd.row (k := k - 1) (by omega) (by omega)
        have hn := cmpL_neg (ix bs k) (ix bs (k - 1))
        simp (disch := omega) only [wr64, dec_t, dec_f, beq_t, beq_f, bne_t, bne_f, gIdx_ix, gNz_ok, gSl_from, gApp1, Option.bind_some, Option.map_some, cond_true, cond_false, Bool.not_true, Bool.not_false, List.length_set, Int.toNat_natCast, List.take_length, p_slices_IsSortedFunc_LLint64_Lint64_b1, cmp_impl]) with ⟨k, h1, h2, h3, _, h5⟩ | ⟨h1, h2⟩
    · have hr := hd.row (k := k) (by omega) (by omega)
      have hr2 := hd.row (k := k - 1) (by omega) (by omega)
      have hn := cmpL_neg (ix bs k) (ix bs (k - 1))
      rw [h5, loop_end (r := false) (by simp (disch := omega) only [wr64, dec_t, dec_f, beq_t, beq_f, bne_t, bne_f, gIdx_ix, gNz_ok, gSl_from, gApp1, Option.bind_some, Option.map_some, cond_true, cond_false, Bool.not_true, Bool.not_false, List.length_set, Int.toNat_natCast, List.take_length, p_slices_IsSortedFunc_LLint64_Lint64_b1, cmp_impl])]
      exact IsQ.f fun h => h3 (h k h1 (by omega))
    · rw [h2, loop_end (r := true) (by simp (disch := omega) only [wr64, dec_t, dec_f, beq_t, beq_f, bne_t, bne_f, gIdx_ix, gNz_ok, gSl_from, gApp1, Option.bind_some, Option.map_some, cond_true, cond_false, Bool.not_true, Bool.not_false, List.length_set, Int.toNat_natCast, List.take_length, p_slices_IsSortedFunc_LLint64_Lint64_b1])]
      exact IsQ.t fun k a b => Classical.not_not.1 (h1 k a (by omega))
theorem valid_impl {d : T_impl_Design} (hd : Sz2 d.Blocks) : IsQ (p_impl_ValidDesign d) (ValidD d) := by
  unfold p_impl_ValidDesign p_impl_areBlocks
  by_cases hp : 1 ≤ d.Points ∧ d.Points ≤ 32
  · have hc := containsLL (s := d.Blocks) (fn := fun y0 => p_impl_areBlocks_1 y0 d.Points) (q := fun b => ¬ Blk b d.Points) hd.1 (fun b hb => by
      unfold p_impl_areBlocks_1
      exact (block_impl (hd.2 b hb) hp.1 hp.2).not)
    by_cases hb : ∃ b ∈ d.Blocks, ¬ Blk b d.Points
    · simp (disch := omega) only [wr64, dec_t, dec_f, beq_t, beq_f, bne_t, bne_f, gIdx_ix, gNz_ok, gSl_from, gApp1, Option.bind_some, Option.map_some, cond_true, cond_false, Bool.not_true, Bool.not_false, List.length_set, Int.toNat_natCast, List.take_length, within_ok, hc.eq hb]
      obtain ⟨b, h1, h2⟩ := hb
      obtain ⟨i, h3, h4, h5⟩ := mem_ix h1
      exact IsQ.f fun h => h2 (h5 ▸ h.blk i h3 h4)
    · have hall : ∀ k, 0 ≤ k → k < (d.Blocks.length : Int) → Blk (ix d.Blocks k) d.Points := fun k a b => Classical.byContradiction fun h => hb ⟨_, ix_mem a b, h⟩
      by_cases hl : (d.Blocks.length : Int) ≤ 128
      · simp (disch := omega) only [wr64, dec_t, dec_f, beq_t, beq_f, bne_t, bne_f, gIdx_ix, gNz_ok, gSl_from, gApp1, Option.bind_some, Option.map_some, cond_true, cond_false, Bool.not_true, Bool.not_false, List.length_set, Int.toNat_natCast, List.take_length, within_ok, hc.ne hb]
        exact (sorted_ok hd).bind_id.congr ⟨fun h => ⟨hp.1, hp.2, hl, hall, h⟩, fun h => h.srt⟩
      · simp (disch := omega) only [wr64, dec_t, dec_f, beq_t, beq_f, bne_t, bne_f, gIdx_ix, gNz_ok, gSl_from, gApp1, Option.bind_some, Option.map_some, cond_true, cond_false, Bool.not_true, Bool.not_false, List.length_set, Int.toNat_natCast, List.take_length, within_ok, hc.ne hb]
        exact IsQ.f fun h => hl h.len
  · simp (disch := omega) only [wr64, dec_t, dec_f, beq_t, beq_f, bne_t, bne_f, gIdx_ix, gNz_ok, gSl_from, gApp1, Option.bind_some, Option.map_some, cond_true, cond_false, Bool.not_true, Bool.not_false, List.length_set, Int.toNat_natCast, List.take_length, within_ok]; exact IsQ.f fun h => hp ⟨h.p1, h.p2⟩
theorem sz_design {a : T_laws_Design} (h : Sm_T_laws_Design a) : Sz2 (cv_T_laws_Design a).Blocks := by
  have e : (cv_T_laws_Design a).Blocks = a.Blocks := by simp [cv_T_laws_Design]
  rw [e]
  exact ⟨by have := h.1; omega, fun b hb => by have := (h.2 b hb).1; omega⟩
end Go.Proofs.YtkgeocffngdeoaaGreat
