/- Valid designs; small functions on lists. -/
import Derived.Test.YtkgeocffngdeoaaGreatPuDesA
namespace Go.Proofs.YtkgeocffngdeoaaGreat
open Go Go.Vc
set_option linter.unusedSimpArgs false
set_option linter.unusedVariables false

theorem containsLL {s : List (List Int)} {fn : List Int → Option Bool} {q : List Int → Prop} (hN : (s.length : Int) ≤ 1048576) (hf : ∀ x ∈ s, IsQ (fn x) (q x)) : IsQ (p_slices_ContainsFunc_LLint64_Lint64 s fn) (∃ x ∈ s, q x) := by
  refine contains_loop (B := p_slices_IndexFunc_LLint64_Lint64_b1 s fn) (f := fn) (by unfold M63; omega) hf ?_ ?_
  · intro k x hx
    have := get_lt' hx
    simp (disch := omega) only [wr64, dec_t, dec_f, beq_t, beq_f, bne_t, bne_f, gIdx_ix, gNz_ok, gSl_from, gApp1, Option.bind_some, Option.map_some, cond_true, cond_false, Bool.not_true, Bool.not_false, List.length_set, Int.toNat_natCast, List.take_length, p_slices_IndexFunc_LLint64_Lint64_b1]
    rw [ix_nat hx]
  · simp (disch := omega) only [wr64, dec_t, dec_f, beq_t, beq_f, bne_t, bne_f, gIdx_ix, gNz_ok, gSl_from, gApp1, Option.bind_some, Option.map_some, cond_true, cond_false, Bool.not_true, Bool.not_false, List.length_set, Int.toNat_natCast, List.take_length, p_slices_IndexFunc_LLint64_Lint64_b1]
theorem containsL {s : List Int} {fn : Int → Option Bool} {q : Int → Prop} (hN : (s.length : Int) ≤ 1048576) (hf : ∀ x ∈ s, IsQ (fn x) (q x)) : IsQ (p_slices_ContainsFunc_Lint64_int64 s fn) (∃ x ∈ s, q x) := by
  refine contains_loop (B := p_slices_IndexFunc_Lint64_int64_b1 s fn) (f := fn) (by unfold M63; omega) hf ?_ ?_
  · intro k x hx
    have := get_lt' hx
    simp (disch := omega) only [wr64, dec_t, dec_f, beq_t, beq_f, bne_t, bne_f, gIdx_ix, gNz_ok, gSl_from, gApp1, Option.bind_some, Option.map_some, cond_true, cond_false, Bool.not_true, Bool.not_false, List.length_set, Int.toNat_natCast, List.take_length, p_slices_IndexFunc_Lint64_int64_b1]
    rw [ix_nat hx]
  · simp (disch := omega) only [wr64, dec_t, dec_f, beq_t, beq_f, bne_t, bne_f, gIdx_ix, gNz_ok, gSl_from, gApp1, Option.bind_some, Option.map_some, cond_true, cond_false, Bool.not_true, Bool.not_false, List.length_set, Int.toNat_natCast, List.take_length, p_slices_IndexFunc_Lint64_int64_b1]
theorem containsI {s : List Int} {v : Int} (hN : (s.length : Int) ≤ 1048576) : IsQ (p_slices_Contains_Lint64_int64 s v) (v ∈ s) := by
  have := contains_loop (xs := s) (f := fun x => some (decide (v = x))) (q := fun x => v = x) (B := p_slices_Index_Lint64_int64_b1 s v) (by unfold M63; omega) (fun x hx => ⟨_, rfl, by simp⟩) ?_ ?_
  · exact this.congr ⟨fun ⟨x, h, e⟩ => e ▸ h, fun h => ⟨v, h, rfl⟩⟩
  · intro k x hx
    have := get_lt' hx
    by_cases h : v = x
    · simp (disch := omega) only [wr64, dec_t, dec_f, beq_t, beq_f, bne_t, bne_f, gIdx_ix, gNz_ok, gSl_from, gApp1, Option.bind_some, Option.map_some, cond_true, cond_false, Bool.not_true, Bool.not_false, List.length_set, Int.toNat_natCast, List.take_length, p_slices_Index_Lint64_int64_b1, ix_nat hx]
    · simp (disch := omega) only [wr64, dec_t, dec_f, beq_t, beq_f, bne_t, bne_f, gIdx_ix, gNz_ok, gSl_from, gApp1, Option.bind_some, Option.map_some, cond_true, cond_false, Bool.not_true, Bool.not_false, List.length_set, Int.toNat_natCast, List.take_length, p_slices_Index_Lint64_int64_b1, ix_nat hx]
  · simp (disch := omega) only [wr64, dec_t, dec_f, beq_t, beq_f, bne_t, bne_f, gIdx_ix, gNz_ok, gSl_from, gApp1, Option.bind_some, Option.map_some, cond_true, cond_false, Bool.not_true, Bool.not_false, List.length_set, Int.toNat_natCast, List.take_length, p_slices_Index_Lint64_int64_b1]
theorem has_ok {s : List Int} {v : Int} (hN : (s.length : Int) ≤ 1048576) : IsQ (p_spec_l00Has s v) (v ∈ s) := by
  unfold p_spec_l00Has
  rcases loop_find (B := p_spec_l00Has_b1 s v) (fun k => k) (fun k => ix s k = v) (i := 0) (n := s.length) (by omega) (fun k h0 h1 h2 => by simp (disch := omega) only [wr64, dec_t, dec_f, beq_t, beq_f, bne_t, bne_f, gIdx_ix, gNz_ok, gSl_from, gApp1, Option.bind_some, Option.map_some, cond_true, cond_false, Bool.not_true, Bool.not_false, List.length_set, Int.toNat_natCast, List.take_length, p_spec_l00Has_b1]) with ⟨k, h1, h2, h3, _, h5⟩ | ⟨h1, h2⟩
  · rw [h5, loop_end (r := true) (by simp (disch := omega) only [wr64, dec_t, dec_f, beq_t, beq_f, bne_t, bne_f, gIdx_ix, gNz_ok, gSl_from, gApp1, Option.bind_some, Option.map_some, cond_true, cond_false, Bool.not_true, Bool.not_false, List.length_set, Int.toNat_natCast, List.take_length, p_spec_l00Has_b1])]
    exact IsQ.t (h3 ▸ ix_mem h1 h2)
  · rw [h2, loop_end (r := false) (by simp (disch := omega) only [wr64, dec_t, dec_f, beq_t, beq_f, bne_t, bne_f, gIdx_ix, gNz_ok, gSl_from, gApp1, Option.bind_some, Option.map_some, cond_true, cond_false, Bool.not_true, Bool.not_false, List.length_set, Int.toNat_natCast, List.take_length, p_spec_l00Has_b1])]
    exact IsQ.f fun h => by
      obtain ⟨i, a, b, c⟩ := mem_ix h
      exact h1 i a b c
theorem same_ok {a b : List Int} (hN : (a.length : Int) ≤ 1048576) : IsQ (p_spec_l00Same a b) (a = b) := by
  unfold p_spec_l00Same
  refine eq_slice (by unfold M63; omega) (fun k x y hx hy => ?_) (by simp (disch := omega) only [wr64, dec_t, dec_f, beq_t, beq_f, bne_t, bne_f, gIdx_ix, gNz_ok, gSl_from, gApp1, Option.bind_some, Option.map_some, cond_true, cond_false, Bool.not_true, Bool.not_false, List.length_set, Int.toNat_natCast, List.take_length, p_spec_l00Same_b1])
  have h1 := get_lt' hx
  have h2 := get_lt' hy
  by_cases h : x = y
  · exact step_of (c := true) (by simp [h]) (by simp (disch := omega) only [wr64, dec_t, dec_f, beq_t, beq_f, bne_t, bne_f, gIdx_ix, gNz_ok, gSl_from, gApp1, Option.bind_some, Option.map_some, cond_true, cond_false, Bool.not_true, Bool.not_false, List.length_set, Int.toNat_natCast, List.take_length, p_spec_l00Same_b1, ix_nat hx, ix_nat hy])
  · exact step_of (c := false) (by simp [h]) (by simp (disch := omega) only [wr64, dec_t, dec_f, beq_t, beq_f, bne_t, bne_f, gIdx_ix, gNz_ok, gSl_from, gApp1, Option.bind_some, Option.map_some, cond_true, cond_false, Bool.not_true, Bool.not_false, List.length_set, Int.toNat_natCast, List.take_length, p_spec_l00Same_b1, ix_nat hx, ix_nat hy])
theorem equal_ok {a b : List Int} (hN : (a.length : Int) ≤ 1048576) : IsQ (p_slices_Equal_Lint64_int64 a b) (a = b) := by
  unfold p_slices_Equal_Lint64_int64
  refine eq_slice (by unfold M63; omega) (fun k x y hx hy => ?_) (by simp (disch := omega) only [wr64, dec_t, dec_f, beq_t, beq_f, bne_t, bne_f, gIdx_ix, gNz_ok, gSl_from, gApp1, Option.bind_some, Option.map_some, cond_true, cond_false, Bool.not_true, Bool.not_false, List.length_set, Int.toNat_natCast, List.take_length, p_slices_Equal_Lint64_int64_b1])
  have h1 := get_lt' hx
  have h2 := get_lt' hy
  by_cases h : x = y
  · exact step_of (c := true) (by simp [h]) (by simp (disch := omega) only [wr64, dec_t, dec_f, beq_t, beq_f, bne_t, bne_f, gIdx_ix, gNz_ok, gSl_from, gApp1, Option.bind_some, Option.map_some, cond_true, cond_false, Bool.not_true, Bool.not_false, List.length_set, Int.toNat_natCast, List.take_length, p_slices_Equal_Lint64_int64_b1, ix_nat hx, ix_nat hy])
  · exact step_of (c := false) (by simp [h]) (by simp (disch := omega) only [wr64, dec_t, dec_f, beq_t, beq_f, bne_t, bne_f, gIdx_ix, gNz_ok, gSl_from, gApp1, Option.bind_some, Option.map_some, cond_true, cond_false, Bool.not_true, Bool.not_false, List.length_set, Int.toNat_natCast, List.take_length, p_slices_Equal_Lint64_int64_b1, ix_nat hx, ix_nat hy])
def Sz2 (bs : List (List Int)) : Prop := (bs.length : Int) ≤ 1048576 ∧ ∀ b ∈ bs, (b.length : Int) ≤ 1048576
theorem Sz2.row {bs : List (List Int)} (h : Sz2 bs) {k : Int} (h0 : 0 ≤ k) (h1 : k < (bs.length : Int)) : ((ix bs k).length : Int) ≤ 1048576 := h.2 _ (ix_mem h0 h1)

def Blk (b : List Int) (P : Int) : Prop := 0 < (b.length : Int) ∧ Rising b 0 (P - 1)
theorem block_spec {b : List Int} {P : Int} (hb : (b.length : Int) ≤ 1048576) (h1 : 1 ≤ P) (h2 : P ≤ 32) : IsQ (p_spec_l10Block b P) (Blk b P) := by
  unfold p_spec_l10Block Blk
  by_cases h : 0 < (b.length : Int)
  · simp (disch := omega) only [wr64, dec_t, dec_f, beq_t, beq_f, bne_t, bne_f, gIdx_ix, gNz_ok, gSl_from, gApp1, Option.bind_some, Option.map_some, cond_true, cond_false, Bool.not_true, Bool.not_false, List.length_set, Int.toNat_natCast, List.take_length]
    exact (rises_ok (by omega)).bind_id.congr ⟨fun x => ⟨h, x⟩, fun x => x.2⟩
  · simp (disch := omega) only [wr64, dec_t, dec_f, beq_t, beq_f, bne_t, bne_f, gIdx_ix, gNz_ok, gSl_from, gApp1, Option.bind_some, Option.map_some, cond_true, cond_false, Bool.not_true, Bool.not_false, List.length_set, Int.toNat_natCast, List.take_length]
    exact IsQ.f fun x => h x.1
structure ValidD (d : T_impl_Design) : Prop where
  p1 : 1 ≤ d.Points
  p2 : d.Points ≤ 32
  len : (d.Blocks.length : Int) ≤ 128
  blk : ∀ k, 0 ≤ k → k < (d.Blocks.length : Int) → Blk (ix d.Blocks k) d.Points
  srt : ∀ k, 0 < k → k < (d.Blocks.length : Int) → cmpL (ix d.Blocks (k - 1)) (ix d.Blocks k) ≤ 0
theorem ok_spec {d : T_impl_Design} (hd : Sz2 d.Blocks) : IsQ (p_spec_l10Ok d) (ValidD d) := by
  unfold p_spec_l10Ok
  by_cases hp : 1 ≤ d.Points ∧ d.Points ≤ 32
  · by_cases hl : (d.Blocks.length : Int) ≤ 128
    · simp (disch := omega) only [wr64, dec_t, dec_f, beq_t, beq_f, bne_t, bne_f, gIdx_ix, gNz_ok, gSl_from, gApp1, Option.bind_some, Option.map_some, cond_true, cond_false, Bool.not_true, Bool.not_false, List.length_set, Int.toNat_natCast, List.take_length, in_ok, p_spec_l10Ok_k1]
      refine (loop_all (P := fun k => Blk (ix d.Blocks k) d.Points ∧ (0 < k → cmpL (ix d.Blocks (k - 1)) (ix d.Blocks k) ≤ 0)) (n := d.Blocks.length) (Q := True) (by omega) ?_ ?_ fun _ => ?_).congr ?_
      · intro k h0 h1 h2
        have hr := hd.row h0 h1
        have hb := (block_spec hr hp.1 hp.2).eq h2.1
        by_cases hk : 0 < k
        · have h3 := h2.2 hk
          have hr2 := hd.row (k := k - 1) (by omega) (by omega)
          simp (disch := omega) only [wr64, dec_t, dec_f, beq_t, beq_f, bne_t, bne_f, gIdx_ix, gNz_ok, gSl_from, gApp1, Option.bind_some, Option.map_some, cond_true, cond_false, Bool.not_true, Bool.not_false, List.length_set, Int.toNat_natCast, List.take_length, p_spec_l10Ok_b1, hb, cmp_spec]
        · simp (disch := omega) only [wr64, dec_t, dec_f, beq_t, beq_f, bne_t, bne_f, gIdx_ix, gNz_ok, gSl_from, gApp1, Option.bind_some, Option.map_some, cond_true, cond_false, Bool.not_true, Bool.not_false, List.length_set, Int.toNat_natCast, List.take_length, p_spec_l10Ok_b1, hb]
      · intro k h0 h1 h2
        have hr := hd.row h0 h1
        by_cases hb : Blk (ix d.Blocks k) d.Points
        · have hk : 0 < k ∧ ¬ cmpL (ix d.Blocks (k - 1)) (ix d.Blocks k) ≤ 0 := ⟨Classical.byContradiction fun h => h2 ⟨hb, fun h' => absurd h' h⟩, fun h => h2 ⟨hb, fun _ => h⟩⟩
          have hr2 := hd.row (k := k - 1) (by omega) (by omega)
          have hb := (block_spec hr hp.1 hp.2).eq hb
          simp (disch := omega) only [wr64, dec_t, dec_f, beq_t, beq_f, bne_t, bne_f, gIdx_ix, gNz_ok, gSl_from, gApp1, Option.bind_some, Option.map_some, cond_true, cond_false, Bool.not_true, Bool.not_false, List.length_set, Int.toNat_natCast, List.take_length, p_spec_l10Ok_b1, hb, cmp_spec]
        · have hb := (block_spec hr hp.1 hp.2).ne hb
          simp (disch := omega) only [wr64, dec_t, dec_f, beq_t, beq_f, bne_t, bne_f, gIdx_ix, gNz_ok, gSl_from, gApp1, Option.bind_some, Option.map_some, cond_true, cond_false, Bool.not_true, Bool.not_false, List.length_set, Int.toNat_natCast, List.take_length, p_spec_l10Ok_b1, hb]
      · rw [loop_end (r := true) (by simp (disch := omega) only [wr64, dec_t, dec_f, beq_t, beq_f, bne_t, bne_f, gIdx_ix, gNz_ok, gSl_from, gApp1, Option.bind_some, Option.map_some, cond_true, cond_false, Bool.not_true, Bool.not_false, List.length_set, Int.toNat_natCast, List.take_length, p_spec_l10Ok_b1])]; exact IsQ.t trivial
      · exact ⟨fun h => ⟨hp.1, hp.2, hl, fun k a b => (h.1 k a b).1, fun k a b => (h.1 k (by omega) b).2 a⟩, fun h => ⟨fun k a b => ⟨h.blk k a b, fun c => h.srt k c b⟩, trivial⟩⟩
    · simp (disch := omega) only [wr64, dec_t, dec_f, beq_t, beq_f, bne_t, bne_f, gIdx_ix, gNz_ok, gSl_from, gApp1, Option.bind_some, Option.map_some, cond_true, cond_false, Bool.not_true, Bool.not_false, List.length_set, Int.toNat_natCast, List.take_length, in_ok]; exact IsQ.f fun h => hl h.len
  · simp (disch := omega) only [wr64, dec_t, dec_f, beq_t, beq_f, bne_t, bne_f, gIdx_ix, gNz_ok, gSl_from, gApp1, Option.bind_some, Option.map_some, cond_true, cond_false, Bool.not_true, Bool.not_false, List.length_set, Int.toNat_natCast, List.take_length, in_ok]; exact IsQ.f fun h => hp ⟨h.p1, h.p2⟩
end Go.Proofs.YtkgeocffngdeoaaGreat
