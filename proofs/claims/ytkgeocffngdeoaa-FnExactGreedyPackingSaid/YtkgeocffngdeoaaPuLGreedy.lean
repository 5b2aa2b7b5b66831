/- The statement GreedyPacking, in plain terms. -/
import Derived.Test.YtkgeocffngdeoaaPuGreedy
namespace Go.Proofs.Ytkgeocffngdeoaa
open Go Go.Vc
set_option linter.unusedSimpArgs false
set_option linter.unusedVariables false

theorem law_FnExactGreedyPacking {v K lam : Int} (_ : I64 v) (_ : I64 K) (_ : I64 lam) : p_laws_FnExactGreedyPacking v K lam = some true := by
  obtain ⟨⟨d, c⟩, h1, h2, h3⟩ := greedy_same v K lam
  replace h3 : Sz2 d.Blocks := h3
  have hl : d.Blocks.length ≤ 4194304 := by have := h3.1; omega
  have hr : ∀ r ∈ d.Blocks, r.length ≤ 4194304 := fun r hr => by have := h3.2 r hr; omega
  have hq := (eq_Design (lm_design h3)).eq (rfl : d = d)
  have e : T_impl_Design.mk d.Points d.Blocks = d := rfl
  have hm := mark_Design (p := d.Points) hl hr
  have hh := held_Design (p := d.Points) hl hr
  unfold p_laws_FnExactGreedyPacking
  have hn : ¬ (1 + (total d.Blocks : Int) < 0) := by omega
  have k2 : p_laws_FnExactGreedyPacking_k2 (d, c) (1 + (total d.Blocks : Int), T_impl_Design.mk d.Points (marksR 1 d.Blocks)) = some true := by
    unfold p_laws_FnExactGreedyPacking_k2
    simp (disch := omega) only [wr64, dec_t, dec_f, beq_t, beq_f, bne_t, bne_f, gIdx_ix, gNz_ok, gSl_from, gApp1, Option.bind_some, Option.map_some, cond_true, cond_false, Bool.not_true, Bool.not_false, List.length_set, Int.toNat_natCast, List.take_length, hh]
  have k1 : p_laws_FnExactGreedyPacking_k1 v K lam (d, c) (d, c) = some true := by
    unfold p_laws_FnExactGreedyPacking_k1
    simp (disch := omega) only [wr64, dec_t, dec_f, beq_t, beq_f, bne_t, bne_f, gIdx_ix, gNz_ok, gSl_from, gApp1, Option.bind_some, Option.map_some, cond_true, cond_false, Bool.not_true, Bool.not_false, List.length_set, Int.toNat_natCast, List.take_length, hm, hh, h2, e, hq, k2]
  simp (disch := omega) only [wr64, dec_t, dec_f, beq_t, beq_f, bne_t, bne_f, gIdx_ix, gNz_ok, gSl_from, gApp1, Option.bind_some, Option.map_some, cond_true, cond_false, Bool.not_true, Bool.not_false, List.length_set, Int.toNat_natCast, List.take_length, h1, h2, e, hq, k1]
end Go.Proofs.Ytkgeocffngdeoaa
