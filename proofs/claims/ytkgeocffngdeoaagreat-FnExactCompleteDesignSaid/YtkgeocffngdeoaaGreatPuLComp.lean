/- The statement CompleteDesign, in plain terms. -/
import Derived.Test.YtkgeocffngdeoaaGreatPuFirst
import Derived.Test.YtkgeocffngdeoaaGreatPuDesV
namespace Go.Proofs.YtkgeocffngdeoaaGreat
open Go Go.Vc
set_option linter.unusedSimpArgs false
set_option linter.unusedVariables false

theorem complete_same {d : T_impl_Design} (hsz : Sz2 d.Blocks) (K lam B : Int) : ∃ r, p_spec_CompleteDesign d K lam B = some r ∧ p_impl_CompleteDesign d K lam B = some r ∧ Sz2 r.1.Blocks := by
  have e : T_impl_Design.mk d.Points d.Blocks = d := rfl
  unfold p_spec_CompleteDesign p_impl_CompleteDesign
  by_cases hd : ValidD d
  · obtain ⟨r, h1, h2, h3⟩ := first_same hd hsz K lam B
    have hv := (valid_impl hsz).eq hd
    exact ⟨r, by simp (disch := omega) only [wr64, dec_t, dec_f, beq_t, beq_f, bne_t, bne_f, gIdx_ix, gNz_ok, gSl_from, gApp1, Option.bind_some, Option.map_some, cond_true, cond_false, Bool.not_true, Bool.not_false, List.length_set, Int.toNat_natCast, List.take_length, e, h1], by simp (disch := omega) only [wr64, dec_t, dec_f, beq_t, beq_f, bne_t, bne_f, gIdx_ix, gNz_ok, gSl_from, gApp1, Option.bind_some, Option.map_some, cond_true, cond_false, Bool.not_true, Bool.not_false, List.length_set, Int.toNat_natCast, List.take_length, e, hv, h2], h3⟩
  · obtain ⟨x, h1⟩ := run_bad hd hsz (K := K) (lam := lam) (B := B) (first := true)
    have hv := (valid_impl hsz).ne hd
    have hf : p_spec_l28First d K lam B = some (T_impl_Design.mk 0 [], 1) := by unfold p_spec_l28First; simp (disch := omega) only [wr64, dec_t, dec_f, beq_t, beq_f, bne_t, bne_f, gIdx_ix, gNz_ok, gSl_from, gApp1, Option.bind_some, Option.map_some, cond_true, cond_false, Bool.not_true, Bool.not_false, List.length_set, Int.toNat_natCast, List.take_length, h1]
    exact ⟨(T_impl_Design.mk 0 [], 1), by simp (disch := omega) only [wr64, dec_t, dec_f, beq_t, beq_f, bne_t, bne_f, gIdx_ix, gNz_ok, gSl_from, gApp1, Option.bind_some, Option.map_some, cond_true, cond_false, Bool.not_true, Bool.not_false, List.length_set, Int.toNat_natCast, List.take_length, e, hf], by simp (disch := omega) only [wr64, dec_t, dec_f, beq_t, beq_f, bne_t, bne_f, gIdx_ix, gNz_ok, gSl_from, gApp1, Option.bind_some, Option.map_some, cond_true, cond_false, Bool.not_true, Bool.not_false, List.length_set, Int.toNat_natCast, List.take_length, e, hv], sz2_nil⟩
theorem law_FnExactCompleteDesign {a : T_laws_Design} {K lam B : Int} (ha : Ok_T_laws_Design a) (_ : I64 K) (_ : I64 lam) (_ : I64 B) : p_laws_FnExactCompleteDesign a K lam B = some true := by
  unfold p_laws_FnExactCompleteDesign
  obtain ⟨r, hr, c⟩ := sz_Design a 1048576 ha (by omega) (by omega)
  have e : T_laws_Design.mk a.Points a.Blocks = a := rfl
  rcases c with rfl | ⟨r0, r1, sa⟩
  · simp (disch := omega) only [wr64, dec_t, dec_f, beq_t, beq_f, bne_t, bne_f, gIdx_ix, gNz_ok, gSl_from, gApp1, Option.bind_some, Option.map_some, cond_true, cond_false, Bool.not_true, Bool.not_false, List.length_set, Int.toNat_natCast, List.take_length, hr]
  · have hsz := sz_design sa
    obtain ⟨⟨d, c⟩, h1, h2, h3⟩ := complete_same hsz K lam B
    replace h3 : Sz2 d.Blocks := h3
    generalize hx : cv_T_laws_Design a = x at *
    have hl : d.Blocks.length ≤ 4194304 := by have := h3.1; omega
    have hr2 : ∀ r ∈ d.Blocks, r.length ≤ 4194304 := fun r hr => by have := h3.2 r hr; omega
    have hl3 : x.Blocks.length ≤ 4194304 := by have := hsz.1; omega
    have hr3 : ∀ r ∈ x.Blocks, r.length ≤ 4194304 := fun r hr => by have := hsz.2 r hr; omega
    have hq := (eq_Design (lm_design h3)).eq (rfl : d = d)
    have hq2 := (eq_Design (lm_design hsz)).eq (rfl : x = x)
    have e1 : T_impl_Design.mk d.Points d.Blocks = d := rfl
    have e2 : T_impl_Design.mk x.Points x.Blocks = x := rfl
    have hm := mark_Design (p := d.Points) hl hr2
    have hh := held_Design (p := d.Points) hl hr2
    have hm2 := mark_Design (p := x.Points) hl3 hr3
    have ht := to_Design sa
    rw [hx] at ht
    have hn : ¬ (1 + (total d.Blocks : Int) < 0) := by omega
    have hn2 : ¬ (1 + (total x.Blocks : Int) < 0) := by omega
    have k3 : p_laws_FnExactCompleteDesign_k3 (d, c) (1 + (total d.Blocks : Int), T_impl_Design.mk d.Points (marksR 1 d.Blocks)) = some true := by
      unfold p_laws_FnExactCompleteDesign_k3
      simp (disch := omega) only [wr64, dec_t, dec_f, beq_t, beq_f, bne_t, bne_f, gIdx_ix, gNz_ok, gSl_from, gApp1, Option.bind_some, Option.map_some, cond_true, cond_false, Bool.not_true, Bool.not_false, List.length_set, Int.toNat_natCast, List.take_length, hh]
    have k2 : p_laws_FnExactCompleteDesign_k2 a K lam B (d, c) (d, c) = some true := by
      unfold p_laws_FnExactCompleteDesign_k2
      simp (disch := omega) only [wr64, dec_t, dec_f, beq_t, beq_f, bne_t, bne_f, gIdx_ix, gNz_ok, gSl_from, gApp1, Option.bind_some, Option.map_some, cond_true, cond_false, Bool.not_true, Bool.not_false, List.length_set, Int.toNat_natCast, List.take_length, hm, hh, e, ht, h2, e1, hq, k3]
    have k1 : p_laws_FnExactCompleteDesign_k1 a K lam B (d, c) x (d, c) = some true := by
      unfold p_laws_FnExactCompleteDesign_k1
      rw [e, ht]
      simp only [Option.bind_some]
      rw [e2, hq2]
      simp only [Option.bind_some, Bool.not_true, cond_false]
      rw [← e2, hm2]
      simp only [Option.bind_some]
      simp (disch := omega) only [wr64, dec_t, dec_f, beq_t, beq_f, bne_t, bne_f, gIdx_ix, gNz_ok, gSl_from, gApp1, Option.bind_some, Option.map_some, cond_true, cond_false, Bool.not_true, Bool.not_false, List.length_set, Int.toNat_natCast, List.take_length, e1, hq, k2]
    rw [e, hr]
    simp (disch := omega) only [wr64, dec_t, dec_f, beq_t, beq_f, bne_t, bne_f, gIdx_ix, gNz_ok, gSl_from, gApp1, Option.bind_some, Option.map_some, cond_true, cond_false, Bool.not_true, Bool.not_false, List.length_set, Int.toNat_natCast, List.take_length, ht, h1, e2, h2, e1, hq, k1]
end Go.Proofs.YtkgeocffngdeoaaGreat
