/- The statement CountDesigns, in plain terms. -/
import Derived.Test.YtclgicpmbcbjlaaPuBtD
namespace Go.Proofs.Ytclgicpmbcbjlaa
open Go Go.Vc
set_option linter.unusedSimpArgs false
set_option linter.unusedVariables false

theorem designs_same {d : T_impl_Design} (hsz : Sz2 d.Blocks) (K lam B : Int) : ∃ r, p_spec_CountDesigns d K lam B = some r ∧ p_impl_CountDesigns d K lam B = some r := by
  unfold p_spec_CountDesigns p_impl_CountDesigns
  by_cases hd : ValidD d
  · obtain ⟨x, c, o, h1, h2, h3⟩ := run_ok hd hsz (K := K) (lam := lam) (B := B) (first := false)
    have hv := (valid_impl hsz).eq hd
    rcases h3 with ⟨hc, rfl⟩ | ⟨rfl, y, rfl, h4, h5, _⟩
    · exact ⟨_, by simp (disch := omega) only [wr64, dec_t, dec_f, beq_t, beq_f, bne_t, bne_f, gIdx_ix, gNz_ok, gSl_from, gApp1, Option.bind_some, Option.map_some, cond_true, cond_false, Bool.not_true, Bool.not_false, List.length_set, Int.toNat_natCast, List.take_length, h1]; rfl, by simp (disch := omega) only [wr64, dec_t, dec_f, beq_t, beq_f, bne_t, bne_f, gIdx_ix, gNz_ok, gSl_from, gApp1, Option.bind_some, Option.map_some, cond_true, cond_false, Bool.not_true, Bool.not_false, List.length_set, Int.toNat_natCast, List.take_length, hv, h2]⟩
    · exact ⟨(x.qcount, 0), by simp (disch := omega) only [wr64, dec_t, dec_f, beq_t, beq_f, bne_t, bne_f, gIdx_ix, gNz_ok, gSl_from, gApp1, Option.bind_some, Option.map_some, cond_true, cond_false, Bool.not_true, Bool.not_false, List.length_set, Int.toNat_natCast, List.take_length, h1], by simp (disch := omega) only [wr64, dec_t, dec_f, beq_t, beq_f, bne_t, bne_f, gIdx_ix, gNz_ok, gSl_from, gApp1, Option.bind_some, Option.map_some, cond_true, cond_false, Bool.not_true, Bool.not_false, List.length_set, Int.toNat_natCast, List.take_length, hv, h2, h5]⟩
  · obtain ⟨x, h1⟩ := run_bad hd hsz (K := K) (lam := lam) (B := B) (first := false)
    have hv := (valid_impl hsz).ne hd
    exact ⟨(0, 1), by simp (disch := omega) only [wr64, dec_t, dec_f, beq_t, beq_f, bne_t, bne_f, gIdx_ix, gNz_ok, gSl_from, gApp1, Option.bind_some, Option.map_some, cond_true, cond_false, Bool.not_true, Bool.not_false, List.length_set, Int.toNat_natCast, List.take_length, h1], by simp (disch := omega) only [wr64, dec_t, dec_f, beq_t, beq_f, bne_t, bne_f, gIdx_ix, gNz_ok, gSl_from, gApp1, Option.bind_some, Option.map_some, cond_true, cond_false, Bool.not_true, Bool.not_false, List.length_set, Int.toNat_natCast, List.take_length, hv]⟩

theorem law_FnExactCountDesigns {a : T_laws_Design} {K lam B : Int} (ha : Ok_T_laws_Design a) (_ : I64 K) (_ : I64 lam) (_ : I64 B) : p_laws_FnExactCountDesigns a K lam B = some true := by
  unfold p_laws_FnExactCountDesigns
  obtain ⟨r, hr, c⟩ := sz_Design a 1048576 ha (by omega) (by omega)
  have e : T_laws_Design.mk a.Points a.Blocks = a := rfl
  rcases c with rfl | ⟨r0, r1, sa⟩
  · simp (disch := omega) only [wr64, dec_t, dec_f, beq_t, beq_f, bne_t, bne_f, gIdx_ix, gNz_ok, gSl_from, gApp1, Option.bind_some, Option.map_some, cond_true, cond_false, Bool.not_true, Bool.not_false, List.length_set, Int.toNat_natCast, List.take_length, hr]
  · have hsz := sz_design sa
    obtain ⟨q, e1, e2⟩ := designs_same hsz K lam B
    have hk : p_laws_FnExactCountDesigns_k1 a (cv_T_laws_Design a) = some true := by
      unfold p_laws_FnExactCountDesigns_k1
      simp (disch := omega) only [wr64, dec_t, dec_f, beq_t, beq_f, bne_t, bne_f, gIdx_ix, gNz_ok, gSl_from, gApp1, Option.bind_some, Option.map_some, cond_true, cond_false, Bool.not_true, Bool.not_false, List.length_set, Int.toNat_natCast, List.take_length, to_Design sa, (eq_Design (lm_design hsz)).eq rfl]
    simp (disch := omega) only [wr64, dec_t, dec_f, beq_t, beq_f, bne_t, bne_f, gIdx_ix, gNz_ok, gSl_from, gApp1, Option.bind_some, Option.map_some, cond_true, cond_false, Bool.not_true, Bool.not_false, List.length_set, Int.toNat_natCast, List.take_length, hr, to_Design sa, e1, e2, hk]
end Go.Proofs.Ytclgicpmbcbjlaa
