/- The first completion of a packing: the reference and the program agree. -/
import Derived.Test.YtkgeocffngdeoaaGreatPuBtD
import Derived.Test.YtkgeocffngdeoaaGreatPuSrt
import Derived.Test.YtkgeocffngdeoaaGreatPuMarkD
namespace Go.Proofs.YtkgeocffngdeoaaGreat
open Go Go.Vc
set_option linter.unusedSimpArgs false
set_option linter.unusedVariables false

theorem copy_all {bs : List (List Int)} (h : (bs.length : Int) ≤ 4194304) (h2 : ∀ b ∈ bs, (b.length : Int) ≤ 1048576) : p_impl_copyLists bs = some bs :=
  copy_ok (v := 0) (lam := 1) (budget := 1) (all := []) (B0 := []) ⟨by omega, by omega, by omega, by omega, by omega, by omega, by simp, fun e he => by simp at he, by simp, fun e he => by simp at he⟩ h h2
theorem made_small {p : Int} {xs : List (List Int)} (hr : ∀ b ∈ xs, (b.length : Int) ≤ 1048576) : Sz2 (made p xs).1.Blocks := by
  unfold made
  split
  · exact ⟨by simp, by simp⟩
  · exact ⟨by simp only [sortRows_len]; omega, fun b hb => hr b (sortRows_mem.1 hb)⟩
theorem sz2_nil : Sz2 [] := ⟨by simp, by simp⟩
theorem first_same {d : T_impl_Design} (hd : ValidD d) (hsz : Sz2 d.Blocks) (K lam B : Int) : ∃ r, p_spec_l28First d K lam B = some r ∧ p_impl_firstCompletion d K lam B = some r ∧ Sz2 r.1.Blocks := by
  unfold p_spec_l28First p_impl_firstCompletion
  have e : T_impl_Design.mk d.Points d.Blocks = d := rfl
  have hp1 := hd.p1
  have hp2 := hd.p2
  have hln := hd.len
  obtain ⟨x, c, o, h1, h2, h3⟩ := run_ok hd hsz (K := K) (lam := lam) (B := B) (first := true)
  rcases h3 with ⟨hc, rfl⟩ | ⟨rfl, y, rfl, h4, h5, h6⟩
  · exact ⟨(T_impl_Design.mk 0 [], c), by simp (disch := omega) only [wr64, dec_t, dec_f, beq_t, beq_f, bne_t, bne_f, gIdx_ix, gNz_ok, gSl_from, gApp1, Option.bind_some, Option.map_some, cond_true, cond_false, Bool.not_true, Bool.not_false, List.length_set, Int.toNat_natCast, List.take_length, h1], by rw [e]; simp (disch := omega) only [wr64, dec_t, dec_f, beq_t, beq_f, bne_t, bne_f, gIdx_ix, gNz_ok, gSl_from, gApp1, Option.bind_some, Option.map_some, cond_true, cond_false, Bool.not_true, Bool.not_false, List.length_set, Int.toNat_natCast, List.take_length, h2], sz2_nil⟩
  · by_cases hc : x.qcount = 0
    · have hc' : y.qcount = 0 := by omega
      exact ⟨(T_impl_Design.mk 0 [], 3), by simp (disch := omega) only [wr64, dec_t, dec_f, beq_t, beq_f, bne_t, bne_f, gIdx_ix, gNz_ok, gSl_from, gApp1, Option.bind_some, Option.map_some, cond_true, cond_false, Bool.not_true, Bool.not_false, List.length_set, Int.toNat_natCast, List.take_length, h1], by rw [e]; simp (disch := omega) only [wr64, dec_t, dec_f, beq_t, beq_f, bne_t, bne_f, gIdx_ix, gNz_ok, gSl_from, gApp1, Option.bind_some, Option.map_some, cond_true, cond_false, Bool.not_true, Bool.not_false, List.length_set, Int.toNat_natCast, List.take_length, h2], sz2_nil⟩
    · have hc' : ¬ y.qcount = 0 := by omega
      obtain ⟨qa, hK, ql, qr, qf⟩ := h6 rfl hc
      have hL : ∀ b ∈ d.Blocks ++ x.qfound.map (ix (allSub d.Points K)), (b.length : Int) ≤ 1048576 ∧ Blk b d.Points := by
        intro b hb
        rcases List.mem_append.1 hb with h | h
        · obtain ⟨i, i0, i1, rfl⟩ := mem_ix h
          exact ⟨hsz.2 _ h, hd.blk i i0 i1⟩
        · obtain ⟨i, hi, rfl⟩ := List.mem_map.1 h
          have hm := (mem_all (by omega) (by omega) hp2).1 (ix_mem (qr i hi).1 (qr i hi).2)
          exact ⟨by omega, by omega, hm.2⟩
      have hl : ((d.Blocks ++ x.qfound.map (ix (allSub d.Points K))).length : Int) ≤ 200000 := by rw [List.length_append, List.length_map]; omega
      have hmk := spec_make (p := d.Points) hp1 hp2 (by omega) hL
      have hso := impl_sorted (p := d.Points) (fun _ => copy_all (by omega) fun b hb => (hL b hb).1) (fun b hb => (hL b hb).1)
      refine ⟨made d.Points (d.Blocks ++ x.qfound.map (ix (allSub d.Points K))), ?_, ?_, made_small fun b hb => (hL b hb).1⟩
      · have ha : gApp 24 ([] : List (List Int)) d.Blocks = some d.Blocks := by rw [gApp_ok (by simp only [List.length_nil]; omega) (by simp only [List.length_nil]; omega)]; rfl
        simp (disch := omega) only [wr64, dec_t, dec_f, beq_t, beq_f, bne_t, bne_f, gIdx_ix, gNz_ok, gSl_from, gApp1, Option.bind_some, Option.map_some, cond_true, cond_false, Bool.not_true, Bool.not_false, List.length_set, Int.toNat_natCast, List.take_length, h1, ha]
        have e0 : (d.Blocks, (0 : Int)) = (fun j : Int => (d.Blocks ++ (x.qfound.take j.toNat).map (ix (allSub d.Points K)), j)) 0 := by simp
        rw [e0, loop_upto (B := p_spec_l28First_b1 d (x, 0)) (fun j => (d.Blocks ++ (x.qfound.take j.toNat).map (ix (allSub d.Points K)), j)) (i := 0) (n := x.qfound.length) (by omega) fun j a b => ?_]
        · refine loop_end ?_
          simp only [Int.toNat_natCast, List.take_length]
          simp (disch := omega) only [wr64, dec_t, dec_f, beq_t, beq_f, bne_t, bne_f, gIdx_ix, gNz_ok, gSl_from, gApp1, Option.bind_some, Option.map_some, cond_true, cond_false, Bool.not_true, Bool.not_false, List.length_set, Int.toNat_natCast, List.take_length, p_spec_l28First_b1, hmk]
        · have hr := qr _ (ix_mem a b)
          have hll : ((d.Blocks ++ (x.qfound.take j.toNat).map (ix (allSub d.Points K))).length : Int) ≤ 200000 := by rw [List.length_append, List.length_map, List.length_take]; omega
          have hi := gIdx_ix (xs := allSub d.Points K) hr.1 hr.2
          rw [take_ix a b, List.map_append, List.map_singleton, ← List.append_assoc]
          simp (disch := omega) only [wr64, dec_t, dec_f, beq_t, beq_f, bne_t, bne_f, gIdx_ix, gNz_ok, gSl_from, gApp1, Option.bind_some, Option.map_some, cond_true, cond_false, Bool.not_true, Bool.not_false, List.length_set, Int.toNat_natCast, List.take_length, p_spec_l28First_b1, qa, hi]
      · rw [e, h2]
        simp (disch := omega) only [wr64, dec_t, dec_f, beq_t, beq_f, bne_t, bne_f, gIdx_ix, gNz_ok, gSl_from, gApp1, Option.bind_some, Option.map_some, cond_true, cond_false, Bool.not_true, Bool.not_false, List.length_set, Int.toNat_natCast, List.take_length, qf, hso]
end Go.Proofs.YtkgeocffngdeoaaGreat
