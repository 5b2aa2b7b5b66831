/- The greedy packing: the reference and the program agree. -/
import Derived.Test.YtkgeocffngdeoaaPuFind
namespace Go.Proofs.Ytkgeocffngdeoaa
open Go Go.Vc
set_option linter.unusedSimpArgs false
set_option linter.unusedVariables false

structure Gr (v : Int) (all : List (List Int)) (j : Int) (L : List (List Int)) (M : PM) (ps : List Int) (used : List Bool) (l : List (List Int)) : Prop where
  fl : Flat v ps M
  mt : Mat v l M
  bd : BdN v M 128
  ul : (used.length : Int) = all.length
  uf : ∀ i, j ≤ i → i < (all.length : Int) → ix used i = false
  sub : ∀ b ∈ L, b ∈ all
  len : (L.length : Int) ≤ j
theorem greedy_loop {v lam : Int} {all : List (List Int)} (hv1 : 1 ≤ v) (hv : v ≤ 32) (hl1 : 1 ≤ lam) (hl2 : lam ≤ 128) (hal : (all.length : Int) ≤ 4294967296)
    (hall : ∀ b ∈ all, Rising b 0 (v - 1) ∧ (b.length : Int) ≤ 64 ∧ 0 < (b.length : Int)) : ∀ (d : Nat) (j : Int) (L : List (List Int)) (M : PM) (ps : List Int) (used : List Bool) (l : List (List Int)), j + d = all.length → 0 ≤ j → Gr v all j L M ps used l →
      ∃ r, loop (p_spec_GreedyPacking_b1 v all) (L, j, v, lam, [], 0, 0, 0, false, [], ps, used) = some r ∧ loop (p_impl_GreedyPacking_b1 v lam all) (j, L, l) = some r ∧ Sz2 r.1.Blocks := by
  intro d
  induction d with
  | zero =>
    intro j L M ps used l hj h0 g
    have hlen := g.len
    have hL : ∀ b ∈ L, (b.length : Int) ≤ 1048576 ∧ Blk b v := fun b hb => by
      have := hall b (g.sub b hb)
      exact ⟨by omega, this.2.2, this.1⟩
    have hmk := spec_make (p := v) hv1 hv (by omega) hL
    have hso := impl_sorted (p := v) (fun _ => copy_all (by omega) fun b hb => (hL b hb).1) (fun b hb => (hL b hb).1)
    refine ⟨made v L, loop_end ?_, loop_end ?_, made_small fun b hb => (hL b hb).1⟩
    · simp (disch := omega) only [wr64, dec_t, dec_f, beq_t, beq_f, bne_t, bne_f, gIdx_ix, gNz_ok, gSl_from, gApp1, Option.bind_some, Option.map_some, cond_true, cond_false, Bool.not_true, Bool.not_false, List.length_set, Int.toNat_natCast, List.take_length, p_spec_GreedyPacking_b1, hmk]
    · simp (disch := omega) only [wr64, dec_t, dec_f, beq_t, beq_f, bne_t, bne_f, gIdx_ix, gNz_ok, gSl_from, gApp1, Option.bind_some, Option.map_some, cond_true, cond_false, Bool.not_true, Bool.not_false, List.length_set, Int.toNat_natCast, List.take_length, p_impl_GreedyPacking_b1, hso]
  | succ d ih =>
    intro j L M ps used l hj h0 g
    have hlen := g.len
    have hul := g.ul
    have hm := ix_mem (xs := all) (i := j) h0 (by omega)
    obtain ⟨hr, hbl, hb0⟩ := hall _ hm
    have hf := spec_fits (x0 := T_spec_l28Search.mk v lam all used ps [] 0 0 0 false []) (n := j) hv hr hbl rfl g.fl h0 (by show j < (all.length : Int); omega) (by show j < (used.length : Int); omega) rfl
    obtain ⟨m, hm1, hm2⟩ := impl_most hv hr hbl g.mt (lam := lam) (by omega)
    have huf := g.uf j (Int.le_refl _) (by omega)
    by_cases hA : AllB lam M (ix all j)
    · have hf' := hf.eq ⟨hA, huf⟩
      have hml : m < lam := hm2.2 hA
      obtain ⟨ps', g1, g2⟩ := spec_add (x0 := T_spec_l28Search.mk v lam all used ps [] 0 0 0 false []) (n := j) hv hr hbl (.inl rfl) rfl h0 (by show j < (all.length : Int); omega) (by show j < (used.length : Int); omega) rfl g.fl g.bd (by omega)
      obtain ⟨l', g3, g4⟩ := impl_add hv hr hbl (.inl rfl) g.mt g.bd (by omega)
      simp only [show decide ((1 : Int) > 0) = true from rfl] at g1
      have hgr : Gr v all (j + 1) (L ++ [ix all j]) (addB 1 (ix all j) M) ps' (used.set j.toNat true) l' := by
        refine ⟨g2, g4, add_bd hr hA hl2 g.bd, by rw [List.length_set]; exact hul, fun i a b => ?_, fun b hb => ?_, by rw [List.length_append, List.length_singleton]; omega⟩
        · rw [ix_set_ne h0 (by omega) (by omega)]; exact g.uf i (by omega) b
        · rcases List.mem_append.1 hb with h | h
          · exact g.sub b h
          · simp at h; rw [h]; exact hm
      obtain ⟨r, r1, r2, r3⟩ := ih (j + 1) _ _ _ _ _ (by omega) (by omega) hgr
      refine ⟨r, ?_, ?_, r3⟩
      · rw [loop_go ?_]
        · exact r1
        · simp (disch := omega) only [wr64, dec_t, dec_f, beq_t, beq_f, bne_t, bne_f, gIdx_ix, gNz_ok, gSl_from, gApp1, Option.bind_some, Option.map_some, cond_true, cond_false, Bool.not_true, Bool.not_false, List.length_set, Int.toNat_natCast, List.take_length, p_spec_GreedyPacking_b1, hf', g1]
      · rw [loop_go ?_]
        · exact r2
        · simp (disch := omega) only [wr64, dec_t, dec_f, beq_t, beq_f, bne_t, bne_f, gIdx_ix, gNz_ok, gSl_from, gApp1, Option.bind_some, Option.map_some, cond_true, cond_false, Bool.not_true, Bool.not_false, List.length_set, Int.toNat_natCast, List.take_length, p_impl_GreedyPacking_b1, hm1, g3]
    · have hf' := hf.ne fun h => hA h.1
      have hml : ¬ m < lam := fun h => hA (hm2.1 h)
      obtain ⟨r, r1, r2, r3⟩ := ih (j + 1) L M ps used l (by omega) (by omega) ⟨g.fl, g.mt, g.bd, hul, fun i a b => g.uf i (by omega) b, g.sub, by omega⟩
      refine ⟨r, ?_, ?_, r3⟩
      · rw [loop_go ?_]
        · exact r1
        · simp (disch := omega) only [wr64, dec_t, dec_f, beq_t, beq_f, bne_t, bne_f, gIdx_ix, gNz_ok, gSl_from, gApp1, Option.bind_some, Option.map_some, cond_true, cond_false, Bool.not_true, Bool.not_false, List.length_set, Int.toNat_natCast, List.take_length, p_spec_GreedyPacking_b1, hf']
      · rw [loop_go ?_]
        · exact r2
        · simp (disch := omega) only [wr64, dec_t, dec_f, beq_t, beq_f, bne_t, bne_f, gIdx_ix, gNz_ok, gSl_from, gApp1, Option.bind_some, Option.map_some, cond_true, cond_false, Bool.not_true, Bool.not_false, List.length_set, Int.toNat_natCast, List.take_length, p_impl_GreedyPacking_b1, hm1]
theorem greedy_same (v K lam : Int) : ∃ r, p_spec_GreedyPacking v K lam = some r ∧ p_impl_GreedyPacking v K lam = some r ∧ Sz2 r.1.Blocks := by
  unfold p_spec_GreedyPacking p_impl_GreedyPacking
  by_cases hq : (2 ≤ v ∧ v ≤ 32) ∧ (2 ≤ K ∧ K ≤ v) ∧ (1 ≤ lam ∧ lam ≤ 128)
  · obtain ⟨r, hr⟩ := choose_some (n := v) (k := K) (by omega) (by omega) (by omega)
    have hcs : p_impl_Choose v K = some r := hr
    have hse : p_impl_isSearched v K lam = some true := by unfold p_impl_isSearched; simp (disch := omega) only [wr64, dec_t, dec_f, beq_t, beq_f, bne_t, bne_f, gIdx_ix, gNz_ok, gSl_from, gApp1, Option.bind_some, Option.map_some, cond_true, cond_false, Bool.not_true, Bool.not_false, List.length_set, Int.toNat_natCast, List.take_length, within_ok]
    by_cases hr1 : r > 1500
    · have hask : p_spec_l28Ask v K lam = some 5 := by unfold p_spec_l28Ask; simp (disch := omega) only [wr64, dec_t, dec_f, beq_t, beq_f, bne_t, bne_f, gIdx_ix, gNz_ok, gSl_from, gApp1, Option.bind_some, Option.map_some, cond_true, cond_false, Bool.not_true, Bool.not_false, List.length_set, Int.toNat_natCast, List.take_length, in_ok, p_spec_l28Ask_k1, hr]
      exact ⟨(T_impl_Design.mk 0 [], 5), by simp (disch := omega) only [wr64, dec_t, dec_f, beq_t, beq_f, bne_t, bne_f, gIdx_ix, gNz_ok, gSl_from, gApp1, Option.bind_some, Option.map_some, cond_true, cond_false, Bool.not_true, Bool.not_false, List.length_set, Int.toNat_natCast, List.take_length, hask], by simp (disch := omega) only [wr64, dec_t, dec_f, beq_t, beq_f, bne_t, bne_f, gIdx_ix, gNz_ok, gSl_from, gApp1, Option.bind_some, Option.map_some, cond_true, cond_false, Bool.not_true, Bool.not_false, List.length_set, Int.toNat_natCast, List.take_length, hse, hcs], sz2_nil⟩
    · have hask : p_spec_l28Ask v K lam = some 0 := by unfold p_spec_l28Ask; simp (disch := omega) only [wr64, dec_t, dec_f, beq_t, beq_f, bne_t, bne_f, gIdx_ix, gNz_ok, gSl_from, gApp1, Option.bind_some, Option.map_some, cond_true, cond_false, Bool.not_true, Bool.not_false, List.length_set, Int.toNat_natCast, List.take_length, in_ok, p_spec_l28Ask_k1, hr]
      have hd : ValidD (T_impl_Design.mk v []) := ⟨by show 1 ≤ v; omega, by show v ≤ 32; omega, by simp, fun k a b => by simp at b; omega, fun k a b => by simp at b; omega⟩
      obtain ⟨l, hl, hm⟩ := load_ok hd
      have hal := all_len (v := v) (k := K) (by omega) (by omega) (by omega)
      have hA1 := spec_all (v := v) (k := K) (by omega) (by omega) (by omega)
      have hA2 := impl_all (v := v) (k := K) (by omega) (by omega) (by omega)
      have he := tri_eq v v.toNat
      have htm := tri_max (v := v) (by omega) v.toNat (by omega)
      have ht0 := tri_mono (v := v) (a := 0) (b := v.toNat) (by omega) (by omega)
      rw [show tri v 0 = 0 from rfl] at ht0
      rw [show ((v.toNat : Nat) : Int) = v by omega, show 2 * v - v - 1 = v - 1 by omega] at he
      have ht : Int.tdiv (2 * tri v v.toNat) 2 = tri v v.toNat := by rw [Int.tdiv_eq_ediv_of_nonneg (by omega)]; omega
      have hmk : gMake 8 (0 : Int) (tri v v.toNat) (tri v v.toNat) = some (List.replicate (tri v v.toNat).toNat 0) := gMake_ok ht0 (by omega) (by omega)
      have hmu : gMake 1 false ((allSub v K).length : Int) ((allSub v K).length : Int) = some (List.replicate (allSub v K).length false) := gMake_of (by omega) (by omega)
      obtain ⟨q, q1, q2, q3⟩ := greedy_loop (v := v) (lam := lam) (all := allSub v K) (by omega) (by omega) (by omega) (by omega) hal (fun b hb => by
        have := (mem_all (by omega) (by omega) (by omega)).1 hb
        exact ⟨this.2, by omega, by omega⟩) (allSub v K).length 0 [] (fun _ _ => 0) (List.replicate (tri v v.toNat).toNat 0) (List.replicate (allSub v K).length false) l (by omega) (by omega) ⟨by
          refine ⟨by rw [List.length_replicate]; omega, fun a b p q r => ?_⟩
          have h1 := idx_nn (show v ≤ 32 by omega) p q r
          have h2 := idx_lt (show v ≤ 32 by omega) p q r
          rw [ix_rep h1 (by omega)], hm, fun a b _ _ _ => by simp, by simp, fun i a b => ix_rep a b, by simp, by simp⟩
      exact ⟨q, by simp (disch := omega) only [wr64, dec_t, dec_f, beq_t, beq_f, bne_t, bne_f, gIdx_ix, gNz_ok, gSl_from, gApp1, Option.bind_some, Option.map_some, cond_true, cond_false, Bool.not_true, Bool.not_false, List.length_set, Int.toNat_natCast, List.take_length, hask, hA1, hmu, he, ht, hmk]; exact q1, by simp (disch := omega) only [wr64, dec_t, dec_f, beq_t, beq_f, bne_t, bne_f, gIdx_ix, gNz_ok, gSl_from, gApp1, Option.bind_some, Option.map_some, cond_true, cond_false, Bool.not_true, Bool.not_false, List.length_set, Int.toNat_natCast, List.take_length, hse, hcs, hl, hA2]; exact q2, q3⟩
  · have hse : p_impl_isSearched v K lam = some false := by
      unfold p_impl_isSearched
      by_cases q1 : 2 ≤ v ∧ v ≤ 32
      · by_cases q2 : 2 ≤ K ∧ K ≤ v
        · have q3 : ¬ (1 ≤ lam ∧ lam ≤ 128) := fun h => hq ⟨q1, q2, h⟩
          simp (disch := omega) only [wr64, dec_t, dec_f, beq_t, beq_f, bne_t, bne_f, gIdx_ix, gNz_ok, gSl_from, gApp1, Option.bind_some, Option.map_some, cond_true, cond_false, Bool.not_true, Bool.not_false, List.length_set, Int.toNat_natCast, List.take_length, within_ok]
        · simp (disch := omega) only [wr64, dec_t, dec_f, beq_t, beq_f, bne_t, bne_f, gIdx_ix, gNz_ok, gSl_from, gApp1, Option.bind_some, Option.map_some, cond_true, cond_false, Bool.not_true, Bool.not_false, List.length_set, Int.toNat_natCast, List.take_length, within_ok]
      · simp (disch := omega) only [wr64, dec_t, dec_f, beq_t, beq_f, bne_t, bne_f, gIdx_ix, gNz_ok, gSl_from, gApp1, Option.bind_some, Option.map_some, cond_true, cond_false, Bool.not_true, Bool.not_false, List.length_set, Int.toNat_natCast, List.take_length, within_ok]
    have hask : p_spec_l28Ask v K lam = some 2 := by
      unfold p_spec_l28Ask
      by_cases q1 : 2 ≤ v ∧ v ≤ 32
      · by_cases q2 : 2 ≤ K ∧ K ≤ v
        · have q3 : ¬ (1 ≤ lam ∧ lam ≤ 128) := fun h => hq ⟨q1, q2, h⟩
          simp (disch := omega) only [wr64, dec_t, dec_f, beq_t, beq_f, bne_t, bne_f, gIdx_ix, gNz_ok, gSl_from, gApp1, Option.bind_some, Option.map_some, cond_true, cond_false, Bool.not_true, Bool.not_false, List.length_set, Int.toNat_natCast, List.take_length, in_ok]
        · simp (disch := omega) only [wr64, dec_t, dec_f, beq_t, beq_f, bne_t, bne_f, gIdx_ix, gNz_ok, gSl_from, gApp1, Option.bind_some, Option.map_some, cond_true, cond_false, Bool.not_true, Bool.not_false, List.length_set, Int.toNat_natCast, List.take_length, in_ok]
      · simp (disch := omega) only [wr64, dec_t, dec_f, beq_t, beq_f, bne_t, bne_f, gIdx_ix, gNz_ok, gSl_from, gApp1, Option.bind_some, Option.map_some, cond_true, cond_false, Bool.not_true, Bool.not_false, List.length_set, Int.toNat_natCast, List.take_length, in_ok]
    exact ⟨(T_impl_Design.mk 0 [], 2), by simp (disch := omega) only [wr64, dec_t, dec_f, beq_t, beq_f, bne_t, bne_f, gIdx_ix, gNz_ok, gSl_from, gApp1, Option.bind_some, Option.map_some, cond_true, cond_false, Bool.not_true, Bool.not_false, List.length_set, Int.toNat_natCast, List.take_length, hask], by simp (disch := omega) only [wr64, dec_t, dec_f, beq_t, beq_f, bne_t, bne_f, gIdx_ix, gNz_ok, gSl_from, gApp1, Option.bind_some, Option.map_some, cond_true, cond_false, Bool.not_true, Bool.not_false, List.length_set, Int.toNat_natCast, List.take_length, hse], sz2_nil⟩
end Go.Proofs.Ytkgeocffngdeoaa
