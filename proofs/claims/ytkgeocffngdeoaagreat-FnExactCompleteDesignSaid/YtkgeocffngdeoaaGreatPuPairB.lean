/- A block is added to the numbers of pairs, held against them, and all pairs are counted: the reference and the program. -/
import Derived.Test.YtkgeocffngdeoaaGreatPuPair
namespace Go.Proofs.YtkgeocffngdeoaaGreat
open Go Go.Vc
set_option linter.unusedSimpArgs false
set_option linter.unusedVariables false
set_option linter.unusedSectionVars false

theorem rising_lt {l : List Int} {lo hi : Int} (h : Rising l lo hi) {i : Int} (h0 : 0 ≤ i) : ∀ (d : Nat) (j : Int), j = i + 1 + d → j < (l.length : Int) → ix l i < ix l j
  | 0, j, e, hj => by
    have := (h j (by omega) hj).2 (by omega)
    rw [show j - 1 = i by omega] at this; exact this
  | d + 1, j, e, hj => by
    have h1 := rising_lt h h0 d (j - 1) (by omega) (by omega)
    have := (h j (by omega) hj).2 (by omega)
    omega
theorem Rising.lt {l : List Int} {lo hi : Int} (h : Rising l lo hi) {i j : Int} (h0 : 0 ≤ i) (h1 : i < j) (h2 : j < (l.length : Int)) : ix l i < ix l j := rising_lt h h0 (j - i - 1).toNat j (by omega) h2
def BdN (v : Int) (M : PM) (c : Int) : Prop := ∀ a b, 0 ≤ a → a < b → b < v → -c ≤ M a b ∧ M a b ≤ c
theorem BdN.upd {v : Int} {M : PM} {c : Int} (h : BdN v M c) {x y by' : Int} (h0 : 0 ≤ x) (h1 : x < y) (h2 : y < v) (hb : by' = 1 ∨ by' = -1) : BdN v (upd M x y (M x y + by')) (c + 1) := by
  intro a b p q r
  have h3 := h a b p q r
  have h4 := h x y h0 h1 h2
  unfold Proofs.YtkgeocffngdeoaaGreat.upd
  by_cases e : a = x ∧ b = y
  · rw [if_pos e]; omega
  · rw [if_neg e]; omega
theorem BdN.addR {v by' x : Int} (hb : by' = 1 ∨ by' = -1) (h0 : 0 ≤ x) : ∀ {ys : List Int} {M : PM} {c : Int}, (∀ y ∈ ys, x < y ∧ y < v) → BdN v M c → BdN v (addR by' x ys M) (c + ys.length)
  | [], M, c, _, h => by rw [Proofs.YtkgeocffngdeoaaGreat.addR, List.length_nil, show c + ((0 : Nat) : Int) = c by omega]; exact h
  | y :: ys, M, c, hy, h => by
    have h1 := hy y (by simp)
    have := BdN.addR hb h0 (ys := ys) (fun z hz => hy z (List.mem_cons_of_mem _ hz)) (h.upd h0 h1.1 h1.2 hb)
    rw [Proofs.YtkgeocffngdeoaaGreat.addR]
    rw [List.length_cons, show c + ((ys.length + 1 : Nat) : Int) = c + 1 + ys.length by omega]; exact this

/-! The reference. -/
section
variable {v : Int} {blk : List Int} {by' : Int} (hv : v ≤ 32) (hb : Rising blk 0 (v - 1)) (hl : (blk.length : Int) ≤ 64) (hby : by' = 1 ∨ by' = -1)
include hv hb hl hby
theorem after_lt {i : Int} (h0 : 0 ≤ i) : ∀ y ∈ blk.drop (i + 1).toNat, ix blk i < y ∧ y < v := by
  intro y hy
  obtain ⟨j, h1, h2, h3⟩ := mem_ix hy
  rw [ix_drop (by omega) h1] at h3
  have hlen : ((blk.drop (i + 1).toNat).length : Int) = blk.length - (i + 1) ∨ (blk.drop (i + 1).toNat).length = 0 := by rw [List.length_drop]; omega
  have h4 := hb.lt (i := i) (j := i + 1 + j) h0 (by omega) (by omega)
  have h5 := (hb (i + 1 + j) (by omega) (by omega)).1
  rw [h3] at h4 h5; exact ⟨h4, by omega⟩
theorem spec_addR {x0 : T_spec_l28Search} (hx : x0.qv = v) {i : Int} (h0 : 0 ≤ i) (h1 : i < (blk.length : Int)) : ∀ (d : Nat) (k : Int) (ps : List Int) (M : PM) (c : Int), k + d = blk.length → i < k → Flat v ps M → BdN v M c → c ≤ 1000000000 - d →
    ∃ ps', loop (p_spec_l28Search_add_b2 x0 by' blk i) (k, ps) = some (.inl (i + 1, ps')) ∧ Flat v ps' (addR by' (ix blk i) (blk.drop k.toNat) M) := by
  intro d
  induction d with
  | zero =>
    intro k ps M c hk hik hf _ _
    refine ⟨ps, loop_end (by simp (disch := omega) only [wr64, dec_t, dec_f, beq_t, beq_f, bne_t, bne_f, gIdx_ix, gNz_ok, gSl_from, gApp1, Option.bind_some, Option.map_some, cond_true, cond_false, Bool.not_true, Bool.not_false, List.length_set, Int.toNat_natCast, List.take_length, p_spec_l28Search_add_b2]), ?_⟩
    rw [List.drop_of_length_le (by omega)]; exact hf
  | succ d ih =>
    intro k ps M c hk hik hf hB hc
    have e1 := (hb i h0 h1).1
    have e2 := (hb k (by omega) (by omega)).1
    have e3 := hb.lt h0 hik (by omega)
    have hn := idx_nn hv e1.1 e3 (by omega)
    have hlt := idx_lt hv e1.1 e3 (by omega)
    have hln := hf.len
    have hg := hf.get _ _ e1.1 e3 (by omega)
    have hbd := hB _ _ e1.1 e3 (by omega)
    obtain ⟨ps', h2, h3⟩ := ih (k + 1) (ps.set (idx v (ix blk i) (ix blk k)).toNat (M (ix blk i) (ix blk k) + by')) _ (c + 1) (by omega) (by omega) (hf.set hv e1.1 e3 (by omega)) (hB.upd e1.1 e3 (by omega) hby) (by omega)
    refine ⟨ps', ?_, ?_⟩
    · rw [loop_go (s' := (k + 1, ps.set (idx v (ix blk i) (ix blk k)).toNat (M (ix blk i) (ix blk k) + by'))) ?_]
      · exact h2
      · simp (disch := omega) only [wr64, dec_t, dec_f, beq_t, beq_f, bne_t, bne_f, gIdx_ix, gNz_ok, gSl_from, gApp1, Option.bind_some, Option.map_some, cond_true, cond_false, Bool.not_true, Bool.not_false, List.length_set, Int.toNat_natCast, List.take_length, p_spec_l28Search_add_b2, hx, pair_ok hv e1.1 e3 (show ix blk k < v by omega), hg]
    · rw [drop_ix (by omega) (by omega), addR]; exact h3
theorem spec_addB {x0 : T_spec_l28Search} (hx : x0.qv = v) {n : Int} : ∀ (d : Nat) (i : Int) (ps : List Int) (M : PM) (c : Int), i + d = blk.length → 0 ≤ i → Flat v ps M → BdN v M c → c ≤ 1000000000 - 100 * d →
    ∃ ps', loop (p_spec_l28Search_add_b1 x0 n by' blk) (i, ps) = some (T_spec_l28Search.mk x0.qv x0.qlambda x0.qall (x0.qused.set n.toNat (decide (by' > 0))) ps' x0.qchosen x0.qnodes x0.qbudget x0.qcount x0.qfirst x0.qfound) ∧ Flat v ps' (addB by' (blk.drop i.toNat) M) := by
  intro d
  induction d with
  | zero =>
    intro i ps M c hk hi hf _ _
    refine ⟨ps, loop_end (by simp (disch := omega) only [wr64, dec_t, dec_f, beq_t, beq_f, bne_t, bne_f, gIdx_ix, gNz_ok, gSl_from, gApp1, Option.bind_some, Option.map_some, cond_true, cond_false, Bool.not_true, Bool.not_false, List.length_set, Int.toNat_natCast, List.take_length, p_spec_l28Search_add_b1]), ?_⟩
    rw [List.drop_of_length_le (by omega)]; exact hf
  | succ d ih =>
    intro i ps M c hk hi hf hB hc
    obtain ⟨ps1, h1, h2⟩ := spec_addR hv hb hl hby hx hi (by omega) (blk.length - (i + 1)).toNat (i + 1) ps M c (by omega) (by omega) hf hB (by omega)
    have hd : ((blk.drop (i + 1).toNat).length : Int) ≤ 64 := by rw [List.length_drop]; omega
    have hB2 := BdN.addR (ys := blk.drop (i + 1).toNat) hby (hb i hi (by omega)).1.1 (after_lt hv hb hl hby hi) hB
    obtain ⟨ps', h3, h4⟩ := ih (i + 1) ps1 _ _ (by omega) (by omega) h2 hB2 (by omega)
    refine ⟨ps', ?_, ?_⟩
    · rw [loop_go (s' := (i + 1, ps1)) (by simp (disch := omega) only [wr64, dec_t, dec_f, beq_t, beq_f, bne_t, bne_f, gIdx_ix, gNz_ok, gSl_from, gApp1, Option.bind_some, Option.map_some, cond_true, cond_false, Bool.not_true, Bool.not_false, List.length_set, Int.toNat_natCast, List.take_length, p_spec_l28Search_add_b1, h1])]; exact h3
    · rw [drop_ix hi (by omega), addB]; exact h4
theorem spec_add {x0 : T_spec_l28Search} (hx : x0.qv = v) {n : Int} (h0 : 0 ≤ n) (h1 : n < (x0.qall.length : Int)) (h2 : n < (x0.qused.length : Int)) (he : ix x0.qall n = blk) {M : PM} {c : Int} (hf : Flat v x0.qpairs M) (hB : BdN v M c) (hc : c ≤ 100000000) :
    ∃ ps', p_spec_l28Search_add x0 n by' = some (T_spec_l28Search.mk x0.qv x0.qlambda x0.qall (x0.qused.set n.toNat (decide (by' > 0))) ps' x0.qchosen x0.qnodes x0.qbudget x0.qcount x0.qfirst x0.qfound) ∧ Flat v ps' (addB by' blk M) := by
  obtain ⟨ps', h3, h4⟩ := spec_addB hv hb hl hby hx (n := n) blk.length 0 x0.qpairs M c (by omega) (by omega) hf hB (by omega)
  refine ⟨ps', ?_, h4⟩
  unfold p_spec_l28Search_add
  simp (disch := omega) only [wr64, dec_t, dec_f, beq_t, beq_f, bne_t, bne_f, gIdx_ix, gNz_ok, gSl_from, gApp1, Option.bind_some, Option.map_some, cond_true, cond_false, Bool.not_true, Bool.not_false, List.length_set, Int.toNat_natCast, List.take_length, he]
  exact h3

/-! The program. -/
theorem impl_addR {i : Int} (h0 : 0 ≤ i) (h1 : i < (blk.length : Int)) : ∀ (d : Nat) (k : Int) (ps : List (List Int)) (M : PM) (c : Int), i + 1 + k + d = blk.length → 0 ≤ k → Mat v ps M → BdN v M c → c ≤ 1000000000 - d →
    ∃ ps', loop (p_impl_load_change_b2 by' i (ix blk i) (blk.drop (i + 1).toNat)) (k, ps) = some (.inl (i + 1, ps')) ∧ Mat v ps' (addR by' (ix blk i) (blk.drop (i + 1 + k).toNat) M) := by
  have hdl : ((blk.drop (i + 1).toNat).length : Int) = blk.length - (i + 1) := by rw [List.length_drop]; omega
  intro d
  induction d with
  | zero =>
    intro k ps M c hk hik hf _ _
    refine ⟨ps, loop_end (by simp (disch := omega) only [wr64, dec_t, dec_f, beq_t, beq_f, bne_t, bne_f, gIdx_ix, gNz_ok, gSl_from, gApp1, Option.bind_some, Option.map_some, cond_true, cond_false, Bool.not_true, Bool.not_false, List.length_set, Int.toNat_natCast, List.take_length, p_impl_load_change_b2]), ?_⟩
    rw [List.drop_of_length_le (by omega)]; exact hf
  | succ d ih =>
    intro k ps M c hk hik hf hB hc
    have e1 := (hb i h0 h1).1
    have e2 := (hb (i + 1 + k) (by omega) (by omega)).1
    have e3 := hb.lt (i := i) (j := i + 1 + k) h0 (by omega) (by omega)
    have hln := hf.len
    have hrw := hf.row (ix blk i) e1.1 (by omega)
    have hg := hf.get _ _ e1.1 e3 (by omega)
    have hbd := hB _ _ e1.1 e3 (by omega)
    have hx : ix (blk.drop (i + 1).toNat) k = ix blk (i + 1 + k) := ix_drop (by omega) hik
    obtain ⟨ps', h2, h3⟩ := ih (k + 1) _ _ (c + 1) (by omega) (by omega) (hf.set e1.1 e3 (by omega)) (hB.upd e1.1 e3 (by omega) hby) (by omega)
    refine ⟨ps', ?_, ?_⟩
    · rw [loop_go (s' := (k + 1, ps.set (ix blk i).toNat ((ix ps (ix blk i)).set (ix blk (i + 1 + k)).toNat (M (ix blk i) (ix blk (i + 1 + k)) + by')))) ?_]
      · exact h2
      · simp (disch := omega) only [wr64, dec_t, dec_f, beq_t, beq_f, bne_t, bne_f, gIdx_ix, gNz_ok, gSl_from, gApp1, Option.bind_some, Option.map_some, cond_true, cond_false, Bool.not_true, Bool.not_false, List.length_set, Int.toNat_natCast, List.take_length, p_impl_load_change_b2, hx, hg]
    · rw [drop_ix (i := i + 1 + k) (by omega) (by omega), addR]
      rw [show i + 1 + (k + 1) = i + 1 + k + 1 by omega] at h3
      exact h3
theorem impl_addB : ∀ (d : Nat) (i : Int) (ps : List (List Int)) (M : PM) (c : Int), i + d = blk.length → 0 ≤ i → Mat v ps M → BdN v M c → c ≤ 1000000000 - 100 * d →
    ∃ ps', loop (p_impl_load_change_b1 blk by') (i, ps) = some ps' ∧ Mat v ps' (addB by' (blk.drop i.toNat) M) := by
  intro d
  induction d with
  | zero =>
    intro i ps M c hk hi hf _ _
    refine ⟨ps, loop_end (by simp (disch := omega) only [wr64, dec_t, dec_f, beq_t, beq_f, bne_t, bne_f, gIdx_ix, gNz_ok, gSl_from, gApp1, Option.bind_some, Option.map_some, cond_true, cond_false, Bool.not_true, Bool.not_false, List.length_set, Int.toNat_natCast, List.take_length, p_impl_load_change_b1]), ?_⟩
    rw [List.drop_of_length_le (by omega)]; exact hf
  | succ d ih =>
    intro i ps M c hk hi hf hB hc
    obtain ⟨ps1, h1, h2⟩ := impl_addR hv hb hl hby hi (by omega) (blk.length - (i + 1)).toNat 0 ps M c (by omega) (by omega) hf hB (by omega)
    rw [show i + 1 + 0 = i + 1 by omega] at h2
    have hd : ((blk.drop (i + 1).toNat).length : Int) ≤ 64 := by rw [List.length_drop]; omega
    have hB2 := BdN.addR (ys := blk.drop (i + 1).toNat) hby (hb i hi (by omega)).1.1 (after_lt hv hb hl hby hi) hB
    obtain ⟨ps', h3, h4⟩ := ih (i + 1) ps1 _ _ (by omega) (by omega) h2 hB2 (by omega)
    refine ⟨ps', ?_, ?_⟩
    · rw [loop_go (s' := (i + 1, ps1)) (by simp (disch := omega) only [wr64, dec_t, dec_f, beq_t, beq_f, bne_t, bne_f, gIdx_ix, gNz_ok, gSl_from, gApp1, Option.bind_some, Option.map_some, cond_true, cond_false, Bool.not_true, Bool.not_false, List.length_set, Int.toNat_natCast, List.take_length, p_impl_load_change_b1, h1])]; exact h3
    · rw [drop_ix hi (by omega), addB]; exact h4
theorem impl_add {l : List (List Int)} {M : PM} {c : Int} (hf : Mat v l M) (hB : BdN v M c) (hc : c ≤ 100000000) :
    ∃ l', p_impl_load_change l blk by' = some l' ∧ Mat v l' (addB by' blk M) := by
  obtain ⟨ps', h3, h4⟩ := impl_addB hv hb hl hby blk.length 0 l M c (by omega) (by omega) hf hB (by omega)
  exact ⟨ps', h3, h4⟩
end
end Go.Proofs.YtkgeocffngdeoaaGreat
