/- Designs: sets that rise, lists held against each other, valid designs. -/
import Derived.Test.YtkgeocffngdeoaaGreatPuFam
import Derived.Test.YtkgeocffngdeoaaGreatPuTac
namespace Go.Proofs.YtkgeocffngdeoaaGreat
open Go Go.Vc
set_option linter.unusedSimpArgs false
set_option linter.unusedVariables false

theorem in_ok (n lo hi : Int) : p_spec_l00In n lo hi = some (decide (lo ≤ n ∧ n ≤ hi)) := by
  unfold p_spec_l00In
  by_cases h : lo ≤ n
  · by_cases h2 : n ≤ hi <;> simp (disch := omega) only [wr64, dec_t, dec_f, beq_t, beq_f, bne_t, bne_f, gIdx_ix, gNz_ok, gSl_from, gApp1, Option.bind_some, Option.map_some, cond_true, cond_false, Bool.not_true, Bool.not_false, List.length_set, Int.toNat_natCast, List.take_length]
  · simp (disch := omega) only [wr64, dec_t, dec_f, beq_t, beq_f, bne_t, bne_f, gIdx_ix, gNz_ok, gSl_from, gApp1, Option.bind_some, Option.map_some, cond_true, cond_false, Bool.not_true, Bool.not_false, List.length_set, Int.toNat_natCast, List.take_length]
theorem within_ok (n lo hi : Int) : p_impl_within n lo hi = some (decide (lo ≤ n ∧ n ≤ hi)) := in_ok n lo hi
def Rising (l : List Int) (lo hi : Int) : Prop := ∀ k, 0 ≤ k → k < (l.length : Int) → (lo ≤ ix l k ∧ ix l k ≤ hi) ∧ (0 < k → ix l (k - 1) < ix l k)
theorem rises_ok {l : List Int} {lo hi : Int} (hl : (l.length : Int) ≤ 9223372036854775807) : IsQ (p_spec_l00Rises l lo hi) (Rising l lo hi) := by
  unfold p_spec_l00Rises
  refine (loop_all (P := fun k => (lo ≤ ix l k ∧ ix l k ≤ hi) ∧ (0 < k → ix l (k - 1) < ix l k)) (n := l.length) (Q := True) (by omega) ?_ ?_ fun _ => ?_).congr (by unfold Rising; simp)
  · intro k h0 h1 hp
    have h2 := hp.1
    by_cases hk : 0 < k
    · have h3 := hp.2 hk
      simp (disch := omega) only [wr64, dec_t, dec_f, beq_t, beq_f, bne_t, bne_f, gIdx_ix, gNz_ok, gSl_from, gApp1, Option.bind_some, Option.map_some, cond_true, cond_false, Bool.not_true, Bool.not_false, List.length_set, Int.toNat_natCast, List.take_length, p_spec_l00Rises_b1, in_ok]
    · simp (disch := omega) only [wr64, dec_t, dec_f, beq_t, beq_f, bne_t, bne_f, gIdx_ix, gNz_ok, gSl_from, gApp1, Option.bind_some, Option.map_some, cond_true, cond_false, Bool.not_true, Bool.not_false, List.length_set, Int.toNat_natCast, List.take_length, p_spec_l00Rises_b1, in_ok]
  · intro k h0 h1 hp
    by_cases ha : lo ≤ ix l k ∧ ix l k ≤ hi
    · have hb : 0 < k ∧ ¬ ix l (k - 1) < ix l k := by
        refine ⟨Classical.byContradiction fun h => hp ⟨ha, fun h' => absurd h' h⟩, fun h => hp ⟨ha, fun _ => h⟩⟩
      simp (disch := omega) only [wr64, dec_t, dec_f, beq_t, beq_f, bne_t, bne_f, gIdx_ix, gNz_ok, gSl_from, gApp1, Option.bind_some, Option.map_some, cond_true, cond_false, Bool.not_true, Bool.not_false, List.length_set, Int.toNat_natCast, List.take_length, p_spec_l00Rises_b1, in_ok]
    · simp (disch := omega) only [wr64, dec_t, dec_f, beq_t, beq_f, bne_t, bne_f, gIdx_ix, gNz_ok, gSl_from, gApp1, Option.bind_some, Option.map_some, cond_true, cond_false, Bool.not_true, Bool.not_false, List.length_set, Int.toNat_natCast, List.take_length, p_spec_l00Rises_b1, in_ok]
  · rw [loop_end (r := true) (by simp (disch := omega) only [wr64, dec_t, dec_f, beq_t, beq_f, bne_t, bne_f, gIdx_ix, gNz_ok, gSl_from, gApp1, Option.bind_some, Option.map_some, cond_true, cond_false, Bool.not_true, Bool.not_false, List.length_set, Int.toNat_natCast, List.take_length, p_spec_l00Rises_b1])]; exact IsQ.t trivial
theorem set_ok {l : List Int} {n : Int} (hl : (l.length : Int) ≤ 9223372036854775807) : IsQ (p_impl_ValidSet l n) (Rising l 0 (n - 1) ∧ 0 ≤ n ∧ n ≤ 32) := by
  unfold p_impl_ValidSet
  let f : Int → Int × Int := fun k => (if k = 0 then -1 else ix l (k - 1), k)
  have e0 : ((-1 : Int), (0 : Int)) = f 0 := by simp [f]
  rw [e0]
  have hgo : ∀ k, 0 ≤ k → k < (l.length : Int) → ¬ (fun k => ¬ ((0 ≤ ix l k ∧ ix l k ≤ n - 1) ∧ (0 < k → ix l (k - 1) < ix l k))) k → p_impl_ValidSet_b1 l n (f k) = some (.inl (f (k + 1))) := by
    intro k h0 h1 hp
    have hp := Classical.not_not.1 hp
    have h2 := hp.1
    have hx : f (k + 1) = (ix l k, k + 1) := by simp only [f]; rw [if_neg (by omega), show k + 1 - 1 = k by omega]
    rw [hx]
    simp only [f]
    by_cases hk : k = 0
    · rw [if_pos hk]; simp (disch := omega) only [wr64, dec_t, dec_f, beq_t, beq_f, bne_t, bne_f, gIdx_ix, gNz_ok, gSl_from, gApp1, Option.bind_some, Option.map_some, cond_true, cond_false, Bool.not_true, Bool.not_false, List.length_set, Int.toNat_natCast, List.take_length, p_impl_ValidSet_b1]
    · have h3 := hp.2 (by omega)
      rw [if_neg hk]; simp (disch := omega) only [wr64, dec_t, dec_f, beq_t, beq_f, bne_t, bne_f, gIdx_ix, gNz_ok, gSl_from, gApp1, Option.bind_some, Option.map_some, cond_true, cond_false, Bool.not_true, Bool.not_false, List.length_set, Int.toNat_natCast, List.take_length, p_impl_ValidSet_b1]
  rcases loop_find (B := p_impl_ValidSet_b1 l n) f (fun k => ¬ ((0 ≤ ix l k ∧ ix l k ≤ n - 1) ∧ (0 < k → ix l (k - 1) < ix l k))) (i := 0) (n := l.length) (by omega) hgo with ⟨k, h1, h2, h3, h4, h5⟩ | ⟨h1, h2⟩
  · rw [h5]
    have hn : ¬ (Rising l 0 (n - 1) ∧ 0 ≤ n ∧ n ≤ 32) := fun hh => h3 (hh.1 k h1 h2)
    refine (?_ : loop _ _ = some false) ▸ IsQ.f hn
    refine loop_end ?_
    simp only [f]
    by_cases ha : ix l k ≤ (if k = 0 then -1 else ix l (k - 1))
    · simp (disch := omega) only [wr64, dec_t, dec_f, beq_t, beq_f, bne_t, bne_f, gIdx_ix, gNz_ok, gSl_from, gApp1, Option.bind_some, Option.map_some, cond_true, cond_false, Bool.not_true, Bool.not_false, List.length_set, Int.toNat_natCast, List.take_length, p_impl_ValidSet_b1]
    · have : ix l k ≥ n := by
        by_cases hk : k = 0
        · rw [if_pos hk] at ha
          by_cases hh : ix l k ≥ n
          · exact hh
          · exact absurd ⟨⟨by omega, by omega⟩, fun h => by omega⟩ h3
        · rw [if_neg hk] at ha
          by_cases hh : ix l k ≥ n
          · exact hh
          · have hp := Classical.not_not.1 (h4 (k - 1) (by omega) (by omega))
            exact absurd ⟨⟨by omega, by omega⟩, fun h => by omega⟩ h3
      simp (disch := omega) only [wr64, dec_t, dec_f, beq_t, beq_f, bne_t, bne_f, gIdx_ix, gNz_ok, gSl_from, gApp1, Option.bind_some, Option.map_some, cond_true, cond_false, Bool.not_true, Bool.not_false, List.length_set, Int.toNat_natCast, List.take_length, p_impl_ValidSet_b1]
  · rw [h2]
    have hr : Rising l 0 (n - 1) := fun k a b => Classical.not_not.1 (h1 k a b)
    rw [loop_end (r := decide (0 ≤ n ∧ n ≤ 32)) (by simp only [f]; simp (disch := omega) only [wr64, dec_t, dec_f, beq_t, beq_f, bne_t, bne_f, gIdx_ix, gNz_ok, gSl_from, gApp1, Option.bind_some, Option.map_some, cond_true, cond_false, Bool.not_true, Bool.not_false, List.length_set, Int.toNat_natCast, List.take_length, p_impl_ValidSet_b1, within_ok])]
    exact ⟨_, rfl, by simp [hr]⟩

/-! Lists held against each other. -/
def cmpL : List Int → List Int → Int
  | [], [] => 0
  | [], _ :: _ => -1
  | _ :: _, [] => 1
  | a :: as, b :: bs => if a < b then -1 else if b < a then 1 else cmpL as bs
theorem cmpL_neg : ∀ (a b : List Int), cmpL b a = - cmpL a b
  | [], [] => rfl
  | [], _ :: _ => rfl
  | _ :: _, [] => rfl
  | a :: as, b :: bs => by
    unfold cmpL
    by_cases h1 : a < b
    · rw [if_neg (by omega), if_pos h1, if_pos h1]; rfl
    · by_cases h2 : b < a
      · rw [if_pos h2, if_neg h1, if_pos h2]
      · rw [if_neg h2, if_neg h1, if_neg h1, if_neg h2, cmpL_neg as bs]
theorem cmpL_eq : ∀ (a b : List Int), cmpL a b = 0 ↔ a = b
  | [], [] => by simp [cmpL]
  | [], _ :: _ => by simp [cmpL]
  | _ :: _, [] => by simp [cmpL]
  | a :: as, b :: bs => by
    unfold cmpL
    by_cases h1 : a < b
    · rw [if_pos h1]; simp; intro h; omega
    · by_cases h2 : b < a
      · rw [if_neg h1, if_pos h2]; simp; intro h; omega
      · rw [if_neg h1, if_neg h2, cmpL_eq as bs]; simp; intro _; omega
theorem cmpL_range : ∀ (a b : List Int), cmpL a b = -1 ∨ cmpL a b = 0 ∨ cmpL a b = 1
  | [], [] => by simp [cmpL]
  | [], _ :: _ => by simp [cmpL]
  | _ :: _, [] => by simp [cmpL]
  | a :: as, b :: bs => by
    unfold cmpL
    by_cases h1 : a < b
    · rw [if_pos h1]; simp
    · by_cases h2 : b < a
      · rw [if_neg h1, if_pos h2]; simp
      · rw [if_neg h1, if_neg h2]; exact cmpL_range as bs
theorem cmpL_trans : ∀ (a b c : List Int), cmpL a b < 0 → cmpL b c < 0 → cmpL a c < 0
  | [], _, [], h1, h2 => by
    rename_i b
    cases b with
    | nil => simp [cmpL] at h1
    | cons => simp [cmpL] at h2
  | [], _, _ :: _, _, _ => by simp [cmpL]
  | _ :: _, [], _, h1, _ => by simp [cmpL] at h1
  | _ :: _, _ :: _, [], _, h2 => by simp [cmpL] at h2
  | a :: as, b :: bs, c :: cs, h1, h2 => by
    unfold cmpL at *
    by_cases hab : a < b
    · by_cases hbc : b < c
      · rw [if_pos (by omega)]; decide
      · rw [if_neg hbc] at h2
        by_cases hcb : c < b
        · rw [if_pos hcb] at h2; omega
        · rw [if_pos (by omega)]; decide
    · rw [if_neg hab] at h1
      by_cases hba : b < a
      · rw [if_pos hba] at h1; omega
      · rw [if_neg hba] at h1
        by_cases hbc : b < c
        · rw [if_pos (by omega)]; decide
        · rw [if_neg hbc] at h2
          by_cases hcb : c < b
          · rw [if_pos hcb] at h2; omega
          · rw [if_neg hcb] at h2
            rw [if_neg (by omega), if_neg (by omega)]
            exact cmpL_trans as bs cs h1 h2
theorem cmp_spec {a b : List Int} (ha : (a.length : Int) ≤ 9223372036854775807) : p_spec_CompareLists a b = some (cmpL a b) := by
  unfold p_spec_CompareLists
  have key : ∀ (d : Nat) (k : Int), 0 ≤ k → k + d = a.length → loop (p_spec_CompareLists_b1 a b) k = some (cmpL (a.drop k.toNat) (b.drop k.toNat)) ∨ (b.length : Int) < k := by
    intro d
    induction d with
    | zero =>
      intro k h0 hk
      by_cases hb : (b.length : Int) < k
      · exact .inr hb
      refine .inl (loop_end ?_)
      rw [List.drop_of_length_le (by omega)]
      by_cases h : k < b.length
      · rw [drop_ix h0 h]; simp (disch := omega) only [wr64, dec_t, dec_f, beq_t, beq_f, bne_t, bne_f, gIdx_ix, gNz_ok, gSl_from, gApp1, Option.bind_some, Option.map_some, cond_true, cond_false, Bool.not_true, Bool.not_false, List.length_set, Int.toNat_natCast, List.take_length, p_spec_CompareLists_b1, p_spec_CompareLists_k1]; simp [cmpL]
      · rw [List.drop_of_length_le (by omega)]; simp (disch := omega) only [wr64, dec_t, dec_f, beq_t, beq_f, bne_t, bne_f, gIdx_ix, gNz_ok, gSl_from, gApp1, Option.bind_some, Option.map_some, cond_true, cond_false, Bool.not_true, Bool.not_false, List.length_set, Int.toNat_natCast, List.take_length, p_spec_CompareLists_b1, p_spec_CompareLists_k1]; simp [cmpL]
    | succ d ih =>
      intro k h0 hk
      by_cases hb : (b.length : Int) < k
      · exact .inr hb
      refine .inl ?_
      by_cases h : k < b.length
      · rw [drop_ix h0 h, drop_ix (xs := a) h0 (by omega)]
        unfold cmpL
        by_cases h1 : ix a k < ix b k
        · rw [if_pos h1]; exact loop_end (by simp (disch := omega) only [wr64, dec_t, dec_f, beq_t, beq_f, bne_t, bne_f, gIdx_ix, gNz_ok, gSl_from, gApp1, Option.bind_some, Option.map_some, cond_true, cond_false, Bool.not_true, Bool.not_false, List.length_set, Int.toNat_natCast, List.take_length, p_spec_CompareLists_b1, p_spec_CompareLists_k2])
        · rw [if_neg h1]
          by_cases h2 : ix b k < ix a k
          · rw [if_pos h2]; exact loop_end (by simp (disch := omega) only [wr64, dec_t, dec_f, beq_t, beq_f, bne_t, bne_f, gIdx_ix, gNz_ok, gSl_from, gApp1, Option.bind_some, Option.map_some, cond_true, cond_false, Bool.not_true, Bool.not_false, List.length_set, Int.toNat_natCast, List.take_length, p_spec_CompareLists_b1, p_spec_CompareLists_k2])
          · rw [if_neg h2, loop_go (s' := k + 1) (by simp (disch := omega) only [wr64, dec_t, dec_f, beq_t, beq_f, bne_t, bne_f, gIdx_ix, gNz_ok, gSl_from, gApp1, Option.bind_some, Option.map_some, cond_true, cond_false, Bool.not_true, Bool.not_false, List.length_set, Int.toNat_natCast, List.take_length, p_spec_CompareLists_b1, p_spec_CompareLists_k2])]
            rcases ih (k + 1) (by omega) (by omega) with h | h
            · exact h
            · omega
      · refine loop_end ?_
        rw [List.drop_of_length_le (l := b) (by omega), drop_ix (xs := a) h0 (by omega)]
        simp (disch := omega) only [wr64, dec_t, dec_f, beq_t, beq_f, bne_t, bne_f, gIdx_ix, gNz_ok, gSl_from, gApp1, Option.bind_some, Option.map_some, cond_true, cond_false, Bool.not_true, Bool.not_false, List.length_set, Int.toNat_natCast, List.take_length, p_spec_CompareLists_b1, p_spec_CompareLists_k1]; simp [cmpL]
  rcases key a.length 0 (by omega) (by omega) with h | h
  · exact h
  · omega
theorem cmp_int (x y : Int) : p_cmp_Compare_int64 x y = some (if x < y then -1 else if y < x then 1 else 0) := by
  unfold p_cmp_Compare_int64
  by_cases h1 : x < y
  · simp (disch := omega) only [wr64, dec_t, dec_f, beq_t, beq_f, bne_t, bne_f, gIdx_ix, gNz_ok, gSl_from, gApp1, Option.bind_some, Option.map_some, cond_true, cond_false, Bool.not_true, Bool.not_false, List.length_set, Int.toNat_natCast, List.take_length, p_cmp_isNaN_int64, ite_t]
  · by_cases h2 : y < x <;> simp (disch := omega) only [wr64, dec_t, dec_f, beq_t, beq_f, bne_t, bne_f, gIdx_ix, gNz_ok, gSl_from, gApp1, Option.bind_some, Option.map_some, cond_true, cond_false, Bool.not_true, Bool.not_false, List.length_set, Int.toNat_natCast, List.take_length, p_cmp_isNaN_int64, ite_t, ite_f]
theorem cmp_impl {a b : List Int} (ha : (a.length : Int) ≤ 9223372036854775807) : p_slices_Compare_Lint64_int64 a b = some (cmpL a b) := by
  unfold p_slices_Compare_Lint64_int64
  have key : ∀ (d : Nat) (k : Int), 0 ≤ k → k + d = a.length → loop (p_slices_Compare_Lint64_int64_b1 a b) k = some (cmpL (a.drop k.toNat) (b.drop k.toNat)) ∨ (b.length : Int) < k := by
    intro d
    induction d with
    | zero =>
      intro k h0 hk
      by_cases hb : (b.length : Int) < k
      · exact .inr hb
      refine .inl (loop_end ?_)
      rw [List.drop_of_length_le (by omega)]
      by_cases h : k < b.length
      · rw [drop_ix h0 h]; simp (disch := omega) only [wr64, dec_t, dec_f, beq_t, beq_f, bne_t, bne_f, gIdx_ix, gNz_ok, gSl_from, gApp1, Option.bind_some, Option.map_some, cond_true, cond_false, Bool.not_true, Bool.not_false, List.length_set, Int.toNat_natCast, List.take_length, p_slices_Compare_Lint64_int64_b1]; simp [cmpL]
      · rw [List.drop_of_length_le (by omega)]; simp (disch := omega) only [wr64, dec_t, dec_f, beq_t, beq_f, bne_t, bne_f, gIdx_ix, gNz_ok, gSl_from, gApp1, Option.bind_some, Option.map_some, cond_true, cond_false, Bool.not_true, Bool.not_false, List.length_set, Int.toNat_natCast, List.take_length, p_slices_Compare_Lint64_int64_b1]; simp [cmpL]
    | succ d ih =>
      intro k h0 hk
      by_cases hb : (b.length : Int) < k
      · exact .inr hb
      refine .inl ?_
      by_cases h : k < b.length
      · rw [drop_ix h0 h, drop_ix (xs := a) h0 (by omega)]
        unfold cmpL
        by_cases h1 : ix a k < ix b k
        · rw [if_pos h1]; exact loop_end (by simp (disch := omega) only [wr64, dec_t, dec_f, beq_t, beq_f, bne_t, bne_f, gIdx_ix, gNz_ok, gSl_from, gApp1, Option.bind_some, Option.map_some, cond_true, cond_false, Bool.not_true, Bool.not_false, List.length_set, Int.toNat_natCast, List.take_length, p_slices_Compare_Lint64_int64_b1, cmp_int, ite_t])
        · rw [if_neg h1]
          by_cases h2 : ix b k < ix a k
          · rw [if_pos h2]; exact loop_end (by simp (disch := omega) only [wr64, dec_t, dec_f, beq_t, beq_f, bne_t, bne_f, gIdx_ix, gNz_ok, gSl_from, gApp1, Option.bind_some, Option.map_some, cond_true, cond_false, Bool.not_true, Bool.not_false, List.length_set, Int.toNat_natCast, List.take_length, p_slices_Compare_Lint64_int64_b1, cmp_int, ite_t, ite_f])
          · rw [if_neg h2, loop_go (s' := k + 1) (by simp (disch := omega) only [wr64, dec_t, dec_f, beq_t, beq_f, bne_t, bne_f, gIdx_ix, gNz_ok, gSl_from, gApp1, Option.bind_some, Option.map_some, cond_true, cond_false, Bool.not_true, Bool.not_false, List.length_set, Int.toNat_natCast, List.take_length, p_slices_Compare_Lint64_int64_b1, cmp_int, ite_t, ite_f])]
            rcases ih (k + 1) (by omega) (by omega) with h | h
            · exact h
            · omega
      · refine loop_end ?_
        rw [List.drop_of_length_le (l := b) (by omega), drop_ix (xs := a) h0 (by omega)]
        simp (disch := omega) only [wr64, dec_t, dec_f, beq_t, beq_f, bne_t, bne_f, gIdx_ix, gNz_ok, gSl_from, gApp1, Option.bind_some, Option.map_some, cond_true, cond_false, Bool.not_true, Bool.not_false, List.length_set, Int.toNat_natCast, List.take_length, p_slices_Compare_Lint64_int64_b1]; simp [cmpL]
  rcases key a.length 0 (by omega) (by omega) with h | h
  · exact h
  · omega
end Go.Proofs.YtkgeocffngdeoaaGreat
