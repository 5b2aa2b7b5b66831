/- The functions that list all subsets of one size. -/
import Derived.Test.YtkgeocffngdeoaaGreatPuSub
namespace Go.Proofs.YtkgeocffngdeoaaGreat
open Go Go.Vc
set_option linter.unusedSimpArgs false
set_option linter.unusedVariables false
set_option linter.unusedSectionVars false

theorem own_ok {l : List Int} (h : (l.length : Int) ≤ 4194304) : p_spec_l00Own l = some l := by
  unfold p_spec_l00Own
  rw [gApp_ok (by simp; omega) (by simp; omega)]; rfl
theorem clone_ok {l : List Int} (h : (l.length : Int) ≤ 4194304) : p_slices_Clone_Lint64_int64 l = some l := by
  unfold p_slices_Clone_Lint64_int64
  rw [gApp_ok (by simp; omega) (by simp; omega)]; rfl
/-- The list with its places from i to j counted up. -/
def bump (xs : List Int) (i : Int) (x : Int) (j : Int) : List Int := xs.take i.toNat ++ iota x (j - i).toNat ++ xs.drop j.toNat
section
variable {xs : List Int} {i j x : Int} (h0 : 0 ≤ i) (h1 : i ≤ j)
include h0 h1
theorem bump_pre (h2 : j ≤ (xs.length : Int)) : ((xs.take i.toNat ++ iota x (j - i).toNat).length : Int) = j := by
  rw [List.length_append, List.length_take, iota_len]; omega
theorem bump_len (h2 : j ≤ (xs.length : Int)) : ((bump xs i x j).length : Int) = xs.length := by
  have := bump_pre (x := x) h0 h1 h2
  unfold bump; rw [List.length_append, List.length_drop]; omega
theorem bump_step (h2 : j < (xs.length : Int)) : (bump xs i x j).set j.toNat (x + (j - i)) = bump xs i x (j + 1) := by
  unfold bump
  rw [drop_ix (by omega) h2, setMid (by rw [bump_pre h0 h1 (by omega)]), show (j + 1 - i).toNat = (j - i).toNat + 1 by omega, iota_snoc, show (((j - i).toNat : Nat) : Int) = j - i by omega]
  simp
theorem bump_prev (h3 : i < j) (h2 : j ≤ (xs.length : Int)) : ix (bump xs i x j) (j - 1) = x + (j - i) - 1 := by
  have hp := bump_pre (x := x) h0 h1 h2
  have ht : ((xs.take i.toNat).length : Int) = i := by rw [List.length_take]; omega
  unfold bump
  rw [ix_app_l (by omega) (by omega), ix_app_r (by omega), iota_ix _ _ _ (by omega) (by omega)]; omega
end
theorem bump_zero {xs : List Int} {i x : Int} (h0 : 0 ≤ i) : bump xs i x i = xs := by
  unfold bump; rw [Int.sub_self]; simp [iota]
theorem bump_end {xs : List Int} {i x : Int} (h0 : 0 ≤ i) (h1 : i ≤ (xs.length : Int)) : bump xs i x xs.length = xs.take i.toNat ++ iota x (xs.length - i.toNat) := by
  unfold bump; rw [Int.toNat_natCast, List.drop_length, List.append_nil, show ((xs.length : Int) - i).toNat = xs.length - i.toNat by omega]

def Tame (xs : List Int) : Prop := ∀ x ∈ xs, 0 ≤ x ∧ x ≤ 64
theorem spec_bump {k : Int} {xs : List Int} {L : List (List Int)} {i : Int} (hk : (xs.length : Int) = k) (h0 : 0 ≤ i) (h1 : i < k) (hk2 : k ≤ 64) (ht : Tame xs) :
    p_spec_l28All_k1 k xs L i = some (.inl (L, xs.take i.toNat ++ iota (ix xs i + 1) (xs.length - i.toNat))) := by
  have hx := ht _ (ix_mem h0 (by omega) : ix xs i ∈ xs)
  simp (disch := omega) only [wr64, dec_t, dec_f, beq_t, beq_f, bne_t, bne_f, gIdx_ix, gNz_ok, gSl_from, gApp1, Option.bind_some, Option.map_some, cond_true, cond_false, Bool.not_true, Bool.not_false, List.length_set, Int.toNat_natCast, List.take_length, p_spec_l28All_k1]
  have hs := bump_step (xs := xs) (i := i) (j := i) (x := ix xs i + 1) h0 (by omega) (by omega)
  rw [bump_zero h0, show ix xs i + 1 + (i - i) = ix xs i + 1 by omega] at hs
  rw [hs]
  rw [loop_upto (B := p_spec_l28All_b3 k L) (fun j => (j, bump xs i (ix xs i + 1) j)) (i := i + 1) (n := k) (by omega) ?_]
  · refine loop_end ?_
    simp (disch := omega) only [wr64, dec_t, dec_f, beq_t, beq_f, bne_t, bne_f, gIdx_ix, gNz_ok, gSl_from, gApp1, Option.bind_some, Option.map_some, cond_true, cond_false, Bool.not_true, Bool.not_false, List.length_set, Int.toNat_natCast, List.take_length, p_spec_l28All_b3]
    rw [← hk, bump_end h0 (by omega)]
  · intro j a b
    have hl := bump_len (xs := xs) (x := ix xs i + 1) (j := j) h0 (by omega) (by omega)
    have hp := bump_prev (xs := xs) (x := ix xs i + 1) (j := j) h0 (by omega) (by omega) (by omega)
    have hs := bump_step (xs := xs) (x := ix xs i + 1) (j := j) h0 (by omega) (by omega)
    simp (disch := omega) only [wr64, dec_t, dec_f, beq_t, beq_f, bne_t, bne_f, gIdx_ix, gNz_ok, gSl_from, gApp1, Option.bind_some, Option.map_some, cond_true, cond_false, Bool.not_true, Bool.not_false, List.length_set, Int.toNat_natCast, List.take_length, p_spec_l28All_b3, hp]
    rw [show ix xs i + 1 + (j - i) - 1 + 1 = ix xs i + 1 + (j - i) by omega, hs]
theorem spec_next {v k : Int} {xs : List Int} {acc : List (List Int)} (hk : (xs.length : Int) = k) (hk2 : k ≤ 64) (hv0 : 0 ≤ v) (hv1 : v ≤ 64) (ht : Tame xs) (ha : acc.length ≤ 8589934592) :
    p_spec_l28All_b2 v k (acc, xs) = some (match nextS v xs with | some ys => .inl (acc ++ [xs], ys) | none => .inr (.inr (acc ++ [xs]))) := by
  have hO : p_spec_l00Own xs = some xs := own_ok (by omega)
  simp (disch := omega) only [wr64, dec_t, dec_f, beq_t, beq_f, bne_t, bne_f, gIdx_ix, gNz_ok, gSl_from, gApp1, Option.bind_some, Option.map_some, cond_true, cond_false, Bool.not_true, Bool.not_false, List.length_set, Int.toNat_natCast, List.take_length, p_spec_l28All_b2, hO]
  rcases loop_down (B := p_spec_l28All_b4 v k xs (acc ++ [xs])) (fun k => k) (fun i => ix xs i ≠ v - k + i) (i := k - 1) (m := -1) (by omega) (fun i a b c => by
      have c := Classical.not_not.1 c
      simp (disch := omega) only [wr64, dec_t, dec_f, beq_t, beq_f, bne_t, bne_f, gIdx_ix, gNz_ok, gSl_from, gApp1, Option.bind_some, Option.map_some, cond_true, cond_false, Bool.not_true, Bool.not_false, List.length_set, Int.toNat_natCast, List.take_length, p_spec_l28All_b4]) with ⟨i, h1, h2, h3, h4, h5⟩ | ⟨h1, h2⟩
  · rw [h5, nextS_some xs i (by omega) (by omega) (by omega) (fun j a b => by have := Classical.not_not.1 (h4 j a (by omega)); omega)]
    refine loop_end ?_
    simp (disch := omega) only [wr64, dec_t, dec_f, beq_t, beq_f, bne_t, bne_f, gIdx_ix, gNz_ok, gSl_from, gApp1, Option.bind_some, Option.map_some, cond_true, cond_false, Bool.not_true, Bool.not_false, List.length_set, Int.toNat_natCast, List.take_length, p_spec_l28All_b4, spec_bump hk (show 0 ≤ i by omega) (by omega) hk2 ht]
  · rw [h2, nextS_none xs (fun j a b => by have := Classical.not_not.1 (h1 j (by omega) (by omega)); omega)]
    refine loop_end ?_
    simp (disch := omega) only [wr64, dec_t, dec_f, beq_t, beq_f, bne_t, bne_f, gIdx_ix, gNz_ok, gSl_from, gApp1, Option.bind_some, Option.map_some, cond_true, cond_false, Bool.not_true, Bool.not_false, List.length_set, Int.toNat_natCast, List.take_length, p_spec_l28All_b4, p_spec_l28All_k1]
theorem spec_chain {v k : Int} (hk2 : k ≤ 64) (hv0 : 0 ≤ v) (hv1 : v ≤ 64) : ∀ (L : List (List Int)) (x : List Int) (acc : List (List Int)), Chain v (x :: L) → (∀ y ∈ x :: L, (y.length : Int) = k ∧ Tame y) → acc.length + L.length ≤ 8589934592 → loop (p_spec_l28All_b2 v k) (acc, x) = some (.inr (acc ++ x :: L))
  | [], x, acc, hc, hy, ha => by
    have h1 := hy x (by simp)
    have hn : nextS v x = none := hc
    have := spec_next (acc := acc) h1.1 hk2 hv0 hv1 h1.2 (by omega)
    rw [hn] at this
    exact loop_end this
  | y :: L, x, acc, hc, hy, ha => by
    have h1 := hy x (by simp)
    have := spec_next (acc := acc) h1.1 hk2 hv0 hv1 h1.2 (by omega)
    rw [hc.1] at this
    rw [loop_go this, spec_chain hk2 hv0 hv1 L y (acc ++ [x]) hc.2 (fun z hz => hy z (List.mem_cons_of_mem _ hz)) (by simp at *; omega)]
    simp
theorem tame_of {hi : Int} (h : hi ≤ 64) : ∀ {xs : List Int} {lo : Int}, 0 ≤ lo → RisL hi lo xs → Tame xs
  | [], _, _, _ => fun x hx => by simp at hx
  | y :: ys, lo, h0, ⟨a, b, c⟩ => fun x hx => by
    rcases List.mem_cons.1 hx with rfl | hx
    · exact ⟨by omega, by omega⟩
    · exact tame_of h (by omega) c x hx
/-- All subsets of one size. -/
def allSub (v k : Int) : List (List Int) := subs 0 v.toNat k.toNat
section
variable {v k : Int} (h0 : 0 ≤ k) (h1 : k ≤ v) (h2 : v ≤ 32)
include h0 h1 h2
theorem mem_all {xs : List Int} : xs ∈ allSub v k ↔ (xs.length : Int) = k ∧ Rising xs 0 (v - 1) := by
  unfold allSub
  rw [mem_subs, rising_iff, show (0 : Int) + ((v.toNat : Nat) : Int) - 1 = v - 1 by omega]
  constructor
  · rintro ⟨a, b⟩; exact ⟨by omega, b⟩
  · rintro ⟨a, b⟩; exact ⟨by omega, b⟩
theorem all_len : ((allSub v k).length : Int) ≤ 4294967296 := by
  have h := subs_len v.toNat k.toNat 0
  have : 2 ^ v.toNat ≤ 2 ^ 32 := Nat.pow_le_pow_right (by omega) (by omega)
  unfold allSub; omega
theorem all_tame : ∀ y ∈ allSub v k, (y.length : Int) = k ∧ Tame y := by
  intro y hy
  have := (mem_all h0 h1 h2).1 hy
  exact ⟨this.1, tame_of (hi := v - 1) (by omega) (Int.le_refl 0) (rising_iff.1 this.2)⟩
theorem all_chain : ∃ L, allSub v k = iota 0 k.toNat :: L ∧ Chain v (iota 0 k.toNat :: L) := by
  obtain ⟨L, hL⟩ := subs_head (g := v.toNat) (k := k.toNat) (lo := 0) (by omega)
  have hc := subs_chain v.toNat k.toNat 0
  rw [show (0 : Int) + ((v.toNat : Nat) : Int) = v by omega, hL] at hc
  exact ⟨L, hL, hc⟩
theorem spec_all : p_spec_l28All v k = some (allSub v k) := by
  unfold p_spec_l28All
  rw [show (([] : List Int), (0 : Int)) = (fun j : Int => (iota 0 j.toNat, j)) 0 from rfl, loop_upto (B := p_spec_l28All_b1 v k) (fun j => (iota 0 j.toNat, j)) (i := 0) (n := k) (by omega) ?_]
  · refine loop_end ?_
    simp (disch := omega) only [wr64, dec_t, dec_f, beq_t, beq_f, bne_t, bne_f, gIdx_ix, gNz_ok, gSl_from, gApp1, Option.bind_some, Option.map_some, cond_true, cond_false, Bool.not_true, Bool.not_false, List.length_set, Int.toNat_natCast, List.take_length, p_spec_l28All_b1]
    obtain ⟨L, hL, hc⟩ := all_chain h0 h1 h2
    have hlen := all_len h0 h1 h2
    have hy := all_tame h0 h1 h2
    rw [hL] at hlen hy ⊢
    rw [spec_chain (by omega) (by omega) (by omega) L _ [] hc hy (by simp at hlen ⊢; omega)]; rfl
  · intro j a b
    have hl : (iota 0 j.toNat).length = j.toNat := iota_len ..
    simp (disch := omega) only [wr64, dec_t, dec_f, beq_t, beq_f, bne_t, bne_f, gIdx_ix, gNz_ok, gSl_from, gApp1, Option.bind_some, Option.map_some, cond_true, cond_false, Bool.not_true, Bool.not_false, List.length_set, Int.toNat_natCast, List.take_length, p_spec_l28All_b1]
    rw [show (j + 1).toNat = j.toNat + 1 by omega, iota_snoc, show (0 : Int) + ((j.toNat : Nat) : Int) = j by omega]
end
theorem impl_bump {k : Int} {xs : List Int} {i : Int} (hk : (xs.length : Int) = k) (h0 : 0 ≤ i) (h1 : i < k) (hk2 : k ≤ 64) (ht : Tame xs) :
    loop (p_impl_NextSubset_b2 xs k i) (i, xs) = some (.inr (xs.take i.toNat ++ iota (ix xs i + 1) (xs.length - i.toNat), true)) := by
  have hx := ht _ (ix_mem h0 (by omega) : ix xs i ∈ xs)
  have hz := bump_zero (xs := xs) (i := i) (x := ix xs i + 1) h0
  have e : ((i, xs) : Int × List Int) = (fun j => (j, bump xs i (ix xs i + 1) j)) i := by simp only [hz]
  rw [e, loop_upto (B := p_impl_NextSubset_b2 xs k i) (fun j => (j, bump xs i (ix xs i + 1) j)) (i := i) (n := k) (by omega) ?_]
  · refine loop_end ?_
    simp (disch := omega) only [wr64, dec_t, dec_f, beq_t, beq_f, bne_t, bne_f, gIdx_ix, gNz_ok, gSl_from, gApp1, Option.bind_some, Option.map_some, cond_true, cond_false, Bool.not_true, Bool.not_false, List.length_set, Int.toNat_natCast, List.take_length, p_impl_NextSubset_b2]
    rw [← hk, bump_end h0 (by omega)]
  · intro j a b
    have hl := bump_len (xs := xs) (x := ix xs i + 1) (j := j) h0 (by omega) (by omega)
    have hs := bump_step (xs := xs) (x := ix xs i + 1) (j := j) h0 (by omega) (by omega)
    simp (disch := omega) only [wr64, dec_t, dec_f, beq_t, beq_f, bne_t, bne_f, gIdx_ix, gNz_ok, gSl_from, gApp1, Option.bind_some, Option.map_some, cond_true, cond_false, Bool.not_true, Bool.not_false, List.length_set, Int.toNat_natCast, List.take_length, p_impl_NextSubset_b2]
    rw [show ix xs i + 1 + j - i = ix xs i + 1 + (j - i) by omega, hs]
theorem impl_next {v k : Int} {xs : List Int} (hk : (xs.length : Int) = k) (hk2 : k ≤ 64) (hv0 : 0 ≤ v) (hv1 : v ≤ 32) (ht : Rising xs 0 (v - 1)) :
    p_impl_NextSubset v xs = some (match nextS v xs with | some ys => (ys, true) | none => ([], false)) := by
  have htm : Tame xs := tame_of (hi := v - 1) (by omega) (Int.le_refl 0) (rising_iff.1 ht)
  have hV := (set_ok (l := xs) (n := v) (by omega)).eq ⟨ht, hv0, hv1⟩
  have hC := clone_ok (l := xs) (by omega)
  unfold p_impl_NextSubset
  simp (disch := omega) only [wr64, dec_t, dec_f, beq_t, beq_f, bne_t, bne_f, gIdx_ix, gNz_ok, gSl_from, gApp1, Option.bind_some, Option.map_some, cond_true, cond_false, Bool.not_true, Bool.not_false, List.length_set, Int.toNat_natCast, List.take_length, hV, p_impl_size_int64, hk]
  rcases loop_down (B := p_impl_NextSubset_b1 v xs k) (fun k => k) (fun i => ix xs i ≠ v - k + i) (i := k - 1) (m := -1) (by omega) (fun i a b c => by
      have c := Classical.not_not.1 c
      simp (disch := omega) only [wr64, dec_t, dec_f, beq_t, beq_f, bne_t, bne_f, gIdx_ix, gNz_ok, gSl_from, gApp1, Option.bind_some, Option.map_some, cond_true, cond_false, Bool.not_true, Bool.not_false, List.length_set, Int.toNat_natCast, List.take_length, p_impl_NextSubset_b1]) with ⟨i, h1, h2, h3, h4, h5⟩ | ⟨h1, h2⟩
  · rw [h5, nextS_some xs i (by omega) (by omega) (by omega) (fun j a b => by have := Classical.not_not.1 (h4 j a (by omega)); omega)]
    refine loop_end ?_
    simp (disch := omega) only [wr64, dec_t, dec_f, beq_t, beq_f, bne_t, bne_f, gIdx_ix, gNz_ok, gSl_from, gApp1, Option.bind_some, Option.map_some, cond_true, cond_false, Bool.not_true, Bool.not_false, List.length_set, Int.toNat_natCast, List.take_length, p_impl_NextSubset_b1, hC, impl_bump hk (show 0 ≤ i by omega) (by omega) hk2 htm]
  · rw [h2, nextS_none xs (fun j a b => by have := Classical.not_not.1 (h1 j (by omega) (by omega)); omega)]
    refine loop_end ?_
    simp (disch := omega) only [wr64, dec_t, dec_f, beq_t, beq_f, bne_t, bne_f, gIdx_ix, gNz_ok, gSl_from, gApp1, Option.bind_some, Option.map_some, cond_true, cond_false, Bool.not_true, Bool.not_false, List.length_set, Int.toNat_natCast, List.take_length, p_impl_NextSubset_b1]
theorem impl_chain {v k : Int} (hk2 : k ≤ 64) (hv0 : 0 ≤ v) (hv1 : v ≤ 32) : ∀ (L : List (List Int)) (x : List Int) (acc : List (List Int)), Chain v (x :: L) → (∀ y ∈ x :: L, (y.length : Int) = k ∧ Rising y 0 (v - 1)) → acc.length + L.length ≤ 8589934592 → loop (p_impl_allSubsets_b1 v) (acc, x, true) = some (acc ++ x :: L)
  | [], x, acc, hc, hy, ha => by
    have h1 := hy x (by simp)
    have hn : nextS v x = none := hc
    have := impl_next h1.1 hk2 hv0 hv1 h1.2
    rw [hn] at this
    rw [loop_go (s' := (acc ++ [x], [], false)) (by simp (disch := omega) only [wr64, dec_t, dec_f, beq_t, beq_f, bne_t, bne_f, gIdx_ix, gNz_ok, gSl_from, gApp1, Option.bind_some, Option.map_some, cond_true, cond_false, Bool.not_true, Bool.not_false, List.length_set, Int.toNat_natCast, List.take_length, p_impl_allSubsets_b1, this])]
    exact loop_end (by simp (disch := omega) only [wr64, dec_t, dec_f, beq_t, beq_f, bne_t, bne_f, gIdx_ix, gNz_ok, gSl_from, gApp1, Option.bind_some, Option.map_some, cond_true, cond_false, Bool.not_true, Bool.not_false, List.length_set, Int.toNat_natCast, List.take_length, p_impl_allSubsets_b1])
  | y :: L, x, acc, hc, hy, ha => by
    have h1 := hy x (by simp)
    have := impl_next h1.1 hk2 hv0 hv1 h1.2
    rw [hc.1] at this
    rw [loop_go (s' := (acc ++ [x], y, true)) (by simp (disch := omega) only [wr64, dec_t, dec_f, beq_t, beq_f, bne_t, bne_f, gIdx_ix, gNz_ok, gSl_from, gApp1, Option.bind_some, Option.map_some, cond_true, cond_false, Bool.not_true, Bool.not_false, List.length_set, Int.toNat_natCast, List.take_length, p_impl_allSubsets_b1, this]), impl_chain hk2 hv0 hv1 L y (acc ++ [x]) hc.2 (fun z hz => hy z (List.mem_cons_of_mem _ hz)) (by simp at *; omega)]
    simp
theorem identity_ok {n : Int} (h0 : 0 ≤ n) (h1 : n ≤ 4194304) : p_impl_identity n = some (iota 0 n.toNat) := by
  unfold p_impl_identity
  rw [gMake_ok h0 (by omega) (by omega)]
  simp only [Option.bind_some]
  have hl : (((List.replicate n.toNat (0 : Int)).length : Nat) : Int) = n := by rw [List.length_replicate]; omega
  let R : List Int := List.replicate n.toNat (0 : Int)
  have hl' : ((R.length : Nat) : Int) = n := hl
  have e : ((0, R) : Int × List Int) = (fun j => (j, bump R 0 0 j)) 0 := by simp only [bump_zero (Int.le_refl 0)]
  show loop (p_impl_identity_b1 R) (0, R) = _
  rw [e, loop_upto (B := p_impl_identity_b1 R) (fun j => (j, bump R 0 0 j)) (i := 0) (n := n) (by omega) ?_]
  · refine loop_end ?_
    simp (disch := omega) only [wr64, dec_t, dec_f, beq_t, beq_f, bne_t, bne_f, gIdx_ix, gNz_ok, gSl_from, gApp1, Option.bind_some, Option.map_some, cond_true, cond_false, Bool.not_true, Bool.not_false, List.length_set, Int.toNat_natCast, List.take_length, p_impl_identity_b1]
    rw [← hl', bump_end (Int.le_refl 0) (by omega)]; simp
  · intro j a b
    have hb := bump_len (xs := R) (x := 0) (j := j) (Int.le_refl 0) (by omega) (by omega)
    have hs := bump_step (xs := R) (x := 0) (j := j) (Int.le_refl 0) (by omega) (by omega)
    simp (disch := omega) only [wr64, dec_t, dec_f, beq_t, beq_f, bne_t, bne_f, gIdx_ix, gNz_ok, gSl_from, gApp1, Option.bind_some, Option.map_some, cond_true, cond_false, Bool.not_true, Bool.not_false, List.length_set, Int.toNat_natCast, List.take_length, p_impl_identity_b1]
    rw [show (0 : Int) + (j - 0) = j by omega] at hs
    rw [hs]
theorem impl_all {v k : Int} (h0 : 0 ≤ k) (h1 : k ≤ v) (h2 : v ≤ 32) : p_impl_allSubsets v k = some (allSub v k) := by
  unfold p_impl_allSubsets
  simp (disch := omega) only [wr64, dec_t, dec_f, beq_t, beq_f, bne_t, bne_f, gIdx_ix, gNz_ok, gSl_from, gApp1, Option.bind_some, Option.map_some, cond_true, cond_false, Bool.not_true, Bool.not_false, List.length_set, Int.toNat_natCast, List.take_length, identity_ok]
  obtain ⟨L, hL, hc⟩ := all_chain h0 h1 h2
  have hlen := all_len h0 h1 h2
  have hy : ∀ y ∈ allSub v k, (y.length : Int) = k ∧ Rising y 0 (v - 1) := fun y hy => (mem_all h0 h1 h2).1 hy
  rw [hL] at hlen hy ⊢
  rw [impl_chain (by omega) (by omega) (by omega) L _ [] hc hy (by simp at hlen ⊢; omega)]; rfl
end Go.Proofs.YtkgeocffngdeoaaGreat
