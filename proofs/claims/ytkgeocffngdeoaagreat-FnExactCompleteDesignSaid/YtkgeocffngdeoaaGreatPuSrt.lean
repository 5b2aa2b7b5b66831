/- Sorted designs: the reference's sort and the program's. -/
import Derived.Test.YtkgeocffngdeoaaGreatPuBtB
namespace Go.Proofs.YtkgeocffngdeoaaGreat
open Go Go.Vc
set_option linter.unusedSimpArgs false
set_option linter.unusedVariables false

theorem lex_cmp : ∀ a b, lexC a b = cmpL a b
  | [], [] => rfl
  | [], _ :: _ => rfl
  | _ :: _, [] => rfl
  | a :: as, b :: bs => by simp only [lexC, cmpL, lex_cmp as bs]
def SortedL (ys : List (List Int)) : Prop := ys.Pairwise fun a b => lexC a b ≤ 0
theorem sortRows_pw {xs ys : List (List Int)} (hp : ys.Perm xs) (hs : SortedL ys) : ys = sortRows xs := by
  refine sortRows_of hp fun i j hij hj => ?_
  have := List.pairwise_iff_getElem.1 hs i j (by omega) hj hij
  rw [getElem!_pos ys i (by omega), getElem!_pos ys j hj]
  simp only [lexLt, decide_eq_false_iff_not, Int.not_lt]
  have := lexC_neg ys[i] ys[j]
  omega
theorem sortRows_srt (xs : List (List Int)) : SortedL (sortRows xs) := by
  have h := List.pairwise_mergeSort (le := fun x y => !lexLt y x) (fun a b c h k => by
    simp only [Bool.not_eq_true', lexLt, decide_eq_false_iff_not, Int.not_lt] at *
    have e1 := lexC_neg a b
    have e2 := lexC_neg b c
    have e3 := lexC_neg a c
    have := (lexC_trans a b c (by omega) (by omega)).1
    omega) (fun a b => by
    simp only [Bool.or_eq_true, Bool.not_eq_true', lexLt, decide_eq_false_iff_not, Int.not_lt]
    have := lexC_neg a b
    omega) xs
  refine List.Pairwise.imp (fun {a b} hab => ?_) h
  simp only [Bool.not_eq_true', lexLt, decide_eq_false_iff_not, Int.not_lt] at hab
  have := lexC_neg a b
  omega
theorem sortRows_mem {xs : List (List Int)} {x : List Int} : x ∈ sortRows xs ↔ x ∈ xs := (sortRows_perm xs).mem_iff
theorem sortRows_len (xs : List (List Int)) : (sortRows xs).length = xs.length := (sortRows_perm xs).length_eq
/-- One more row finds its place. -/
theorem insert_ok {xs out : List (List Int)} {x : List Int} {k : Nat} (ho : out = sortRows xs) (h1 : ∀ y ∈ out.take k, lexC y x ≤ 0) (h2 : ∀ y ∈ out.drop k, lexC x y ≤ 0) : out.take k ++ [x] ++ out.drop k = sortRows (xs ++ [x]) := by
  have hs := sortRows_srt xs
  rw [← ho] at hs
  refine sortRows_pw ?_ ?_
  · have p1 : (out.take k ++ [x] ++ out.drop k).Perm ([x] ++ (out.take k ++ out.drop k)) := by
      rw [← List.append_assoc]
      exact List.Perm.append_right _ List.perm_append_comm
    rw [List.take_append_drop] at p1
    refine p1.trans (List.Perm.trans ?_ List.perm_append_comm)
    exact List.Perm.append_left _ (by rw [ho]; exact sortRows_perm xs)
  · have hsp := hs
    unfold SortedL at *
    rw [← List.take_append_drop k out, List.pairwise_append] at hsp
    obtain ⟨s1, s2, s3⟩ := hsp
    rw [List.append_assoc, List.pairwise_append]
    refine ⟨s1, ?_, ?_⟩
    · rw [List.singleton_append, List.pairwise_cons]; exact ⟨h2, s2⟩
    · intro a ha b hb
      rw [List.singleton_append, List.mem_cons] at hb
      rcases hb with rfl | hb
      · exact h1 a ha
      · exact s3 a ha b hb
theorem sort_step {xs : List (List Int)} (hl : (xs.length : Int) ≤ 1000000) (hr : ∀ b ∈ xs, (b.length : Int) ≤ 1048576) {i : Int} (h0 : 0 ≤ i) (h1 : i < (xs.length : Int)) :
    p_spec_l10Sort_b1 xs (sortRows (xs.take i.toNat), i) = some (.inl (sortRows (xs.take (i + 1).toNat), i + 1)) := by
  have hol : ((sortRows (xs.take i.toNat)).length : Int) = i := by rw [sortRows_len, List.length_take]; omega
  have hom : ∀ b ∈ sortRows (xs.take i.toNat), (b.length : Int) ≤ 1048576 := fun b hb => hr b (List.mem_of_mem_take (sortRows_mem.1 hb))
  have hx := hr _ (ix_mem h0 h1)
  have hsrt := sortRows_srt (xs.take i.toNat)
  generalize hout : sortRows (xs.take i.toNat) = out at *
  have hok : ∀ {k : Int}, 0 ≤ k → k ≤ (out.length : Int) → (∀ y ∈ out.take k.toNat, lexC y (ix xs i) ≤ 0) → (∀ y ∈ out.drop k.toNat, lexC (ix xs i) y ≤ 0) →
      p_spec_l10Sort_k1 xs out i k = some (.inl (sortRows (xs.take (i + 1).toNat), i + 1)) := by
    intro k k0 k1 g1 g2
    have hins := insert_ok (xs := xs.take i.toNat) (x := ix xs i) (k := k.toNat) hout.symm g1 g2
    rw [take_ix h0 h1]
    have hlt : ((out.take k.toNat).length : Int) = k := by rw [List.length_take]; omega
    have hld : ((out.drop k.toNat).length : Int) = out.length - k := by rw [List.length_drop]; omega
    have hs0 : gSl out 0 k = some (out.take k.toNat) := by rw [gSl_ok (by omega) (by omega) (by omega)]; rfl
    have hs1 : gSl out k (out.length : Int) = some (out.drop k.toNat) := gSl_from k0 k1
    unfold p_spec_l10Sort_k1
    rw [hs0]
    simp only [Option.bind_some]
    rw [gApp_ok (by simp only [List.length_nil]; omega) (by simp only [List.length_nil]; omega)]
    simp only [Option.bind_some, List.nil_append]
    rw [gIdx_ix h0 h1]
    simp only [Option.bind_some]
    rw [own_ok (by omega)]
    simp only [Option.bind_some]
    rw [gApp1 (by omega) (by omega)]
    simp only [Option.bind_some]
    rw [hs1]
    simp only [Option.bind_some]
    rw [gApp_ok (by rw [List.length_append, List.length_singleton]; omega) (by rw [List.length_append, List.length_singleton]; omega)]
    simp only [Option.bind_some]
    rw [hins, wr64 (by omega) (by omega)]
  unfold p_spec_l10Sort_b1
  have hc : decide (i < (xs.length : Int)) = true := dec_t h1
  simp only [hc, cond_true]
  rcases loop_down (B := p_spec_l10Sort_b2 xs out i) (fun k => k) (fun k => ¬ cmpL (ix out (k - 1)) (ix xs i) > 0) (i := out.length) (m := 0) (by omega) (fun k a b c => by
      have hr2 := hom _ (ix_mem (xs := out) (i := k - 1) (by omega) (by omega))
      have c' := Classical.not_not.1 c
      simp (disch := omega) only [wr64, dec_t, dec_f, beq_t, beq_f, bne_t, bne_f, gIdx_ix, gNz_ok, gSl_from, gApp1, Option.bind_some, Option.map_some, cond_true, cond_false, Bool.not_true, Bool.not_false, List.length_set, Int.toNat_natCast, List.take_length, p_spec_l10Sort_b2, cmp_spec]) with ⟨k, a, b, c, d, e⟩ | ⟨a, b⟩
  · rw [e]
    have hr2 := hom _ (ix_mem (xs := out) (i := k - 1) (by omega) (by omega))
    have hkk := hok (k := k) (by omega) (by omega) (fun y hy => ?_) (fun y hy => ?_)
    · refine loop_end ?_
      simp (disch := omega) only [wr64, dec_t, dec_f, beq_t, beq_f, bne_t, bne_f, gIdx_ix, gNz_ok, gSl_from, gApp1, Option.bind_some, Option.map_some, cond_true, cond_false, Bool.not_true, Bool.not_false, List.length_set, Int.toNat_natCast, List.take_length, p_spec_l10Sort_b2, cmp_spec, hkk]
    · obtain ⟨j, j0, j1, rfl⟩ := mem_ix hy
      have hj2 : j < k := by rw [List.length_take] at j1; omega
      rw [ix_take j0 hj2]
      by_cases hjk : j = k - 1
      · rw [hjk, lex_cmp]; omega
      · have hp := List.pairwise_iff_getElem.1 hsrt j.toNat (k - 1).toNat (by omega) (by omega) (by omega)
        have e1 : out[j.toNat]'(by omega) = ix out j := by have := ix_get (xs := out) j0 (by omega); rw [List.getElem?_eq_getElem (by omega)] at this; exact Option.some.inj this
        have e2 : out[(k - 1).toNat]'(by omega) = ix out (k - 1) := by have := ix_get (xs := out) (i := k - 1) (by omega) (by omega); rw [List.getElem?_eq_getElem (by omega)] at this; exact Option.some.inj this
        rw [e1, e2] at hp
        exact (lexC_trans _ _ _ hp (by rw [lex_cmp]; omega)).1
    · obtain ⟨j, j0, j1, rfl⟩ := mem_ix hy
      rw [List.length_drop] at j1
      rw [ix_drop (by omega) j0]
      have hd := Classical.not_not.1 (d (k + j + 1) (by omega) (by omega))
      rw [show k + j + 1 - 1 = k + j by omega] at hd
      have hn := lexC_neg (ix out (k + j)) (ix xs i)
      rw [lex_cmp, lex_cmp] at hn
      rw [lex_cmp]; omega
  · rw [b]
    have hkk := hok (k := 0) (by omega) (by omega) (fun y hy => by simp at hy) (fun y hy => ?_)
    · refine loop_end ?_
      simp (disch := omega) only [wr64, dec_t, dec_f, beq_t, beq_f, bne_t, bne_f, gIdx_ix, gNz_ok, gSl_from, gApp1, Option.bind_some, Option.map_some, cond_true, cond_false, Bool.not_true, Bool.not_false, List.length_set, Int.toNat_natCast, List.take_length, p_spec_l10Sort_b2, hkk]
    · obtain ⟨j, j0, j1, rfl⟩ := mem_ix hy
      rw [show (0 : Int).toNat = 0 from rfl, List.drop_zero] at *
      have hd := Classical.not_not.1 (a (j + 1) (by omega) (by omega))
      rw [show j + 1 - 1 = j by omega] at hd
      have hn := lexC_neg (ix out j) (ix xs i)
      rw [lex_cmp, lex_cmp] at hn
      rw [lex_cmp]; omega
theorem spec_sort {xs : List (List Int)} (hl : (xs.length : Int) ≤ 1000000) (hr : ∀ b ∈ xs, (b.length : Int) ≤ 1048576) : p_spec_l10Sort xs = some (sortRows xs) := by
  unfold p_spec_l10Sort
  have e0 : (([] : List (List Int)), (0 : Int)) = (fun j : Int => (sortRows (xs.take j.toNat), j)) 0 := by simp [sortRows]
  rw [e0, loop_upto (B := p_spec_l10Sort_b1 xs) (fun j => (sortRows (xs.take j.toNat), j)) (i := 0) (n := xs.length) (by omega) fun j a b => sort_step hl hr a b]
  refine loop_end ?_
  unfold p_spec_l10Sort_b1
  have hc : decide ((xs.length : Int) < (xs.length : Int)) = false := dec_f (by omega)
  simp only [hc, cond_false, Int.toNat_natCast, List.take_length]
def made (p : Int) (xs : List (List Int)) : T_impl_Design × Int := if (xs.length : Int) > 128 then (T_impl_Design.mk 0 [], 5) else (T_impl_Design.mk p (sortRows xs), 0)
theorem spec_make {p : Int} {xs : List (List Int)} (h1 : 1 ≤ p) (h2 : p ≤ 32) (hl : (xs.length : Int) ≤ 8589934592) (hr : ∀ b ∈ xs, (b.length : Int) ≤ 1048576 ∧ Blk b p) : p_spec_l10Make p xs = some (made p xs) := by
  unfold p_spec_l10Make
  rw [loop_upto (B := p_spec_l10Make_b1 p xs) (fun j => j) (i := 0) (n := xs.length) (by omega) fun j a b => ?_]
  · refine loop_end ?_
    unfold made
    by_cases h : (xs.length : Int) > 128
    · simp (disch := omega) only [wr64, dec_t, dec_f, beq_t, beq_f, bne_t, bne_f, gIdx_ix, gNz_ok, gSl_from, gApp1, Option.bind_some, Option.map_some, cond_true, cond_false, Bool.not_true, Bool.not_false, List.length_set, Int.toNat_natCast, List.take_length, p_spec_l10Make_b1]
      rw [if_pos h]
    · simp (disch := omega) only [wr64, dec_t, dec_f, beq_t, beq_f, bne_t, bne_f, gIdx_ix, gNz_ok, gSl_from, gApp1, Option.bind_some, Option.map_some, cond_true, cond_false, Bool.not_true, Bool.not_false, List.length_set, Int.toNat_natCast, List.take_length, p_spec_l10Make_b1, spec_sort (by omega) fun b hb => (hr b hb).1]
      rw [if_neg h]
  · have hb := hr _ (ix_mem a b)
    have := (block_spec hb.1 h1 h2).eq hb.2
    simp (disch := omega) only [wr64, dec_t, dec_f, beq_t, beq_f, bne_t, bne_f, gIdx_ix, gNz_ok, gSl_from, gApp1, Option.bind_some, Option.map_some, cond_true, cond_false, Bool.not_true, Bool.not_false, List.length_set, Int.toNat_natCast, List.take_length, p_spec_l10Make_b1, this]
theorem impl_sorted {p : Int} {xs : List (List Int)} (hcp : (xs.length : Int) ≤ 128 → p_impl_copyLists xs = some xs) (hr : ∀ b ∈ xs, (b.length : Int) ≤ 1048576) : p_impl_sorted p xs = some (made p xs) := by
  unfold p_impl_sorted made
  by_cases h : (xs.length : Int) > 128
  · simp (disch := omega) only [wr64, dec_t, dec_f, beq_t, beq_f, bne_t, bne_f, gIdx_ix, gNz_ok, gSl_from, gApp1, Option.bind_some, Option.map_some, cond_true, cond_false, Bool.not_true, Bool.not_false, List.length_set, Int.toNat_natCast, List.take_length]
    rw [if_pos h]
  · have hs : p_slices_SortFunc_LLint64_Lint64 xs (fun y0 y1 => p_slices_Compare_Lint64_int64 y0 y1) = some (sortRows xs) := by
      unfold p_slices_SortFunc_LLint64_Lint64
      rw [if_pos ⟨fun a ha c _ => by rw [lex_cmp]; exact cmp_impl (by have := hr a ha; omega), by omega⟩]
    have hcp' := hcp (by omega)
    simp (disch := omega) only [wr64, dec_t, dec_f, beq_t, beq_f, bne_t, bne_f, gIdx_ix, gNz_ok, gSl_from, gApp1, Option.bind_some, Option.map_some, cond_true, cond_false, Bool.not_true, Bool.not_false, List.length_set, Int.toNat_natCast, List.take_length, hcp', hs]
    rw [if_neg h]
end Go.Proofs.YtkgeocffngdeoaaGreat
