/- Packings, the first state, and the statements BacktrackNodes and CountDesigns. -/
import Derived.Test.YtkgeocffngdeoaaGreatPuPairD
namespace Go.Proofs.YtkgeocffngdeoaaGreat
open Go Go.Vc
set_option linter.unusedSimpArgs false
set_option linter.unusedVariables false
set_option linter.unusedSectionVars false

def Pk (d : T_impl_Design) (K lam : Int) : Prop := (∀ k, 0 ≤ k → k < (d.Blocks.length : Int) → ((ix d.Blocks k).length : Int) = K ∧ (0 < k → ix d.Blocks (k - 1) ≠ ix d.Blocks k)) ∧ ∀ a b, 0 ≤ a → a < b → b < d.Points → cntM d.Blocks a b ≤ lam
theorem pairs_le {d : T_impl_Design} {lam : Int} (hp : 0 ≤ d.Points) : (∀ x ∈ pairTo (cntM d.Blocks) d.Points d.Points.toNat, x ≤ lam) ↔ ∀ a b, 0 ≤ a → a < b → b < d.Points → cntM d.Blocks a b ≤ lam := by
  constructor
  · intro h a b p q r
    exact h _ ((mem_pairTo _).2 ⟨a, b, p, by omega, q, r, rfl⟩)
  · intro h x hx
    obtain ⟨a, b, p, q, r, s, rfl⟩ := (mem_pairTo _).1 hx
    exact h a b p r s
theorem spec_packing {d : T_impl_Design} (hd : ValidD d) (hsz : Sz2 d.Blocks) {K lam : Int} (hl : 1 ≤ lam) : IsQ (p_spec_l28Packing d K lam) (Pk d K lam) := by
  have hp1 := hd.p1
  have hp2 := hd.p2
  have hln := hd.len
  unfold p_spec_l28Packing
  simp (disch := omega) only [wr64, dec_t, dec_f, beq_t, beq_f, bne_t, bne_f, gIdx_ix, gNz_ok, gSl_from, gApp1, Option.bind_some, Option.map_some, cond_true, cond_false, Bool.not_true, Bool.not_false, List.length_set, Int.toNat_natCast, List.take_length, (ok_spec hsz).eq hd, p_spec_l28Packing_k1]
  refine loop_all (P := fun k => ((ix d.Blocks k).length : Int) = K ∧ (0 < k → ix d.Blocks (k - 1) ≠ ix d.Blocks k)) (by omega) ?_ ?_ fun _ => ?_
  · intro k h0 h1 h
    have hr := hsz.row h0 h1
    have hK := h.1
    by_cases hk : 0 < k
    · have h2 := (same_ok (a := ix d.Blocks k) (b := ix d.Blocks (k - 1)) hr).ne fun e => h.2 hk e.symm
      simp (disch := omega) only [wr64, dec_t, dec_f, beq_t, beq_f, bne_t, bne_f, gIdx_ix, gNz_ok, gSl_from, gApp1, Option.bind_some, Option.map_some, cond_true, cond_false, Bool.not_true, Bool.not_false, List.length_set, Int.toNat_natCast, List.take_length, p_spec_l28Packing_b1, h2]
    · simp (disch := omega) only [wr64, dec_t, dec_f, beq_t, beq_f, bne_t, bne_f, gIdx_ix, gNz_ok, gSl_from, gApp1, Option.bind_some, Option.map_some, cond_true, cond_false, Bool.not_true, Bool.not_false, List.length_set, Int.toNat_natCast, List.take_length, p_spec_l28Packing_b1]
  · intro k h0 h1 h
    have hr := hsz.row h0 h1
    by_cases hK : ((ix d.Blocks k).length : Int) = K
    · have hk : 0 < k ∧ ix d.Blocks (k - 1) = ix d.Blocks k := ⟨Classical.byContradiction fun hh => h ⟨hK, fun h' => absurd h' hh⟩, Classical.byContradiction fun hh => h ⟨hK, fun _ => hh⟩⟩
      have h2 := (same_ok (a := ix d.Blocks k) (b := ix d.Blocks (k - 1)) hr).eq hk.2.symm
      have hk0 := hk.1
      simp (disch := omega) only [wr64, dec_t, dec_f, beq_t, beq_f, bne_t, bne_f, gIdx_ix, gNz_ok, gSl_from, gApp1, Option.bind_some, Option.map_some, cond_true, cond_false, Bool.not_true, Bool.not_false, List.length_set, Int.toNat_natCast, List.take_length, p_spec_l28Packing_b1, h2]
    · simp (disch := omega) only [wr64, dec_t, dec_f, beq_t, beq_f, bne_t, bne_f, gIdx_ix, gNz_ok, gSl_from, gApp1, Option.bind_some, Option.map_some, cond_true, cond_false, Bool.not_true, Bool.not_false, List.length_set, Int.toNat_natCast, List.take_length, p_spec_l28Packing_b1]
  · have hlen := pairTo_len (M := cntM d.Blocks) hp2 d.Points.toNat
    obtain ⟨c, h1, h2⟩ := all_loop (xs := pairTo (cntM d.Blocks) d.Points d.Points.toNat) (q := fun x => x ≤ lam) (B := p_spec_l28Packing_b2 lam (pairTo (cntM d.Blocks) d.Points d.Points.toNat)) (t := .inr true) (f := .inr false) (by unfold M63; omega) (fun k x hx => by
      have hk := get_lt' hx
      by_cases hxl : x ≤ lam
      · exact step_of (c := true) (by simp [hxl]) (by simp (disch := omega) only [wr64, dec_t, dec_f, beq_t, beq_f, bne_t, bne_f, gIdx_ix, gNz_ok, gSl_from, gApp1, Option.bind_some, Option.map_some, cond_true, cond_false, Bool.not_true, Bool.not_false, List.length_set, Int.toNat_natCast, List.take_length, p_spec_l28Packing_b2, ix_nat hx])
      · exact step_of (c := false) (by simp [hxl]) (by simp (disch := omega) only [wr64, dec_t, dec_f, beq_t, beq_f, bne_t, bne_f, gIdx_ix, gNz_ok, gSl_from, gApp1, Option.bind_some, Option.map_some, cond_true, cond_false, Bool.not_true, Bool.not_false, List.length_set, Int.toNat_natCast, List.take_length, p_spec_l28Packing_b2, ix_nat hx])) (by simp (disch := omega) only [wr64, dec_t, dec_f, beq_t, beq_f, bne_t, bne_f, gIdx_ix, gNz_ok, gSl_from, gApp1, Option.bind_some, Option.map_some, cond_true, cond_false, Bool.not_true, Bool.not_false, List.length_set, Int.toNat_natCast, List.take_length, p_spec_l28Packing_b2])
    rw [pairs_le (by omega)] at h2
    refine ⟨c, loop_end ?_, h2⟩
    simp (disch := omega) only [wr64, dec_t, dec_f, beq_t, beq_f, bne_t, bne_f, gIdx_ix, gNz_ok, gSl_from, gApp1, Option.bind_some, Option.map_some, cond_true, cond_false, Bool.not_true, Bool.not_false, List.length_set, Int.toNat_natCast, List.take_length, p_spec_l28Packing_b1, spec_pairs hd hsz]
    rw [h1]; cases c <;> rfl
theorem impl_packing {d : T_impl_Design} (hd : ValidD d) (hsz : Sz2 d.Blocks) {K lam : Int} (hl : 1 ≤ lam) : IsQ (p_impl_isDesignPacking d K lam) (Pk d K lam) := by
  have hp1 := hd.p1
  have hp2 := hd.p2
  have hln := hd.len
  unfold p_impl_isDesignPacking
  refine loop_all (P := fun k => ((ix d.Blocks k).length : Int) = K ∧ (0 < k → ix d.Blocks (k - 1) ≠ ix d.Blocks k)) (by omega) ?_ ?_ fun _ => ?_
  · intro k h0 h1 h
    have hK := h.1
    by_cases hk : 0 < k
    · have h2 := (equal_ok (a := ix d.Blocks (k - 1)) (b := ix d.Blocks k) (hsz.row (by omega) (by omega))).ne fun e => h.2 hk e
      simp (disch := omega) only [wr64, dec_t, dec_f, beq_t, beq_f, bne_t, bne_f, gIdx_ix, gNz_ok, gSl_from, gApp1, Option.bind_some, Option.map_some, cond_true, cond_false, Bool.not_true, Bool.not_false, List.length_set, Int.toNat_natCast, List.take_length, p_impl_isDesignPacking_b1, p_impl_size_int64, h2]
    · simp (disch := omega) only [wr64, dec_t, dec_f, beq_t, beq_f, bne_t, bne_f, gIdx_ix, gNz_ok, gSl_from, gApp1, Option.bind_some, Option.map_some, cond_true, cond_false, Bool.not_true, Bool.not_false, List.length_set, Int.toNat_natCast, List.take_length, p_impl_isDesignPacking_b1, p_impl_size_int64]
  · intro k h0 h1 h
    by_cases hK : ((ix d.Blocks k).length : Int) = K
    · have hk : 0 < k ∧ ix d.Blocks (k - 1) = ix d.Blocks k := ⟨Classical.byContradiction fun hh => h ⟨hK, fun h' => absurd h' hh⟩, Classical.byContradiction fun hh => h ⟨hK, fun _ => hh⟩⟩
      have hk0 := hk.1
      have h2 := (equal_ok (a := ix d.Blocks (k - 1)) (b := ix d.Blocks k) (hsz.row (by omega) (by omega))).eq hk.2
      simp (disch := omega) only [wr64, dec_t, dec_f, beq_t, beq_f, bne_t, bne_f, gIdx_ix, gNz_ok, gSl_from, gApp1, Option.bind_some, Option.map_some, cond_true, cond_false, Bool.not_true, Bool.not_false, List.length_set, Int.toNat_natCast, List.take_length, p_impl_isDesignPacking_b1, p_impl_size_int64, h2]
    · simp (disch := omega) only [wr64, dec_t, dec_f, beq_t, beq_f, bne_t, bne_f, gIdx_ix, gNz_ok, gSl_from, gApp1, Option.bind_some, Option.map_some, cond_true, cond_false, Bool.not_true, Bool.not_false, List.length_set, Int.toNat_natCast, List.take_length, p_impl_isDesignPacking_b1, p_impl_size_int64]
  · have hlen := pairTo_len (M := cntM d.Blocks) hp2 d.Points.toNat
    obtain ⟨c, h1, h2⟩ := containsL (s := pairTo (cntM d.Blocks) d.Points d.Points.toNat) (fn := fun y0 => p_impl_isDesignPacking_1 y0 lam) (q := fun x => x > lam) (by omega) (fun x _ => ⟨_, rfl, by simp⟩)
    refine ⟨!c, loop_end ?_, ?_⟩
    · simp (disch := omega) only [wr64, dec_t, dec_f, beq_t, beq_f, bne_t, bne_f, gIdx_ix, gNz_ok, gSl_from, gApp1, Option.bind_some, Option.map_some, cond_true, cond_false, Bool.not_true, Bool.not_false, List.length_set, Int.toNat_natCast, List.take_length, p_impl_isDesignPacking_b1, impl_pairs hd, h1]
    · rw [← pairs_le (by omega)]
      constructor
      · intro hc x hx
        have : c = false := by simpa using hc
        exact Int.not_lt.1 fun hh => by
          have := h2.2 ⟨x, hx, hh⟩
          simp_all
      · intro h
        have : ¬ c = true := fun hc => by
          obtain ⟨x, hx, hh⟩ := h2.1 hc
          have := h x hx; omega
        simpa using this

/-! The place of a block among all. -/
theorem sorted_ix {L : List (List Int)} (h : L.Pairwise fun a b => cmpL a b < 0) {i j : Int} (h0 : 0 ≤ i) (h1 : i < j) (h2 : j < (L.length : Int)) : cmpL (ix L i) (ix L j) < 0 := by
  rw [List.pairwise_iff_getElem] at h
  have := h i.toNat j.toNat (by omega) (by omega) (by omega)
  have e1 := ix_get (xs := L) h0 (by omega)
  have e2 := ix_get (xs := L) (i := j) (by omega) h2
  rw [List.getElem?_eq_getElem (by omega)] at e1 e2
  rw [← Option.some.inj e1, ← Option.some.inj e2]; exact this
theorem find_ok {L : List (List Int)} (h : L.Pairwise fun a b => cmpL a b < 0) (hL : (L.length : Int) ≤ 4294967296) (hr : ∀ e ∈ L, (e.length : Int) ≤ 64) {i : Int} (h0 : 0 ≤ i) (h1 : i < (L.length : Int)) : p_spec_l05Find L (ix L i) = some (i, true) := by
  unfold p_spec_l05Find
  have key : ∀ (n : Nat) (lo hi : Int), hi - lo ≤ n → 0 ≤ lo → lo ≤ i → i < hi → hi ≤ (L.length : Int) → loop (p_spec_l05Find_b1 L (ix L i)) (lo, hi) = some (i, true) := by
    intro n
    induction n with
    | zero => intro lo hi a b c d e; omega
    | succ n ih =>
      intro lo hi a b c d e
      have hm : Int.tdiv (lo + hi) 2 = (lo + hi) / 2 := Int.tdiv_eq_ediv_of_nonneg (by omega)
      have hlen := hr _ (ix_mem (xs := L) (i := (lo + hi) / 2) (by omega) (by omega))
      by_cases e1 : (lo + hi) / 2 = i
      · refine loop_end ?_
        have hc : cmpL (ix L i) (ix L i) = 0 := (cmpL_eq _ _).2 rfl
        rw [e1] at hlen
        simp (disch := omega) only [wr64, dec_t, dec_f, beq_t, beq_f, bne_t, bne_f, gIdx_ix, gNz_ok, gSl_from, gApp1, Option.bind_some, Option.map_some, cond_true, cond_false, Bool.not_true, Bool.not_false, List.length_set, Int.toNat_natCast, List.take_length, p_spec_l05Find_b1, hm, e1, cmp_spec, hc]
      · by_cases e2 : (lo + hi) / 2 < i
        · have hc := sorted_ix h (i := (lo + hi) / 2) (j := i) (by omega) e2 h1
          rw [loop_go (s' := ((lo + hi) / 2 + 1, hi)) (by simp (disch := omega) only [wr64, dec_t, dec_f, beq_t, beq_f, bne_t, bne_f, gIdx_ix, gNz_ok, gSl_from, gApp1, Option.bind_some, Option.map_some, cond_true, cond_false, Bool.not_true, Bool.not_false, List.length_set, Int.toNat_natCast, List.take_length, p_spec_l05Find_b1, hm, cmp_spec])]
          exact ih _ _ (by omega) (by omega) (by omega) (by omega) (by omega)
        · have hc := sorted_ix h (i := i) (j := (lo + hi) / 2) h0 (by omega) (by omega)
          have hn := cmpL_neg (ix L i) (ix L ((lo + hi) / 2))
          rw [loop_go (s' := (lo, (lo + hi) / 2)) (by simp (disch := omega) only [wr64, dec_t, dec_f, beq_t, beq_f, bne_t, bne_f, gIdx_ix, gNz_ok, gSl_from, gApp1, Option.bind_some, Option.map_some, cond_true, cond_false, Bool.not_true, Bool.not_false, List.length_set, Int.toNat_natCast, List.take_length, p_spec_l05Find_b1, hm, cmp_spec])]
          exact ih _ _ (by omega) (by omega) (by omega) (by omega) (by omega)
  exact key L.length 0 L.length (by omega) (by omega) h0 h1 (by omega)
theorem all_sorted (v k : Int) : (allSub v k).Pairwise fun a b => cmpL a b < 0 := subs_sorted ..
theorem all_inj {v k i j : Int} (h0 : 0 ≤ i) (h1 : i < ((allSub v k).length : Int)) (h2 : 0 ≤ j) (h3 : j < ((allSub v k).length : Int)) (h : ix (allSub v k) i = ix (allSub v k) j) : i = j := by
  by_cases a : i < j
  · have := sorted_ix (all_sorted v k) h0 a h3
    rw [h, (cmpL_eq _ _).2 rfl] at this; omega
  · by_cases b : j < i
    · have := sorted_ix (all_sorted v k) h2 b h1
      rw [h, (cmpL_eq _ _).2 rfl] at this; omega
    · omega
/-- Which of all sets are blocks. -/
def usedOf (all bs : List (List Int)) : List Bool := tabl all.length fun i => decide (ix all i ∈ bs)
theorem has_list {bs : List (List Int)} (hsz : Sz2 bs) {l : List Int} : p_impl_hasList bs l = some (decide (l ∈ bs)) := by
  have h := containsLL (s := bs) (fn := fun y0 => p_impl_hasList_1 y0 l) (q := fun x => x = l) hsz.1 (fun x hx => by
    unfold p_impl_hasList_1
    exact (equal_ok (hsz.2 x hx)).bind_id)
  unfold p_impl_hasList
  by_cases e : l ∈ bs
  · rw [h.eq ⟨l, e, rfl⟩]; simp [e]
  · rw [h.ne fun ⟨x, hx, he⟩ => e (he ▸ hx)]; simp [e]
end Go.Proofs.YtkgeocffngdeoaaGreat
