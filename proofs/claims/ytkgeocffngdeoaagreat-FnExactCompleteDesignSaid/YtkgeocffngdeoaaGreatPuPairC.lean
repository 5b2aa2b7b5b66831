/- Blocks held against the numbers of pairs; the first short pair; all pairs counted. -/
import Derived.Test.YtkgeocffngdeoaaGreatPuPairB
namespace Go.Proofs.YtkgeocffngdeoaaGreat
open Go Go.Vc
set_option linter.unusedSimpArgs false
set_option linter.unusedVariables false
set_option linter.unusedSectionVars false

def AllB (lam : Int) (M : PM) : List Int → Prop
  | [] => True
  | x :: xs => (∀ y ∈ xs, M x y < lam) ∧ AllB lam M xs
section
variable {v : Int} {blk : List Int} (hv : v ≤ 32) (hb : Rising blk 0 (v - 1)) (hl : (blk.length : Int) ≤ 64)
include hv hb hl
theorem spec_fitsR {x0 : T_spec_l28Search} (hx : x0.qv = v) {M : PM} (hf : Flat v x0.qpairs M) {i : Int} (h0 : 0 ≤ i) (h1 : i < (blk.length : Int)) : ∀ (d : Nat) (k : Int), k + d = blk.length → i < k →
    (loop (p_spec_l28Search_fits_b2 x0 blk i) k = some (.inl (i + 1)) ∧ ∀ y ∈ blk.drop k.toNat, M (ix blk i) y < x0.qlambda) ∨ (loop (p_spec_l28Search_fits_b2 x0 blk i) k = some (.inr false) ∧ ¬ ∀ y ∈ blk.drop k.toNat, M (ix blk i) y < x0.qlambda) := by
  intro d
  induction d with
  | zero =>
    intro k hk hik
    refine .inl ⟨loop_end (by simp (disch := omega) only [wr64, dec_t, dec_f, beq_t, beq_f, bne_t, bne_f, gIdx_ix, gNz_ok, gSl_from, gApp1, Option.bind_some, Option.map_some, cond_true, cond_false, Bool.not_true, Bool.not_false, List.length_set, Int.toNat_natCast, List.take_length, p_spec_l28Search_fits_b2]), ?_⟩
    rw [List.drop_of_length_le (by omega)]; intro y hy; simp at hy
  | succ d ih =>
    intro k hk hik
    have e1 := (hb i h0 h1).1
    have e2 := (hb k (by omega) (by omega)).1
    have e3 := hb.lt h0 hik (by omega)
    have hn := idx_nn hv e1.1 e3 (by omega)
    have hlt := idx_lt hv e1.1 e3 (by omega)
    have hln := hf.len
    have hg := hf.get _ _ e1.1 e3 (by omega)
    have hp := pair_ok hv e1.1 e3 (show ix blk k < v by omega)
    rw [drop_ix (i := k) (by omega) (by omega)]
    by_cases hlt : M (ix blk i) (ix blk k) < x0.qlambda
    · rw [loop_go (s' := k + 1) (by simp (disch := omega) only [wr64, dec_t, dec_f, beq_t, beq_f, bne_t, bne_f, gIdx_ix, gNz_ok, gSl_from, gApp1, Option.bind_some, Option.map_some, cond_true, cond_false, Bool.not_true, Bool.not_false, List.length_set, Int.toNat_natCast, List.take_length, p_spec_l28Search_fits_b2, hx, hp, hg])]
      rcases ih (k + 1) (by omega) (by omega) with ⟨h2, h3⟩ | ⟨h2, h3⟩
      · exact .inl ⟨h2, fun y hy => by
          rcases List.mem_cons.1 hy with rfl | hy
          · exact hlt
          · exact h3 y hy⟩
      · exact .inr ⟨h2, fun h => h3 fun y hy => h y (List.mem_cons_of_mem _ hy)⟩
    · exact .inr ⟨loop_end (by simp (disch := omega) only [wr64, dec_t, dec_f, beq_t, beq_f, bne_t, bne_f, gIdx_ix, gNz_ok, gSl_from, gApp1, Option.bind_some, Option.map_some, cond_true, cond_false, Bool.not_true, Bool.not_false, List.length_set, Int.toNat_natCast, List.take_length, p_spec_l28Search_fits_b2, hx, hp, hg]), fun h => hlt (h _ (by simp))⟩
theorem spec_fits {x0 : T_spec_l28Search} (hx : x0.qv = v) {M : PM} (hf : Flat v x0.qpairs M) {n : Int} (h0 : 0 ≤ n) (h1 : n < (x0.qall.length : Int)) (h2 : n < (x0.qused.length : Int)) (he : ix x0.qall n = blk) :
    IsQ (p_spec_l28Search_fits x0 n) (AllB x0.qlambda M blk ∧ ix x0.qused n = false) := by
  have key : ∀ (d : Nat) (i : Int), i + d = blk.length → 0 ≤ i → IsQ (loop (p_spec_l28Search_fits_b1 x0 n blk) i) (AllB x0.qlambda M (blk.drop i.toNat) ∧ ix x0.qused n = false) := by
    intro d
    induction d with
    | zero =>
      intro i hi h0
      rw [loop_end (r := !(ix x0.qused n)) (by simp (disch := omega) only [wr64, dec_t, dec_f, beq_t, beq_f, bne_t, bne_f, gIdx_ix, gNz_ok, gSl_from, gApp1, Option.bind_some, Option.map_some, cond_true, cond_false, Bool.not_true, Bool.not_false, List.length_set, Int.toNat_natCast, List.take_length, p_spec_l28Search_fits_b1]), List.drop_of_length_le (by omega)]
      exact ⟨_, rfl, by simp [AllB]⟩
    | succ d ih =>
      intro i hi h0
      rw [drop_ix h0 (by omega)]
      rcases spec_fitsR hv hb hl hx hf h0 (by omega) (blk.length - (i + 1)).toNat (i + 1) (by omega) (by omega) with ⟨h2, h3⟩ | ⟨h2, h3⟩
      · rw [loop_go (s' := i + 1) (by simp (disch := omega) only [wr64, dec_t, dec_f, beq_t, beq_f, bne_t, bne_f, gIdx_ix, gNz_ok, gSl_from, gApp1, Option.bind_some, Option.map_some, cond_true, cond_false, Bool.not_true, Bool.not_false, List.length_set, Int.toNat_natCast, List.take_length, p_spec_l28Search_fits_b1, h2])]
        exact (ih (i + 1) (by omega) (by omega)).congr ⟨fun h => ⟨⟨h3, h.1⟩, h.2⟩, fun h => ⟨h.1.2, h.2⟩⟩
      · rw [loop_end (r := false) (by simp (disch := omega) only [wr64, dec_t, dec_f, beq_t, beq_f, bne_t, bne_f, gIdx_ix, gNz_ok, gSl_from, gApp1, Option.bind_some, Option.map_some, cond_true, cond_false, Bool.not_true, Bool.not_false, List.length_set, Int.toNat_natCast, List.take_length, p_spec_l28Search_fits_b1, h2])]
        exact IsQ.f fun h => h3 h.1.1
  have := key blk.length 0 (by omega) (by omega)
  unfold p_spec_l28Search_fits
  simp (disch := omega) only [wr64, dec_t, dec_f, beq_t, beq_f, bne_t, bne_f, gIdx_ix, gNz_ok, gSl_from, gApp1, Option.bind_some, Option.map_some, cond_true, cond_false, Bool.not_true, Bool.not_false, List.length_set, Int.toNat_natCast, List.take_length, he]
  exact this
theorem impl_mostR {l : List (List Int)} {M : PM} (hf : Mat v l M) {lam : Int} {i : Int} (h0 : 0 ≤ i) (h1 : i < (blk.length : Int)) : ∀ (d : Nat) (k m : Int), i + 1 + k + d = blk.length → 0 ≤ k →
    ∃ m', loop (p_impl_load_most_b2 l i (ix blk i) (blk.drop (i + 1).toNat)) (m, k) = some (.inl (m', i + 1)) ∧ (m' < lam ↔ m < lam ∧ ∀ y ∈ blk.drop (i + 1 + k).toNat, M (ix blk i) y < lam) := by
  have hdl : ((blk.drop (i + 1).toNat).length : Int) = blk.length - (i + 1) := by rw [List.length_drop]; omega
  intro d
  induction d with
  | zero =>
    intro k m hk hik
    refine ⟨m, loop_end (by simp (disch := omega) only [wr64, dec_t, dec_f, beq_t, beq_f, bne_t, bne_f, gIdx_ix, gNz_ok, gSl_from, gApp1, Option.bind_some, Option.map_some, cond_true, cond_false, Bool.not_true, Bool.not_false, List.length_set, Int.toNat_natCast, List.take_length, p_impl_load_most_b2]), ?_⟩
    rw [List.drop_of_length_le (by omega)]; simp
  | succ d ih =>
    intro k m hk hik
    have e1 := (hb i h0 h1).1
    have e2 := (hb (i + 1 + k) (by omega) (by omega)).1
    have e3 := hb.lt (i := i) (j := i + 1 + k) h0 (by omega) (by omega)
    have hln := hf.len
    have hrw := hf.row (ix blk i) e1.1 (by omega)
    have hg := hf.get _ _ e1.1 e3 (by omega)
    have hx : ix (blk.drop (i + 1).toNat) k = ix blk (i + 1 + k) := ix_drop (by omega) hik
    obtain ⟨m', h2, h3⟩ := ih (k + 1) (if M (ix blk i) (ix blk (i + 1 + k)) > m then M (ix blk i) (ix blk (i + 1 + k)) else m) (by omega) (by omega)
    refine ⟨m', ?_, ?_⟩
    · rw [loop_go (s' := (if M (ix blk i) (ix blk (i + 1 + k)) > m then M (ix blk i) (ix blk (i + 1 + k)) else m, k + 1)) ?_]
      · exact h2
      · simp (disch := omega) only [wr64, dec_t, dec_f, beq_t, beq_f, bne_t, bne_f, gIdx_ix, gNz_ok, gSl_from, gApp1, Option.bind_some, Option.map_some, cond_true, cond_false, Bool.not_true, Bool.not_false, List.length_set, Int.toNat_natCast, List.take_length, p_impl_load_most_b2, hx, hg]
    · rw [drop_ix (i := i + 1 + k) (by omega) (by omega), show i + 1 + k + 1 = i + 1 + (k + 1) by omega, h3]
      simp only [List.mem_cons, forall_eq_or_imp]
      by_cases hm : M (ix blk i) (ix blk (i + 1 + k)) > m
      · rw [if_pos hm]
        constructor
        · rintro ⟨a, b⟩; exact ⟨by omega, a, b⟩
        · rintro ⟨a, b, c⟩; exact ⟨b, c⟩
      · rw [if_neg hm]
        constructor
        · rintro ⟨a, b⟩; exact ⟨a, by omega, b⟩
        · rintro ⟨a, b, c⟩; exact ⟨a, c⟩
theorem impl_most {l : List (List Int)} {M : PM} (hf : Mat v l M) {lam : Int} (hlam : 0 < lam) : ∃ m, p_impl_load_most l blk = some m ∧ (m < lam ↔ AllB lam M blk) := by
  have key : ∀ (d : Nat) (i m : Int), i + d = blk.length → 0 ≤ i → ∃ m', loop (p_impl_load_most_b1 l blk) (m, i) = some m' ∧ (m' < lam ↔ m < lam ∧ AllB lam M (blk.drop i.toNat)) := by
    intro d
    induction d with
    | zero =>
      intro i m hi h0
      refine ⟨m, loop_end (by simp (disch := omega) only [wr64, dec_t, dec_f, beq_t, beq_f, bne_t, bne_f, gIdx_ix, gNz_ok, gSl_from, gApp1, Option.bind_some, Option.map_some, cond_true, cond_false, Bool.not_true, Bool.not_false, List.length_set, Int.toNat_natCast, List.take_length, p_impl_load_most_b1]), ?_⟩
      rw [List.drop_of_length_le (by omega)]; simp [AllB]
    | succ d ih =>
      intro i m hi h0
      obtain ⟨m1, h1, h2⟩ := impl_mostR hv hb hl hf (lam := lam) h0 (by omega) (blk.length - (i + 1)).toNat 0 m (by omega) (by omega)
      obtain ⟨m', h3, h4⟩ := ih (i + 1) m1 (by omega) (by omega)
      rw [show i + 1 + 0 = i + 1 by omega] at h2
      refine ⟨m', ?_, ?_⟩
      · rw [loop_go (s' := (m1, i + 1)) (by simp (disch := omega) only [wr64, dec_t, dec_f, beq_t, beq_f, bne_t, bne_f, gIdx_ix, gNz_ok, gSl_from, gApp1, Option.bind_some, Option.map_some, cond_true, cond_false, Bool.not_true, Bool.not_false, List.length_set, Int.toNat_natCast, List.take_length, p_impl_load_most_b1, h1])]; exact h3
      · rw [drop_ix h0 (by omega), h4, h2, AllB, and_assoc]
  obtain ⟨m, h1, h2⟩ := key blk.length 0 0 (by omega) (by omega)
  refine ⟨m, h1, h2.trans ?_⟩
  simp [hlam]
end

/-! The first short pair. -/
structure First (v lam : Int) (M : PM) (a b : Int) : Prop where
  a0 : 0 ≤ a
  ab : a < b
  bv : b < v
  low : M a b < lam
  row : ∀ c, a < c → c < b → lam ≤ M a c
  bef : ∀ c d, 0 ≤ c → c < a → c < d → d < v → lam ≤ M c d
def Full (v lam : Int) (M : PM) : Prop := ∀ a b, 0 ≤ a → a < b → b < v → lam ≤ M a b
theorem least {P : Int → Prop} {i n : Int} : (∃ k, i ≤ k ∧ k < n ∧ P k ∧ ∀ j, i ≤ j → j < k → ¬ P j) ∨ (∀ j, i ≤ j → j < n → ¬ P j) := by
  have key : ∀ (d : Nat) (k : Int), k + d = n → (∀ j, i ≤ j → j < k → ¬ P j) → i ≤ k → (∃ k, i ≤ k ∧ k < n ∧ P k ∧ ∀ j, i ≤ j → j < k → ¬ P j) ∨ (∀ j, i ≤ j → j < n → ¬ P j) := by
    intro d
    induction d with
    | zero => intro k hk h _; obtain rfl : k = n := by omega
              exact .inr h
    | succ d ih =>
      intro k hk h hik
      by_cases hp : P k
      · exact .inl ⟨k, hik, by omega, hp, h⟩
      · refine ih (k + 1) (by omega) (fun j a b => ?_) (by omega)
        by_cases e : j = k
        · rw [e]; exact hp
        · exact h j a (by omega)
  by_cases h : i ≤ n
  · exact key (n - i).toNat i (by omega) (fun j a b => by omega) (by omega)
  · exact .inr fun j a b => by omega
theorem first_or_full (v lam : Int) (M : PM) : (∃ a b, First v lam M a b) ∨ Full v lam M := by
  rcases least (P := fun a => ∃ b, a < b ∧ b < v ∧ M a b < lam) (i := 0) (n := v) with ⟨a, h1, h2, ⟨b0, h3⟩, h4⟩ | h
  · rcases least (P := fun b => M a b < lam) (i := a + 1) (n := v) with ⟨b, h5, h6, h7, h8⟩ | h
    · exact .inl ⟨a, b, h1, by omega, h6, h7, fun c x y => by have := h8 c (by omega) y; omega, fun c d x y z w => by
        have := h4 c x y
        exact Int.not_lt.1 fun hh => this ⟨d, z, w, hh⟩⟩
    · exact absurd h3.2.2 (h b0 (by omega) (by omega))
  · exact .inr fun a b x y z => Int.not_lt.1 fun hh => h a x (by omega) ⟨b, y, z, hh⟩
section
variable {v : Int} (hv : v ≤ 32)
include hv
theorem short_row {s : T_impl_blocker} {M : PM} (hf : Mat v s.qload M) {a : Int} (h0 : 0 ≤ a) (h1 : a < v) {n : Int} (hn : a + 1 ≤ n) (hn2 : n ≤ v) (h : ∀ c, a < c → c < n → s.qlambda ≤ M a c) : loop (p_impl_blocker_shortPair_b2 s a (ix s.qload a)) (a + 1) = loop (p_impl_blocker_shortPair_b2 s a (ix s.qload a)) n := by
  have hr := hf.row a h0 h1
  refine loop_upto (fun k => k) hn fun k h2 h3 => ?_
  have h4 := h k (by omega) h3
  have h5 := hf.get a k h0 (by omega) (by omega)
  simp (disch := omega) only [wr64, dec_t, dec_f, beq_t, beq_f, bne_t, bne_f, gIdx_ix, gNz_ok, gSl_from, gApp1, Option.bind_some, Option.map_some, cond_true, cond_false, Bool.not_true, Bool.not_false, List.length_set, Int.toNat_natCast, List.take_length, p_impl_blocker_shortPair_b2, h5]
theorem short_to {s : T_impl_blocker} {M : PM} (hf : Mat v s.qload M) {n : Int} (hn0 : 0 ≤ n) (hn : n ≤ v) (h : ∀ a b, 0 ≤ a → a < n → a < b → b < v → s.qlambda ≤ M a b) : p_impl_blocker_shortPair s = loop (p_impl_blocker_shortPair_b1 s) n := by
  unfold p_impl_blocker_shortPair
  refine loop_upto (fun k => k) hn0 fun k h2 h3 => ?_
  have hr := hf.row k h2 (by omega)
  have hl := hf.len
  have h1 := short_row hv hf h2 (by omega) (n := v) (by omega) (by omega) fun c x y => h k c h2 h3 x y
  rw [loop_end (s := v) (r := .inl (k + 1)) (by simp (disch := omega) only [wr64, dec_t, dec_f, beq_t, beq_f, bne_t, bne_f, gIdx_ix, gNz_ok, gSl_from, gApp1, Option.bind_some, Option.map_some, cond_true, cond_false, Bool.not_true, Bool.not_false, List.length_set, Int.toNat_natCast, List.take_length, p_impl_blocker_shortPair_b2])] at h1
  simp (disch := omega) only [wr64, dec_t, dec_f, beq_t, beq_f, bne_t, bne_f, gIdx_ix, gNz_ok, gSl_from, gApp1, Option.bind_some, Option.map_some, cond_true, cond_false, Bool.not_true, Bool.not_false, List.length_set, Int.toNat_natCast, List.take_length, p_impl_blocker_shortPair_b1, h1]
theorem short_first {s : T_impl_blocker} {M : PM} (hf : Mat v s.qload M) {a b : Int} (h : First v s.qlambda M a b) : p_impl_blocker_shortPair s = some (a, b, true) := by
  have ha := h.ab
  have hb := h.bv
  have hl := hf.len
  have hr := hf.row a h.a0 (by omega)
  rw [short_to hv hf (n := a) h.a0 (by omega) fun c d x y z w => h.bef c d x y z w]
  have h1 := short_row hv hf h.a0 (by omega) (n := b) (by omega) (by omega) h.row
  have h5 := hf.get a b h.a0 ha hb
  have h6 := h.low
  have h7 := h.a0
  rw [loop_end (s := b) (r := .inr (a, b, true)) (by simp (disch := omega) only [wr64, dec_t, dec_f, beq_t, beq_f, bne_t, bne_f, gIdx_ix, gNz_ok, gSl_from, gApp1, Option.bind_some, Option.map_some, cond_true, cond_false, Bool.not_true, Bool.not_false, List.length_set, Int.toNat_natCast, List.take_length, p_impl_blocker_shortPair_b2, h5])] at h1
  exact loop_end (by simp (disch := omega) only [wr64, dec_t, dec_f, beq_t, beq_f, bne_t, bne_f, gIdx_ix, gNz_ok, gSl_from, gApp1, Option.bind_some, Option.map_some, cond_true, cond_false, Bool.not_true, Bool.not_false, List.length_set, Int.toNat_natCast, List.take_length, p_impl_blocker_shortPair_b1, h1])
theorem short_full {s : T_impl_blocker} {M : PM} (hv0 : 0 ≤ v) (hf : Mat v s.qload M) (h : Full v s.qlambda M) : p_impl_blocker_shortPair s = some (0, 0, false) := by
  have hl := hf.len
  rw [short_to hv hf (n := v) hv0 (by omega) fun c d x y z w => h c d x z w]
  exact loop_end (by simp (disch := omega) only [wr64, dec_t, dec_f, beq_t, beq_f, bne_t, bne_f, gIdx_ix, gNz_ok, gSl_from, gApp1, Option.bind_some, Option.map_some, cond_true, cond_false, Bool.not_true, Bool.not_false, List.length_set, Int.toNat_natCast, List.take_length, p_impl_blocker_shortPair_b1])
section
variable {rf : T_spec_l28Search → Int → Int → Option (Bool × T_spec_l28Search)} {s : T_spec_l28Search} (hs : s.qv = v) {M : PM} (hf : Flat v s.qpairs M) {y1 y2 : Int}
include hs hf
theorem visit_row {a : Int} (h0 : 0 ≤ a) (h1 : a < v) {n : Int} (hn : a + 1 ≤ n) (hn2 : n ≤ v) (h : ∀ c, a < c → c < n → s.qlambda ≤ M a c) : loop (p_spec_l28Search_visit_b2 rf s y1 y2 a) (a + 1) = loop (p_spec_l28Search_visit_b2 rf s y1 y2 a) n := by
  refine loop_upto (fun k => k) hn fun k h2 h3 => ?_
  have h4 := h k (by omega) h3
  have h5 := hf.get a k h0 (by omega) (by omega)
  have h6 := idx_nn hv h0 (show a < k by omega) (show k < v by omega)
  have h7 := idx_lt hv h0 (show a < k by omega) (show k < v by omega)
  have h8 := hf.len
  have h9 := pair_ok hv h0 (show a < k by omega) (show k < v by omega)
  simp (disch := omega) only [wr64, dec_t, dec_f, beq_t, beq_f, bne_t, bne_f, gIdx_ix, gNz_ok, gSl_from, gApp1, Option.bind_some, Option.map_some, cond_true, cond_false, Bool.not_true, Bool.not_false, List.length_set, Int.toNat_natCast, List.take_length, p_spec_l28Search_visit_b2, hs, h9, h5]
theorem visit_to {n : Int} (hn0 : 0 ≤ n) (hn : n ≤ v) (h : ∀ a b, 0 ≤ a → a < n → a < b → b < v → s.qlambda ≤ M a b) : loop (p_spec_l28Search_visit_b1 rf s y1 y2) 0 = loop (p_spec_l28Search_visit_b1 rf s y1 y2) n := by
  refine loop_upto (fun k => k) hn0 fun k h2 h3 => ?_
  have h1 := visit_row hv hs hf (rf := rf) (y1 := y1) (y2 := y2) h2 (by omega) (n := v) (by omega) (by omega) fun c x y => h k c h2 h3 x y
  rw [loop_end (s := v) (r := .inl (k + 1)) (by simp (disch := omega) only [wr64, dec_t, dec_f, beq_t, beq_f, bne_t, bne_f, gIdx_ix, gNz_ok, gSl_from, gApp1, Option.bind_some, Option.map_some, cond_true, cond_false, Bool.not_true, Bool.not_false, List.length_set, Int.toNat_natCast, List.take_length, p_spec_l28Search_visit_b2])] at h1
  simp (disch := omega) only [wr64, dec_t, dec_f, beq_t, beq_f, bne_t, bne_f, gIdx_ix, gNz_ok, gSl_from, gApp1, Option.bind_some, Option.map_some, cond_true, cond_false, Bool.not_true, Bool.not_false, List.length_set, Int.toNat_natCast, List.take_length, p_spec_l28Search_visit_b1, h1]
/-- The reference at the first short pair. -/
theorem visit_first {a b : Int} (h : First v s.qlambda M a b) {r : Bool × T_spec_l28Search} (hr : p_spec_l28Search_visit_k1 rf s a b (idx v a b) (if idx v a b = y1 then y2 else 0) = some (.inr (.inr r))) : loop (p_spec_l28Search_visit_b1 rf s y1 y2) 0 = some r := by
  have ha := h.ab
  have hb := h.bv
  have h7 := h.a0
  rw [visit_to hv hs hf (n := a) h.a0 (by omega) fun c d x y z w => h.bef c d x y z w]
  have h1 := visit_row hv hs hf (rf := rf) (y1 := y1) (y2 := y2) h.a0 (by omega) (n := b) (by omega) (by omega) h.row
  have h5 := hf.get a b h.a0 ha hb
  have h6 := h.low
  have h8 := idx_nn hv h7 ha hb
  have h9 := idx_lt hv h7 ha hb
  have h10 := hf.len
  have h11 := pair_ok hv h7 ha hb
  rw [loop_end (s := b) (r := .inr r) ?_] at h1
  · exact loop_end (by simp (disch := omega) only [wr64, dec_t, dec_f, beq_t, beq_f, bne_t, bne_f, gIdx_ix, gNz_ok, gSl_from, gApp1, Option.bind_some, Option.map_some, cond_true, cond_false, Bool.not_true, Bool.not_false, List.length_set, Int.toNat_natCast, List.take_length, p_spec_l28Search_visit_b1, h1])
  · by_cases e : idx v a b = y1
    · rw [if_pos e] at hr
      simp (disch := omega) only [wr64, dec_t, dec_f, beq_t, beq_f, bne_t, bne_f, gIdx_ix, gNz_ok, gSl_from, gApp1, Option.bind_some, Option.map_some, cond_true, cond_false, Bool.not_true, Bool.not_false, List.length_set, Int.toNat_natCast, List.take_length, p_spec_l28Search_visit_b2, hs, h11, h5, hr]
    · rw [if_neg e] at hr
      simp (disch := omega) only [wr64, dec_t, dec_f, beq_t, beq_f, bne_t, bne_f, gIdx_ix, gNz_ok, gSl_from, gApp1, Option.bind_some, Option.map_some, cond_true, cond_false, Bool.not_true, Bool.not_false, List.length_set, Int.toNat_natCast, List.take_length, p_spec_l28Search_visit_b2, hs, h11, h5, hr]
theorem visit_full (hv0 : 0 ≤ v) (hch : (s.qchosen.length : Int) ≤ 1000000) (hnd : 0 ≤ s.qnodes) (hnd2 : s.qnodes ≤ 1000000) (hct : 0 ≤ s.qcount) (hct2 : s.qcount ≤ 1000000) (h : Full v s.qlambda M) : loop (p_spec_l28Search_visit_b1 rf s y1 y2) 0 = some (!s.qfirst, T_spec_l28Search.mk s.qv s.qlambda s.qall s.qused s.qpairs s.qchosen (s.qnodes + 1) s.qbudget (s.qcount + 1) s.qfirst s.qchosen) := by
  rw [visit_to hv hs hf (n := v) hv0 (by omega) fun c d x y z w => h c d x z w]
  refine loop_end ?_
  have hg : gApp 8 ([] : List Int) s.qchosen = some s.qchosen := by rw [gApp_ok (by simp; omega) (by simp; omega)]; rfl
  simp (disch := omega) only [wr64, dec_t, dec_f, beq_t, beq_f, bne_t, bne_f, gIdx_ix, gNz_ok, gSl_from, gApp1, Option.bind_some, Option.map_some, cond_true, cond_false, Bool.not_true, Bool.not_false, List.length_set, Int.toNat_natCast, List.take_length, p_spec_l28Search_visit_b1, hg]
end
end
end Go.Proofs.YtkgeocffngdeoaaGreat
