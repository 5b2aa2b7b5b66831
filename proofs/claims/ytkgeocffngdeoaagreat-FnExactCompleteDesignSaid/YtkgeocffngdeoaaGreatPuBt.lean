/- The search for blocks: the reference and the program go the same way. -/
import Derived.Test.YtkgeocffngdeoaaGreatPuPairC
namespace Go.Proofs.YtkgeocffngdeoaaGreat
open Go Go.Vc
set_option linter.unusedSimpArgs false
set_option linter.unusedVariables false
set_option linter.unusedSectionVars false

theorem allB_pair {lam hi : Int} {M : PM} : ∀ {xs : List Int} {lo : Int}, RisL hi lo xs → AllB lam M xs → ∀ a b, a ∈ xs → b ∈ xs → a < b → M a b < lam
  | [], _, _, _, a, b, ha, _, _ => by simp at ha
  | x :: xs, lo, ⟨h1, h2, h3⟩, ⟨h4, h5⟩, a, b, ha, hb, hab => by
    rcases List.mem_cons.1 ha with rfl | ha'
    · rcases List.mem_cons.1 hb with rfl | hb'
      · omega
      · exact h4 b hb'
    · rcases List.mem_cons.1 hb with rfl | hb'
      · have := risl_low h3 a ha'; omega
      · exact allB_pair h3 h5 a b ha' hb' hab
theorem add_bd {v lam : Int} {M : PM} {blk : List Int} (hb : Rising blk 0 (v - 1)) (hA : AllB lam M blk) (hl : lam ≤ 128) (h : BdN v M 128) : BdN v (addB 1 blk M) 128 := by
  intro a b h0 h1 h2
  rw [addB_val a b h1 (rising_iff.1 hb)]
  have h3 := h a b h0 h1 h2
  by_cases e : a ∈ blk ∧ b ∈ blk
  · have := allB_pair (rising_iff.1 hb) hA a b e.1 e.2 h1
    rw [if_pos e]; omega
  · rw [if_neg e]; omega
theorem add_back {v : Int} {M : PM} {blk : List Int} (hb : Rising blk 0 (v - 1)) : ∀ a b, 0 ≤ a → a < b → b < v → addB (-1) blk (addB 1 blk M) a b = M a b := by
  intro a b h0 h1 h2
  rw [addB_val a b h1 (rising_iff.1 hb), addB_val a b h1 (rising_iff.1 hb)]
  by_cases e : a ∈ blk ∧ b ∈ blk
  · rw [if_pos e, if_pos e]; omega
  · rw [if_neg e, if_neg e]; omega

structure BtIn (v lam budget : Int) (all B0 : List (List Int)) : Prop where
  v0 : 0 ≤ v
  v1 : v ≤ 32
  lam0 : 1 ≤ lam
  lam1 : lam ≤ 128
  b0 : 1 ≤ budget
  b1 : budget ≤ 20000
  all1 : (all.length : Int) ≤ 4294967296
  ris : ∀ e ∈ all, Rising e 0 (v - 1) ∧ (e.length : Int) ≤ 64
  B1 : (B0.length : Int) ≤ 128
  B2 : ∀ b ∈ B0, (b.length : Int) ≤ 1048576
section
variable (v lam budget : Int) (first : Bool) (all B0 : List (List Int)) (U : List Bool) (M : PM) (ch : List Int)
/-- What the reference's state holds. -/
structure StS (x : T_spec_l28Search) : Prop where
  qv : x.qv = v
  ql : x.qlambda = lam
  qa : x.qall = all
  qu : x.qused = U
  qp : Flat v x.qpairs M
  qc : x.qchosen = ch
  qb : x.qbudget = budget
  qf : x.qfirst = first
/-- What the program's state holds. -/
structure StI (y : T_impl_blocker) : Prop where
  ql : y.qlambda = lam
  qf : y.qfirst = first
  qp : Mat v y.qload M
  qs : y.qsets = all
  qu : y.qused = U
  qb : y.qblocks = B0 ++ ch.map (ix all)
structure Live (x : T_spec_l28Search) (y : T_impl_blocker) : Prop where
  xs : StS v lam budget first all U M ch x
  ys : StI v lam first all B0 U M ch y
  nn : y.qnodes = x.qnodes
  cc : y.qcount = x.qcount
  n0 : 0 ≤ x.qnodes
  n1 : x.qnodes ≤ budget
  c0 : 0 ≤ x.qcount
  c1 : x.qcount ≤ x.qnodes
  left : y.qcounter.qleft = budget - x.qnodes
  spent : y.qcounter.qspent = false
  live : first = true → x.qcount = 0
  chr : ∀ i ∈ ch, 0 ≤ i ∧ i < (all.length : Int)
structure Stop (x : T_spec_l28Search) (y : T_impl_blocker) : Prop where
  xs : StS v lam budget first all U M ch x
  ys : StI v lam first all B0 U M ch y
  cc : y.qcount = x.qcount
  stop : (y.qcounter.qspent = true ∧ x.qnodes > budget) ∨ (y.qcounter.qspent = false ∧ x.qnodes ≤ budget ∧ y.qnodes = x.qnodes ∧ first = true ∧ x.qcount = 1 ∧ y.qfound = B0 ++ x.qfound.map (ix all) ∧ (x.qfound.length : Int) ≤ 100000 ∧ ∀ i ∈ x.qfound, 0 ≤ i ∧ i < (all.length : Int))
end
def Stuck (y : T_impl_blocker) : Prop := y.qcounter.qspent = true ∨ (y.qfirst = true ∧ 0 < y.qcount)
theorem stuck_search {rf : T_impl_blocker → Int → Int → Int → Option T_impl_blocker} {y : T_impl_blocker} {a b c : Int} (h : Stuck y) : q_impl_blocker_search rf y a b c = some y := by
  unfold q_impl_blocker_search
  obtain ⟨⟨l, s⟩, lam, f, ld, st, us, bl, nd, ct, fd⟩ := y
  rcases h with h | ⟨h1, h2⟩
  · simp only at h; subst h; rfl
  · simp only at h1 h2; subst h1
    cases s with
    | true => rfl
    | false => simp (disch := omega) only [wr64, dec_t, dec_f, beq_t, beq_f, bne_t, bne_f, gIdx_ix, gNz_ok, gSl_from, gApp1, Option.bind_some, Option.map_some, cond_true, cond_false, Bool.not_true, Bool.not_false, List.length_set, Int.toNat_natCast, List.take_length]
def tupS (j : Int) (x : T_spec_l28Search) : Int × Int × Int × Int × Int × Int × Bool × List Bool × List Int × List Int × List Int := (j, x.qv, x.qlambda, x.qnodes, x.qbudget, x.qcount, x.qfirst, x.qused, x.qpairs, x.qchosen, x.qfound)
def tupI (j : Int) (y : T_impl_blocker) : Int × Int × Bool × Int × Bool × Int × Int × List (List Int) × List Bool × List (List Int) × List (List Int) := (j, y.qcounter.qleft, y.qcounter.qspent, y.qlambda, y.qfirst, y.qnodes, y.qcount, y.qload, y.qused, y.qblocks, y.qfound)
theorem gSl_pop {α : Type} {xs : List α} {y : α} : gSl (xs ++ [y]) 0 (((xs ++ [y]).length : Int) - 1) = some xs := by
  have hl : ((xs ++ [y]).length : Int) = xs.length + 1 := by simp
  rw [gSl_ok (by omega) (by omega) (by omega), show (((xs ++ [y]).length : Int) - 1).toNat = xs.length by omega]
  simp
section
variable {v lam budget : Int} {first : Bool} {all B0 : List (List Int)} {U : List Bool} {M : PM} {ch : List Int}
  (hin : BtIn v lam budget all B0) (hU : U.length = all.length) (hB : BdN v M 128)
include hin hU hB
/-- Whether a block is taken. -/
def Takes (lam : Int) (all : List (List Int)) (U : List Bool) (M : PM) (a b j : Int) : Prop := a ∈ ix all j ∧ b ∈ ix all j ∧ AllB lam M (ix all j) ∧ ix U j = false
theorem spec_skip {rf : T_spec_l28Search → Int → Int → Option (Bool × T_spec_l28Search)} {y0 : T_spec_l28Search} (hy : y0.qall = all) {a b r j : Int} {x : T_spec_l28Search} (hx : StS v lam budget first all U M ch x) (h0 : 0 ≤ j) (h1 : j < (all.length : Int)) (hn : ¬ Takes lam all U M a b j) :
    p_spec_l28Search_visit_b3 rf y0 a b r (tupS j x) = some (.inl (tupS (j + 1) x)) := by
  have hr := hin.ris _ (ix_mem h0 h1)
  have ha1 := hin.all1
  unfold tupS
  by_cases ha : a ∈ ix all j
  · have h2 := (has_ok (s := ix all j) (v := a) (by omega)).eq ha
    by_cases hb : b ∈ ix all j
    · have h3 := (has_ok (s := ix all j) (v := b) (by omega)).eq hb
      have hf := (spec_fits (x0 := T_spec_l28Search.mk x.qv x.qlambda all x.qused x.qpairs x.qchosen x.qnodes x.qbudget x.qcount x.qfirst x.qfound) (n := j) hin.v1 hr.1 hr.2 hx.qv hx.qp h0 h1 (by show j < (x.qused.length : Int); rw [hx.qu]; omega) rfl).ne (fun h => hn ⟨ha, hb, hx.ql ▸ h.1, by have := h.2; simp only [hx.qu] at this; exact this⟩)
      simp (disch := omega) only [wr64, dec_t, dec_f, beq_t, beq_f, bne_t, bne_f, gIdx_ix, gNz_ok, gSl_from, gApp1, Option.bind_some, Option.map_some, cond_true, cond_false, Bool.not_true, Bool.not_false, List.length_set, Int.toNat_natCast, List.take_length, p_spec_l28Search_visit_b3, hy, h2, h3, hf]
    · have h3 := (has_ok (s := ix all j) (v := b) (by omega)).ne hb
      simp (disch := omega) only [wr64, dec_t, dec_f, beq_t, beq_f, bne_t, bne_f, gIdx_ix, gNz_ok, gSl_from, gApp1, Option.bind_some, Option.map_some, cond_true, cond_false, Bool.not_true, Bool.not_false, List.length_set, Int.toNat_natCast, List.take_length, p_spec_l28Search_visit_b3, hy, h2, h3]
  · have h2 := (has_ok (s := ix all j) (v := a) (by omega)).ne ha
    simp (disch := omega) only [wr64, dec_t, dec_f, beq_t, beq_f, bne_t, bne_f, gIdx_ix, gNz_ok, gSl_from, gApp1, Option.bind_some, Option.map_some, cond_true, cond_false, Bool.not_true, Bool.not_false, List.length_set, Int.toNat_natCast, List.take_length, p_spec_l28Search_visit_b3, hy, h2]
theorem impl_skip {rf : T_impl_blocker → Int → Int → Int → Option T_impl_blocker} {y0 : T_impl_blocker} (hy : y0.qsets = all) {a b j : Int} {c : Bool} {y : T_impl_blocker} (hx : StI v lam first all B0 U M ch y) (h0 : 0 ≤ j) (h1 : j < (all.length : Int)) (hn : ¬ Takes lam all U M a b j) :
    p_impl_blocker_search_b1 rf y0 (a, b, c) (tupI j y) = some (.inl (tupI (j + 1) y)) := by
  have hr := hin.ris _ (ix_mem h0 h1)
  have ha1 := hin.all1
  have hul : (y.qused.length : Int) = all.length := by rw [hx.qu, hU]
  unfold tupI
  by_cases hu : ix y.qused j = true
  · simp (disch := omega) only [wr64, dec_t, dec_f, beq_t, beq_f, bne_t, bne_f, gIdx_ix, gNz_ok, gSl_from, gApp1, Option.bind_some, Option.map_some, cond_true, cond_false, Bool.not_true, Bool.not_false, List.length_set, Int.toNat_natCast, List.take_length, p_impl_blocker_search_b1, hy, hu]
  · have hu : ix y.qused j = false := by simpa using hu
    by_cases ha : a ∈ ix all j
    · have h2 := (containsI (s := ix all j) (v := a) (by omega)).eq ha
      by_cases hb : b ∈ ix all j
      · have h3 := (containsI (s := ix all j) (v := b) (by omega)).eq hb
        obtain ⟨m, h4, h5⟩ := impl_most hin.v1 hr.1 hr.2 hx.qp (lam := lam) (by have := hin.lam0; omega)
        have h6 : ¬ m < lam := fun h => hn ⟨ha, hb, h5.1 h, by rw [← hx.qu]; exact hu⟩
        simp (disch := omega) only [wr64, dec_t, dec_f, beq_t, beq_f, bne_t, bne_f, gIdx_ix, gNz_ok, gSl_from, gApp1, Option.bind_some, Option.map_some, cond_true, cond_false, Bool.not_true, Bool.not_false, List.length_set, Int.toNat_natCast, List.take_length, p_impl_blocker_search_b1, hy, hu, h2, h3, h4, hx.ql]
      · have h3 := (containsI (s := ix all j) (v := b) (by omega)).ne hb
        simp (disch := omega) only [wr64, dec_t, dec_f, beq_t, beq_f, bne_t, bne_f, gIdx_ix, gNz_ok, gSl_from, gApp1, Option.bind_some, Option.map_some, cond_true, cond_false, Bool.not_true, Bool.not_false, List.length_set, Int.toNat_natCast, List.take_length, p_impl_blocker_search_b1, hy, hu, h2, h3]
    · have h2 := (containsI (s := ix all j) (v := a) (by omega)).ne ha
      simp (disch := omega) only [wr64, dec_t, dec_f, beq_t, beq_f, bne_t, bne_f, gIdx_ix, gNz_ok, gSl_from, gApp1, Option.bind_some, Option.map_some, cond_true, cond_false, Bool.not_true, Bool.not_false, List.length_set, Int.toNat_natCast, List.take_length, p_impl_blocker_search_b1, hy, hu, h2]
theorem impl_take {rf : T_impl_blocker → Int → Int → Int → Option T_impl_blocker} {y0 : T_impl_blocker} (hy : y0.qsets = all) {a b j : Int} {c : Bool} {y : T_impl_blocker} (hx : StI v lam first all B0 U M ch y) (h0 : 0 ≤ j) (h1 : j < (all.length : Int)) (hn : Takes lam all U M a b j) (hch : (ch.length : Int) ≤ 1000000) :
    ∃ y1, StI v lam first all B0 (U.set j.toNat true) (addB 1 (ix all j) M) (ch ++ [j]) y1 ∧ y1.qcounter = y.qcounter ∧ y1.qnodes = y.qnodes ∧ y1.qcount = y.qcount ∧ y1.qfound = y.qfound ∧
      ∀ y2, rf y1 j a b = some y2 → StI v lam first all B0 (U.set j.toNat true) (addB 1 (ix all j) M) (ch ++ [j]) y2 →
        ∃ y3, p_impl_blocker_search_b1 rf y0 (a, b, c) (tupI j y) = some (.inl (tupI (j + 1) y3)) ∧ StI v lam first all B0 U M ch y3 ∧ y3.qcounter = y2.qcounter ∧ y3.qnodes = y2.qnodes ∧ y3.qcount = y2.qcount ∧ y3.qfound = y2.qfound := by
  obtain ⟨ha, hb, hA, hu⟩ := hn
  have hr := hin.ris _ (ix_mem h0 h1)
  have ha1 := hin.all1
  have hB1 := hin.B1
  have hul : (y.qused.length : Int) = all.length := by rw [hx.qu, hU]
  have hu' : ix y.qused j = false := by rw [hx.qu]; exact hu
  have h2 := (containsI (s := ix all j) (v := a) (by omega)).eq ha
  have h3 := (containsI (s := ix all j) (v := b) (by omega)).eq hb
  obtain ⟨m, h4, h5⟩ := impl_most hin.v1 hr.1 hr.2 hx.qp (lam := lam) (by have := hin.lam0; omega)
  have h6 : m < lam := h5.2 hA
  obtain ⟨l1, hl1, hm1⟩ := impl_add hin.v1 hr.1 hr.2 (.inl rfl) hx.qp hB (by omega)
  have hbl : (y.qblocks.length : Int) ≤ 1000128 := by rw [hx.qb, List.length_append, List.length_map]; omega
  refine ⟨T_impl_blocker.mk (T_impl_counter.mk y.qcounter.qleft y.qcounter.qspent) y.qlambda y.qfirst l1 y0.qsets (y.qused.set j.toNat true) (y.qblocks ++ [ix all j]) y.qnodes y.qcount y.qfound, ⟨hx.ql, hx.qf, hm1, hy, by rw [hx.qu], by rw [hx.qb]; simp⟩, rfl, rfl, rfl, rfl, fun y2 hrf hy2 => ?_⟩
  obtain ⟨l2, hl2, hm2⟩ := impl_add hin.v1 hr.1 hr.2 (.inr rfl) hy2.qp (add_bd hr.1 hA hin.lam1 hB) (by omega)
  have hul2 : (y2.qused.length : Int) = all.length := by rw [hy2.qu, List.length_set, hU]
  have hpop : gSl y2.qblocks 0 ((y2.qblocks.length : Int) - 1) = some (B0 ++ ch.map (ix all)) := by
    rw [hy2.qb, List.map_append, ← List.append_assoc]; exact gSl_pop
  have hbl2 : (y2.qblocks.length : Int) ≤ 1000129 := by rw [hy2.qb, List.length_append, List.length_map, List.length_append]; simp; omega
  refine ⟨T_impl_blocker.mk y2.qcounter y2.qlambda y2.qfirst l2 all (y2.qused.set j.toNat false) (B0 ++ ch.map (ix all)) y2.qnodes y2.qcount y2.qfound, ?_, ⟨hy2.ql, hy2.qf, hm2.congr (add_back hr.1), rfl, ?_, rfl⟩, rfl, rfl, rfl, rfl⟩
  · unfold tupI
    simp (disch := omega) only [wr64, dec_t, dec_f, beq_t, beq_f, bne_t, bne_f, gIdx_ix, gNz_ok, gSl_from, gApp1, Option.bind_some, Option.map_some, cond_true, cond_false, Bool.not_true, Bool.not_false, List.length_set, Int.toNat_natCast, List.take_length, p_impl_blocker_search_b1, hy, hu', h2, h3, h4, hx.ql, p_impl_blocker_search_k3, hl1]
    rw [hy, hx.ql] at hrf
    simp (disch := omega) only [wr64, dec_t, dec_f, beq_t, beq_f, bne_t, bne_f, gIdx_ix, gNz_ok, gSl_from, gApp1, Option.bind_some, Option.map_some, cond_true, cond_false, Bool.not_true, Bool.not_false, List.length_set, Int.toNat_natCast, List.take_length, hrf, hpop, hl2]
  · rw [hy2.qu]
    refine ix_ext (by simp) fun i p q => ?_
    simp only [List.length_set] at q
    by_cases e : j = i
    · subst e; rw [ix_set_eq h0 (by rw [List.length_set]; omega), hu]
    · rw [ix_set_ne h0 p e, ix_set_ne h0 p e]
end
end Go.Proofs.YtkgeocffngdeoaaGreat
