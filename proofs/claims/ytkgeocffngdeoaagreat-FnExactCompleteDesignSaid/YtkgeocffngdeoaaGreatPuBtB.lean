/- The search for blocks, second part: the whole search. -/
import Derived.Test.YtkgeocffngdeoaaGreatPuBt
namespace Go.Proofs.YtkgeocffngdeoaaGreat
open Go Go.Vc
set_option linter.unusedSimpArgs false
set_option linter.unusedVariables false
set_option linter.unusedSectionVars false

section
variable {v lam budget : Int} {first : Bool} {all B0 : List (List Int)} {U : List Bool} {M : PM} {ch : List Int}
  (hin : BtIn v lam budget all B0) (hU : U.length = all.length) (hB : BdN v M 128)
include hin hU hB
theorem spec_take {rf : T_spec_l28Search → Int → Int → Option (Bool × T_spec_l28Search)} {y0 : T_spec_l28Search} (hy : y0.qall = all) {a b r j : Int} {x : T_spec_l28Search} (hx : StS v lam budget first all U M ch x) (h0 : 0 ≤ j) (h1 : j < (all.length : Int)) (hn : Takes lam all U M a b j) (hch : (ch.length : Int) ≤ 1000000) :
    ∃ x1, StS v lam budget first all (U.set j.toNat true) (addB 1 (ix all j) M) (ch ++ [j]) x1 ∧ x1.qnodes = x.qnodes ∧ x1.qcount = x.qcount ∧ x1.qfound = x.qfound ∧
      ∀ ok x2, rf x1 r (j + 1) = some (ok, x2) → StS v lam budget first all (U.set j.toNat true) (addB 1 (ix all j) M) (ch ++ [j]) x2 →
        ∃ x3, p_spec_l28Search_visit_b3 rf y0 a b r (tupS j x) = some (bif ok then .inl (tupS (j + 1) x3) else .inr (.inr (.inr (false, x3)))) ∧ StS v lam budget first all U M ch x3 ∧ x3.qnodes = x2.qnodes ∧ x3.qcount = x2.qcount ∧ x3.qfound = x2.qfound := by
  obtain ⟨ha, hb, hA, hu⟩ := hn
  have hr := hin.ris _ (ix_mem h0 h1)
  have ha1 := hin.all1
  have h2 := (has_ok (s := ix all j) (v := a) (by omega)).eq ha
  have h3 := (has_ok (s := ix all j) (v := b) (by omega)).eq hb
  have hul : (x.qused.length : Int) = all.length := by rw [hx.qu, hU]
  have hf := (spec_fits (x0 := T_spec_l28Search.mk x.qv x.qlambda all x.qused x.qpairs x.qchosen x.qnodes x.qbudget x.qcount x.qfirst x.qfound) (n := j) hin.v1 hr.1 hr.2 hx.qv hx.qp h0 h1 (by show j < (x.qused.length : Int); omega) rfl).eq ⟨hx.ql.symm ▸ hA, by simp only [hx.qu]; exact hu⟩
  obtain ⟨p1, ha1', hm1⟩ := spec_add (x0 := T_spec_l28Search.mk x.qv x.qlambda all x.qused x.qpairs x.qchosen x.qnodes x.qbudget x.qcount x.qfirst x.qfound) (n := j) hin.v1 hr.1 hr.2 (.inl rfl) hx.qv h0 h1 (by show j < (x.qused.length : Int); omega) rfl hx.qp hB (by omega)
  have hcl : (x.qchosen.length : Int) ≤ 1000000 := by rw [hx.qc]; exact hch
  refine ⟨T_spec_l28Search.mk x.qv x.qlambda all (x.qused.set j.toNat true) p1 (x.qchosen ++ [j]) x.qnodes x.qbudget x.qcount x.qfirst x.qfound, ⟨hx.qv, hx.ql, rfl, by rw [hx.qu], hm1, by rw [hx.qc], hx.qb, hx.qf⟩, rfl, rfl, rfl, fun ok x2 hrf hx2 => ?_⟩
  have hul2 : (x2.qused.length : Int) = all.length := by rw [hx2.qu, List.length_set, hU]
  obtain ⟨p2, ha2, hm2⟩ := spec_add (x0 := T_spec_l28Search.mk x2.qv x2.qlambda all x2.qused x2.qpairs ch x2.qnodes x2.qbudget x2.qcount x2.qfirst x2.qfound) (n := j) hin.v1 hr.1 hr.2 (.inr rfl) hx2.qv h0 h1 (by show j < (x2.qused.length : Int); omega) rfl hx2.qp (add_bd hr.1 hA hin.lam1 hB) (by omega)
  have hpop : gSl x2.qchosen 0 ((x2.qchosen.length : Int) - 1) = some ch := by rw [hx2.qc]; exact gSl_pop
  have hcl2 : (x2.qchosen.length : Int) ≤ 1000001 := by rw [hx2.qc]; simp; omega
  refine ⟨T_spec_l28Search.mk x2.qv x2.qlambda all (x2.qused.set j.toNat false) p2 ch x2.qnodes x2.qbudget x2.qcount x2.qfirst x2.qfound, ?_, ⟨hx2.qv, hx2.ql, rfl, ?_, hm2.congr (add_back hr.1), rfl, hx2.qb, hx2.qf⟩, rfl, rfl, rfl⟩
  · unfold tupS
    simp only [show decide ((1 : Int) > 0) = true from rfl] at ha1'
    simp only [show decide ((-1 : Int) > 0) = false from rfl] at ha2
    simp (disch := omega) only [wr64, dec_t, dec_f, beq_t, beq_f, bne_t, bne_f, gIdx_ix, gNz_ok, gSl_from, gApp1, Option.bind_some, Option.map_some, cond_true, cond_false, Bool.not_true, Bool.not_false, List.length_set, Int.toNat_natCast, List.take_length, p_spec_l28Search_visit_b3, hy, h2, h3, hf, p_spec_l28Search_visit_k2, ha1', hrf, hpop, ha2]
    cases ok <;> rfl
  · rw [hx2.qu]
    refine ix_ext (by simp) fun i p q => ?_
    simp only [List.length_set] at q
    by_cases e : j = i
    · subst e; rw [ix_set_eq h0 (by rw [List.length_set]; omega), hu]
    · rw [ix_set_ne h0 p e, ix_set_ne h0 p e]
/-- The program's loop when nothing more is looked for. -/
theorem stuck_loop {rf : T_impl_blocker → Int → Int → Int → Option T_impl_blocker} (hrf : ∀ y a b c, Stuck y → rf y a b c = some y) {y0 : T_impl_blocker} (hy : y0.qsets = all) {a b : Int} {c : Bool} (hch : (ch.length : Int) ≤ 1000000) : ∀ (d : Nat) (j : Int) (y : T_impl_blocker), j + d = all.length → 0 ≤ j → StI v lam first all B0 U M ch y → Stuck y →
    ∃ y', loop (p_impl_blocker_search_b1 rf y0 (a, b, c)) (tupI j y) = some y' ∧ StI v lam first all B0 U M ch y' ∧ y'.qcounter = y.qcounter ∧ y'.qnodes = y.qnodes ∧ y'.qcount = y.qcount ∧ y'.qfound = y.qfound := by
  have ha1 := hin.all1
  intro d
  induction d with
  | zero =>
    intro j y hj h0 hs _
    refine ⟨T_impl_blocker.mk (T_impl_counter.mk y.qcounter.qleft y.qcounter.qspent) y.qlambda y.qfirst y.qload y0.qsets y.qused y.qblocks y.qnodes y.qcount y.qfound, loop_end ?_, ⟨hs.ql, hs.qf, hs.qp, hy, hs.qu, hs.qb⟩, rfl, rfl, rfl, rfl⟩
    unfold tupI
    simp (disch := omega) only [wr64, dec_t, dec_f, beq_t, beq_f, bne_t, bne_f, gIdx_ix, gNz_ok, gSl_from, gApp1, Option.bind_some, Option.map_some, cond_true, cond_false, Bool.not_true, Bool.not_false, List.length_set, Int.toNat_natCast, List.take_length, p_impl_blocker_search_b1, hy]
  | succ d ih =>
    intro j y hj h0 hs hst
    by_cases hn : Takes lam all U M a b j
    · obtain ⟨y1, g1, g2, g3, g4, g5, g6⟩ := impl_take hin hU hB (rf := rf) (y0 := y0) (c := c) hy hs h0 (by omega) hn hch
      have hst1 : Stuck y1 := by
        rcases hst with h | ⟨h, h'⟩
        · left; rw [g2]; exact h
        · right; rw [g1.qf, g4, ← hs.qf]; exact ⟨h, h'⟩
      obtain ⟨y3, k1, k2, k3, k4, k5, k6⟩ := g6 y1 (hrf y1 _ _ _ hst1) g1
      have hst3 : Stuck y3 := by
        rcases hst1 with h | ⟨h, h'⟩
        · left; rw [k3]; exact h
        · right; rw [k2.qf, k5, ← g1.qf]; exact ⟨h, h'⟩
      obtain ⟨y', l1, l2, l3, l4, l5, l6⟩ := ih (j + 1) y3 (by omega) (by omega) k2 hst3
      exact ⟨y', by rw [loop_go k1]; exact l1, l2, by rw [l3, k3, g2], by rw [l4, k4, g3], by rw [l5, k5, g4], by rw [l6, k6, g5]⟩
    · rw [loop_go (impl_skip hin hU hB hy hs h0 (by omega) hn)]
      exact ih (j + 1) y (by omega) (by omega) hs hst
end

/-- What is asked of the arguments that say where to go on. -/
def Args (v : Int) (n : Int) (y1 y2 at' a b : Int) : Prop := ∀ c d, 0 ≤ c → c < d → d < v → (idx v c d = y1 ↔ c = a ∧ d = b) ∧ (c = a ∧ d = b → y2 = at' + 1 ∧ 0 ≤ y2 ∧ y2 ≤ n)
def Outcome (v lam budget : Int) (first : Bool) (all B0 : List (List Int)) (U : List Bool) (M : PM) (ch : List Int) (n : Int) (ok : Bool) (x : T_spec_l28Search) (y : T_impl_blocker) : Prop :=
  (ok = true ∧ Live v lam budget first all B0 U M ch x y ∧ n ≤ x.qnodes) ∨ (ok = false ∧ Stop v lam budget first all B0 U M ch x y)
theorem Stop.stuck {v lam budget : Int} {first : Bool} {all B0 : List (List Int)} {U : List Bool} {M : PM} {ch : List Int} {x : T_spec_l28Search} {y : T_impl_blocker} (h : Stop v lam budget first all B0 U M ch x y) : Stuck y := by
  rcases h.stop with ⟨a, _⟩ | ⟨_, _, _, b, c, _⟩
  · exact .inl a
  · refine .inr ⟨?_, ?_⟩
    · rw [h.ys.qf]; exact b
    · rw [h.cc, c]; decide
section
variable {v lam budget : Int} {first : Bool} {all B0 : List (List Int)}
  (hin : BtIn v lam budget all B0)
include hin
theorem sim_loop {rfS : T_spec_l28Search → Int → Int → Option (Bool × T_spec_l28Search)} {rfI : T_impl_blocker → Int → Int → Int → Option T_impl_blocker} (hstk : ∀ y a b c, Stuck y → rfI y a b c = some y) {n : Int} (hn1 : 0 ≤ n)
    (hrf : ∀ U M ch x y y1 y2 at' a b, U.length = all.length → BdN v M 128 → (ch.length : Int) ≤ n + 1 → n + 1 ≤ x.qnodes → Live v lam budget first all B0 U M ch x y → Args v all.length y1 y2 at' a b → ∃ ok x' y', rfS x y1 y2 = some (ok, x') ∧ rfI y at' a b = some y' ∧ Outcome v lam budget first all B0 U M ch x.qnodes ok x' y')
    {U : List Bool} {M : PM} {ch : List Int} (hU : U.length = all.length) (hB : BdN v M 128) (hch : (ch.length : Int) ≤ n) (hnb : n ≤ 20000) {a b : Int} (ha0 : 0 ≤ a) (hab : a < b) (hbv : b < v) {y0 : T_spec_l28Search} {z0 : T_impl_blocker} (hy : y0.qall = all) (hz : z0.qsets = all) {c : Bool} :
    ∀ (d : Nat) (j : Int) x y, j + d = all.length → 0 ≤ j → n + 1 ≤ x.qnodes → Live v lam budget first all B0 U M ch x y →
      ∃ ok x' y', loop (p_spec_l28Search_visit_b3 rfS y0 a b (idx v a b)) (tupS j x) = some (.inr (.inr (ok, x'))) ∧ loop (p_impl_blocker_search_b1 rfI z0 (a, b, c)) (tupI j y) = some y' ∧ Outcome v lam budget first all B0 U M ch x.qnodes ok x' y' := by
  have hal := hin.all1
  intro d
  induction d with
  | zero =>
    intro j x y hj h0 hnx hL
    refine ⟨true, T_spec_l28Search.mk x.qv x.qlambda y0.qall x.qused x.qpairs x.qchosen x.qnodes x.qbudget x.qcount x.qfirst x.qfound, T_impl_blocker.mk (T_impl_counter.mk y.qcounter.qleft y.qcounter.qspent) y.qlambda y.qfirst y.qload z0.qsets y.qused y.qblocks y.qnodes y.qcount y.qfound, loop_end ?_, loop_end ?_, .inl ⟨rfl, ⟨⟨hL.xs.qv, hL.xs.ql, hy, hL.xs.qu, hL.xs.qp, hL.xs.qc, hL.xs.qb, hL.xs.qf⟩, ⟨hL.ys.ql, hL.ys.qf, hL.ys.qp, hz, hL.ys.qu, hL.ys.qb⟩, hL.nn, hL.cc, hL.n0, hL.n1, hL.c0, hL.c1, hL.left, hL.spent, hL.live, hL.chr⟩, Int.le_refl _⟩⟩
    · unfold tupS; simp (disch := omega) only [wr64, dec_t, dec_f, beq_t, beq_f, bne_t, bne_f, gIdx_ix, gNz_ok, gSl_from, gApp1, Option.bind_some, Option.map_some, cond_true, cond_false, Bool.not_true, Bool.not_false, List.length_set, Int.toNat_natCast, List.take_length, p_spec_l28Search_visit_b3, hy]
    · unfold tupI; simp (disch := omega) only [wr64, dec_t, dec_f, beq_t, beq_f, bne_t, bne_f, gIdx_ix, gNz_ok, gSl_from, gApp1, Option.bind_some, Option.map_some, cond_true, cond_false, Bool.not_true, Bool.not_false, List.length_set, Int.toNat_natCast, List.take_length, p_impl_blocker_search_b1, hz]
  | succ d ih =>
    intro j x y hj h0 hnx hL
    by_cases hn : Takes lam all U M a b j
    · obtain ⟨x1, s1, s2, s3, s4, s5⟩ := spec_take hin hU hB (rf := rfS) (y0 := y0) (r := idx v a b) hy hL.xs h0 (by omega) hn (by omega)
      obtain ⟨y1, g1, g2, g3, g4, g5, g6⟩ := impl_take hin hU hB (rf := rfI) (y0 := z0) (c := c) hz hL.ys h0 (by omega) hn (by omega)
      have hr := hin.ris _ (ix_mem h0 (by omega : j < (all.length : Int)))
      have hL1 : Live v lam budget first all B0 (U.set j.toNat true) (addB 1 (ix all j) M) (ch ++ [j]) x1 y1 :=
        ⟨s1, g1, by rw [g3, s2]; exact hL.nn, by rw [g4, s3]; exact hL.cc, by rw [s2]; exact hL.n0, by rw [s2]; exact hL.n1, by rw [s3]; exact hL.c0, by rw [s3, s2]; exact hL.c1, by rw [g2, s2]; exact hL.left, by rw [g2]; exact hL.spent, by rw [s3]; exact hL.live, by intro i hi; rcases List.mem_append.1 hi with h | h; exact hL.chr i h; simp at h; exact ⟨by omega, by omega⟩⟩
      have hargs : Args v all.length (idx v a b) (j + 1) j a b := by
        intro p q h1 h2 h3
        refine ⟨⟨fun e => idx_inj hin.v1 h1 h2 h3 ha0 hab hbv e, fun e => by rw [e.1, e.2]⟩, fun _ => ⟨rfl, by omega, by omega⟩⟩
      obtain ⟨ok, x2, y2, r1, r2, r3⟩ := hrf _ _ _ x1 y1 (idx v a b) (j + 1) j a b (by rw [List.length_set]; exact hU) (add_bd hr.1 hn.2.2.1 hin.lam1 hB) (by simp; omega) (by omega) hL1 hargs
      rcases r3 with ⟨rfl, r4, r5⟩ | ⟨rfl, r4⟩
      · obtain ⟨x3, t1, t2, t3, t4, t5⟩ := s5 true x2 r1 r4.xs
        obtain ⟨y3, k1, k2, k3, k4, k5, k6⟩ := g6 y2 r2 r4.ys
        have hL3 : Live v lam budget first all B0 U M ch x3 y3 :=
          ⟨t2, k2, by rw [k4, t3]; exact r4.nn, by rw [k5, t4]; exact r4.cc, by rw [t3]; exact r4.n0, by rw [t3]; exact r4.n1, by rw [t4]; exact r4.c0, by rw [t3, t4]; exact r4.c1, by rw [k3, t3]; exact r4.left, by rw [k3]; exact r4.spent, by rw [t4]; exact r4.live, hL.chr⟩
        obtain ⟨ok, x', y', u1, u2, u3⟩ := ih (j + 1) x3 y3 (by omega) (by omega) (by omega) hL3
        refine ⟨ok, x', y', by rw [loop_go t1]; exact u1, by rw [loop_go k1]; exact u2, ?_⟩
        rcases u3 with ⟨e, f, g⟩ | h
        · exact .inl ⟨e, f, by omega⟩
        · exact .inr h
      · obtain ⟨x3, t1, t2, t3, t4, t5⟩ := s5 false x2 r1 r4.xs
        obtain ⟨y3, k1, k2, k3, k4, k5, k6⟩ := g6 y2 r2 r4.ys
        have hst : Stuck y3 := by
          rcases r4.stuck with h | ⟨h, h'⟩
          · left; rw [k3]; exact h
          · right; rw [k2.qf, k5, ← r4.ys.qf]; exact ⟨h, h'⟩
        obtain ⟨y', u1, u2, u3, u4, u5, u6⟩ := stuck_loop hin hU hB hstk (a := a) (b := b) (c := c) hz (by omega) d (j + 1) y3 (by omega) (by omega) k2 hst
        refine ⟨false, x3, y', loop_end t1, by rw [loop_go k1]; exact u1, .inr ⟨rfl, t2, u2, by rw [u5, k5, t4]; exact r4.cc, ?_⟩⟩
        rw [u3, k3, u4, k4, u6, k6, t3, t4, t5]; exact r4.stop
    · rw [loop_go (spec_skip hin hU hB hy hL.xs h0 (by omega) hn), loop_go (impl_skip hin hU hB hz hL.ys h0 (by omega) hn)]
      exact ih (j + 1) x y (by omega) (by omega) hnx hL
theorem copy_ok {bs : List (List Int)} (h : (bs.length : Int) ≤ 4194304) (h2 : ∀ b ∈ bs, (b.length : Int) ≤ 1048576) : p_impl_copyLists bs = some bs := by
  unfold p_impl_copyLists
  rw [show (([] : List (List Int)), (0 : Int)) = (fun j : Int => (bs.take j.toNat, j)) 0 from rfl, loop_upto (B := p_impl_copyLists_b1 bs) (fun j => (bs.take j.toNat, j)) (i := 0) (n := bs.length) (by omega) ?_]
  · refine loop_end ?_
    simp (disch := omega) only [wr64, dec_t, dec_f, beq_t, beq_f, bne_t, bne_f, gIdx_ix, gNz_ok, gSl_from, gApp1, Option.bind_some, Option.map_some, cond_true, cond_false, Bool.not_true, Bool.not_false, List.length_set, Int.toNat_natCast, List.take_length, p_impl_copyLists_b1]
  · intro j a b
    have hc := clone_ok (l := ix bs j) (by have := h2 _ (ix_mem a b); omega)
    have hl : ((bs.take j.toNat).length : Int) = j := by rw [List.length_take]; omega
    simp (disch := omega) only [wr64, dec_t, dec_f, beq_t, beq_f, bne_t, bne_f, gIdx_ix, gNz_ok, gSl_from, gApp1, Option.bind_some, Option.map_some, cond_true, cond_false, Bool.not_true, Bool.not_false, List.length_set, Int.toNat_natCast, List.take_length, p_impl_copyLists_b1, hc]
    rw [take_ix a b]
theorem sim_stop {rfS : T_spec_l28Search → Int → Int → Option (Bool × T_spec_l28Search)} {rfI : T_impl_blocker → Int → Int → Int → Option T_impl_blocker} {U : List Bool} {M : PM} {ch : List Int} {x : T_spec_l28Search} {y : T_impl_blocker} {y1 y2 at' a b : Int} (hL : Live v lam budget first all B0 U M ch x y) (hn : x.qnodes = budget) :
    ∃ ok x' y', q_spec_l28Search_visit rfS x y1 y2 = some (ok, x') ∧ q_impl_blocker_search rfI y at' a b = some y' ∧ Outcome v lam budget first all B0 U M ch x.qnodes ok x' y' := by
  have hb1 := hin.b1
  have hb0 := hin.b0
  have hxb := hL.xs.qb
  have hsp := hL.spent
  have hlf := hL.left
  refine ⟨false, T_spec_l28Search.mk x.qv x.qlambda x.qall x.qused x.qpairs x.qchosen (x.qnodes + 1) x.qbudget x.qcount x.qfirst x.qfound, T_impl_blocker.mk (T_impl_counter.mk y.qcounter.qleft true) y.qlambda y.qfirst y.qload y.qsets y.qused y.qblocks y.qnodes y.qcount y.qfound, ?_, ?_, .inr ⟨rfl, ⟨hL.xs.qv, hL.xs.ql, hL.xs.qa, hL.xs.qu, hL.xs.qp, hL.xs.qc, hL.xs.qb, hL.xs.qf⟩, ⟨hL.ys.ql, hL.ys.qf, hL.ys.qp, hL.ys.qs, hL.ys.qu, hL.ys.qb⟩, hL.cc, .inl ⟨rfl, by show x.qnodes + 1 > budget; omega⟩⟩⟩
  · unfold q_spec_l28Search_visit
    simp (disch := omega) only [wr64, dec_t, dec_f, beq_t, beq_f, bne_t, bne_f, gIdx_ix, gNz_ok, gSl_from, gApp1, Option.bind_some, Option.map_some, cond_true, cond_false, Bool.not_true, Bool.not_false, List.length_set, Int.toNat_natCast, List.take_length]
  · unfold q_impl_blocker_search p_impl_counter_node
    cases hf : y.qfirst with
    | false => simp (disch := omega) only [wr64, dec_t, dec_f, beq_t, beq_f, bne_t, bne_f, gIdx_ix, gNz_ok, gSl_from, gApp1, Option.bind_some, Option.map_some, cond_true, cond_false, Bool.not_true, Bool.not_false, List.length_set, Int.toNat_natCast, List.take_length, hsp]
    | true =>
      have h1 := hL.live (by rw [← hL.ys.qf]; exact hf)
      have h2 := hL.cc
      simp (disch := omega) only [wr64, dec_t, dec_f, beq_t, beq_f, bne_t, bne_f, gIdx_ix, gNz_ok, gSl_from, gApp1, Option.bind_some, Option.map_some, cond_true, cond_false, Bool.not_true, Bool.not_false, List.length_set, Int.toNat_natCast, List.take_length, hsp]
theorem sim_go {rfS : T_spec_l28Search → Int → Int → Option (Bool × T_spec_l28Search)} {rfI : T_impl_blocker → Int → Int → Int → Option T_impl_blocker} (hstk : ∀ y a b c, Stuck y → rfI y a b c = some y) {n : Int}
    (hrf : ∀ U M ch x y y1 y2 at' a b, U.length = all.length → BdN v M 128 → (ch.length : Int) ≤ n + 1 → n + 1 ≤ x.qnodes → Live v lam budget first all B0 U M ch x y → Args v all.length y1 y2 at' a b → ∃ ok x' y', rfS x y1 y2 = some (ok, x') ∧ rfI y at' a b = some y' ∧ Outcome v lam budget first all B0 U M ch x.qnodes ok x' y')
    {U : List Bool} {M : PM} {ch : List Int} (hU : U.length = all.length) (hB : BdN v M 128) {x : T_spec_l28Search} {y : T_impl_blocker} {y1 y2 at' a b : Int} (hL : Live v lam budget first all B0 U M ch x y) (hn : x.qnodes = n) (hnb : n < budget) (hch : (ch.length : Int) ≤ n) (hA : Args v all.length y1 y2 at' a b) :
    ∃ ok x' y', q_spec_l28Search_visit rfS x y1 y2 = some (ok, x') ∧ q_impl_blocker_search rfI y at' a b = some y' ∧ Outcome v lam budget first all B0 U M ch x.qnodes ok x' y' := by
  have hb1 := hin.b1
  have hb0 := hin.b0
  have hal := hin.all1
  have hn0 := hL.n0
  have hc0 := hL.c0
  have hc1 := hL.c1
  have hxb := hL.xs.qb
  have hsp := hL.spent
  have hlf := hL.left
  have hnn := hL.nn
  have hcc := hL.cc
  have eS : q_spec_l28Search_visit rfS x y1 y2 = loop (p_spec_l28Search_visit_b1 rfS x y1 y2) 0 := by
    unfold q_spec_l28Search_visit
    simp (disch := omega) only [wr64, dec_t, dec_f, beq_t, beq_f, bne_t, bne_f, gIdx_ix, gNz_ok, gSl_from, gApp1, Option.bind_some, Option.map_some, cond_true, cond_false, Bool.not_true, Bool.not_false, List.length_set, Int.toNat_natCast, List.take_length]
  have eI : q_impl_blocker_search rfI y at' a b = p_impl_blocker_search_k1 rfI y at' a b (y.qcounter.qleft - 1) false := by
    unfold q_impl_blocker_search p_impl_counter_node
    cases hf : y.qfirst with
    | false => simp (disch := omega) only [wr64, dec_t, dec_f, beq_t, beq_f, bne_t, bne_f, gIdx_ix, gNz_ok, gSl_from, gApp1, Option.bind_some, Option.map_some, cond_true, cond_false, Bool.not_true, Bool.not_false, List.length_set, Int.toNat_natCast, List.take_length, hsp]
    | true =>
      have h1 := hL.live (by rw [← hL.ys.qf]; exact hf)
      simp (disch := omega) only [wr64, dec_t, dec_f, beq_t, beq_f, bne_t, bne_f, gIdx_ix, gNz_ok, gSl_from, gApp1, Option.bind_some, Option.map_some, cond_true, cond_false, Bool.not_true, Bool.not_false, List.length_set, Int.toNat_natCast, List.take_length, hsp]
  rw [eS, eI]
  unfold p_impl_blocker_search_k1
  rcases first_or_full v lam M with ⟨a', b', hF⟩ | hF
  · have hF' : First v y.qlambda M a' b' := by rw [hL.ys.ql]; exact hF
    have hFx : First v x.qlambda M a' b' := by rw [hL.xs.ql]; exact hF
    have hsh := short_first (s := T_impl_blocker.mk (T_impl_counter.mk (y.qcounter.qleft - 1) false) y.qlambda y.qfirst y.qload y.qsets y.qused y.qblocks (y.qnodes + 1) y.qcount y.qfound) hin.v1 hL.ys.qp hF'
    have hAr := hA a' b' hF.a0 hF.ab hF.bv
    let st : Int := if idx v a' b' = y1 then y2 else 0
    have hst0 : 0 ≤ st ∧ st ≤ all.length := by
      simp only [st]
      by_cases e : idx v a' b' = y1
      · rw [if_pos e]; exact (hAr.2 (hAr.1.1 e)).2
      · rw [if_neg e]; omega
    let xp := T_spec_l28Search.mk x.qv x.qlambda x.qall x.qused x.qpairs x.qchosen (x.qnodes + 1) x.qbudget x.qcount x.qfirst x.qfound
    let yp := T_impl_blocker.mk (T_impl_counter.mk (y.qcounter.qleft - 1) false) y.qlambda y.qfirst y.qload y.qsets y.qused y.qblocks (y.qnodes + 1) y.qcount y.qfound
    have hLp : Live v lam budget first all B0 U M ch xp yp :=
      ⟨⟨hL.xs.qv, hL.xs.ql, hL.xs.qa, hL.xs.qu, hL.xs.qp, hL.xs.qc, hL.xs.qb, hL.xs.qf⟩, ⟨hL.ys.ql, hL.ys.qf, hL.ys.qp, hL.ys.qs, hL.ys.qu, hL.ys.qb⟩, by show y.qnodes + 1 = x.qnodes + 1; omega, hL.cc, by show 0 ≤ x.qnodes + 1; omega, by show x.qnodes + 1 ≤ budget; omega, hL.c0, by show x.qcount ≤ x.qnodes + 1; omega, by show y.qcounter.qleft - 1 = budget - (x.qnodes + 1); omega, rfl, hL.live, hL.chr⟩
    obtain ⟨ok, x', y', r1, r2, r3⟩ := sim_loop hin hstk (n := n) (by omega) hrf hU hB hch (by omega) hF.a0 hF.ab hF.bv (y0 := x) (z0 := y) (c := true) hL.xs.qa hL.ys.qs (all.length - st).toNat st xp yp (by omega) hst0.1 (by show n + 1 ≤ x.qnodes + 1; omega) hLp
    refine ⟨ok, x', y', ?_, ?_, ?_⟩
    · refine visit_first hin.v1 hL.xs.qv hL.xs.qp hFx ?_
      unfold p_spec_l28Search_visit_k1
      have : ((if idx v a' b' = y1 then y2 else 0 : Int), x.qv, x.qlambda, IntKind.i64.wrap (x.qnodes + 1), x.qbudget, x.qcount, x.qfirst, x.qused, x.qpairs, x.qchosen, x.qfound) = tupS st xp := by
        rw [wr64 (by omega) (by omega)]; rfl
      rw [this]; exact r1
    · have hw : IntKind.i64.wrap (y.qnodes + 1) = y.qnodes + 1 := wr64 (by omega) (by omega)
      rw [hw, hsh]
      simp only [Option.bind_some, Bool.not_true, cond_false]
      unfold p_impl_blocker_search_k2
      by_cases e : a' = a ∧ b' = b
      · have h1 := (hAr.2 e).1
        have h2 := hAr.1.2 e
        have h3 := (hAr.2 e).2
        have e1 := e.1
        have e2 := e.2
        have hst1 : st = y2 := if_pos h2
        simp (disch := omega) only [wr64, dec_t, dec_f, beq_t, beq_f, bne_t, bne_f, gIdx_ix, gNz_ok, gSl_from, gApp1, Option.bind_some, Option.map_some, cond_true, cond_false, Bool.not_true, Bool.not_false, List.length_set, Int.toNat_natCast, List.take_length]
        rw [← h1, ← hst1]; exact r2
      · have h2 : ¬ idx v a' b' = y1 := fun h => e (hAr.1.1 h)
        have hst1 : st = 0 := if_neg h2
        by_cases e1 : a' = a
        · have e2 : ¬ b' = b := fun h => e ⟨e1, h⟩
          simp (disch := omega) only [wr64, dec_t, dec_f, beq_t, beq_f, bne_t, bne_f, gIdx_ix, gNz_ok, gSl_from, gApp1, Option.bind_some, Option.map_some, cond_true, cond_false, Bool.not_true, Bool.not_false, List.length_set, Int.toNat_natCast, List.take_length]
          rw [hst1] at r2; exact r2
        · simp (disch := omega) only [wr64, dec_t, dec_f, beq_t, beq_f, bne_t, bne_f, gIdx_ix, gNz_ok, gSl_from, gApp1, Option.bind_some, Option.map_some, cond_true, cond_false, Bool.not_true, Bool.not_false, List.length_set, Int.toNat_natCast, List.take_length]
          rw [hst1] at r2; exact r2
    · rcases r3 with ⟨p, q, r⟩ | h
      · exact .inl ⟨p, q, by have : x.qnodes + 1 ≤ x'.qnodes := r; omega⟩
      · exact .inr h
  · have hF' : Full v y.qlambda M := by rw [hL.ys.ql]; exact hF
    have hFx : Full v x.qlambda M := by rw [hL.xs.ql]; exact hF
    have hsh := short_full (s := T_impl_blocker.mk (T_impl_counter.mk (y.qcounter.qleft - 1) false) y.qlambda y.qfirst y.qload y.qsets y.qused y.qblocks (y.qnodes + 1) y.qcount y.qfound) hin.v1 hin.v0 hL.ys.qp hF'
    have hw : IntKind.i64.wrap (y.qnodes + 1) = y.qnodes + 1 := wr64 (by omega) (by omega)
    have hw2 : IntKind.i64.wrap (y.qcount + 1) = y.qcount + 1 := wr64 (by omega) (by omega)
    have hbl : (y.qblocks.length : Int) ≤ 1000128 := by rw [hL.ys.qb, List.length_append, List.length_map]; have := hin.B1; omega
    have hcp : p_impl_copyLists y.qblocks = some y.qblocks := by
      refine copy_ok hin (by omega) ?_
      rw [hL.ys.qb]
      intro e he
      rcases List.mem_append.1 he with h | h
      · exact hin.B2 e h
      · obtain ⟨j, _, rfl⟩ := List.mem_map.1 h
        by_cases hj : 0 ≤ j ∧ j < (all.length : Int)
        · have := (hin.ris _ (ix_mem hj.1 hj.2)).2; omega
        · unfold ix
          by_cases h0 : j.toNat < all.length
          · have hm : all.getD j.toNat default ∈ all := by
              rw [List.getD_eq_getElem?_getD, List.getElem?_eq_getElem h0]; simp
            have := (hin.ris _ hm).2; omega
          · rw [List.getD_eq_getElem?_getD, List.getElem?_eq_none (by omega)]; decide
    have hS := visit_full (rf := rfS) (y1 := y1) (y2 := y2) hin.v1 hL.xs.qv hL.xs.qp hin.v0 (by rw [hL.xs.qc]; omega) (by omega) (by omega) (by omega) (by omega) hFx
    rw [hw, hsh, hS]
    simp only [Option.bind_some, Bool.not_false, cond_true, hw2]
    by_cases hc : y.qcount + 1 = 1
    · simp (disch := omega) only [wr64, dec_t, dec_f, beq_t, beq_f, bne_t, bne_f, gIdx_ix, gNz_ok, gSl_from, gApp1, Option.bind_some, Option.map_some, cond_true, cond_false, Bool.not_true, Bool.not_false, List.length_set, Int.toNat_natCast, List.take_length, hcp]
      refine ⟨_, _, _, rfl, rfl, ?_⟩
      cases hf : x.qfirst with
      | true => exact .inr ⟨rfl, ⟨hL.xs.qv, hL.xs.ql, hL.xs.qa, hL.xs.qu, hL.xs.qp, hL.xs.qc, hL.xs.qb, hf ▸ hL.xs.qf⟩, ⟨hL.ys.ql, hL.ys.qf, hL.ys.qp, hL.ys.qs, hL.ys.qu, hL.ys.qb⟩, by show y.qcount + 1 = x.qcount + 1; omega, .inr ⟨rfl, by show x.qnodes + 1 ≤ budget; omega, by show y.qnodes + 1 = x.qnodes + 1; omega, by rw [← hL.xs.qf]; exact hf, by show x.qcount + 1 = 1; omega, by show y.qblocks = B0 ++ x.qchosen.map (ix all); rw [hL.ys.qb, hL.xs.qc], by show (x.qchosen.length : Int) ≤ 100000; rw [hL.xs.qc]; have := hin.b1; omega, by show ∀ i ∈ x.qchosen, _; rw [hL.xs.qc]; exact hL.chr⟩⟩
      | false =>
        have hff : first = false := by rw [← hL.xs.qf]; exact hf
        exact .inl ⟨rfl, ⟨⟨hL.xs.qv, hL.xs.ql, hL.xs.qa, hL.xs.qu, hL.xs.qp, hL.xs.qc, hL.xs.qb, hf ▸ hL.xs.qf⟩, ⟨hL.ys.ql, hL.ys.qf, hL.ys.qp, hL.ys.qs, hL.ys.qu, hL.ys.qb⟩, by show y.qnodes + 1 = x.qnodes + 1; omega, by show y.qcount + 1 = x.qcount + 1; omega, by show 0 ≤ x.qnodes + 1; omega, by show x.qnodes + 1 ≤ budget; omega, by show 0 ≤ x.qcount + 1; omega, by show x.qcount + 1 ≤ x.qnodes + 1; omega, by show y.qcounter.qleft - 1 = budget - (x.qnodes + 1); omega, rfl, fun h => (by rw [hff] at h; cases h), hL.chr⟩, by show x.qnodes ≤ x.qnodes + 1; omega⟩
    · have hff : first = false := by
        cases hq : first with
        | false => rfl
        | true => have := hL.live hq; omega
      have hf : x.qfirst = false := by rw [hL.xs.qf]; exact hff
      simp (disch := omega) only [wr64, dec_t, dec_f, beq_t, beq_f, bne_t, bne_f, gIdx_ix, gNz_ok, gSl_from, gApp1, Option.bind_some, Option.map_some, cond_true, cond_false, Bool.not_true, Bool.not_false, List.length_set, Int.toNat_natCast, List.take_length]
      refine ⟨_, _, _, rfl, rfl, ?_⟩
      rw [hf]
      exact .inl ⟨rfl, ⟨⟨hL.xs.qv, hL.xs.ql, hL.xs.qa, hL.xs.qu, hL.xs.qp, hL.xs.qc, hL.xs.qb, hf ▸ hL.xs.qf⟩, ⟨hL.ys.ql, hL.ys.qf, hL.ys.qp, hL.ys.qs, hL.ys.qu, hL.ys.qb⟩, by show y.qnodes + 1 = x.qnodes + 1; omega, by show y.qcount + 1 = x.qcount + 1; omega, by show 0 ≤ x.qnodes + 1; omega, by show x.qnodes + 1 ≤ budget; omega, by show 0 ≤ x.qcount + 1; omega, by show x.qcount + 1 ≤ x.qnodes + 1; omega, by show y.qcounter.qleft - 1 = budget - (x.qnodes + 1); omega, rfl, fun h => (by rw [hff] at h; cases h), hL.chr⟩, by show x.qnodes ≤ x.qnodes + 1; omega⟩
theorem sim : ∀ (m : Nat) (NS NI : Nat), m + 1 < NS → m + 1 < NI → ∀ U M ch x y y1 y2 at' a b, U.length = all.length → BdN v M 128 → (ch.length : Int) ≤ x.qnodes → budget - x.qnodes ≤ (m : Int) → Live v lam budget first all B0 U M ch x y → Args v all.length y1 y2 at' a b →
    ∃ ok x' y', pn_spec_l28Search_visit NS x y1 y2 = some (ok, x') ∧ pn_impl_blocker_search NI y at' a b = some y' ∧ Outcome v lam budget first all B0 U M ch x.qnodes ok x' y' := by
  intro m
  induction m with
  | zero =>
    intro NS NI h1 h2 U M ch x y y1 y2 at' a b hU hB hch hm hL hA
    obtain ⟨ns, rfl⟩ : ∃ k, NS = k + 1 := ⟨NS - 1, by omega⟩
    obtain ⟨ni, rfl⟩ : ∃ k, NI = k + 1 := ⟨NI - 1, by omega⟩
    exact sim_stop hin hL (by have := hL.n1; omega)
  | succ m ih =>
    intro NS NI h1 h2 U M ch x y y1 y2 at' a b hU hB hch hm hL hA
    obtain ⟨ns, rfl⟩ : ∃ k, NS = k + 1 := ⟨NS - 1, by omega⟩
    obtain ⟨ni, rfl⟩ : ∃ k, NI = k + 1 := ⟨NI - 1, by omega⟩
    by_cases hb : x.qnodes = budget
    · exact sim_stop hin hL hb
    · refine sim_go hin (fun y a b c h => ?_) (n := x.qnodes) (fun U M ch x2 y y1 y2 at' a b g1 g2 g3 g4 g5 g6 => ?_) hU hB hL rfl (by have := hL.n1; omega) hch hA
      · obtain ⟨k, rfl⟩ : ∃ k, ni = k + 1 := ⟨ni - 1, by omega⟩
        exact stuck_search h
      · exact ih ns ni (by omega) (by omega) U M ch x2 y y1 y2 at' a b g1 g2 (by omega) (by omega) g5 g6
end
end Go.Proofs.YtkgeocffngdeoaaGreat
