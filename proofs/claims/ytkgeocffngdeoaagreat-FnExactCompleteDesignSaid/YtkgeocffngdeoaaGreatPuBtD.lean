/- The whole run, and the statements BacktrackNodes and CountDesigns. -/
import Derived.Test.YtkgeocffngdeoaaGreatPuBtC
namespace Go.Proofs.YtkgeocffngdeoaaGreat
open Go Go.Vc
set_option linter.unusedSimpArgs false
set_option linter.unusedVariables false
set_option linter.unusedSectionVars false

theorem choose_same (n k : Int) : p_impl_Choose n k = p_spec_Choose n k := rfl
theorem choose_some {n k : Int} (h0 : 0 ≤ k) (h1 : k ≤ n) (h2 : n ≤ 32) : ∃ r, p_spec_Choose n k = some r := by
  unfold p_spec_Choose
  simp (disch := omega) only [wr64, dec_t, dec_f, beq_t, beq_f, bne_t, bne_f, gIdx_ix, gNz_ok, gSl_from, gApp1, Option.bind_some, Option.map_some, cond_true, cond_false, Bool.not_true, Bool.not_false, List.length_set, Int.toNat_natCast, List.take_length, in_ok, p_spec_Choose_k1]
  obtain ⟨⟨o, i⟩, h3, h4⟩ := loop_inv (B := p_spec_Choose_b1 n k) (fun j s => s.2 = j) (i := 1) (n := k + 1) (by omega) (s := (1, 1)) rfl (by
    rintro j ⟨o, i⟩ a b e
    simp only at e
    subst e
    exact ⟨_, by simp (disch := omega) only [wr64, dec_t, dec_f, beq_t, beq_f, bne_t, bne_f, gIdx_ix, gNz_ok, gSl_from, gApp1, Option.bind_some, Option.map_some, cond_true, cond_false, Bool.not_true, Bool.not_false, List.length_set, Int.toNat_natCast, List.take_length, p_spec_Choose_b1]; rfl, rfl⟩)
  simp only at h3
  subst h3
  exact ⟨o, by rw [h4]; exact loop_end (by simp (disch := omega) only [wr64, dec_t, dec_f, beq_t, beq_f, bne_t, bne_f, gIdx_ix, gNz_ok, gSl_from, gApp1, Option.bind_some, Option.map_some, cond_true, cond_false, Bool.not_true, Bool.not_false, List.length_set, Int.toNat_natCast, List.take_length, p_spec_Choose_b1])⟩
theorem used_nil (all : List (List Int)) : usedOf all [] = List.replicate all.length false := by
  unfold usedOf
  refine ix_ext (by rw [tabl_len, List.length_replicate]; omega) fun i p q => ?_
  rw [tabl_len] at q
  rw [tabl_ix p (by omega), ix_rep p (by omega)]; simp
theorem used_len (all bs : List (List Int)) : (usedOf all bs).length = all.length := by unfold usedOf; rw [tabl_len]; omega
theorem used_step {v k : Int} {bs : List (List Int)} {b : List Int} {i : Int} (h0 : 0 ≤ i) (h1 : i < ((allSub v k).length : Int)) (h : ix (allSub v k) i = b) : (usedOf (allSub v k) bs).set i.toNat true = usedOf (allSub v k) (bs ++ [b]) := by
  refine ix_ext (by rw [List.length_set, used_len, used_len]) fun j p q => ?_
  rw [List.length_set, used_len] at q
  by_cases e : i = j
  · subst e
    rw [ix_set_eq h0 (by rw [used_len]; exact h1)]
    unfold usedOf; rw [tabl_ix p q, h]; simp
  · rw [ix_set_ne h0 p e]
    unfold usedOf; rw [tabl_ix p q, tabl_ix p q]
    have : ix (allSub v k) j ≠ b := fun hh => e (all_inj h0 h1 p q (h.trans hh.symm))
    simp [this]
theorem init_ok {d : T_impl_Design} (hd : ValidD d) {K lam B : Int} {first : Bool} (hK : ∀ k, 0 ≤ k → k < (d.Blocks.length : Int) → ((ix d.Blocks k).length : Int) = K) (hK0 : 0 ≤ K) (hK1 : K ≤ d.Points) :
    ∃ ps, Flat d.Points ps (cntM d.Blocks) ∧ loop (p_spec_l28Run_b1 d B (allSub d.Points K)) (0, d.Points, lam, [], 0, B, 0, first, [], List.replicate (tri d.Points d.Points.toNat).toNat 0, List.replicate (allSub d.Points K).length false) = loop (p_spec_l28Run_b1 d B (allSub d.Points K)) (d.Blocks.length, d.Points, lam, [], 0, B, 0, first, [], ps, usedOf (allSub d.Points K) d.Blocks) := by
  have hp1 := hd.p1
  have hp2 := hd.p2
  have hln := hd.len
  have hal := all_len hK0 hK1 hp2
  obtain ⟨s, ⟨ps, hs, hf⟩, he⟩ := loop_inv (B := p_spec_l28Run_b1 d B (allSub d.Points K)) (fun k s => ∃ ps, s = (k, d.Points, lam, [], 0, B, 0, first, [], ps, usedOf (allSub d.Points K) (d.Blocks.take k.toNat)) ∧ Flat d.Points ps (cntM (d.Blocks.take k.toNat))) (i := 0) (n := d.Blocks.length) (by omega) (s := (0, d.Points, lam, [], 0, B, 0, first, [], List.replicate (tri d.Points d.Points.toNat).toNat 0, List.replicate (allSub d.Points K).length false))
    ⟨List.replicate (tri d.Points d.Points.toNat).toNat 0, by rw [show d.Blocks.take (0 : Int).toNat = [] from rfl, used_nil], by
      have ht := tri_mono (v := d.Points) (a := 0) (b := d.Points.toNat) (by omega) (by omega)
      rw [show tri d.Points 0 = 0 from rfl] at ht
      refine ⟨by rw [List.length_replicate]; omega, fun a b p q r => ?_⟩
      have h1 := idx_nn hp2 p q r
      have h2 := idx_lt hp2 p q r
      rw [ix_rep h1 (by omega)]; rfl⟩ (by
    rintro k s h0 h1 ⟨ps, rfl, hf⟩
    have hr := hd.ris h0 h1
    have hm : ix d.Blocks k ∈ allSub d.Points K := (mem_all hK0 hK1 hp2).2 ⟨hK k h0 h1, hr.1⟩
    obtain ⟨i, i0, i1, ie⟩ := mem_ix hm
    have hfind := find_ok (all_sorted d.Points K) hal (fun e he => by have := (mem_all hK0 hK1 hp2).1 he; omega) i0 i1
    rw [ie] at hfind
    have htl : ((d.Blocks.take k.toNat).length : Int) ≤ 128 := by rw [List.length_take]; omega
    obtain ⟨ps', g1, g2⟩ := spec_add (x0 := T_spec_l28Search.mk d.Points lam (allSub d.Points K) (usedOf (allSub d.Points K) (d.Blocks.take k.toNat)) ps [] 0 B 0 first []) (n := i) hp2 hr.1 hr.2 (.inl rfl) rfl i0 i1 (by show i < ((usedOf _ _).length : Int); rw [used_len]; exact i1) ie hf (cnt_bdn htl) (by omega)
    refine ⟨(k + 1, d.Points, lam, [], 0, B, 0, first, [], ps', usedOf (allSub d.Points K) (d.Blocks.take (k + 1).toNat)), ?_, ps', rfl, g2.congr (cnt_step hd h0 h1)⟩
    simp only [show decide ((1 : Int) > 0) = true from rfl] at g1
    simp (disch := omega) only [wr64, dec_t, dec_f, beq_t, beq_f, bne_t, bne_f, gIdx_ix, gNz_ok, gSl_from, gApp1, Option.bind_some, Option.map_some, cond_true, cond_false, Bool.not_true, Bool.not_false, List.length_set, Int.toNat_natCast, List.take_length, p_spec_l28Run_b1, hfind, g1]
    rw [used_step i0 i1 ie, take_ix h0 h1])
  rw [Int.toNat_natCast, List.take_length] at hs hf
  subst hs
  exact ⟨ps, hf, he⟩
theorem used_impl {all bs : List (List Int)} (hsz : Sz2 bs) (hal : (all.length : Int) ≤ 4294967296) {d : T_impl_Design} (hd : d.Blocks = bs) {y2 y3 : Int} {y4 : Bool} {l r : List (List Int)} : loop (p_impl_completed_b1 d y2 y3 y4 l all r) (0, []) = loop (p_impl_completed_b1 d y2 y3 y4 l all r) (all.length, usedOf all bs) := by
  rw [show ((0 : Int), ([] : List Bool)) = (fun j : Int => (j, tabl j fun i => decide (ix all i ∈ bs))) 0 from rfl, loop_upto (B := p_impl_completed_b1 d y2 y3 y4 l all r) (fun j => (j, tabl j fun i => decide (ix all i ∈ bs))) (i := 0) (n := all.length) (by omega) ?_]
  · rfl
  · intro j h0 h1
    have hl : ((tabl j fun i => decide (ix all i ∈ bs)).length : Int) = j := by rw [tabl_len]; omega
    simp (disch := omega) only [wr64, dec_t, dec_f, beq_t, beq_f, bne_t, bne_f, gIdx_ix, gNz_ok, gSl_from, gApp1, Option.bind_some, Option.map_some, cond_true, cond_false, Bool.not_true, Bool.not_false, List.length_set, Int.toNat_natCast, List.take_length, p_impl_completed_b1, hd, has_list hsz]
    rw [tabl_snoc h0]
theorem run_ok {d : T_impl_Design} (hd : ValidD d) (hsz : Sz2 d.Blocks) {K lam B : Int} {first : Bool} : ∃ x c o, p_spec_l28Run d K lam B first = some (x, c) ∧ p_impl_completed d K lam B first = some (o, c) ∧
    ((c ≠ 0 ∧ o = none) ∨ (c = 0 ∧ ∃ y, o = some y ∧ y.qnodes = x.qnodes ∧ y.qcount = x.qcount ∧ (first = true → x.qcount ≠ 0 → x.qall = allSub d.Points K ∧ (2 ≤ K ∧ K ≤ d.Points) ∧ (x.qfound.length : Int) ≤ 100000 ∧ (∀ i ∈ x.qfound, 0 ≤ i ∧ i < ((allSub d.Points K).length : Int)) ∧ y.qfound = d.Blocks ++ x.qfound.map (ix (allSub d.Points K))))) := by
  have hp1 := hd.p1
  have hp2 := hd.p2
  have hln := hd.len
  have hok := (ok_spec hsz).eq hd
  unfold p_spec_l28Run p_impl_completed p_impl_isBudget
  by_cases hB : 1 ≤ B ∧ B ≤ 20000
  · by_cases hq : (2 ≤ d.Points ∧ d.Points ≤ 32) ∧ (2 ≤ K ∧ K ≤ d.Points) ∧ (1 ≤ lam ∧ lam ≤ 128)
    · obtain ⟨r, hr⟩ := choose_some (n := d.Points) (k := K) (by omega) (by omega) (by omega)
      have hcs : p_impl_Choose d.Points K = some r := hr
      have hse : p_impl_isSearched d.Points K lam = some true := by unfold p_impl_isSearched; simp (disch := omega) only [wr64, dec_t, dec_f, beq_t, beq_f, bne_t, bne_f, gIdx_ix, gNz_ok, gSl_from, gApp1, Option.bind_some, Option.map_some, cond_true, cond_false, Bool.not_true, Bool.not_false, List.length_set, Int.toNat_natCast, List.take_length, within_ok]
      by_cases hr1 : r > 1500
      · have hask : p_spec_l28Ask d.Points K lam = some 5 := by unfold p_spec_l28Ask; simp (disch := omega) only [wr64, dec_t, dec_f, beq_t, beq_f, bne_t, bne_f, gIdx_ix, gNz_ok, gSl_from, gApp1, Option.bind_some, Option.map_some, cond_true, cond_false, Bool.not_true, Bool.not_false, List.length_set, Int.toNat_natCast, List.take_length, in_ok, p_spec_l28Ask_k1, hr]
        refine ⟨_, 5, _, by simp (disch := omega) only [wr64, dec_t, dec_f, beq_t, beq_f, bne_t, bne_f, gIdx_ix, gNz_ok, gSl_from, gApp1, Option.bind_some, Option.map_some, cond_true, cond_false, Bool.not_true, Bool.not_false, List.length_set, Int.toNat_natCast, List.take_length, hok, in_ok, hask]; rfl, by simp (disch := omega) only [wr64, dec_t, dec_f, beq_t, beq_f, bne_t, bne_f, gIdx_ix, gNz_ok, gSl_from, gApp1, Option.bind_some, Option.map_some, cond_true, cond_false, Bool.not_true, Bool.not_false, List.length_set, Int.toNat_natCast, List.take_length, within_ok, hse, p_impl_completed_k2, hcs], .inl ⟨by decide, rfl⟩⟩
      · have hask : p_spec_l28Ask d.Points K lam = some 0 := by unfold p_spec_l28Ask; simp (disch := omega) only [wr64, dec_t, dec_f, beq_t, beq_f, bne_t, bne_f, gIdx_ix, gNz_ok, gSl_from, gApp1, Option.bind_some, Option.map_some, cond_true, cond_false, Bool.not_true, Bool.not_false, List.length_set, Int.toNat_natCast, List.take_length, in_ok, p_spec_l28Ask_k1, hr]
        have k1 := spec_packing hd hsz (K := K) (lam := lam) (by omega)
        have k2 := impl_packing hd hsz (K := K) (lam := lam) (by omega)
        by_cases hpk : Pk d K lam
        · obtain ⟨l, hl, hm⟩ := load_ok hd
          have hcp : p_impl_copyLists d.Blocks = some d.Blocks := copy_ok (v := d.Points) (lam := lam) (budget := B) (all := []) (B0 := []) ⟨by omega, hp2, by omega, by omega, hB.1, hB.2, by simp, fun e he => by simp at he, by simp, fun e he => by simp at he⟩ (by omega) hsz.2
          have hal := all_len (v := d.Points) (k := K) (by omega) (by omega) hp2
          have hA1 := spec_all (v := d.Points) (k := K) (by omega) (by omega) hp2
          have hA2 := impl_all (v := d.Points) (k := K) (by omega) (by omega) hp2
          have hin : BtIn d.Points lam B (allSub d.Points K) d.Blocks := ⟨by omega, hp2, by omega, by omega, hB.1, hB.2, hal, fun e he => by
            have := (mem_all (by omega) (by omega) hp2).1 he
            exact ⟨this.2, by omega⟩, hln, hsz.2⟩
          have he := tri_eq d.Points d.Points.toNat
          have htm := tri_max hp2 d.Points.toNat (by omega)
          have ht0 := tri_mono (v := d.Points) (a := 0) (b := d.Points.toNat) (by omega) (by omega)
          rw [show tri d.Points 0 = 0 from rfl] at ht0
          rw [show ((d.Points.toNat : Nat) : Int) = d.Points by omega, show 2 * d.Points - d.Points - 1 = d.Points - 1 by omega] at he
          have ht : Int.tdiv (2 * tri d.Points d.Points.toNat) 2 = tri d.Points d.Points.toNat := by rw [Int.tdiv_eq_ediv_of_nonneg (by omega)]; omega
          have hmk : gMake 8 (0 : Int) (tri d.Points d.Points.toNat) (tri d.Points d.Points.toNat) = some (List.replicate (tri d.Points d.Points.toNat).toNat 0) := gMake_ok ht0 (by omega) (by omega)
          have hmu : gMake 1 false ((allSub d.Points K).length : Int) ((allSub d.Points K).length : Int) = some (List.replicate (allSub d.Points K).length false) := gMake_of (by omega) (by omega)
          obtain ⟨ps, hf, hinit⟩ := init_ok hd (lam := lam) (B := B) (first := first) (fun k a b => (hpk.1 k a b).1) (show 0 ≤ K by omega) (by omega)
          let x0 := T_spec_l28Search.mk d.Points lam (allSub d.Points K) (usedOf (allSub d.Points K) d.Blocks) ps [] 0 B 0 first []
          let y0 := T_impl_blocker.mk (T_impl_counter.mk B false) lam first l (allSub d.Points K) (usedOf (allSub d.Points K) d.Blocks) d.Blocks 0 0 []
          have hL : Live d.Points lam B first (allSub d.Points K) d.Blocks (usedOf (allSub d.Points K) d.Blocks) (cntM d.Blocks) [] x0 y0 :=
            ⟨⟨rfl, rfl, rfl, rfl, hf, rfl, rfl, rfl⟩, ⟨rfl, rfl, hm, rfl, rfl, by simp [y0]⟩, rfl, rfl, Int.le_refl _, by show (0 : Int) ≤ B; omega, Int.le_refl _, Int.le_refl _, by show B = B - 0; omega, rfl, fun _ => rfl, by simp⟩
          have hArgs : Args d.Points (allSub d.Points K).length (-1) 0 (-1) (-1) (-1) := fun c e p q r => by
            have := idx_nn hp2 p q r
            exact ⟨⟨fun h => by omega, fun h => by omega⟩, fun h => by omega⟩
          obtain ⟨ok, x', y', r1, r2, r3⟩ := sim hin 20000 fuel fuel (by unfold fuel; omega) (by unfold fuel; omega) _ _ _ x0 y0 (-1) 0 (-1) (-1) (-1) (used_len ..) (cnt_bdn hln) (by show (0 : Int) ≤ 0; omega) (by show B - 0 ≤ _; omega) hL hArgs
          have r1' : p_spec_l28Search_visit (T_spec_l28Search.mk d.Points lam (allSub d.Points K) (usedOf (allSub d.Points K) d.Blocks) ps [] 0 B 0 first []) (-1) 0 = some (ok, x') := r1
          have r2' : p_impl_blocker_search (T_impl_blocker.mk (T_impl_counter.mk B false) lam first l (allSub d.Points K) (usedOf (allSub d.Points K) d.Blocks) d.Blocks 0 0 []) (-1) (-1) (-1) = some y' := r2
          have eS : (if x'.qnodes > B then (5 : Int) else 0) = (if y'.qcounter.qspent = true then 5 else 0) := by
            rcases r3 with ⟨_, h, _⟩ | ⟨_, h⟩
            · rw [if_neg (by have := h.n1; omega), h.spent]; rfl
            · rcases h.stop with ⟨a, b⟩ | ⟨a, b, _⟩
              · rw [if_pos b, a]; rfl
              · rw [if_neg (by omega), a]; rfl
          by_cases hn : x'.qnodes > B
          · rw [if_pos hn] at eS
            have hsp : y'.qcounter.qspent = true := by
              cases h : y'.qcounter.qspent with
              | true => rfl
              | false => rw [h] at eS; simp at eS
            refine ⟨T_spec_l28Search.mk x'.qv x'.qlambda (allSub d.Points K) x'.qused x'.qpairs x'.qchosen x'.qnodes x'.qbudget x'.qcount x'.qfirst x'.qfound, 5, none, ?_, ?_, .inl ⟨by decide, rfl⟩⟩
            · simp (disch := omega) only [wr64, dec_t, dec_f, beq_t, beq_f, bne_t, bne_f, gIdx_ix, gNz_ok, gSl_from, gApp1, Option.bind_some, Option.map_some, cond_true, cond_false, Bool.not_true, Bool.not_false, List.length_set, Int.toNat_natCast, List.take_length, hok, in_ok, hask, k1.eq hpk, hA1, hmu, he, ht, hmk]
              rw [hinit]
              exact loop_end (by simp (disch := omega) only [wr64, dec_t, dec_f, beq_t, beq_f, bne_t, bne_f, gIdx_ix, gNz_ok, gSl_from, gApp1, Option.bind_some, Option.map_some, cond_true, cond_false, Bool.not_true, Bool.not_false, List.length_set, Int.toNat_natCast, List.take_length, p_spec_l28Run_b1, r1'])
            · simp (disch := omega) only [wr64, dec_t, dec_f, beq_t, beq_f, bne_t, bne_f, gIdx_ix, gNz_ok, gSl_from, gApp1, Option.bind_some, Option.map_some, cond_true, cond_false, Bool.not_true, Bool.not_false, List.length_set, Int.toNat_natCast, List.take_length, within_ok, hse, p_impl_completed_k2, hcs, k2.eq hpk, p_impl_completed_k1, hl, hA2, hcp]
              rw [used_impl hsz hal rfl]
              exact loop_end (by simp (disch := omega) only [wr64, dec_t, dec_f, beq_t, beq_f, bne_t, bne_f, gIdx_ix, gNz_ok, gSl_from, gApp1, Option.bind_some, Option.map_some, cond_true, cond_false, Bool.not_true, Bool.not_false, List.length_set, Int.toNat_natCast, List.take_length, p_impl_completed_b1, r2', hsp])
          · rw [if_neg hn] at eS
            have hsp : y'.qcounter.qspent = false := by
              cases h : y'.qcounter.qspent with
              | false => rfl
              | true => rw [h] at eS; simp at eS
            refine ⟨T_spec_l28Search.mk x'.qv x'.qlambda (allSub d.Points K) x'.qused x'.qpairs x'.qchosen x'.qnodes x'.qbudget x'.qcount x'.qfirst x'.qfound, 0, some (T_impl_blocker.mk (T_impl_counter.mk y'.qcounter.qleft false) y'.qlambda y'.qfirst y'.qload (allSub d.Points K) y'.qused y'.qblocks y'.qnodes y'.qcount y'.qfound), ?_, ?_, .inr ⟨rfl, _, rfl, ?_⟩⟩
            · simp (disch := omega) only [wr64, dec_t, dec_f, beq_t, beq_f, bne_t, bne_f, gIdx_ix, gNz_ok, gSl_from, gApp1, Option.bind_some, Option.map_some, cond_true, cond_false, Bool.not_true, Bool.not_false, List.length_set, Int.toNat_natCast, List.take_length, hok, in_ok, hask, k1.eq hpk, hA1, hmu, he, ht, hmk]
              rw [hinit]
              exact loop_end (by simp (disch := omega) only [wr64, dec_t, dec_f, beq_t, beq_f, bne_t, bne_f, gIdx_ix, gNz_ok, gSl_from, gApp1, Option.bind_some, Option.map_some, cond_true, cond_false, Bool.not_true, Bool.not_false, List.length_set, Int.toNat_natCast, List.take_length, p_spec_l28Run_b1, r1'])
            · simp (disch := omega) only [wr64, dec_t, dec_f, beq_t, beq_f, bne_t, bne_f, gIdx_ix, gNz_ok, gSl_from, gApp1, Option.bind_some, Option.map_some, cond_true, cond_false, Bool.not_true, Bool.not_false, List.length_set, Int.toNat_natCast, List.take_length, within_ok, hse, p_impl_completed_k2, hcs, k2.eq hpk, p_impl_completed_k1, hl, hA2, hcp]
              rw [used_impl hsz hal rfl]
              exact loop_end (by simp (disch := omega) only [wr64, dec_t, dec_f, beq_t, beq_f, bne_t, bne_f, gIdx_ix, gNz_ok, gSl_from, gApp1, Option.bind_some, Option.map_some, cond_true, cond_false, Bool.not_true, Bool.not_false, List.length_set, Int.toNat_natCast, List.take_length, p_impl_completed_b1, r2', hsp])
            · rcases r3 with ⟨_, h, _⟩ | ⟨_, h⟩
              · exact ⟨h.nn, h.cc, fun hf hc => absurd (h.live hf) hc⟩
              · rcases h.stop with ⟨a, b⟩ | ⟨a, b, c, _, _, e, l, f⟩
                · exact absurd b hn
                · exact ⟨c, h.cc, fun _ _ => ⟨rfl, hq.2.1, l, f, e⟩⟩
        · refine ⟨_, 6, _, by simp (disch := omega) only [wr64, dec_t, dec_f, beq_t, beq_f, bne_t, bne_f, gIdx_ix, gNz_ok, gSl_from, gApp1, Option.bind_some, Option.map_some, cond_true, cond_false, Bool.not_true, Bool.not_false, List.length_set, Int.toNat_natCast, List.take_length, hok, in_ok, hask, k1.ne hpk]; rfl, by simp (disch := omega) only [wr64, dec_t, dec_f, beq_t, beq_f, bne_t, bne_f, gIdx_ix, gNz_ok, gSl_from, gApp1, Option.bind_some, Option.map_some, cond_true, cond_false, Bool.not_true, Bool.not_false, List.length_set, Int.toNat_natCast, List.take_length, within_ok, hse, p_impl_completed_k2, hcs, k2.ne hpk], .inl ⟨by decide, rfl⟩⟩
    · have hse : p_impl_isSearched d.Points K lam = some false := by
        unfold p_impl_isSearched
        by_cases q1 : 2 ≤ d.Points ∧ d.Points ≤ 32
        · by_cases q2 : 2 ≤ K ∧ K ≤ d.Points
          · have q3 : ¬ (1 ≤ lam ∧ lam ≤ 128) := fun h => hq ⟨q1, q2, h⟩
            simp (disch := omega) only [wr64, dec_t, dec_f, beq_t, beq_f, bne_t, bne_f, gIdx_ix, gNz_ok, gSl_from, gApp1, Option.bind_some, Option.map_some, cond_true, cond_false, Bool.not_true, Bool.not_false, List.length_set, Int.toNat_natCast, List.take_length, within_ok]
          · simp (disch := omega) only [wr64, dec_t, dec_f, beq_t, beq_f, bne_t, bne_f, gIdx_ix, gNz_ok, gSl_from, gApp1, Option.bind_some, Option.map_some, cond_true, cond_false, Bool.not_true, Bool.not_false, List.length_set, Int.toNat_natCast, List.take_length, within_ok]
        · simp (disch := omega) only [wr64, dec_t, dec_f, beq_t, beq_f, bne_t, bne_f, gIdx_ix, gNz_ok, gSl_from, gApp1, Option.bind_some, Option.map_some, cond_true, cond_false, Bool.not_true, Bool.not_false, List.length_set, Int.toNat_natCast, List.take_length, within_ok]
      have hask : p_spec_l28Ask d.Points K lam = some 2 := by
        unfold p_spec_l28Ask
        by_cases q1 : 2 ≤ d.Points ∧ d.Points ≤ 32
        · by_cases q2 : 2 ≤ K ∧ K ≤ d.Points
          · have q3 : ¬ (1 ≤ lam ∧ lam ≤ 128) := fun h => hq ⟨q1, q2, h⟩
            simp (disch := omega) only [wr64, dec_t, dec_f, beq_t, beq_f, bne_t, bne_f, gIdx_ix, gNz_ok, gSl_from, gApp1, Option.bind_some, Option.map_some, cond_true, cond_false, Bool.not_true, Bool.not_false, List.length_set, Int.toNat_natCast, List.take_length, in_ok]
          · simp (disch := omega) only [wr64, dec_t, dec_f, beq_t, beq_f, bne_t, bne_f, gIdx_ix, gNz_ok, gSl_from, gApp1, Option.bind_some, Option.map_some, cond_true, cond_false, Bool.not_true, Bool.not_false, List.length_set, Int.toNat_natCast, List.take_length, in_ok]
        · simp (disch := omega) only [wr64, dec_t, dec_f, beq_t, beq_f, bne_t, bne_f, gIdx_ix, gNz_ok, gSl_from, gApp1, Option.bind_some, Option.map_some, cond_true, cond_false, Bool.not_true, Bool.not_false, List.length_set, Int.toNat_natCast, List.take_length, in_ok]
      refine ⟨_, 2, _, by simp (disch := omega) only [wr64, dec_t, dec_f, beq_t, beq_f, bne_t, bne_f, gIdx_ix, gNz_ok, gSl_from, gApp1, Option.bind_some, Option.map_some, cond_true, cond_false, Bool.not_true, Bool.not_false, List.length_set, Int.toNat_natCast, List.take_length, hok, in_ok, hask]; rfl, by simp (disch := omega) only [wr64, dec_t, dec_f, beq_t, beq_f, bne_t, bne_f, gIdx_ix, gNz_ok, gSl_from, gApp1, Option.bind_some, Option.map_some, cond_true, cond_false, Bool.not_true, Bool.not_false, List.length_set, Int.toNat_natCast, List.take_length, within_ok, hse, p_impl_completed_k2], .inl ⟨by decide, rfl⟩⟩
  · refine ⟨_, 2, _, by simp (disch := omega) only [wr64, dec_t, dec_f, beq_t, beq_f, bne_t, bne_f, gIdx_ix, gNz_ok, gSl_from, gApp1, Option.bind_some, Option.map_some, cond_true, cond_false, Bool.not_true, Bool.not_false, List.length_set, Int.toNat_natCast, List.take_length, hok, in_ok]; rfl, by simp (disch := omega) only [wr64, dec_t, dec_f, beq_t, beq_f, bne_t, bne_f, gIdx_ix, gNz_ok, gSl_from, gApp1, Option.bind_some, Option.map_some, cond_true, cond_false, Bool.not_true, Bool.not_false, List.length_set, Int.toNat_natCast, List.take_length, within_ok, p_impl_completed_k2], .inl ⟨by decide, rfl⟩⟩

theorem run_bad {d : T_impl_Design} (hd : ¬ ValidD d) (hsz : Sz2 d.Blocks) {K lam B : Int} {first : Bool} : ∃ x, p_spec_l28Run d K lam B first = some (x, 1) := by
  unfold p_spec_l28Run
  exact ⟨_, by simp (disch := omega) only [wr64, dec_t, dec_f, beq_t, beq_f, bne_t, bne_f, gIdx_ix, gNz_ok, gSl_from, gApp1, Option.bind_some, Option.map_some, cond_true, cond_false, Bool.not_true, Bool.not_false, List.length_set, Int.toNat_natCast, List.take_length, (ok_spec hsz).ne hd]; rfl⟩
theorem lm_design {d : T_impl_Design} (h : Sz2 d.Blocks) : Lm_T_impl_Design d := ⟨by have := h.1; unfold M63; omega, fun b hb => ⟨by have := h.2 b hb; unfold M63; omega, fun _ _ => trivial⟩⟩
end Go.Proofs.YtkgeocffngdeoaaGreat
