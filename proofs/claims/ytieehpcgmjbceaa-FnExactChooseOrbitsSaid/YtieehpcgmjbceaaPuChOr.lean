/- The first choice: the program's and the reference's. -/
import Derived.Test.YtieehpcgmjbceaaPuChMain
import Derived.Test.YtieehpcgmjbceaaPuMark
namespace Go.Proofs.Ytieehpcgmjbceaa
open Go Go.Vc
set_option linter.unusedSimpArgs false
set_option linter.unusedVariables false

/-- What is found first has at most as many columns as there are. -/
theorem first_len {m : R2} {lam limit budget : Int} {n : Nat} : ∀ (r : Nat) (sums ch : List Int) (s : ChS), r ≤ n → ch.length + r ≤ n → s.first.length ≤ n → (goCh m lam limit budget n r sums ch s).first.length ≤ n
  | 0, _, ch, s, _, hc, hf => by
    unfold goCh
    simp only []
    cases (s.count == 0)
    · exact hf
    · simp only [cond_true]; omega
  | r + 1, sums, ch, s, hr, hc, hf => by
    have on : ∀ (low : Bool) (sums' ch' : List Int) (s' : ChS), ch'.length + r ≤ n → s'.first.length ≤ n → (onCh limit budget low (goCh m lam limit budget n r sums' ch') s').first.length ≤ n := by
      intro low sums' ch' s' hc' hf'
      unfold onCh
      cases (low || s'.full || s'.count == limit)
      · cases (s'.nodes == budget)
        · exact first_len r sums' ch' _ (by omega) hc' hf'
        · exact hf'
      · exact hf'
    unfold goCh
    simp only []
    refine on _ _ _ _ (by omega) ?_
    cases highB lam (addL sums (colOf m (n - (r + 1))))
    · exact on _ _ _ _ (by rw [List.length_append, List.length_singleton]; omega) hf
    · exact hf
theorem choose_eq {m : R2} {lam budget : Int} (h : OkL (OkL I64) m) : ∃ r, p_spec_ChooseOrbits m lam budget = some r ∧ p_impl_ChooseOrbits m lam budget = some r ∧ r.1.length ≤ 2000 := by
  unfold p_spec_ChooseOrbits p_impl_ChooseOrbits
  by_cases hc : Counts m
  · rw [(counts_spec h).eq hc, (counts_impl h).eq hc, budget_ok, budgetI_ok, lambda_ok, lambdaI_ok]
    simp only [Option.bind_some, Bool.not_true, cond_false]
    by_cases h1 : 1 ≤ budget ∧ budget ≤ 20000
    · rw [decide_eq_true h1]
      simp only [Bool.not_true, cond_false]
      by_cases h2 : 1 ≤ lam ∧ lam ≤ 2000
      · rw [decide_eq_true h2]
        simp only [Bool.not_true, cond_false]
        obtain ⟨n, hn⟩ := hc
        have hin : ChIn m n lam 1 budget := ⟨hn, h2.1, h2.2, by omega, by omega, h1.1, h1.2⟩
        obtain ⟨ch, later, e1⟩ := spec_search hin
        obtain ⟨sums, later', ch', e2⟩ := impl_choices hin
        unfold p_spec_ChooseOrbits_k1 p_impl_ChooseOrbits_k1 p_spec_l26First
        rw [e1, e2]
        simp only [Option.bind_some]
        have inv0 : ChInv 1 budget s0 := ⟨by show (0 : Int) ≤ 0; omega, by show (0 : Int) ≤ 1; omega, by show (0 : Int) ≤ 0; omega, by show (0 : Int) ≤ budget; omega⟩
        have hfl : (sEnd m n lam 1 budget).full = true → (sEnd m n lam 1 budget).count < 1 := by
          unfold sEnd
          cases reach m lam
          · intro hh; cases hh
          · exact full_lt n _ _ s0 inv0 (by show (0 : Int) < 1; omega) rfl
        have hinv : ChInv 1 budget (sEnd m n lam 1 budget) := by
          unfold sEnd
          cases reach m lam
          · exact inv0
          · exact goCh_inv n _ _ s0 inv0 (by show (0 : Int) < 1; omega)
        have hlen : (sEnd m n lam 1 budget).first.length ≤ n := by
          unfold sEnd
          cases reach m lam
          · exact Nat.zero_le _
          · exact first_len n _ _ s0 (Nat.le_refl _) (by simp) (Nat.zero_le _)
        have hn2 := hn.2.2.1
        have c0 := hinv.c0
        cases hf : (sEnd m n lam 1 budget).full
        · by_cases hz : (sEnd m n lam 1 budget).count = 0
          · refine ⟨([], 3), ?_, ?_, by simp⟩
            · rw [hz]; rfl
            · have : ((sEnd m n lam 1 budget).count == 0) = true := by simpa using hz
              simp only [cond_false]
              rw [this]; rfl
          · refine ⟨((sEnd m n lam 1 budget).first, 0), ?_, ?_, by show (sEnd m n lam 1 budget).first.length ≤ 2000; omega⟩
            · rw [decide_eq_true (show (sEnd m n lam 1 budget).count > 0 by omega)]; rfl
            · have : ((sEnd m n lam 1 budget).count == 0) = false := by simpa using hz
              simp only [cond_false]
              rw [this]; rfl
        · have hlt := hfl hf
          refine ⟨([], 5), ?_, rfl, by simp⟩
          rw [decide_eq_false (show ¬ (sEnd m n lam 1 budget).count > 0 by omega)]; rfl
      · rw [decide_eq_false h2]; exact ⟨_, rfl, rfl, by simp⟩
    · rw [decide_eq_false h1]; exact ⟨_, rfl, rfl, by simp⟩
  · rw [(counts_spec h).ne hc, (counts_impl h).ne hc]
    exact ⟨_, rfl, rfl, by simp⟩
theorem law_FnExactChooseOrbits {m : R2} {lam budget : Int} (hm : OkL (OkL I64) m) (_ : I64 lam) (_ : I64 budget) : p_laws_FnExactChooseOrbits m lam budget = some true := by
  unfold p_laws_FnExactChooseOrbits
  obtain ⟨r, hr, c⟩ := sz_Int64SS m 1048576 hm (by omega) (by omega)
  rw [hr]
  simp only [Option.bind_some]
  rcases c with rfl | ⟨r0, r1, sa⟩
  · rfl
  have d0 : decide (r < 0) = false := by simpa using r0
  rw [d0]
  simp only [cond_false]
  have hto : p_laws_toInt64SS m = some m := by rw [to_Int64SS sa, map_id2]
  rw [hto]
  simp only [Option.bind_some]
  obtain ⟨q, e1, e2, hq⟩ := choose_eq (lam := lam) (budget := budget) hm
  rw [e1, e2]
  simp only [Option.bind_some]
  have hL : OkL (OkL fun _ => True) m := ⟨hm.1, fun x hx => ⟨(hm.2 x hx).1, fun _ _ => trivial⟩⟩
  have hQ : OkL (fun _ => True) q.1 := ⟨by unfold M63; omega, fun _ _ => trivial⟩
  have ne : ∀ x : Int, (x != x) = false := fun x => by simp
  have hk3 : p_laws_FnExactChooseOrbits_k3 (1 + (q.1.length : Int), marks 1 q.1.length) = some true := by
    unfold p_laws_FnExactChooseOrbits_k3
    simp only []
    rw [held_Int64S (by omega) (by omega) (by omega)]
    simp only [Option.bind_some]
    rw [decide_eq_false (show ¬ (1 + (q.1.length : Int) < 0) by omega), ne]
    rfl
  have hk2 : p_laws_FnExactChooseOrbits_k2 m lam budget q q = some true := by
    unfold p_laws_FnExactChooseOrbits_k2
    rw [mark_Int64S (by omega) (by omega) (by omega)]
    simp only [Option.bind_some]
    rw [held_Int64S (by omega) (by omega) (by omega)]
    simp only [Option.bind_some]
    rw [decide_eq_false (show ¬ (1 + (q.1.length : Int) < 0) by omega), ne]
    simp only [cond_false]
    rw [hto]
    simp only [Option.bind_some]
    rw [e2]
    simp only [Option.bind_some]
    rw [(eq_Int64S hQ).eq rfl]
    simp only [Option.bind_some, Bool.not_true, cond_false]
    rw [ne]
    exact hk3
  have hk1 : p_laws_FnExactChooseOrbits_k1 m lam budget q m q = some true := by
    unfold p_laws_FnExactChooseOrbits_k1
    rw [hto]
    simp only [Option.bind_some]
    rw [(eq_Int64SS hL).eq rfl]
    simp only [Option.bind_some, Bool.not_true, cond_false]
    rw [mark_Int64SS (by have := sa.1; omega) (fun r hr => by have := (sa.2 r hr).1; omega) (by omega) (by omega)]
    simp only [Option.bind_some]
    rw [decide_eq_false (show ¬ (1 + (total m : Int) < 0) by omega)]
    simp only [cond_false]
    rw [(eq_Int64S hQ).eq rfl]
    simp only [Option.bind_some, Bool.not_true, cond_false]
    rw [ne]
    exact hk2
  rw [(eq_Int64S hQ).eq rfl]
  simp only [Option.bind_some, Bool.not_true, cond_false]
  rw [ne]
  exact hk1
end Go.Proofs.Ytieehpcgmjbceaa
