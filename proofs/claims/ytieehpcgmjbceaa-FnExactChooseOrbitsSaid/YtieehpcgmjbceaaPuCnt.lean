/- Matrices of numbers of sets; the numbers of choices. -/
import Derived.Test.YtieehpcgmjbceaaPuCho
import Derived.Test.YtieehpcgmjbceaaPuStd
namespace Go.Proofs.Ytieehpcgmjbceaa
open Go Go.Vc
set_option linter.unusedSimpArgs false
set_option linter.unusedVariables false

theorem in_ok {x a b : Int} : p_spec_l00In x a b = some (decide (a ≤ x ∧ x ≤ b)) := by
  unfold p_spec_l00In
  by_cases h1 : x ≥ a
  · rw [bif_t h1]; by_cases h2 : x ≤ b <;> simp [h1, h2] <;> omega
  · rw [bif_f h1]; simp; omega
theorem within_ok {x a b : Int} : p_impl_within x a b = some (decide (a ≤ x ∧ x ≤ b)) := by
  unfold p_impl_within
  by_cases h1 : x ≥ a
  · rw [bif_t h1]; by_cases h2 : x ≤ b <;> simp [h1, h2] <;> omega
  · rw [bif_f h1]; simp; omega
theorem budget_ok {x : Int} : p_spec_l09Budget x = some (decide (1 ≤ x ∧ x ≤ 20000)) := by unfold p_spec_l09Budget; rw [in_ok]; rfl
theorem budgetI_ok {x : Int} : p_impl_isBudget x = some (decide (1 ≤ x ∧ x ≤ 20000)) := by unfold p_impl_isBudget; rw [within_ok]; rfl
theorem lambda_ok {x : Int} : p_spec_l26Lambda x = some (decide (1 ≤ x ∧ x ≤ 2000)) := by unfold p_spec_l26Lambda; rw [in_ok]; rfl
theorem lambdaI_ok {x : Int} : p_impl_isLambda x = some (decide (1 ≤ x ∧ x ≤ 2000)) := by unfold p_impl_isLambda; rw [within_ok]; rfl

def Counts (m : R2) : Prop := ∃ n, CountsN m n
theorem counts_spec {m : R2} (h : OkL (OkL I64) m) : IsQ (p_spec_l26Ok m) (Counts m) := by
  unfold p_spec_l26Ok
  by_cases h1 : (m.length : Int) < 1
  · rw [bif_t h1]; exact IsQ.f fun ⟨n, hn⟩ => by have := hn.1; omega
  rw [bif_f h1]
  by_cases h2 : (m.length : Int) > 2000
  · rw [bif_t h2]; exact IsQ.f fun ⟨n, hn⟩ => by have := hn.2.1; omega
  rw [bif_f h2]
  unfold p_spec_l26Ok_k1
  obtain ⟨r0, e0⟩ := get_some (xs := m) (k := 0) (by omega)
  obtain ⟨c, hc, hq⟩ := all_loop (xs := m) (B := p_spec_l26Ok_b1 m) (t := true) (f := false) (q := fun r => r.length = r0.length ∧ r.length ≤ 2000 ∧ ∀ x ∈ r, 0 ≤ x ∧ x ≤ 2000) h.1 (fun k r er => by
    rw [p_spec_l26Ok_b1, lt_t (get_lt er), gIdx_of er, show gIdx m 0 = some r0 from gIdx_of (k := 0) e0]
    simp only [cond_true, Option.bind_some]
    by_cases g1 : r.length = r0.length
    · have : (((r.length : Int) : Int) != (r0.length : Int)) = false := by simp [g1]
      rw [this]
      simp only [cond_false]
      by_cases g2 : (r.length : Int) > 2000
      · rw [bif_t g2]; exact step_of (c := false) ⟨(fun h => by cases h), fun h => by have := h.2.1; omega⟩ rfl
      rw [bif_f g2]
      unfold p_spec_l26Ok_k2
      obtain ⟨c, hc, hq⟩ := all_loop (xs := r) (B := p_spec_l26Ok_b2 m (k : Int)) (t := .inl (IntKind.i64.wrap ((k : Int) + 1))) (f := .inr false) (q := fun x => 0 ≤ x ∧ x ≤ 2000) (h.2 r (List.mem_of_getElem? er)).1 (fun j x ex => by
        rw [p_spec_l26Ok_b2, gIdx_of er]
        simp only [Option.bind_some]
        rw [lt_t (get_lt ex), gIdx_of ex]
        simp only [cond_true, Option.bind_some]
        rw [in_ok]
        simp only [Option.bind_some]
        refine step_of (c := decide (0 ≤ x ∧ x ≤ 2000)) (by simp) ?_
        cases decide (0 ≤ x ∧ x ≤ 2000) <;> rfl) (by
        rw [p_spec_l26Ok_b2, gIdx_of er]
        simp only [Option.bind_some]
        rw [lt_f]; rfl)
      rw [hc]
      refine step_of (c := c) ⟨fun h => ⟨g1, by omega, hq.1 h⟩, fun h => hq.2 h.2.2⟩ ?_
      cases c <;> rfl
    · have : (((r.length : Int) : Int) != (r0.length : Int)) = true := by simp; omega
      rw [this]
      exact step_of (c := false) ⟨(fun h => by cases h), fun h => absurd h.1 g1⟩ rfl) (by rw [p_spec_l26Ok_b1, lt_f]; rfl)
  refine ⟨c, by rw [hc]; cases c <;> rfl, hq.trans ⟨fun ha => ?_, fun ⟨n, hn⟩ r hr => ?_⟩⟩
  · have h0 := ha r0 (List.mem_of_getElem? e0)
    exact ⟨r0.length, by omega, by omega, h0.2.1, fun r hr => ⟨(ha r hr).1, (ha r hr).2.2⟩⟩
  · have a1 := hn.2.2.2 r hr
    have a2 := hn.2.2.2 r0 (List.mem_of_getElem? e0)
    have a3 := hn.2.2.1
    exact ⟨by omega, by omega, a1.2⟩
theorem areIn_ok {n : Int} {l : List Int} (h : OkL I64 l) (h1 : 1 ≤ n) (h2 : n ≤ 100000) : IsQ (p_impl_areIn n l) (∀ x ∈ l, 0 ≤ x ∧ x ≤ n - 1) := by
  unfold p_impl_areIn p_slices_ContainsFunc_Lint64_int64
  unfold p_slices_IndexFunc_Lint64_int64
  have hc := contains_loop (xs := l) (B := p_slices_IndexFunc_Lint64_int64_b1 l (fun y0 => p_impl_areIn_1 y0 n)) (f := fun y0 => p_impl_areIn_1 y0 n) (q := fun x => ¬ (0 ≤ x ∧ x ≤ n - 1)) h.1 (fun x hx => by
    unfold p_impl_areIn_1
    rw [within_ok, wr (by omega) (by omega)]
    exact IsQ.not ⟨_, rfl, by simp⟩) (fun k x ex => by
    rw [p_slices_IndexFunc_Lint64_int64_b1, lt_t (get_lt ex), gIdx_of ex]
    simp only [cond_true, Option.bind_some]) (by rw [p_slices_IndexFunc_Lint64_int64_b1, lt_f]; rfl)
  exact hc.not.congr ⟨fun hn x hx => Classical.byContradiction fun hh => hn ⟨x, hx, hh⟩, fun ha ⟨x, hx, hh⟩ => hh (ha x hx)⟩
theorem counts_impl {m : R2} (h : OkL (OkL I64) m) : IsQ (p_impl_isCounts m) (Counts m) := by
  unfold p_impl_isCounts
  rw [show p_impl_size_Lint64 m = some (m.length : Int) from rfl]
  simp only [Option.bind_some]
  rw [within_ok]
  simp only [Option.bind_some]
  by_cases h1 : 1 ≤ (m.length : Int) ∧ (m.length : Int) ≤ 2000
  · rw [decide_eq_true h1]
    simp only [Bool.not_true, cond_false]
    obtain ⟨r0, e0⟩ := get_some (xs := m) (k := 0) (by omega)
    rw [show gIdx m 0 = some r0 from gIdx_of (k := 0) e0]
    simp only [Option.bind_some]
    by_cases h2 : (r0.length : Int) > 2000
    · rw [bif_t h2]; exact IsQ.f fun ⟨n, hn⟩ => by have := hn.2.2.1; have := (hn.2.2.2 r0 (List.mem_of_getElem? e0)).1; omega
    rw [bif_f h2]
    unfold p_impl_isCounts_k1 p_slices_ContainsFunc_LLint64_Lint64 p_slices_IndexFunc_LLint64_Lint64
    have hc := contains_loop (xs := m) (B := p_slices_IndexFunc_LLint64_Lint64_b1 m (fun y0 => p_impl_isCounts_1 y0 m)) (f := fun y0 => p_impl_isCounts_1 y0 m) (q := fun r => ¬ (r.length = r0.length ∧ ∀ x ∈ r, 0 ≤ x ∧ x ≤ 2000)) h.1 (fun r hr => by
      unfold p_impl_isCounts_1
      rw [show gIdx m 0 = some r0 from gIdx_of (k := 0) e0]
      simp only [Option.bind_some]
      by_cases g1 : r.length = r0.length
      · have : (((r.length : Int) : Int) != (r0.length : Int)) = false := by simp [g1]
        rw [this]
        simp only [cond_false]
        exact (areIn_ok (h.2 r hr) (by omega) (by omega)).not.congr ⟨fun hn ha => hn ha.2, fun hn ha => hn ⟨g1, ha⟩⟩
      · have : (((r.length : Int) : Int) != (r0.length : Int)) = true := by simp; omega
        rw [this]
        exact IsQ.t fun ha => g1 ha.1) (fun k x ex => by
      rw [p_slices_IndexFunc_LLint64_Lint64_b1, lt_t (get_lt ex), gIdx_of ex]
      simp only [cond_true, Option.bind_some]) (by rw [p_slices_IndexFunc_LLint64_Lint64_b1, lt_f]; rfl)
    refine hc.not.congr ⟨fun hn => ?_, fun ⟨n, hn⟩ ⟨r, hr, hh⟩ => hh ?_⟩
    · have ha : ∀ r ∈ m, r.length = r0.length ∧ ∀ x ∈ r, 0 ≤ x ∧ x ≤ 2000 := fun r hr => Classical.byContradiction fun hh => hn ⟨r, hr, hh⟩
      exact ⟨r0.length, by omega, by omega, by omega, ha⟩
    · have a1 := hn.2.2.2 r hr
      have a2 := hn.2.2.2 r0 (List.mem_of_getElem? e0)
      exact ⟨by omega, a1.2⟩
  · rw [decide_eq_false h1]
    exact IsQ.f fun ⟨n, hn⟩ => h1 ⟨by have := hn.1; omega, by have := hn.2.1; omega⟩
end Go.Proofs.Ytieehpcgmjbceaa
