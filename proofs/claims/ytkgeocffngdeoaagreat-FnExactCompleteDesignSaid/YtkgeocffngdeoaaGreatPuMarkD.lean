/- Marks on designs. -/
import Derived.Test.YtkgeocffngdeoaaGreatPuMark
namespace Go.Proofs.YtkgeocffngdeoaaGreat
open Go Go.Vc
set_option linter.unusedSimpArgs false

theorem held_Int64SS {xs : List (List Int)} {k : Int} (h : xs.length ≤ 4194304) (hr : ∀ r ∈ xs, r.length ≤ 4194304) (h0 : 0 ≤ k) (h1 : k ≤ 576460752303423488) : p_laws_heldInt64SS (marksR k xs) k = some (k + (total xs : Int)) := by
  have htot := total_le xs hr
  have htb : total xs ≤ 17592186044416 := Nat.le_trans htot (by omega)
  unfold p_laws_heldInt64SS
  let f : Nat → Int × Int := fun j => (k + (total (xs.take j) : Int), (j : Int))
  have e0 : f 0 = (k, 0) := by simp [f, total]
  have e1 : f xs.length = (k + (total xs : Int), (xs.length : Int)) := by simp only [f]; rw [List.take_length]
  rw [← e0, loop_to f xs.length fun j hj => ?_, e1]
  · refine loop_end ?_
    rw [p_laws_heldInt64SS_b1]
    have : decide ((xs.length : Int) < ((marksR k xs).length : Int)) = false := by rw [marksR_len]; simp
    rw [this]; rfl
  · obtain ⟨r, hx⟩ := get_some (xs := xs) (k := j) hj
    have htm := total_mono xs j
    have htm2 := total_mono xs (j + 1)
    simp only [f]
    rw [p_laws_heldInt64SS_b1]
    have : decide ((j : Int) < ((marksR k xs).length : Int)) = true := by rw [marksR_len]; simpa using hj
    rw [this, gIdx_of (marksR_get hx k)]
    simp only [cond_true, Option.bind_some]
    rw [held_Int64S (hr r (List.mem_of_getElem? hx)) (by omega) (by omega)]
    simp only [Option.bind_some]
    have hneg : decide (k + (total (xs.take j) : Int) + (r.length : Int) < 0) = false := by simp; omega
    rw [hneg]
    simp only [cond_false]
    rw [wrapN hj (by unfold M63; omega), total_take hx, show k + (total (xs.take j) : Int) + (r.length : Int) = k + ((total (xs.take j) + r.length : Nat) : Int) by omega]
theorem mark_Design {p : Int} {xs : List (List Int)} (h : xs.length ≤ 4194304) (hr : ∀ r ∈ xs, r.length ≤ 4194304) : p_laws_markDesign (T_impl_Design.mk p xs) 1 = some (1 + (total xs : Int), T_impl_Design.mk p (marksR 1 xs)) := by
  unfold p_laws_markDesign
  simp only
  rw [mark_Int64SS h hr (by omega) (by omega)]; rfl
theorem held_Design {p : Int} {xs : List (List Int)} (h : xs.length ≤ 4194304) (hr : ∀ r ∈ xs, r.length ≤ 4194304) : p_laws_heldDesign (T_impl_Design.mk p (marksR 1 xs)) 1 = some (1 + (total xs : Int)) := by
  unfold p_laws_heldDesign
  simp only
  rw [held_Int64SS h hr (by omega) (by omega)]
  simp only [Option.bind_some]
  have hneg : decide (1 + (total xs : Int) < 0) = false := by simp; omega
  rw [hneg]; rfl
end Go.Proofs.YtkgeocffngdeoaaGreat
