/- Marks on lists of integers, and on lists of such lists. -/
import Derived.Test.YtkgeocffngdeoaaGreatPuFam
namespace Go.Proofs.YtkgeocffngdeoaaGreat
open Go Go.Vc
set_option linter.unusedSimpArgs false

def marks (k : Int) (n : Nat) : List Int := (List.range n).map fun (j : Nat) => k + (j : Int)
theorem marks_len (k : Int) (n : Nat) : (marks k n).length = n := by unfold marks; simp
theorem marks_get {k : Int} {n j : Nat} (h : j < n) : (marks k n)[j]? = some (k + (j : Int)) := by
  unfold marks; rw [List.getElem?_map, List.getElem?_range h]; rfl
theorem mark_Int64S {xs : List Int} {k : Int} (h : xs.length ≤ 4194304) (h0 : 0 ≤ k) (h1 : k ≤ 1152921504606846976) : p_laws_markInt64S xs k = some (k + (xs.length : Int), marks k xs.length) := by
  unfold p_laws_markInt64S
  let f : Nat → Int × Int × List Int := fun j => (k + (j : Int), (j : Int), marks k j ++ xs.drop j)
  have e0 : f 0 = (k, 0, xs) := by simp [f, marks]
  have e1 : f xs.length = (k + (xs.length : Int), (xs.length : Int), marks k xs.length) := by simp only [f]; rw [List.drop_length, List.append_nil]
  rw [← e0, loop_to f xs.length fun j hj => ?_, e1]
  · refine loop_end ?_
    rw [p_laws_markInt64S_b1]
    have : decide ((xs.length : Int) < ((marks k xs.length).length : Int)) = false := by rw [marks_len]; simp
    rw [this]; rfl
  · obtain ⟨x, hx⟩ := get_some (xs := xs) (k := j) hj
    have hl : (marks k j ++ xs.drop j).length = xs.length := by rw [List.length_append, marks_len, List.length_drop]; omega
    have hc : (marks k j ++ xs.drop j)[j]? = some x := by
      rw [List.getElem?_append_right (by rw [marks_len]; omega), marks_len, Nat.sub_self, List.getElem?_drop]; simpa using hx
    simp only [f]
    rw [p_laws_markInt64S_b1]
    have : decide ((j : Int) < ((marks k j ++ xs.drop j).length : Int)) = true := by rw [hl]; simpa using hj
    rw [this, gIdx_of hc]
    simp only [cond_true, Option.bind_some]
    rw [wrapN hj (by unfold M63; omega), wrap64_of (by omega) (by omega), Int.toNat_natCast]
    have hs : (marks k j ++ xs.drop j).set j (k + (j : Int)) = marks k (j + 1) ++ xs.drop (j + 1) := by
      rw [List.set_append, if_neg (by rw [marks_len]; omega), marks_len, Nat.sub_self]
      have hd : xs.drop j = x :: xs.drop (j + 1) := by
        rw [List.drop_eq_getElem_cons hj]
        congr 1
        have := List.getElem?_eq_getElem (l := xs) (i := j) hj
        rw [hx] at this; exact (Option.some.inj this).symm
      rw [hd]
      unfold marks
      rw [List.range_succ, List.map_append]; simp
    rw [hs, show k + (j : Int) + 1 = k + ((j + 1 : Nat) : Int) by omega]
theorem held_Int64S {n : Nat} {k : Int} (h : n ≤ 4194304) (h0 : 0 ≤ k) (h1 : k ≤ 1152921504606846976) : p_laws_heldInt64S (marks k n) k = some (k + (n : Int)) := by
  unfold p_laws_heldInt64S
  let f : Nat → Int × Int := fun j => (k + (j : Int), (j : Int))
  have e0 : f 0 = (k, 0) := by simp [f]
  rw [← e0, loop_to f n fun j hj => ?_]
  · refine loop_end ?_
    simp only [f]
    rw [p_laws_heldInt64S_b1]
    have : decide ((n : Int) < ((marks k n).length : Int)) = false := by rw [marks_len]; simp
    rw [this]; rfl
  · simp only [f]
    rw [p_laws_heldInt64S_b1]
    have : decide ((j : Int) < ((marks k n).length : Int)) = true := by rw [marks_len]; simpa using hj
    rw [this, gIdx_of (marks_get hj)]
    simp only [cond_true, Option.bind_some]
    have hb : ((k + (j : Int)) != (k + (j : Int))) = false := by simp
    rw [hb]
    simp only [cond_false]
    rw [wrapN hj (by unfold M63; omega), wrap64_of (by omega) (by omega), show k + (j : Int) + 1 = k + ((j + 1 : Nat) : Int) by omega]
/-- The rows with their marks. -/
def marksR : Int → List (List Int) → List (List Int)
  | _, [] => []
  | k, r :: rs => marks k r.length :: marksR (k + r.length) rs
def total : List (List Int) → Nat
  | [] => 0
  | r :: rs => r.length + total rs
theorem total_le : ∀ (xs : List (List Int)), (∀ r ∈ xs, r.length ≤ 4194304) → total xs ≤ xs.length * 4194304
  | [], _ => by simp [total]
  | r :: rs, h => by
    have h1 := h r (List.mem_cons_self ..)
    have h2 := total_le rs fun x hx => h x (List.mem_cons_of_mem _ hx)
    simp only [total, List.length_cons]; omega
theorem marksR_len : ∀ (k : Int) (xs : List (List Int)), (marksR k xs).length = xs.length
  | _, [] => rfl
  | k, r :: rs => by simp [marksR, marksR_len]
theorem total_take {xs : List (List Int)} {j : Nat} {r : List Int} (h : xs[j]? = some r) : total (xs.take (j + 1)) = total (xs.take j) + r.length := by
  induction xs generalizing j with
  | nil => simp at h
  | cons x xs ih =>
    cases j with
    | zero => simp at h; subst h; simp [total]
    | succ j => simp only [List.take_succ_cons, total]; rw [ih (by simpa using h)]; omega
theorem marksR_get {xs : List (List Int)} {j : Nat} {r : List Int} (h : xs[j]? = some r) : ∀ k : Int, (marksR k xs)[j]? = some (marks (k + (total (xs.take j) : Int)) r.length) := by
  induction xs generalizing j with
  | nil => simp at h
  | cons x xs ih =>
    intro k
    cases j with
    | zero => simp at h; subst h; simp [marksR, total]
    | succ j =>
      simp only [marksR, List.getElem?_cons_succ, List.take_succ_cons, total]
      rw [ih (by simpa using h)]
      congr 2; omega
theorem total_mono (xs : List (List Int)) (j : Nat) : total (xs.take j) ≤ total xs := by
  induction xs generalizing j with
  | nil => simp [total]
  | cons x xs ih =>
    cases j with
    | zero => simp [total]
    | succ j => simp only [List.take_succ_cons, total]; have := ih j; omega
theorem mark_Int64SS {xs : List (List Int)} {k : Int} (h : xs.length ≤ 4194304) (hr : ∀ r ∈ xs, r.length ≤ 4194304) (h0 : 0 ≤ k) (h1 : k ≤ 576460752303423488) : p_laws_markInt64SS xs k = some (k + (total xs : Int), marksR k xs) := by
  have htot := total_le xs hr
  have htb : total xs ≤ 17592186044416 := Nat.le_trans htot (by omega)
  unfold p_laws_markInt64SS
  let f : Nat → Int × Int × List (List Int) := fun j => (k + (total (xs.take j) : Int), (j : Int), (marksR k xs).take j ++ xs.drop j)
  have e0 : f 0 = (k, 0, xs) := by simp [f, total]
  have e1 : f xs.length = (k + (total xs : Int), (xs.length : Int), marksR k xs) := by
    simp only [f]; rw [List.take_length, List.drop_length, List.append_nil, List.take_of_length_le (by rw [marksR_len]; omega)]
  rw [← e0, loop_to f xs.length fun j hj => ?_, e1]
  · refine loop_end ?_
    rw [p_laws_markInt64SS_b1]
    have : decide ((xs.length : Int) < ((marksR k xs).length : Int)) = false := by rw [marksR_len]; simp
    rw [this]; rfl
  · obtain ⟨r, hx⟩ := get_some (xs := xs) (k := j) hj
    have htl : ((marksR k xs).take j).length = j := by rw [List.length_take, marksR_len]; omega
    have hl : ((marksR k xs).take j ++ xs.drop j).length = xs.length := by rw [List.length_append, htl, List.length_drop]; omega
    have hc : ((marksR k xs).take j ++ xs.drop j)[j]? = some r := by
      rw [List.getElem?_append_right (by omega), htl, Nat.sub_self, List.getElem?_drop]; simpa using hx
    have htm := total_mono xs j
    simp only [f]
    rw [p_laws_markInt64SS_b1]
    have : decide ((j : Int) < (((marksR k xs).take j ++ xs.drop j).length : Int)) = true := by rw [hl]; simpa using hj
    rw [this, gIdx_of hc]
    simp only [cond_true, Option.bind_some]
    rw [mark_Int64S (hr r (List.mem_of_getElem? hx)) (by omega) (by omega)]
    simp only [Option.bind_some]
    rw [wrapN hj (by unfold M63; omega), Int.toNat_natCast]
    have hs : ((marksR k xs).take j ++ xs.drop j).set j (marks (k + (total (xs.take j) : Int)) r.length) = (marksR k xs).take (j + 1) ++ xs.drop (j + 1) := by
      rw [List.set_append, if_neg (by omega), htl, Nat.sub_self, List.take_add_one, marksR_get hx]
      have hd : xs.drop j = r :: xs.drop (j + 1) := by
        rw [List.drop_eq_getElem_cons hj]
        congr 1
        have := List.getElem?_eq_getElem (l := xs) (i := j) hj
        rw [hx] at this; exact (Option.some.inj this).symm
      rw [hd]; simp
    rw [hs, total_take hx, show k + (total (xs.take j) : Int) + (r.length : Int) = k + ((total (xs.take j) + r.length : Nat) : Int) by omega]
end Go.Proofs.YtkgeocffngdeoaaGreat
