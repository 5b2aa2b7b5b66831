/- Plain lemmas on loops that look for something. -/
import Derived.Test.YtkgeocffngdeoaaGreatPuLib
namespace Go.Vc
open Go

/-- A loop that looks for the first element with a property. -/
theorem idx_loop {α : Type} {xs : List α} {f : α → Option Bool} {q : α → Prop} {B : Int → Option (Int ⊕ Int)} (hN : xs.length ≤ M63) (hf : ∀ x ∈ xs, IsQ (f x) (q x))
    (hs : ∀ (k : Nat) x, xs[k]? = some x → B (k : Int) = (f x).bind fun r => bif r then some (.inr (k : Int)) else some (.inl (IntKind.i64.wrap ((k : Int) + 1)))) (he : B (xs.length : Int) = some (.inr (-1))) :
    ∃ i : Int, loop B 0 = some i ∧ ((i = -1 ∧ ∀ x ∈ xs, ¬ q x) ∨ ∃ (k : Nat) (x : α), i = (k : Int) ∧ xs[k]? = some x ∧ q x ∧ ∀ (j : Nat) y, j < k → xs[j]? = some y → ¬ q y) := by
  have key : ∀ (d k : Nat), k + d = xs.length → (∀ (j : Nat) y, j < k → xs[j]? = some y → ¬ q y) →
      ∃ i : Int, loop B (k : Int) = some i ∧ ((i = -1 ∧ ∀ x ∈ xs, ¬ q x) ∨ ∃ (k : Nat) (x : α), i = (k : Int) ∧ xs[k]? = some x ∧ q x ∧ ∀ (j : Nat) y, j < k → xs[j]? = some y → ¬ q y) := by
    intro d
    induction d with
    | zero =>
      intro k hk ha
      obtain rfl : k = xs.length := by omega
      refine ⟨-1, loop_end he, .inl ⟨rfl, fun x hx => ?_⟩⟩
      obtain ⟨j, hj⟩ := List.getElem?_of_mem hx
      exact ha j x (get_lt hj) hj
    | succ d ih =>
      intro k hk ha
      obtain ⟨x, hx⟩ := get_some (xs := xs) (k := k) (by omega)
      obtain ⟨c, hc, hq⟩ := hf x (List.mem_of_getElem? hx)
      have hB := hs k x hx
      rw [hc] at hB
      cases c with
      | true => exact ⟨k, loop_end hB, .inr ⟨k, x, rfl, hx, hq.1 rfl, ha⟩⟩
      | false =>
        have hB' : B (k : Int) = some (.inl ((k + 1 : Nat) : Int)) := by rw [hB, ← wrapN (n := xs.length) (by omega) hN]; rfl
        rw [loop_go hB']
        refine ih (k + 1) (by omega) fun j y hj hy => ?_
        by_cases hjk : j = k
        · subst hjk; rw [hx] at hy; cases hy
          exact fun h => absurd (hq.2 h) (by simp)
        · exact ha j y (by omega) hy
  exact key xs.length 0 (by omega) fun j y hj => by omega
theorem contains_loop {α : Type} {xs : List α} {f : α → Option Bool} {q : α → Prop} {B : Int → Option (Int ⊕ Int)} (hN : xs.length ≤ M63) (hf : ∀ x ∈ xs, IsQ (f x) (q x))
    (hs : ∀ (k : Nat) x, xs[k]? = some x → B (k : Int) = (f x).bind fun r => bif r then some (.inr (k : Int)) else some (.inl (IntKind.i64.wrap ((k : Int) + 1)))) (he : B (xs.length : Int) = some (.inr (-1))) :
    IsQ ((loop B 0).bind fun r => some (decide (r ≥ 0))) (∃ x ∈ xs, q x) := by
  obtain ⟨i, h1, h2⟩ := idx_loop hN hf hs he
  rw [h1]
  rcases h2 with ⟨rfl, h2⟩ | ⟨k, x, rfl, hx, hq, _⟩
  · exact IsQ.f fun ⟨x, hx, hq⟩ => h2 x hx hq
  · have : decide ((k : Int) ≥ 0) = true := by simp
    simp only [Option.bind_some]
    rw [this]
    exact IsQ.t ⟨x, List.mem_of_getElem? hx, hq⟩
theorem IsQ.not {o : Option Bool} {p : Prop} (h : IsQ o p) : IsQ (o.bind fun r => some (!r)) (¬ p) := by
  obtain ⟨c, rfl, h2⟩ := h
  exact ⟨!c, rfl, by cases c <;> simp_all⟩
/-- A loop that ends at the first element without a property; else goes to its end. -/
theorem all_loop {α ρ : Type} {xs : List α} {q : α → Prop} {B : Int → Option (Int ⊕ ρ)} {t f : ρ} (hN : xs.length ≤ M63)
    (hs : ∀ (k : Nat) x, xs[k]? = some x → Step (B (k : Int)) k f (q x)) (he : B (xs.length : Int) = some (.inr t)) : ∃ c : Bool, loop B 0 = some (bif c then t else f) ∧ (c = true ↔ ∀ x ∈ xs, q x) := by
  have key : ∀ (d k : Nat), k + d = xs.length → (∀ (j : Nat) y, j < k → xs[j]? = some y → q y) → ∃ c : Bool, loop B (k : Int) = some (bif c then t else f) ∧ (c = true ↔ ∀ x ∈ xs, q x) := by
    intro d
    induction d with
    | zero =>
      intro k hk ha
      obtain rfl : k = xs.length := by omega
      have hall : ∀ x ∈ xs, q x := fun x hx => by
        obtain ⟨j, hj⟩ := List.getElem?_of_mem hx
        exact ha j x (get_lt hj) hj
      exact ⟨true, loop_end he, by simp; exact hall⟩
    | succ d ih =>
      intro k hk ha
      obtain ⟨x, hx⟩ := get_some (xs := xs) (k := k) (by omega)
      obtain ⟨c, hc, hB⟩ := hs k x hx
      cases c with
      | false => exact ⟨false, loop_end hB, ⟨(fun h => by cases h), fun h => absurd (hc.2 (h x (List.mem_of_getElem? hx))) (by simp)⟩⟩
      | true =>
        have hB' : B (k : Int) = some (.inl ((k + 1 : Nat) : Int)) := by rw [hB, ← wrapN (n := xs.length) (by omega) hN]; rfl
        rw [loop_go hB']
        refine ih (k + 1) (by omega) fun j y hj hy => ?_
        by_cases hjk : j = k
        · subst hjk; rw [hx] at hy; cases hy
          exact hc.1 rfl
        · exact ha j y (by omega) hy
  exact key xs.length 0 (by omega) fun j y hj => by omega
theorem bif_f {α : Type} {p : Prop} [Decidable p] {a b : α} (h : ¬ p) : (bif decide p then a else b) = b := by rw [decide_eq_false h]; rfl
theorem bif_t {α : Type} {p : Prop} [Decidable p] {a b : α} (h : p) : (bif decide p then a else b) = a := by rw [decide_eq_true h]; rfl

end Go.Vc
