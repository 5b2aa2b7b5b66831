import Derived.Test.YtocnokjekoglnaaGreatPuLib
namespace Go.Vc
set_option linter.unusedVariables false
set_option linter.unusedSimpArgs false
open Go
theorem IsQ.not {o : Option Bool} {p : Prop} (h : IsQ o p) : IsQ (o.bind fun r => some (!r)) (¬ p) := by
  obtain ⟨c, rfl, h2⟩ := h
  exact ⟨!c, rfl, by cases c <;> simp_all⟩
end Go.Vc
namespace Go.Vc
set_option linter.unusedVariables false
open Go
def ix {α : Type} [Inhabited α] (xs : List α) (i : Int) : α := xs.getD i.toNat default
theorem Zjk {α : Type} [Inhabited α] {xs : List α} {i : Int} (h0 : 0 ≤ i) (h1 : i < (xs.length : Int)) : xs[i.toNat]? = some (ix xs i) := by
  have : i.toNat < xs.length := by omega
  unfold ix; rw [List.getD_eq_getElem?_getD, List.getElem?_eq_getElem this]; rfl
theorem Zjh {α : Type} [Inhabited α] {xs : List α} {i : Int} (h0 : 0 ≤ i) (h1 : i < (xs.length : Int)) : gIdx xs i = some (ix xs i) := by
  unfold gIdx; rw [if_pos h0, Zjk h0 h1]
theorem ZnY {α : Type} [Inhabited α] {xs : List α} {i : Int} (h0 : 0 ≤ i) (h1 : i < (xs.length : Int)) : ix xs i ∈ xs := List.mem_of_getElem? (Zjk h0 h1)
theorem wr64 {x : Int} (h1 : -9223372036854775808 ≤ x) (h2 : x ≤ 9223372036854775807) : IntKind.i64.wrap x = x := Zch h1 h2
theorem ZiY {b : Int} (h : ¬ b = 0) : gNz b = some () := by unfold gNz; rw [if_pos h]
theorem ZoL {α β : Type} {o o' : Option α} {f : α → Option β} (h : o = o') : o.bind f = o'.bind f := by rw [h]
theorem Zpd {α β : Type} {o o' : Option α} {f : α → β} (h : o = o') : o.map f = o'.map f := by rw [h]
theorem ZmH {α : Type} {c c' : Bool} {a b : α} (h : c = c') : cond c a b = cond c' a b := by rw [h]
attribute [congr] ZoL Zpd ZmH
section
variable {σ ρ : Type}
end
end Go.Vc
