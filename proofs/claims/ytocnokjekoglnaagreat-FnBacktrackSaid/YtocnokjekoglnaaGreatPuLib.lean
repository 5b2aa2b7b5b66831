import Derived.Test.YtocnokjekoglnaaGreatPuBase
import Derived.Test.YtocnokjekoglnaaGreatVcLib
namespace Go.Vc
set_option linter.unusedVariables false
set_option linter.unusedSimpArgs false
open Go
def M63 : Nat := 9223372036854775807
def IsQ (o : Option Bool) (p : Prop) : Prop := ∃ c, o = some c ∧ (c = true ↔ p)
theorem IsQ.t {p : Prop} (h : p) : IsQ (some true) p := ⟨true, rfl, by simp [h]⟩
theorem IsQ.f {p : Prop} (h : ¬ p) : IsQ (some false) p := ⟨false, rfl, by simp [h]⟩
theorem IsQ.eq {o : Option Bool} {p : Prop} (h : IsQ o p) (hp : p) : o = some true := by
  obtain ⟨c, h1, h2⟩ := h; rw [h1, h2.2 hp]
theorem IsQ.congr {o : Option Bool} {p q : Prop} (h : IsQ o p) (hpq : p ↔ q) : IsQ o q := by
  obtain ⟨c, h1, h2⟩ := h; exact ⟨c, h1, h2.trans hpq⟩
def OkL {α : Type} (ok : α → Prop) (l : List α) : Prop := l.length ≤ M63 ∧ ∀ x ∈ l, ok x
end Go.Vc
