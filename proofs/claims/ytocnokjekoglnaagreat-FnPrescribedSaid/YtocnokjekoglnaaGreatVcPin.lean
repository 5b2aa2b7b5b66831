import Derived.Test.YtocnokjekoglnaaGreatVcMap
namespace Go.Vc
set_option linter.unusedVariables false
set_option linter.unusedSimpArgs false
open Go
section
variable {ψ : CM} {h0 h : Heap} {os : List Ob} {α : Type}
def PinL {α : Type} (φ : CM) (E : El α) (ps : List (Nat × Value)) (L : Rws) (v : Value) (xss : List (List α)) : Prop :=
  (v = .slice none 0 0 ∧ xss = [] ∧ L = []) ∨ ∃ b c pre css rest Lr, v = .slice (some ⟨b, pre.length, none⟩) xss.length c ∧ xss.length ≤ c ∧ (c - xss.length) * 1 ≤ rest.length ∧ L = (b, .cs (pre ++ css.flatten ++ rest)) :: Lr ∧ AllR φ (El.ow E) Lr css xss ∧ ∀ p ∈ ps, css[p.1]? = some [p.2]
theorem PinL.own {E : El α} {ps : List (Nat × Value)} {φ : CM} {L : Rws} {v : Value} {xss : List (List α)} (h : PinL φ E ps L v xss) : OwnL φ (El.ow E) L v xss := by
  rcases h with h | ⟨b, c, pre, css, rest, Lr, g1, g2, g3, g4, g5, _⟩
  · exact .inl h
  · exact .inr ⟨b, c, pre, css, rest, Lr, g1, g2, g3, g4, g5⟩
end
end Go.Vc
