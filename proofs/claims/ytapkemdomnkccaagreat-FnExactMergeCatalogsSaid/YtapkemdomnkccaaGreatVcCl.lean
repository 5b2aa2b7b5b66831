import Derived.Test.YtapkemdomnkccaaGreatVcS3
namespace Go.Vc
set_option linter.unusedVariables false
set_option linter.unusedSimpArgs false
open Go
section
variable {ψ : CM} {h0 h : Heap} {os : List Ob} {α : Type}
theorem ZlW {E : El α} : E.zc.length = E.z := E.len (E.hz fun _ => none)
theorem Zuo {φ : CM} {E : El α} {L : Rws} {css : List (List Value)} {xs : List α} (h : AllR φ E L css xs) {k : Nat} (hk : k ≤ xs.length) : (css.take k).flatten.length = k * E.z := by
  obtain ⟨_, _, g⟩ := h.take k
  rw [g.flat, List.length_take, Nat.min_eq_left hk]
theorem Zvm {φ : CM} {E : El α} {L : Rws} {css : List (List Value)} {xs : List α} (h : AllR φ E L css xs) (k : Nat) : (css.drop k).flatten.length = (xs.length - k) * E.z := by
  obtain ⟨_, _, g⟩ := h.drop k
  rw [g.flat, List.length_drop]
theorem ZAN (css : List (List Value)) (k : Nat) : css.flatten = (css.take k).flatten ++ (css.drop k).flatten := by
  have := congrArg List.flatten (List.take_append_drop k css)
  rw [List.flatten_append] at this
  exact this.symm
theorem AllR.ends {φ : CM} {E : El α} : ∀ {a d : Nat}, a ≤ d → ∀ {L : Rws} {css : List (List Value)} {xs : List α}, AllR φ E L css xs → ∃ La Lb, (La ++ Lb).Sublist L ∧ AllR φ E La (css.take a) (xs.take a) ∧ AllR φ E Lb (css.drop d) (xs.drop d)
  | 0, d, _, L, css, xs, h => by
    obtain ⟨L', h1, h2⟩ := h.drop d
    exact ⟨[], L', h1, rfl, h2⟩
  | a + 1, 0, hd, _, _, _, _ => by omega
  | a + 1, d + 1, _, L, [], [], h => ⟨[], L, List.Sublist.refl _, rfl, h⟩
  | a + 1, d + 1, _, _, [], _ :: _, h => h.elim
  | a + 1, d + 1, _, _, _ :: _, [], h => h.elim
  | a + 1, d + 1, hd, _, _ :: _, _ :: _, ⟨L1, L2, h1, h2, h3⟩ => by
    obtain ⟨La, Lb, g1, g2, g3⟩ := AllR.ends (show a ≤ d by omega) h3
    exact ⟨L1 ++ La, Lb, by rw [h1, List.append_assoc]; exact g1.append_left _, ⟨L1, La, rfl, h2, g2⟩, g3⟩
end
end Go.Vc
