import Derived.Test.YtocnokjekoglnaaGreatVcS3
namespace Go.Vc
set_option linter.unusedVariables false
set_option linter.unusedSimpArgs false
open Go
section
variable {ψ : CM} {h0 h : Heap} {os : List Ob} {α : Type}
theorem AllR.ix {φ : CM} {E : El α} : ∀ {L : Rws} {css : List (List Value)} {xs : List α}, AllR φ E L css xs →
    ∃ Ls : List Rws, L = Ls.flatten ∧ Ls.length = xs.length ∧ css.length = xs.length ∧ ∀ (n : Nat) l c x, Ls[n]? = some l → css[n]? = some c → xs[n]? = some x → E.R φ l c x
  | _, [], [], h => ⟨[], h, rfl, rfl, fun n l c x h => by simp at h⟩
  | _, c :: cs, x :: xs, ⟨L1, L2, h1, h2, h3⟩ => by
    obtain ⟨Ls, g1, g2, g3, g4⟩ := AllR.ix h3
    refine ⟨L1 :: Ls, by rw [h1, g1]; simp, by simp [g2], by simp [g3], fun n l c' x' a b d => ?_⟩
    cases n with
    | zero => simp at a b d; subst a b d; exact h2
    | succ n => exact g4 n l c' x' (by simpa using a) (by simpa using b) (by simpa using d)
  | _, [], _ :: _, h => h.elim
  | _, _ :: _, [], h => h.elim
theorem AllR.singles {φ : CM} {E : El α} (hz : E.z = 1) : ∀ {L : Rws} {css : List (List Value)} {xs : List α}, AllR φ E L css xs → ∃ ds : List Value, css = ds.map fun d => [d]
  | _, [], [], _ => ⟨[], rfl⟩
  | _, c :: cs, x :: xs, ⟨L1, L2, h1, h2, h3⟩ => by
    obtain ⟨ds, rfl⟩ := AllR.singles hz h3
    have hl := E.len h2
    rw [hz] at hl
    match c, hl with
    | [d], _ => exact ⟨d :: ds, rfl⟩
  | _, [], _ :: _, h => h.elim
  | _, _ :: _, [], h => h.elim
theorem Zg0 : ∀ ds : List Value, (ds.map fun d => [d]).flatten = ds
  | [] => rfl
  | d :: ds => by rw [List.map_cons, List.flatten_cons, Zg0 ds]; rfl
end
end Go.Vc
