import Derived.Test.YtocnokjekoglnaaGreatVcSw
namespace Go.Vc
set_option linter.unusedVariables false
set_option linter.unusedSimpArgs false
open Go
section
variable {ψ : CM} {h0 h : Heap} {os : List Ob} {α : Type}
theorem Hd.ext {h h' : Heap} {v u : Value} {i : Int} (hd : Hd h v i u) (hx : ExtH h h') : Hd h' v i u := by
  obtain ⟨a, n, c, e, hh⟩ := hd; exact ⟨a, n, c, e, CLe.ext hx _ _ hh⟩
end
end Go.Vc
