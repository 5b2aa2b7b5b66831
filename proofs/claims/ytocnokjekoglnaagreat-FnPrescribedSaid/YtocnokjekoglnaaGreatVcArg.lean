import Derived.Test.YtocnokjekoglnaaGreatVcRead
import Derived.Test.YtocnokjekoglnaaGreatVcS3
import Derived.Test.YtocnokjekoglnaaGreatPuLib
namespace Go.Vc
set_option linter.unusedVariables false
set_option linter.unusedSimpArgs false
open Go Go.ChangeShapes Go.WideShapes Go.ChangeAt
def elOf {α : Type} (E : El α) (ok : α → Prop) : Elem α := fun h cs a => E.R (hcell h) [] cs a ∧ ok a
section
variable {H : Type} {enc : TypeId × Value → H} {P : Program} {α : Type}
theorem ZmV {t : TypeId} (ht : P.underlying t = some (.int .u8)) : Reads enc P (elOf (El.int .u8) (fun x => 0 ≤ x ∧ x ≤ 255)) t := by
  intro W base spare held fuel cs x h
  obtain ⟨n, rfl, _, hw⟩ := DataW.trod_int ht h
  simp only [Lit.wf, Bool.and_eq_true, decide_eq_true_eq] at hw
  exact ⟨n, ⟨rfl, rfl⟩, hw.1, hw.2⟩
theorem Zp3 {E : El α} {ok : α → Prop} {h : Heap} {v : Value} {xs : List α} (hs : SlAt E.z (elOf E ok) h v xs) : SlC (hcell h) E v xs ∧ ∀ x ∈ xs, ok x := by
  rcases hs with ⟨rfl, rfl⟩ | ⟨a, c, h1, h2, h3⟩
  · exact ⟨.inl ⟨rfl, rfl⟩, by simp⟩
  · refine ⟨.inr ⟨a, c, h1, h2, fun i x hx => ?_⟩, fun x hx => ?_⟩
    · obtain ⟨cs, _, g2, g3, _⟩ := h3 i x hx
      exact ⟨cs, g2, g3⟩
    · obtain ⟨i, hi⟩ := List.getElem?_of_mem hx
      obtain ⟨cs, _, _, _, g4⟩ := h3 i x hi
      exact g4
theorem ZpL {f : FuncId} {args : Array Value} {h : Heap} {ψ : CM} {b : Bool} (hb : b = true) (hc : CallsH P f args h fun v h' => v = .bool b ∧ S ψ h h' []) : LawOk P f args h :=
  hc.mono fun _ _ ⟨h1, h2⟩ => ⟨by rw [h1, hb], h2.ext⟩
end
end Go.Vc
