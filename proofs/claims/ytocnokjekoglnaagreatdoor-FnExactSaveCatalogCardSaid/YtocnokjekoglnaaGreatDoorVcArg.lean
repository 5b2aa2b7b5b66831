import Derived.Test.YtocnokjekoglnaaGreatDoorVcRead
import Derived.Test.YtocnokjekoglnaaGreatDoorVcS3
import Derived.Test.YtocnokjekoglnaaGreatDoorPuLib
namespace Go.Vc
set_option linter.unusedVariables false
set_option linter.unusedSimpArgs false
open Go Go.ChangeShapes Go.WideShapes Go.ChangeAt
def elOf {α : Type} (E : El α) (ok : α → Prop) : Elem α := fun h cs a => E.R (hcell h) [] cs a ∧ ok a
section
variable {H : Type} {enc : TypeId × Value → H} {P : Program} {α : Type}
theorem Zjz {t : TypeId} (ht : P.underlying t = some (.int .i64)) : Reads enc P (elOf (El.int .i64) I64) t := by
  intro W base spare held fuel cs x h
  obtain ⟨n, h1, h2⟩ := Zwg ht W base spare held fuel cs x h
  exact ⟨n, ⟨rfl, h1⟩, h2⟩
theorem Zyk {t : TypeId} (ht : P.underlying t = some .string) : Reads enc P (elOf El.str OkS) t := by
  intro W base spare held fuel cs x h
  obtain ⟨n, h1, h2⟩ := ZyC ht W base spare held fuel cs x h
  exact ⟨n, ⟨rfl, h1⟩, h2⟩
theorem Zps {E : El α} {ok : α → Prop} {h : Heap} {v : Value} {xs : List α} (hs : SlAt E.z (elOf E ok) h v xs) : SlC (hcell h) E v xs ∧ ∀ x ∈ xs, ok x := by
  rcases hs with ⟨rfl, rfl⟩ | ⟨a, c, h1, h2, h3⟩
  · exact ⟨.inl ⟨rfl, rfl⟩, by simp⟩
  · refine ⟨.inr ⟨a, c, h1, h2, fun i x hx => ?_⟩, fun x hx => ?_⟩
    · obtain ⟨cs, _, g2, g3, _⟩ := h3 i x hx
      exact ⟨cs, g2, g3⟩
    · obtain ⟨i, hi⟩ := List.getElem?_of_mem hx
      obtain ⟨cs, _, _, _, g4⟩ := h3 i x hi
      exact g4
theorem Zox [Inhabited α] {E : El α} {ok : α → Prop} {t e : TypeId} (ht : P.underlying t = some (.slice e)) (hz : P.cellsOf e = E.z) (hE : Reads enc P (elOf E ok) e) : Reads enc P (elOf (El.sl E) (OkL ok)) t := by
  intro W base spare held fuel cs x h
  obtain ⟨xs, v, rfl, h2, h3⟩ := ZpI ht hz hE W base spare held fuel cs x h
  have := Zps h2
  exact ⟨xs, El.sl_of this.1, h3, this.2⟩
theorem Zoa {β : Type} {E : El α} {F : El β} {φ : CM} {cs : List Value} {o z : Nat} {a : α} {b : β} (h1 : E.R φ [] ((cs.drop o).take z) a) (h2 : F.R φ [] (cs.drop (o + z)) b) : (El.pair E F).R φ [] (cs.drop o) (a, b) :=
  ⟨_, _, [], [], by rw [← List.drop_drop, List.take_append_drop], rfl, h1, h2⟩
theorem ZpU {E : El α} {φ : CM} {cs : List Value} {o z : Nat} {a : α} (h1 : E.R φ [] ((cs.drop o).take z) a) (hl : cs.length = o + z) : E.R φ [] (cs.drop o) a := by
  rwa [List.take_of_length_le (by rw [List.length_drop]; omega)] at h1
theorem Zum {f : FuncId} {args : Array Value} {h : Heap} {ψ : CM} {b : Bool} (hb : b = true) (hc : CallsH P f args h fun v h' => v = .bool b ∧ S ψ h h' []) : LawOk P f args h :=
  (hc.mono fun _ _ ⟨h1, h2⟩ => ⟨by rw [h1, hb], h2.ext⟩ : CallsH P f args h fun r h' => r = .bool true ∧ ExtH h h')
end
def noneM : CM := fun _ => none
theorem ZwJ (φ : CM) : CLe noneM φ := fun _ _ h => by cases h
end Go.Vc
