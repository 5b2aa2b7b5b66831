/- Arguments of a law, read as plain data; from a law's plain proof to its contract. -/
import Derived.Test.YtkgeocffngdeoaaGreatVcRead
import Derived.Test.YtkgeocffngdeoaaGreatVcS3
import Derived.Test.YtkgeocffngdeoaaGreatPuLib
namespace Go.Vc
open Go Go.ChangeShapes Go.WideShapes Go.ChangeAt

def elOf {α : Type} (E : El α) (ok : α → Prop) : Elem α := fun h cs a => E.R (hcell h) [] cs a ∧ ok a
section
variable {H : Type} {enc : TypeId × Value → H} {P : Program} {α : Type}
theorem rde_i64 {t : TypeId} (ht : P.underlying t = some (.int .i64)) : Reads enc P (elOf (El.int .i64) I64) t := by
  intro W base spare held fuel cs x h
  obtain ⟨n, h1, h2⟩ := reads_i64 ht W base spare held fuel cs x h
  exact ⟨n, ⟨rfl, h1⟩, h2⟩
theorem rde_u8 {t : TypeId} (ht : P.underlying t = some (.int .u8)) : Reads enc P (elOf (El.int .u8) (fun x => 0 ≤ x ∧ x ≤ 255)) t := by
  intro W base spare held fuel cs x h
  obtain ⟨n, rfl, _, hw⟩ := DataW.trod_int ht h
  simp only [Lit.wf, Bool.and_eq_true, decide_eq_true_eq] at hw
  exact ⟨n, ⟨rfl, rfl⟩, hw.1, hw.2⟩
theorem rde_str {t : TypeId} (ht : P.underlying t = some .string) : Reads enc P (elOf El.str OkS) t := by
  intro W base spare held fuel cs x h
  obtain ⟨n, h1, h2⟩ := reads_str ht W base spare held fuel cs x h
  exact ⟨n, ⟨rfl, h1⟩, h2⟩
theorem slC_of {E : El α} {ok : α → Prop} {h : Heap} {v : Value} {xs : List α} (hs : SlAt E.z (elOf E ok) h v xs) : SlC (hcell h) E v xs ∧ ∀ x ∈ xs, ok x := by
  rcases hs with ⟨rfl, rfl⟩ | ⟨a, c, h1, h2, h3⟩
  · exact ⟨.inl ⟨rfl, rfl⟩, by simp⟩
  · refine ⟨.inr ⟨a, c, h1, h2, fun i x hx => ?_⟩, fun x hx => ?_⟩
    · obtain ⟨cs, _, g2, g3, _⟩ := h3 i x hx
      exact ⟨cs, g2, g3⟩
    · obtain ⟨i, hi⟩ := List.getElem?_of_mem hx
      obtain ⟨cs, _, _, _, g4⟩ := h3 i x hi
      exact g4
theorem rde_slice [Inhabited α] {E : El α} {ok : α → Prop} {t e : TypeId} (ht : P.underlying t = some (.slice e)) (hz : P.cellsOf e = E.z) (hE : Reads enc P (elOf E ok) e) : Reads enc P (elOf (El.sl E) (OkL ok)) t := by
  intro W base spare held fuel cs x h
  obtain ⟨xs, v, rfl, h2, h3⟩ := reads_slice ht hz hE W base spare held fuel cs x h
  have := slC_of h2
  exact ⟨xs, El.sl_of this.1, h3, this.2⟩
theorem pair_cells {β : Type} {E : El α} {F : El β} {φ : CM} {cs : List Value} {o z : Nat} {a : α} {b : β} (h1 : E.R φ [] ((cs.drop o).take z) a) (h2 : F.R φ [] (cs.drop (o + z)) b) : (El.pair E F).R φ [] (cs.drop o) (a, b) :=
  ⟨_, _, [], [], by rw [← List.drop_drop, List.take_append_drop], rfl, h1, h2⟩
theorem last_cells {E : El α} {φ : CM} {cs : List Value} {o z : Nat} {a : α} (h1 : E.R φ [] ((cs.drop o).take z) a) (hl : cs.length = o + z) : E.R φ [] (cs.drop o) a := by
  rwa [List.take_of_length_le (by rw [List.length_drop]; omega)] at h1
/-- What a law's call gives. -/
theorem lawOk_of {f : FuncId} {args : Array Value} {h : Heap} {ψ : CM} {b : Bool} (hb : b = true) (hc : CallsH P f args h fun v h' => v = .bool b ∧ S ψ h h' []) : LawOk P f args h :=
  hc.mono fun _ _ ⟨h1, h2⟩ => ⟨by rw [h1, hb], h2.ext⟩
end
def noneM : CM := fun _ => none
theorem noneM_le (φ : CM) : CLe noneM φ := fun _ _ h => by cases h

end Go.Vc
