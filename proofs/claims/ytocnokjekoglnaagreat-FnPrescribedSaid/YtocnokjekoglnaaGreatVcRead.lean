import Derived.Test.YtocnokjekoglnaaGreatVcTop
import Derived.Test.YtocnokjekoglnaaGreatVcSt
import Derived.Deep.Slices
namespace Go.Vc
set_option linter.unusedVariables false
set_option linter.unusedSimpArgs false
open Go Go.ChangeShapes Go.WideShapes Go.ChangeAt
section
variable {H : Type} {enc : TypeId × Value → H} {P : Program}
def Reads {H : Type} (enc : TypeId × Value → H) (P : Program) {α : Type} (E : Elem α) (t : TypeId) : Prop :=
  ∀ (W : World) (base : Nat) (spare : Nat → Bool) (held : Bool) (fuel : Nat) (cs : List Value) (x : DataW H × List MemPlace), DataW.trod enc P W base spare held fuel t cs = some x → ∃ a, E W.heap cs a
theorem Zpe {α : Type} [Inhabited α] {E : Elem α} {t e : TypeId} {z : Nat} (ht : P.underlying t = some (.slice e)) (hz : P.cellsOf e = z) (hE : Reads enc P E e) : Reads enc P (eSlB z E) t := by
  intro W base spare held fuel cs x h
  rcases DataW.trod_slice ht h with ⟨rfl, _⟩ | ⟨a, len, cap, elems, rest, n, _, rfl, _, _, hle, hcm, hlen, hel, _⟩
  · exact ⟨[], _, rfl, .inl ⟨rfl, rfl⟩, by simp⟩
  · rw [hz] at hel
    obtain ⟨f, hf⟩ := Go.Deep.choose_lt (α := α) (n := len) (p := fun i y => ElemAt z E W.heap (a.add (i * z)) y) fun i hi => by
      have h1 := hel i hi
      obtain ⟨y, hy⟩ := ZH (xs := elems) (k := i) (by omega)
      rw [hy] at h1
      cases hc : W.cells? base (a.add (i * z)) z with
      | none => rw [hc] at h1; cases h1
      | some c =>
        rw [hc] at h1
        obtain ⟨g1, g2, g3⟩ := World.cells?_some hc
        obtain ⟨v, hv⟩ := hE W base spare held n c y h1
        exact ⟨v, c, g2, fun j u hu => (g3 j (by have := ZC hu; omega)).trans hu, hv⟩
    refine ⟨(List.range len).map f, _, rfl, .inr ⟨a, cap, by simp, by simpa using hle, fun i y hy => ?_⟩, ?_⟩
    · have hi : i < len := by have := ZC hy; simpa using this
      rw [List.getElem?_map, List.getElem?_range hi] at hy
      cases hy
      exact hf i hi
    · unfold maxLen at hcm
      simp only [List.length_map, List.length_range]; omega
theorem Zpv {e : TypeId} {t : TypeId} {W : World} {r : Reach} {base base' : Nat} {spare : Nat → Bool} {held : Bool} {v : Value} {d : DataW H} {ps : List MemPlace} {α : Type} {z : Nat} {E : Elem α} (ht : P.underlying t = some (.slice e)) (hv : Value.okWide P W r base t v)
    (hd : DataW.Trod enc P W base' spare held t v d ps) (hE : Reads enc P (eSlB z E) t) : ∃ a, SlB z E W.heap v a := by
  obtain ⟨a, l, c, rfl⟩ := okWide_slice ht hv
  obtain ⟨fuel, hf⟩ := hd
  obtain ⟨x, u, h1, h2⟩ := hE W base' spare held fuel _ _ hf
  simp only [Value.cells, List.cons.injEq, and_true] at h1
  subst h1
  exact ⟨x, h2⟩
end
end Go.Vc
