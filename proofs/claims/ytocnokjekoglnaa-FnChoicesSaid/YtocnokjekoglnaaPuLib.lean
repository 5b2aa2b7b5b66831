import Derived.Test.YtocnokjekoglnaaPuBase
import Derived.Test.YtocnokjekoglnaaVcLib
namespace Go.Vc
set_option linter.unusedVariables false
set_option linter.unusedSimpArgs false
open Go
def M63 : Nat := 9223372036854775807
theorem wrapN {k n : Nat} (h : k < n) (hn : n ≤ M63) : IntKind.i64.wrap ((k : Int) + 1) = ((k + 1 : Nat) : Int) := by
  unfold M63 at hn
  rw [Zau (by omega) (by omega)]; omega
theorem ZiL {α : Type} {xs : List α} {k : Nat} {x : α} (h : xs[k]? = some x) : k < xs.length := by
  rcases Nat.lt_or_ge k xs.length with h' | h'
  · exact h'
  · rw [List.getElem?_eq_none h'] at h; cases h
theorem ZI {α : Type} {xs : List α} {k : Nat} {x : α} (h : xs[k]? = some x) : gIdx xs (k : Int) = some x := by
  unfold gIdx; rw [if_pos (by omega), Int.toNat_natCast, h]
theorem lt_t {α : Type} {xs : List α} {k : Nat} (h : k < xs.length) : decide ((k : Int) < (xs.length : Int)) = true := by simpa using h
theorem lt_f {α : Type} {xs : List α} : decide ((xs.length : Int) < (xs.length : Int)) = false := by simp
def IsQ (o : Option Bool) (p : Prop) : Prop := ∃ c, o = some c ∧ (c = true ↔ p)
theorem IsQ.t {p : Prop} (h : p) : IsQ (some true) p := ⟨true, rfl, by simp [h]⟩
theorem IsQ.f {p : Prop} (h : ¬ p) : IsQ (some false) p := ⟨false, rfl, by simp [h]⟩
theorem IsQ.eq {o : Option Bool} {p : Prop} (h : IsQ o p) (hp : p) : o = some true := by
  obtain ⟨c, h1, h2⟩ := h; rw [h1, h2.2 hp]
theorem IsQ.ne {o : Option Bool} {p : Prop} (h : IsQ o p) (hp : ¬ p) : o = some false := by
  obtain ⟨c, h1, h2⟩ := h
  cases c with
  | false => exact h1
  | true => exact absurd (h2.1 rfl) hp
theorem IsQ.congr {o : Option Bool} {p q : Prop} (h : IsQ o p) (hpq : p ↔ q) : IsQ o q := by
  obtain ⟨c, h1, h2⟩ := h; exact ⟨c, h1, h2.trans hpq⟩
theorem ZiS {α : Type} {b n : Nat} {z : α} (h : n * b ≤ 140737488355328) (h2 : n ≤ 4611686018427387904) : gMake b z (n : Int) (n : Int) = some (List.replicate n z) := by
  unfold gMake
  have h' : ((n * b : Nat) : Int) ≤ 140737488355328 := by omega
  rw [Int.natCast_mul] at h'
  rw [if_pos ⟨by omega, by omega, h', by omega⟩, Int.toNat_natCast]
def OkL {α : Type} (ok : α → Prop) (l : List α) : Prop := l.length ≤ M63 ∧ ∀ x ∈ l, ok x
end Go.Vc
