import Derived.Test.YtocnokjekoglnaaGreatDoorVcTxt
import Derived.Shelf.Strings.Builder1
namespace Go.Vc
set_option linter.unusedVariables false
set_option linter.unusedSimpArgs false
open Go Go.Proofs Go.Lib Go.Shelf Go.RowKit
def BldH (T e : TypeId) (b : Nat) (s : ByteArray) (h : Heap) : Prop := ∀ w : World, w.heap = h → IsBuilder T e b b (Lib.byteCells s.data.toList) w
theorem BldH.new {T e : TypeId} {h : Heap} : BldH T e h.size ⟨#[]⟩ (h.push (.cells #[.pointer none, .slice none 0 0] T)) := fun w hw =>
  .inl ⟨Nat.le_refl _, .slice none 0 0, by rw [hw]; simp, World.ownsRow_nil _ _ _ _, by simp [Value.ownBlock]⟩
theorem Zz6 {T e : TypeId} {b : Nat} {p : Value} {bs : List Value} {w w' : World} (hx : ExtH w.heap w'.heap) (h : BuilderAt T e b b p bs w) : BuilderAt T e b b p bs w' := by
  have lt : ∀ {k : Nat} {o : Obj}, w.heap[k]? = some o → w'.heap[k]? = some o := fun {k o} hk => by
    have : k < w.heap.size := by
      rcases Nat.lt_or_ge k w.heap.size with j | j
      · exact j
      · rw [Array.getElem?_eq_none j] at hk; cases hk
    rw [hx.2 k this]; exact hk
  obtain ⟨hB, v, hb, ⟨h1, h2⟩, hne⟩ := h
  refine ⟨hB, v, lt hb, ⟨h1, ?_⟩, hne⟩
  rcases h2 with h2 | ⟨g, cap, cur, g1, g2, g3, g4⟩
  · exact .inl h2
  · exact .inr ⟨g, cap, cur, g1, g2, lt g3, g4⟩
theorem BldH.ext {T e : TypeId} {b : Nat} {s : ByteArray} {h h' : Heap} (hb : BldH T e b s h) (hx : ExtH h h') : BldH T e b s h' := by
  intro w hw
  subst hw
  rcases hb { w with heap := h } rfl with k | k
  · exact .inl (Zz6 (w := { w with heap := h }) hx k)
  · exact .inr (Zz6 (w := { w with heap := h }) hx k)
theorem ZBc (s t : ByteArray) : Lib.byteCells s.data.toList ++ strCells t = Lib.byteCells (s ++ t).data.toList := by
  rw [Lib.strCells_eq, ByteArray.data_append, Array.toList_append]
  simp [Lib.byteCells]
theorem ZAc {h h' : Heap} {b : Nat} {h0 : Heap} (hx : ExtH h0 h) (hb : b = h0.size) (hs : h.size ≤ h'.size) (hk : ∀ k, k < b → h'[k]? = h[k]?) : ExtH h0 h' :=
  ⟨Nat.le_trans hx.1 hs, fun k h1 => (hk k (by omega)).trans (hx.2 k h1)⟩
theorem ZAv {P : Program} {ρ : Ren} (L : Lays.n156 P ρ) (X : Builder.Extra P ρ) {b : Nat} {s t : ByteArray} {h : Heap} (hb : BldH (ρ.t 72) (ρ.t 5) b s h) (hl : s.size + t.size ≤ 140737488355328) (hw : b ≤ h.size) :
    CallsH P (ρ.f 166) #[.pointer (some ⟨b, 0, none⟩), .string t] h (fun v h' => v = .tuple #[.int .i64 t.size, .nilIface] ∧ BldH (ρ.t 72) (ρ.t 5) b (s ++ t) h' ∧ h.size ≤ h'.size ∧ ∀ k, k < b → h'[k]? = h[k]?) := by
  intro w e
  subst e
  refine (Any.Builder_WriteString { L with } X b b (Lib.byteCells s.data.toList) t w (hb w rfl) (by rw [Lib.byteCells_length, Array.length_toList]; exact hl) hw).mono ?_
  rintro _ w' ⟨rfl, h1, h2⟩
  refine ⟨_, rfl, ⟨h2.tape, h2.os, h2.output, False.elim⟩, rfl, ?_, h2.size, h2.block⟩
  rw [ZBc] at h1
  intro w2 e2
  exact .inr (Zz6 (w := w') (w' := w2) (by rw [e2]; exact ExtH.refl _) h1)
theorem ZBb {P : Program} {ρ : Ren} (L : Lays.n156 P ρ) (X : Builder.Extra P ρ) {b : Nat} {s : ByteArray} {h : Heap} (hb : BldH (ρ.t 72) (ρ.t 5) b s h) (hw : b ≤ h.size) :
    CallsH P (ρ.f 169) #[.pointer (some ⟨b, 0, none⟩)] h (fun v h' => v = .string s ∧ h.size ≤ h'.size ∧ ∀ k, k < b → h'[k]? = h[k]?) := by
  intro w e
  subst e
  refine (Any.Builder_String_any { L with } X b b s.data.toList w (hb w rfl) hw).mono ?_
  rintro _ w' ⟨rfl, h2⟩
  exact ⟨_, rfl, ⟨h2.tape, h2.os, h2.output, False.elim⟩, rfl, h2.size, h2.block⟩
theorem ZAs {a b c : ByteArray} (h : gBld a b = some c) : a.size + b.size ≤ 140737488355328 ∧ c = a ++ b := by
  unfold gBld at h
  split at h
  · rename_i hc; exact ⟨hc, (Option.some.inj h).symm⟩
  · cases h
theorem newB {h : Heap} {o : Obj} {K : Addr → Heap → Prop} (hk : K ⟨h.size, 0, none⟩ (h.push o)) : vNew h o K := hk
end Go.Vc
