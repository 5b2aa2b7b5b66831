/- Memory of one's own: rows that may be written; frames. -/
import Derived.Test.YtieehpcgmjbceaaVcLib
import Derived.Below
namespace Go.Vc
open Go

/-- All but some blocks as they were. -/
def ExtBut (B : Nat → Prop) (h h' : Heap) : Prop := h.size ≤ h'.size ∧ ∀ b, b < h.size → ¬ B b → h'[b]? = h[b]?
theorem ExtBut.refl (B : Nat → Prop) (h : Heap) : ExtBut B h h := ⟨Nat.le_refl _, fun _ _ _ => rfl⟩
theorem ExtBut.trans {B : Nat → Prop} {a b c : Heap} (h : ExtBut B a b) (k : ExtBut B b c) : ExtBut B a c :=
  ⟨Nat.le_trans h.1 k.1, fun x hx hb => (k.2 x (Nat.lt_of_lt_of_le hx h.1) hb).trans (h.2 x hx hb)⟩
theorem ExtBut.of_ext {B : Nat → Prop} {a b : Heap} (h : ExtH a b) : ExtBut B a b := ⟨h.1, fun x hx _ => h.2 x hx⟩
theorem ExtBut.mono {B B' : Nat → Prop} {a b : Heap} (h : ExtBut B a b) (hB : ∀ x, B x → B' x) : ExtBut B' a b := ⟨h.1, fun x hx hb => h.2 x hx fun hh => hb (hB x hh)⟩
/-- What was changed is new. -/
theorem ExtBut.ext {B : Nat → Prop} {h0 a b : Heap} (h : ExtBut B a b) (h0a : ExtH h0 a) (hB : ∀ x, B x → h0.size ≤ x) : ExtH h0 b :=
  ⟨Nat.le_trans h0a.1 h.1, fun x hx => (h.2 x (Nat.lt_of_lt_of_le hx h0a.1) fun hb => by have := hB x hb; omega).trans (h0a.2 x hx)⟩

theorem hcell_of_block {h h' : Heap} {p : Addr} (hb : h'[p.block]? = h[p.block]?) : hcell h' p = hcell h p := by unfold hcell; rw [hb]
theorem hcell_but {B : Nat → Prop} {h h' : Heap} {p : Addr} {u : Value} (hx : ExtBut B h h') (hp : ¬ B p.block) (hc : hcell h p = some u) : hcell h' p = some u := by
  rw [hcell_of_block (hx.2 p.block (hcell_lt hc) hp)]; exact hc

/-! Writing one cell. -/
def world (h : Heap) : World := ⟨h, fun _ _ => 0, 0, default, #[]⟩
theorem hcell_hset_same {h : Heap} {p : Addr} {u v : Value} (hc : hcell h p = some u) : hcell (hset h p v) p = some v :=
  World.cell?_setCell_same (world h) p v hc
theorem hcell_hset_other {h : Heap} {p q : Addr} {v : Value} (hne : p ≠ q) : hcell (hset h p v) q = hcell h q :=
  World.cell?_setCell_other (world h) p q v hne
theorem hset_size {h : Heap} {p : Addr} {v : Value} : (hset h p v).size = h.size := World.size_setCell (world h) p v
theorem hset_block {h : Heap} {p : Addr} {v : Value} {b : Nat} (hb : b ≠ p.block) : (hset h p v)[b]? = h[b]? := Go.RowKit.Below.heap_setCell (world h) p v b hb
theorem hfroz_hset {h : Heap} {p q : Addr} {v : Value} : hfroz (hset h p v) q = hfroz h q := by
  unfold hfroz hset
  rw [Array.getElem?_modify]
  by_cases hb : p.block = q.block
  · rw [if_pos hb]
    cases h[q.block]? with
    | none => rfl
    | some o => cases o <;> rfl
  · rw [if_neg hb]
theorem ExtBut.hset (h : Heap) (p : Addr) (v : Value) : ExtBut (· = p.block) h (hset h p v) := ⟨by rw [hset_size]; exact Nat.le_refl _, fun b _ hb => hset_block hb⟩

/-- A cell that may be written. -/
def Wr (h : Heap) (p : Addr) : Prop := (∃ u, hcell h p = some u) ∧ hfroz h p = false
theorem Wr.hset {h : Heap} {p q : Addr} {v : Value} (hq : Wr h q) : Wr (hset h p v) q := by
  obtain ⟨⟨u, hu⟩, hf⟩ := hq
  refine ⟨?_, by rw [hfroz_hset]; exact hf⟩
  by_cases hpq : p = q
  · subst hpq; exact ⟨v, hcell_hset_same hu⟩
  · exact ⟨u, by rw [hcell_hset_other hpq]; exact hu⟩
theorem Wr.but {B : Nat → Prop} {h h' : Heap} {p : Addr} (hx : ExtBut B h h') (hp : ¬ B p.block) (hw : Wr h p) : Wr h' p := by
  obtain ⟨⟨u, hu⟩, hf⟩ := hw
  have hb := hx.2 p.block (hcell_lt hu) hp
  exact ⟨⟨u, hcell_but hx hp hu⟩, by unfold hfroz at hf ⊢; rw [hb]; exact hf⟩
theorem Wr.ext {h h' : Heap} {p : Addr} (hx : ExtH h h') (hw : Wr h p) : Wr h' p := Wr.but (B := fun _ => False) (ExtBut.of_ext hx) (fun h => h) hw
theorem vStore1_wr {h : Heap} {p : Addr} {v : Value} {K : Heap → Prop} (hw : Wr h p) (h1 : v.oneCell' = true) (hk : K (hset h p v)) : vStore1 h p v K := ⟨h1, hw.1, hw.2, hk⟩

/-- A row of cells of one's own. -/
def RowAt (h : Heap) (b off : Nat) (cs : List Value) : Prop := ∃ arr t, h[b]? = some (.cells arr t) ∧ ∀ j u, cs[j]? = some u → arr[off + j]? = some u
theorem addr_add (b off j : Nat) : (⟨b, off, none⟩ : Addr).add j = ⟨b, off + j, none⟩ := by
  unfold Addr.add
  by_cases hj : j = 0
  · subst hj; rfl
  · rw [if_neg hj]
theorem RowAt.cell {h : Heap} {b off : Nat} {cs : List Value} (hr : RowAt h b off cs) {j : Nat} {u : Value} (hu : cs[j]? = some u) : hcell h ⟨b, off + j, none⟩ = some u := by
  obtain ⟨arr, t, h1, h2⟩ := hr
  unfold hcell; rw [h1]; exact h2 j u hu
theorem RowAt.wr {h : Heap} {b off : Nat} {cs : List Value} (hr : RowAt h b off cs) {j : Nat} (hj : j < cs.length) : Wr h ⟨b, off + j, none⟩ := by
  obtain ⟨u, hu⟩ := get_some hj
  refine ⟨⟨u, hr.cell hu⟩, ?_⟩
  obtain ⟨arr, t, h1, h2⟩ := hr
  unfold hfroz; rw [h1]
  simp
theorem RowAt.lt {h : Heap} {b off : Nat} {cs : List Value} (hr : RowAt h b off cs) : b < h.size := by
  obtain ⟨arr, t, h1, _⟩ := hr
  rcases Nat.lt_or_ge b h.size with h' | h'
  · exact h'
  · rw [Array.getElem?_eq_none h'] at h1; cases h1
theorem RowAt.but {B : Nat → Prop} {h h' : Heap} {b off : Nat} {cs : List Value} (hr : RowAt h b off cs) (hx : ExtBut B h h') (hb : ¬ B b) : RowAt h' b off cs := by
  have hl := hr.lt
  obtain ⟨arr, t, h1, h2⟩ := hr
  exact ⟨arr, t, by rw [hx.2 b hl hb]; exact h1, h2⟩
theorem RowAt.ext {h h' : Heap} {b off : Nat} {cs : List Value} (hr : RowAt h b off cs) (hx : ExtH h h') : RowAt h' b off cs := hr.but (B := fun _ => False) (ExtBut.of_ext hx) (fun h => h)
theorem RowAt.push (h : Heap) (cs : List Value) (t : TypeId) : RowAt (h.push (.cells cs.toArray t)) h.size 0 cs := by
  refine ⟨cs.toArray, t, by simp, fun j u hu => ?_⟩
  simpa using hu
/-- One cell of a row written. -/
theorem RowAt.set {h : Heap} {b off : Nat} {cs : List Value} (hr : RowAt h b off cs) {j : Nat} (hj : j < cs.length) (v : Value) : RowAt (hset h ⟨b, off + j, none⟩ v) b off (cs.set j v) := by
  obtain ⟨arr, t, h1, h2⟩ := hr
  refine ⟨arr.setIfInBounds (off + j) v, t, ?_, fun i u hu => ?_⟩
  · unfold hset
    rw [Array.getElem?_modify, if_pos rfl, h1]
    simp
  · rw [List.getElem?_set] at hu
    by_cases hij : j = i
    · subst hij
      rw [if_pos rfl, if_pos hj] at hu
      cases hu
      obtain ⟨u0, hu0⟩ := get_some hj
      have := h2 j u0 hu0
      have hlt : off + j < arr.size := by
        rcases Nat.lt_or_ge (off + j) arr.size with h' | h'
        · exact h'
        · rw [Array.getElem?_eq_none h'] at this; cases this
      simp [hlt]
    · rw [if_neg hij] at hu
      rw [Array.getElem?_setIfInBounds_ne (by omega)]
      exact h2 i u hu

/-- A slice over a row of one's own, one cell an element. -/
def OwnSl (h : Heap) (v : Value) (b : Nat) (cs : List Value) : Prop :=
  ∃ off c, v = .slice (some ⟨b, off, none⟩) cs.length c ∧ cs.length ≤ c ∧ RowAt h b off cs
theorem OwnSl.ext {h h' : Heap} {v : Value} {b : Nat} {cs : List Value} (ho : OwnSl h v b cs) (hx : ExtH h h') : OwnSl h' v b cs := by
  obtain ⟨off, c, h1, h2, h3⟩ := ho; exact ⟨off, c, h1, h2, h3.ext hx⟩
theorem OwnSl.but {B : Nat → Prop} {h h' : Heap} {v : Value} {b : Nat} {cs : List Value} (ho : OwnSl h v b cs) (hx : ExtBut B h h') (hb : ¬ B b) : OwnSl h' v b cs := by
  obtain ⟨off, c, h1, h2, h3⟩ := ho; exact ⟨off, c, h1, h2, h3.but hx hb⟩
theorem OwnSl.lt {h : Heap} {v : Value} {b : Nat} {cs : List Value} (ho : OwnSl h v b cs) : b < h.size := by
  obtain ⟨off, c, _, _, h3⟩ := ho; exact h3.lt
theorem OwnSl.vLen {h : Heap} {v : Value} {b : Nat} {cs : List Value} (ho : OwnSl h v b cs) {K : Nat → Prop} (hk : K cs.length) : vLen v K := by
  obtain ⟨off, c, rfl, _, _⟩ := ho; exact hk
/-- As a slice that is read. -/
theorem OwnSl.sl {α : Type} {E : Elem α} {h : Heap} {v : Value} {b : Nat} {xs : List α} {f : α → Value} (ho : OwnSl h v b (xs.map f)) (hE : ∀ x ∈ xs, E h [f x] x) : SlAt 1 E h v xs := by
  obtain ⟨off, c, rfl, h2, h3⟩ := ho
  refine .inr ⟨⟨b, off, none⟩, c, by simp, by simpa using h2, fun i x hi => ⟨[f x], rfl, fun j u hu => ?_, hE x (List.mem_of_getElem? hi)⟩⟩
  cases j with
  | zero =>
    simp at hu; subst hu
    rw [addr_add, addr_add]
    simpa using h3.cell (j := i) (by rw [List.getElem?_map, hi]; rfl)
  | succ j => simp at hu
theorem OwnSl.idx {h : Heap} {v : Value} {b : Nat} {cs : List Value} (ho : OwnSl h v b cs) {k : Nat} (hk : k < cs.length) {K : Addr → Prop}
    (hK : ∀ off, RowAt h b off cs → (∃ c, v = .slice (some ⟨b, off, none⟩) cs.length c ∧ cs.length ≤ c) → K ⟨b, off + k, none⟩) : vIdx v (k : Int) 1 K := by
  obtain ⟨off, c, rfl, h2, h3⟩ := ho
  refine ⟨⟨by omega, by omega⟩, ?_⟩
  have := hK off h3 ⟨c, rfl, h2⟩
  rw [addr_add]
  simpa using this

theorem vNewS_own {h : Heap} {cs : List Value} {t : TypeId} {n : Nat} (hn : cs.length = n) {K : Value → Heap → Prop}
    (hk : ∀ v h', OwnSl h' v h.size cs → ExtH h h' → h'.size = h.size + 1 → K v h') : vNewS h (.cells cs.toArray t) n K := by
  subst hn
  exact hk _ _ ⟨0, cs.length, rfl, Nat.le_refl _, RowAt.push h cs t⟩ (ExtH.push h _) (by simp)

end Go.Vc
