/- Memory of one's own: rows that may be written; frames. -/
import Derived.Test.YtkgeocffngdeoaaGreatVcLib
import Derived.Below
namespace Go.Vc
open Go

/-- All but some blocks as they were. -/
def ExtBut (B : Nat → Prop) (h h' : Heap) : Prop := h.size ≤ h'.size ∧ ∀ b, b < h.size → ¬ B b → h'[b]? = h[b]?
theorem ExtBut.refl (B : Nat → Prop) (h : Heap) : ExtBut B h h := ⟨Nat.le_refl _, fun _ _ _ => rfl⟩
theorem ExtBut.trans {B : Nat → Prop} {a b c : Heap} (h : ExtBut B a b) (k : ExtBut B b c) : ExtBut B a c :=
  ⟨Nat.le_trans h.1 k.1, fun x hx hb => (k.2 x (Nat.lt_of_lt_of_le hx h.1) hb).trans (h.2 x hx hb)⟩
theorem ExtBut.of_ext {B : Nat → Prop} {a b : Heap} (h : ExtH a b) : ExtBut B a b := ⟨h.1, fun x hx _ => h.2 x hx⟩
theorem ExtBut.mono {B B' : Nat → Prop} {a b : Heap} (h : ExtBut B a b) (hB : ∀ x, B x → B' x) : ExtBut B' a b := ⟨h.1, fun x hx hb => h.2 x hx fun hh => hb (hB x hh)⟩
/-- What was changed is new. -/
theorem ExtBut.ext {B : Nat → Prop} {h0 a b : Heap} (h : ExtBut B a b) (h0a : ExtH h0 a) (hB : ∀ x, B x → h0.size ≤ x) : ExtH h0 b :=
  ⟨Nat.le_trans h0a.1 h.1, fun x hx => (h.2 x (Nat.lt_of_lt_of_le hx h0a.1) fun hb => by have := hB x hb; omega).trans (h0a.2 x hx)⟩

theorem hcell_of_block {h h' : Heap} {p : Addr} (hb : h'[p.block]? = h[p.block]?) : hcell h' p = hcell h p := by unfold hcell; rw [hb]
theorem hcell_but {B : Nat → Prop} {h h' : Heap} {p : Addr} {u : Value} (hx : ExtBut B h h') (hp : ¬ B p.block) (hc : hcell h p = some u) : hcell h' p = some u := by
  rw [hcell_of_block (hx.2 p.block (hcell_lt hc) hp)]; exact hc

/-! Writing one cell. -/
def world (h : Heap) : World := ⟨h, fun _ _ => 0, 0, default, #[]⟩
theorem hcell_hset_same {h : Heap} {p : Addr} {u v : Value} (hc : hcell h p = some u) : hcell (hset h p v) p = some v :=
  World.cell?_setCell_same (world h) p v hc
theorem hcell_hset_other {h : Heap} {p q : Addr} {v : Value} (hne : p ≠ q) : hcell (hset h p v) q = hcell h q :=
  World.cell?_setCell_other (world h) p q v hne
theorem hset_size {h : Heap} {p : Addr} {v : Value} : (hset h p v).size = h.size := World.size_setCell (world h) p v
theorem hset_block {h : Heap} {p : Addr} {v : Value} {b : Nat} (hb : b ≠ p.block) : (hset h p v)[b]? = h[b]? := Go.RowKit.Below.heap_setCell (world h) p v b hb
theorem hfroz_hset {h : Heap} {p q : Addr} {v : Value} : hfroz (hset h p v) q = hfroz h q := by
  unfold hfroz hset
  rw [Array.getElem?_modify]
  by_cases hb : p.block = q.block
  · rw [if_pos hb]
    cases h[q.block]? with
    | none => rfl
    | some o => cases o <;> rfl
  · rw [if_neg hb]
theorem ExtBut.hset (h : Heap) (p : Addr) (v : Value) : ExtBut (· = p.block) h (hset h p v) := ⟨by rw [hset_size]; exact Nat.le_refl _, fun b _ hb => hset_block hb⟩

/-- A cell that may be written. -/
def Wr (h : Heap) (p : Addr) : Prop := (∃ u, hcell h p = some u) ∧ hfroz h p = false
theorem Wr.hset {h : Heap} {p q : Addr} {v : Value} (hq : Wr h q) : Wr (hset h p v) q := by
  obtain ⟨⟨u, hu⟩, hf⟩ := hq
  refine ⟨?_, by rw [hfroz_hset]; exact hf⟩
  by_cases hpq : p = q
  · subst hpq; exact ⟨v, hcell_hset_same hu⟩
  · exact ⟨u, by rw [hcell_hset_other hpq]; exact hu⟩
theorem Wr.but {B : Nat → Prop} {h h' : Heap} {p : Addr} (hx : ExtBut B h h') (hp : ¬ B p.block) (hw : Wr h p) : Wr h' p := by
  obtain ⟨⟨u, hu⟩, hf⟩ := hw
  have hb := hx.2 p.block (hcell_lt hu) hp
  exact ⟨⟨u, hcell_but hx hp hu⟩, by unfold hfroz at hf ⊢; rw [hb]; exact hf⟩
theorem Wr.ext {h h' : Heap} {p : Addr} (hx : ExtH h h') (hw : Wr h p) : Wr h' p := Wr.but (B := fun _ => False) (ExtBut.of_ext hx) (fun h => h) hw
theorem vStore1_wr {h : Heap} {p : Addr} {v : Value} {K : Heap → Prop} (hw : Wr h p) (h1 : v.oneCell' = true) (hk : K (hset h p v)) : vStore1 h p v K := ⟨h1, hw.1, hw.2, hk⟩

/-- A row of cells of one's own. -/
def RowAt (h : Heap) (b off : Nat) (cs : List Value) : Prop := ∃ arr t, h[b]? = some (.cells arr t) ∧ ∀ j u, cs[j]? = some u → arr[off + j]? = some u
theorem addr_add (b off j : Nat) : (⟨b, off, none⟩ : Addr).add j = ⟨b, off + j, none⟩ := by
  unfold Addr.add
  by_cases hj : j = 0
  · subst hj; rfl
  · rw [if_neg hj]
theorem RowAt.cell {h : Heap} {b off : Nat} {cs : List Value} (hr : RowAt h b off cs) {j : Nat} {u : Value} (hu : cs[j]? = some u) : hcell h ⟨b, off + j, none⟩ = some u := by
  obtain ⟨arr, t, h1, h2⟩ := hr
  unfold hcell; rw [h1]; exact h2 j u hu
theorem RowAt.wr {h : Heap} {b off : Nat} {cs : List Value} (hr : RowAt h b off cs) {j : Nat} (hj : j < cs.length) : Wr h ⟨b, off + j, none⟩ := by
  obtain ⟨u, hu⟩ := get_some hj
  refine ⟨⟨u, hr.cell hu⟩, ?_⟩
  obtain ⟨arr, t, h1, h2⟩ := hr
  unfold hfroz; rw [h1]
  simp
theorem RowAt.lt {h : Heap} {b off : Nat} {cs : List Value} (hr : RowAt h b off cs) : b < h.size := by
  obtain ⟨arr, t, h1, _⟩ := hr
  rcases Nat.lt_or_ge b h.size with h' | h'
  · exact h'
  · rw [Array.getElem?_eq_none h'] at h1; cases h1
theorem RowAt.but {B : Nat → Prop} {h h' : Heap} {b off : Nat} {cs : List Value} (hr : RowAt h b off cs) (hx : ExtBut B h h') (hb : ¬ B b) : RowAt h' b off cs := by
  have hl := hr.lt
  obtain ⟨arr, t, h1, h2⟩ := hr
  exact ⟨arr, t, by rw [hx.2 b hl hb]; exact h1, h2⟩
theorem RowAt.ext {h h' : Heap} {b off : Nat} {cs : List Value} (hr : RowAt h b off cs) (hx : ExtH h h') : RowAt h' b off cs := hr.but (B := fun _ => False) (ExtBut.of_ext hx) (fun h => h)
theorem RowAt.push (h : Heap) (cs : List Value) (t : TypeId) : RowAt (h.push (.cells cs.toArray t)) h.size 0 cs := by
  refine ⟨cs.toArray, t, by simp, fun j u hu => ?_⟩
  simpa using hu
/-- One cell of a row written. -/
theorem RowAt.set {h : Heap} {b off : Nat} {cs : List Value} (hr : RowAt h b off cs) {j : Nat} (hj : j < cs.length) (v : Value) : RowAt (hset h ⟨b, off + j, none⟩ v) b off (cs.set j v) := by
  obtain ⟨arr, t, h1, h2⟩ := hr
  refine ⟨arr.setIfInBounds (off + j) v, t, ?_, fun i u hu => ?_⟩
  · unfold hset
    rw [Array.getElem?_modify, if_pos rfl, h1]
    simp
  · rw [List.getElem?_set] at hu
    by_cases hij : j = i
    · subst hij
      rw [if_pos rfl, if_pos hj] at hu
      cases hu
      obtain ⟨u0, hu0⟩ := get_some hj
      have := h2 j u0 hu0
      have hlt : off + j < arr.size := by
        rcases Nat.lt_or_ge (off + j) arr.size with h' | h'
        · exact h'
        · rw [Array.getElem?_eq_none h'] at this; cases this
      simp [hlt]
    · rw [if_neg hij] at hu
      rw [Array.getElem?_setIfInBounds_ne (by omega)]
      exact h2 i u hu

def CapAt (h : Heap) (b n : Nat) : Prop := ∃ arr t, h[b]? = some (.cells arr t) ∧ n ≤ arr.size
theorem CapAt.but {B : Nat → Prop} {h h' : Heap} {b n : Nat} (hr : CapAt h b n) (hx : ExtBut B h h') (hb : ¬ B b) : CapAt h' b n := by
  obtain ⟨arr, t, h1, h2⟩ := hr
  have hl : b < h.size := by
    rcases Nat.lt_or_ge b h.size with h' | h'
    · exact h'
    · rw [Array.getElem?_eq_none h'] at h1; cases h1
  exact ⟨arr, t, by rw [hx.2 b hl hb]; exact h1, h2⟩
theorem CapAt.ext {h h' : Heap} {b n : Nat} (hr : CapAt h b n) (hx : ExtH h h') : CapAt h' b n := hr.but (B := fun _ => False) (ExtBut.of_ext hx) (fun h => h)
theorem CapAt.hset {h : Heap} {b n : Nat} (hr : CapAt h b n) (p : Addr) (v : Value) : CapAt (hset h p v) b n := by
  obtain ⟨arr, t, h1, h2⟩ := hr
  unfold Vc.hset
  rw [CapAt, Array.getElem?_modify]
  by_cases hp : p.block = b
  · rw [if_pos hp, h1]
    refine ⟨if p.spot.isSome then arr else arr.setIfInBounds p.off v, t, rfl, ?_⟩
    split <;> simpa using h2
  · rw [if_neg hp]; exact ⟨arr, t, h1, h2⟩
/-- A cell within the capacity may be written. -/
theorem CapAt.wr {h : Heap} {b n j : Nat} (hr : CapAt h b n) (hj : j < n) : Wr h ⟨b, j, none⟩ := by
  obtain ⟨arr, t, h1, h2⟩ := hr
  have hlt : j < arr.size := by omega
  refine ⟨⟨arr[j], ?_⟩, ?_⟩
  · unfold hcell; rw [h1]; simp [hlt]
  · unfold hfroz; rw [h1]; simp

/-- A slice over a row of one's own, one cell an element. -/
def OwnSl (h : Heap) (v : Value) (b : Nat) (cs : List Value) : Prop :=
  ∃ off c, v = .slice (some ⟨b, off, none⟩) cs.length c ∧ cs.length ≤ c ∧ RowAt h b off cs ∧ CapAt h b (off + c)
theorem OwnSl.ext {h h' : Heap} {v : Value} {b : Nat} {cs : List Value} (ho : OwnSl h v b cs) (hx : ExtH h h') : OwnSl h' v b cs := by
  obtain ⟨off, c, h1, h2, h3, h4⟩ := ho; exact ⟨off, c, h1, h2, h3.ext hx, h4.ext hx⟩
theorem OwnSl.but {B : Nat → Prop} {h h' : Heap} {v : Value} {b : Nat} {cs : List Value} (ho : OwnSl h v b cs) (hx : ExtBut B h h') (hb : ¬ B b) : OwnSl h' v b cs := by
  obtain ⟨off, c, h1, h2, h3, h4⟩ := ho; exact ⟨off, c, h1, h2, h3.but hx hb, h4.but hx hb⟩
theorem OwnSl.lt {h : Heap} {v : Value} {b : Nat} {cs : List Value} (ho : OwnSl h v b cs) : b < h.size := by
  obtain ⟨off, c, _, _, h3, _⟩ := ho; exact h3.lt
theorem OwnSl.vLen {h : Heap} {v : Value} {b : Nat} {cs : List Value} (ho : OwnSl h v b cs) {K : Nat → Prop} (hk : K cs.length) : vLen v K := by
  obtain ⟨off, c, rfl, _, _, _⟩ := ho; exact hk
/-- As a slice that is read. -/
theorem OwnSl.sl {α : Type} {E : Elem α} {h : Heap} {v : Value} {b : Nat} {xs : List α} {f : α → Value} (ho : OwnSl h v b (xs.map f)) (hE : ∀ x ∈ xs, E h [f x] x) : SlAt 1 E h v xs := by
  obtain ⟨off, c, rfl, h2, h3, _⟩ := ho
  refine .inr ⟨⟨b, off, none⟩, c, by simp, by simpa using h2, fun i x hi => ⟨[f x], rfl, fun j u hu => ?_, hE x (List.mem_of_getElem? hi)⟩⟩
  cases j with
  | zero =>
    simp at hu; subst hu
    rw [addr_add, addr_add]
    simpa using h3.cell (j := i) (by rw [List.getElem?_map, hi]; rfl)
  | succ j => simp at hu
theorem OwnSl.idx {h : Heap} {v : Value} {b : Nat} {cs : List Value} (ho : OwnSl h v b cs) {k : Nat} (hk : k < cs.length) {K : Addr → Prop}
    (hK : ∀ off, RowAt h b off cs → (∃ c, v = .slice (some ⟨b, off, none⟩) cs.length c ∧ cs.length ≤ c ∧ CapAt h b (off + c)) → K ⟨b, off + k, none⟩) : vIdx v (k : Int) 1 K := by
  obtain ⟨off, c, rfl, h2, h3, h4⟩ := ho
  refine ⟨⟨by omega, by omega⟩, ?_⟩
  have := hK off h3 ⟨c, rfl, h2, h4⟩
  rw [addr_add]
  simpa using this

theorem vNewS_own {h : Heap} {cs : List Value} {t : TypeId} {n : Nat} (hn : cs.length = n) {K : Value → Heap → Prop}
    (hk : ∀ v h', OwnSl h' v h.size cs → ExtH h h' → h'.size = h.size + 1 → K v h') : vNewS h (.cells cs.toArray t) n K := by
  subst hn
  exact hk _ _ ⟨0, cs.length, rfl, Nat.le_refl _, RowAt.push h cs t, cs.toArray, t, by simp, by simp⟩ (ExtH.push h _) (by simp)

theorem OwnSl.one {h : Heap} {v : Value} {b : Nat} {cs : List Value} (ho : OwnSl h v b cs) : v.oneCell' = true := by
  obtain ⟨off, c, rfl, _⟩ := ho; rfl
theorem vOne_of {v : Value} {A : Unit → Prop} (h : v.oneCell' = true) (ha : A ()) : vOne v A := by unfold vOne; rw [h]; exact ha

theorem vOkf_of {C : Ctx} {g : Nat} {A : Unit → Prop} (h : C.okf g = true) (ha : A ()) : vOkf C g A := by unfold vOkf; rw [h]; exact ha

/-! Boxes. -/
theorem vNew_row {h : Heap} {cs : List Value} {t : TypeId} {K : Addr → Heap → Prop}
    (hk : ∀ h', RowAt h' h.size 0 cs → ExtH h h' → h'.size = h.size + 1 → K ⟨h.size, 0, none⟩ h') : vNew h (.cells cs.toArray t) K :=
  hk _ (RowAt.push h cs t) (ExtH.push h _) (by simp)
theorem st_row {h : Heap} {b off : Nat} {cs : List Value} (hr : RowAt h b off cs) {j : Nat} {v : Value} (hj : j < cs.length) (h1 : v.oneCell' = true) {K : Heap → Prop}
    (hk : ∀ h', RowAt h' b off (cs.set j v) → ExtBut (· = b) h h' → h'.size = h.size → K h') : vStore1 h ((⟨b, off, none⟩ : Addr).add j) v K := by
  rw [addr_add]
  exact vStore1_wr (hr.wr hj) h1 (hk _ (hr.set hj v) (ExtBut.hset _ _ _) hset_size)
theorem ldI_row {h : Heap} {b off : Nat} {cs : List Value} (hr : RowAt h b off cs) (j : Nat) {k : IntKind} {x : Int} (hc : cs[j]? = some (.int k x)) {K : Int → Prop} (hk : K x) : ldI k h ((⟨b, off, none⟩ : Addr).add j) K :=
  ldI_of (by rw [addr_add]; exact hr.cell hc) hk
theorem ldS_row {h : Heap} {b off : Nat} {cs : List Value} (hr : RowAt h b off cs) (j : Nat) {x : ByteArray} (hc : cs[j]? = some (.string x)) {K : ByteArray → Prop} (hk : K x) : ldS h ((⟨b, off, none⟩ : Addr).add j) K :=
  ldS_of (by rw [addr_add]; exact hr.cell hc) hk
theorem ldB_row {h : Heap} {b off : Nat} {cs : List Value} (hr : RowAt h b off cs) (j : Nat) {x : Bool} (hc : cs[j]? = some (.bool x)) {K : Bool → Prop} (hk : K x) : ldB h ((⟨b, off, none⟩ : Addr).add j) K :=
  ldB_of (by rw [addr_add]; exact hr.cell hc) hk
theorem ldP_row {h : Heap} {b off : Nat} {cs : List Value} (hr : RowAt h b off cs) (j : Nat) {x : Addr} (hc : cs[j]? = some (.pointer (some x))) {K : Addr → Prop} (hk : K x) : ldP h ((⟨b, off, none⟩ : Addr).add j) K :=
  ldP_of (by rw [addr_add]; exact hr.cell hc) hk
theorem ldV_row {h : Heap} {b off : Nat} {cs : List Value} (hr : RowAt h b off cs) (j : Nat) {x : Value} (hc : cs[j]? = some x) {K : Value → Prop} (hk : K x) : ldV h ((⟨b, off, none⟩ : Addr).add j) K :=
  ldV_of (by rw [addr_add]; exact hr.cell hc) hk

/-! A struct copied into a box, field by field. -/
theorem vCopy1 {h : Heap} {t : TypeId} {z0 a : Value} {K : Addr → Heap → Prop} (oa : a.oneCell' = true)
    (hk : ∀ h', RowAt h' h.size 0 [a] → ExtH h h' → h'.size = h.size + 1 → K ⟨h.size, 0, none⟩ h') :
    vNew h (.cells #[z0] t) fun p h0 => vStore1 h0 p a fun h1 => K p h1 := by
  refine vNew_row (cs := [z0]) fun h0 r0 x0 y0 => ?_
  refine st_row (j := 0) r0 (by simp) oa fun h1 r1 x1 y1 => ?_
  exact hk _ r1 (ExtBut.ext x1 x0 fun x hx => by omega) (by omega)
theorem vCopy2 {h : Heap} {t : TypeId} {z0 z1 a b : Value} {K : Addr → Heap → Prop} (oa : a.oneCell' = true) (ob : b.oneCell' = true)
    (hk : ∀ h', RowAt h' h.size 0 [a, b] → ExtH h h' → h'.size = h.size + 1 → K ⟨h.size, 0, none⟩ h') :
    vNew h (.cells #[z0, z1] t) fun p h0 => vStore1 h0 p a fun h1 => vStore1 h1 (p.add 1) b fun h2 => K p h2 := by
  refine vNew_row (cs := [z0, z1]) fun h0 r0 x0 y0 => ?_
  refine st_row (j := 0) r0 (by simp) oa fun h1 r1 x1 y1 => ?_
  refine st_row (j := 1) r1 (by simp) ob fun h2 r2 x2 y2 => ?_
  exact hk _ r2 (ExtBut.ext (x1.trans x2) x0 fun x hx => by omega) (by omega)
theorem vCopy3 {h : Heap} {t : TypeId} {z0 z1 z2 a b c : Value} {K : Addr → Heap → Prop} (oa : a.oneCell' = true) (ob : b.oneCell' = true) (oc : c.oneCell' = true)
    (hk : ∀ h', RowAt h' h.size 0 [a, b, c] → ExtH h h' → h'.size = h.size + 1 → K ⟨h.size, 0, none⟩ h') :
    vNew h (.cells #[z0, z1, z2] t) fun p h0 => vStore1 h0 p a fun h1 => vStore1 h1 (p.add 1) b fun h2 => vStore1 h2 (p.add 2) c fun h3 => K p h3 := by
  refine vNew_row (cs := [z0, z1, z2]) fun h0 r0 x0 y0 => ?_
  refine st_row (j := 0) r0 (by simp) oa fun h1 r1 x1 y1 => ?_
  refine st_row (j := 1) r1 (by simp) ob fun h2 r2 x2 y2 => ?_
  refine st_row (j := 2) r2 (by simp) oc fun h3 r3 x3 y3 => ?_
  exact hk _ r3 (ExtBut.ext ((x1.trans x2).trans x3) x0 fun x hx => by omega) (by omega)
theorem vCopy4 {h : Heap} {t : TypeId} {z0 z1 z2 z3 a b c d : Value} {K : Addr → Heap → Prop} (oa : a.oneCell' = true) (ob : b.oneCell' = true) (oc : c.oneCell' = true) (od : d.oneCell' = true)
    (hk : ∀ h', RowAt h' h.size 0 [a, b, c, d] → ExtH h h' → h'.size = h.size + 1 → K ⟨h.size, 0, none⟩ h') :
    vNew h (.cells #[z0, z1, z2, z3] t) fun p h0 => vStore1 h0 p a fun h1 => vStore1 h1 (p.add 1) b fun h2 => vStore1 h2 (p.add 2) c fun h3 => vStore1 h3 (p.add 3) d fun h4 => K p h4 := by
  refine vNew_row (cs := [z0, z1, z2, z3]) fun h0 r0 x0 y0 => ?_
  refine st_row (j := 0) r0 (by simp) oa fun h1 r1 x1 y1 => ?_
  refine st_row (j := 1) r1 (by simp) ob fun h2 r2 x2 y2 => ?_
  refine st_row (j := 2) r2 (by simp) oc fun h3 r3 x3 y3 => ?_
  refine st_row (j := 3) r3 (by simp) od fun h4 r4 x4 y4 => ?_
  exact hk _ r4 (ExtBut.ext (((x1.trans x2).trans x3).trans x4) x0 fun x hx => by omega) (by omega)
theorem vCopy5 {h : Heap} {t : TypeId} {z0 z1 z2 z3 z4 a b c d e : Value} {K : Addr → Heap → Prop} (oa : a.oneCell' = true) (ob : b.oneCell' = true) (oc : c.oneCell' = true) (od : d.oneCell' = true) (oe : e.oneCell' = true)
    (hk : ∀ h', RowAt h' h.size 0 [a, b, c, d, e] → ExtH h h' → h'.size = h.size + 1 → K ⟨h.size, 0, none⟩ h') :
    vNew h (.cells #[z0, z1, z2, z3, z4] t) fun p h0 => vStore1 h0 p a fun h1 => vStore1 h1 (p.add 1) b fun h2 => vStore1 h2 (p.add 2) c fun h3 => vStore1 h3 (p.add 3) d fun h4 => vStore1 h4 (p.add 4) e fun h5 => K p h5 := by
  refine vNew_row (cs := [z0, z1, z2, z3, z4]) fun h0 r0 x0 y0 => ?_
  refine st_row (j := 0) r0 (by simp) oa fun h1 r1 x1 y1 => ?_
  refine st_row (j := 1) r1 (by simp) ob fun h2 r2 x2 y2 => ?_
  refine st_row (j := 2) r2 (by simp) oc fun h3 r3 x3 y3 => ?_
  refine st_row (j := 3) r3 (by simp) od fun h4 r4 x4 y4 => ?_
  refine st_row (j := 4) r4 (by simp) oe fun h5 r5 x5 y5 => ?_
  exact hk _ r5 (ExtBut.ext ((((x1.trans x2).trans x3).trans x4).trans x5) x0 fun x hx => by omega) (by omega)
theorem vCopy6 {h : Heap} {t : TypeId} {z0 z1 z2 z3 z4 z5 a b c d e f : Value} {K : Addr → Heap → Prop} (oa : a.oneCell' = true) (ob : b.oneCell' = true) (oc : c.oneCell' = true) (od : d.oneCell' = true) (oe : e.oneCell' = true) (of : f.oneCell' = true)
    (hk : ∀ h', RowAt h' h.size 0 [a, b, c, d, e, f] → ExtH h h' → h'.size = h.size + 1 → K ⟨h.size, 0, none⟩ h') :
    vNew h (.cells #[z0, z1, z2, z3, z4, z5] t) fun p h0 => vStore1 h0 p a fun h1 => vStore1 h1 (p.add 1) b fun h2 => vStore1 h2 (p.add 2) c fun h3 => vStore1 h3 (p.add 3) d fun h4 => vStore1 h4 (p.add 4) e fun h5 => vStore1 h5 (p.add 5) f fun h6 => K p h6 := by
  refine vNew_row (cs := [z0, z1, z2, z3, z4, z5]) fun h0 r0 x0 y0 => ?_
  refine st_row (j := 0) r0 (by simp) oa fun h1 r1 x1 y1 => ?_
  refine st_row (j := 1) r1 (by simp) ob fun h2 r2 x2 y2 => ?_
  refine st_row (j := 2) r2 (by simp) oc fun h3 r3 x3 y3 => ?_
  refine st_row (j := 3) r3 (by simp) od fun h4 r4 x4 y4 => ?_
  refine st_row (j := 4) r4 (by simp) oe fun h5 r5 x5 y5 => ?_
  refine st_row (j := 5) r5 (by simp) of fun h6 r6 x6 y6 => ?_
  exact hk _ r6 (ExtBut.ext (((((x1.trans x2).trans x3).trans x4).trans x5).trans x6) x0 fun x hx => by omega) (by omega)

/-! Appending to what is one's own, or nil. -/
def OwnO (h : Heap) (v : Value) (ob : Option Nat) (cs : List Value) : Prop :=
  match ob with
  | none => v = .slice none 0 0 ∧ cs = []
  | some b => OwnSl h v b cs
theorem OwnO.ext {h h' : Heap} {v : Value} {ob : Option Nat} {cs : List Value} (ho : OwnO h v ob cs) (hx : ExtH h h') : OwnO h' v ob cs := by
  cases ob with
  | none => exact ho
  | some b => exact OwnSl.ext ho hx
theorem OwnO.but {B : Nat → Prop} {h h' : Heap} {v : Value} {ob : Option Nat} {cs : List Value} (ho : OwnO h v ob cs) (hx : ExtBut B h h') (hb : ∀ b, ob = some b → ¬ B b) : OwnO h' v ob cs := by
  cases ob with
  | none => exact ho
  | some b => exact OwnSl.but ho hx (hb b rfl)
theorem OwnO.one {h : Heap} {v : Value} {ob : Option Nat} {cs : List Value} (ho : OwnO h v ob cs) : v.oneCell' = true := by
  cases ob with
  | none => obtain ⟨rfl, _⟩ := ho; rfl
  | some b => exact OwnSl.one ho
theorem OwnO.vLen {h : Heap} {v : Value} {ob : Option Nat} {cs : List Value} (ho : OwnO h v ob cs) {K : Nat → Prop} (hk : K cs.length) : vLen v K := by
  cases ob with
  | none => obtain ⟨rfl, rfl⟩ := ho; exact hk
  | some b => exact OwnSl.vLen ho hk
theorem OwnO.sl {α : Type} {E : Elem α} {h : Heap} {v : Value} {ob : Option Nat} {xs : List α} {f : α → Value} (ho : OwnO h v ob (xs.map f)) (hE : ∀ x ∈ xs, E h [f x] x) : SlAt 1 E h v xs := by
  cases ob with
  | none => obtain ⟨h1, h2⟩ := ho; exact .inl ⟨h1, by simpa using h2⟩
  | some b => exact OwnSl.sl ho hE
theorem OwnO.lt {h : Heap} {v : Value} {b : Nat} {cs : List Value} (ho : OwnO h v (some b) cs) : b < h.size := OwnSl.lt ho

theorem storeN_row {b : Nat} : ∀ (news : List Value) (off i : Nat) (h : Heap) (K : Heap → Prop), (∀ v ∈ news, v.oneCell' = true) → (∀ j, j < news.length → Wr h ⟨b, off + (i + j), none⟩) →
    (∀ h', ExtBut (· = b) h h' → h'.size = h.size → (∀ j u, news[j]? = some u → hcell h' ⟨b, off + (i + j), none⟩ = some u) → (∀ q : Addr, (∀ j, j < news.length → q ≠ ⟨b, off + (i + j), none⟩) → hcell h' q = hcell h q) →
      (∀ n, CapAt h b n → CapAt h' b n) → (∀ arr t, h[b]? = some (.cells arr t) → ∃ arr', h'[b]? = some (.cells arr' t)) → K h') →
    vStoreN ⟨b, off, none⟩ news i h K
  | [], off, i, h, K, _, _, hk => hk h (ExtBut.refl _ _) rfl (fun j u hu => by simp at hu) (fun _ _ => rfl) (fun _ hc => hc) (fun arr t ha => ⟨arr, ha⟩)
  | v :: news, off, i, h, K, h1, hw, hk => by
    unfold vStoreN
    rw [addr_add]
    refine vStore1_wr (by simpa using hw 0 (by simp)) (h1 v (List.mem_cons_self ..)) ?_
    have hw0 := hw 0 (by simp)
    refine storeN_row news off (i + 1) _ K (fun u hu => h1 u (List.mem_cons_of_mem _ hu)) (fun j hj => ?_) ?_
    · have := hw (j + 1) (by simpa using hj)
      rw [show i + (j + 1) = i + 1 + j by omega] at this
      exact this.hset
    · intro h' g1 g2 g3 g4 g5 g6
      refine hk h' ((ExtBut.hset _ _ _).trans g1) (by rw [g2, hset_size]) (fun j u hu => ?_) (fun q hq => ?_) (fun n hc => g5 n (hc.hset _ _)) (fun arr t ha => ?_)
      · cases j with
        | zero =>
          simp at hu; subst hu
          rw [g4 _ (fun j hj e => by simp at e <;> omega)]
          obtain ⟨⟨u0, hu0⟩, _⟩ := hw0
          simpa using hcell_hset_same hu0
        | succ j =>
          rw [show i + (j + 1) = i + 1 + j by omega]
          exact g3 j u (by simpa using hu)
      · rw [g4 q fun j hj => by have := hq (j + 1) (by simpa using hj); rwa [show i + (j + 1) = i + 1 + j by omega] at this]
        exact hcell_hset_other fun e => by have := hq 0 (by simp); exact this (by rw [← e]; simp)
      · refine g6 (arr.setIfInBounds (off + i) v) t ?_
        unfold Vc.hset
        rw [Array.getElem?_modify, if_pos rfl, ha]
        rfl

theorem repl_one (n : Nat) (z : Value) : repl n [z] = List.replicate n z := by
  induction n with
  | zero => rfl
  | succ n ih => rw [repl, ih, List.replicate_succ]; rfl

/-- Cells that a slice shows. -/
def Shows (h : Heap) (v : Value) (cs : List Value) : Prop :=
  (v = .slice none 0 0 ∧ cs = []) ∨ ∃ a c, v = .slice (some a) cs.length c ∧ ∀ j u, cs[j]? = some u → hcell h (a.add j) = some u
theorem OwnSl.shows {h : Heap} {v : Value} {b : Nat} {cs : List Value} (ho : OwnSl h v b cs) : Shows h v cs := by
  obtain ⟨off, c, rfl, _, h3, _⟩ := ho
  exact .inr ⟨_, c, rfl, fun j u hu => by rw [addr_add]; exact h3.cell hu⟩

theorem vAppend_own {bytes : Nat} {z : Value} {el : TypeId} {h : Heap} {s x : Value} {ob : Option Nat} {cs news : List Value} {K : Value → Heap → Prop}
    (hs : OwnO h s ob cs) (hx : Shows h x news) (h1 : ∀ v ∈ news, v.oneCell' = true) (hb : (cs.length + news.length) * bytes ≤ 140737488355328) (hl : cs.length + news.length ≤ 4611686018427387904)
    (hk : ∀ v' h' ob', OwnO h' v' ob' (cs ++ news) → (ob' = ob ∨ ob' = some h.size) → ExtBut (fun b => ob = some b) h h' → K v' h') : vAppend 1 bytes [z] el s x h K := by
  have grow : ∀ cap, cs.length + news.length ≤ cap → ∀ o : Obj, o = .cells (cs ++ news ++ repl (cap - (cs.length + news.length)) [z]).toArray el →
      OwnO (h.push o) (.slice (some (hnew h)) (cs.length + news.length) cap) (some h.size) (cs ++ news) ∧ ExtH h (h.push o) := by
    intro cap hcap o ho
    subst ho
    have hget : (h.push (.cells (cs ++ news ++ repl (cap - (cs.length + news.length)) [z]).toArray el))[h.size]? = some (.cells (cs ++ news ++ repl (cap - (cs.length + news.length)) [z]).toArray el) := Array.getElem?_push_size
    refine ⟨⟨0, cap, by simp [hnew], by simpa using hcap, ⟨_, el, hget, fun j u hu => ?_⟩, _, el, hget, ?_⟩, ExtH.push _ _⟩
    · simp only [Nat.zero_add, List.getElem?_toArray]
      rw [List.getElem?_append_left (get_lt hu)]; exact hu
    · simp only [List.size_toArray, List.length_append, repl_length, List.length_cons, List.length_nil]; omega
  have hxs : ∃ src m mc, x = .slice src m mc ∧ news.length = m ∧ (∀ j u, news[j]? = some u → ∃ a, src = some a ∧ hcell h (a.add j) = some u) ∧ (src = none → m = 0) := by
    rcases hx with ⟨rfl, rfl⟩ | ⟨a, c, rfl, h2⟩
    · exact ⟨none, 0, 0, rfl, rfl, (fun j u hu => by simp at hu), fun _ => rfl⟩
    · exact ⟨some a, _, c, rfl, rfl, fun j u hu => ⟨a, rfl, h2 j u hu⟩, (fun h => by cases h)⟩
  obtain ⟨src, m, mc, rfl, rfl, hsrc, hsn⟩ := hxs
  cases ob with
  | none =>
    obtain ⟨rfl, rfl⟩ := hs
    refine ⟨[], news, rfl, by simp, (fun j u hu => by simp at hu), hsrc, fun _ => rfl, hsn, by simpa using hb, by simpa using hl, (fun _ a ha => by cases ha), fun hle _ => ?_, fun hlt cap hcap hcm => ?_⟩
    · have : news = [] := List.eq_nil_of_length_eq_zero (by omega)
      subst this
      exact hk _ h none ⟨rfl, rfl⟩ (.inl rfl) (ExtBut.refl _ _)
    · obtain ⟨g1, g2⟩ := grow cap (by simpa using hcap) _ rfl
      simp only [List.length_nil, List.nil_append, Nat.zero_add] at g1 g2 hcap ⊢
      exact hk _ _ (some h.size) g1 (.inr rfl) (ExtBut.of_ext g2)
  | some b =>
    obtain ⟨off, c, rfl, hc, hrow, hcap0⟩ := hs
    refine ⟨cs, news, by simp, by simp, fun j u hu => ⟨_, rfl, by rw [addr_add]; exact hrow.cell hu⟩, hsrc, (fun h => by cases h), hsn, hb, hl, fun hle a ha => ?_, (fun _ h => by cases h), fun hlt cap hcap hcm => ?_⟩
    · cases ha
      refine ⟨h1, ?_⟩
      rw [addr_add]
      refine storeN_row news _ 0 h _ h1 (fun j hj => hcap0.wr (by omega)) ?_
      intro h' g1 g2 g3 g4 g5 g6
      refine hk _ h' (some b) ⟨off, c, by simp, by simpa using hle, ?_, g5 _ hcap0⟩ (.inl rfl) (g1.mono fun x hx => by rw [hx])
      obtain ⟨arr, t, ha, hr⟩ := hrow
      obtain ⟨arr', ha'⟩ := g6 arr t ha
      refine ⟨arr', t, ha', fun j u hu => ?_⟩
      have hcell' : hcell h' ⟨b, off + j, none⟩ = some u := by
        by_cases hj : j < cs.length
        · rw [List.getElem?_append_left hj] at hu
          rw [g4 _ fun i hi e => by simp at e <;> omega]
          exact RowAt.cell ⟨arr, t, ha, hr⟩ hu
        · rw [List.getElem?_append_right (by omega)] at hu
          have := g3 (j - cs.length) u hu
          rwa [show off + cs.length * 1 + (0 + (j - cs.length)) = off + j by omega] at this
      unfold hcell at hcell'; rw [ha'] at hcell'; exact hcell'
    · obtain ⟨g1, g2⟩ := grow cap hcap _ rfl
      exact hk _ _ (some h.size) g1 (.inr rfl) (ExtBut.of_ext g2)

/-! A slice of structs, written out. -/
def AllC {α : Type} (z : Nat) (E : Elem α) (h : Heap) : List (List Value) → List α → Prop
  | [], [] => True
  | c :: cs, x :: xs => c.length = z ∧ E h c x ∧ AllC z E h cs xs
  | _, _ => False
theorem AllC.get {α : Type} {z : Nat} {E : Elem α} {h : Heap} : ∀ {css : List (List Value)} {xs : List α}, AllC z E h css xs → css.length = xs.length ∧ ∀ i x, xs[i]? = some x → ∃ c, c.length = z ∧ E h c x ∧ ∀ j u, c[j]? = some u → css.flatten[i * z + j]? = some u
  | [], [], _ => ⟨rfl, fun i x hx => by simp at hx⟩
  | [], _ :: _, h => h.elim
  | _ :: _, [], h => h.elim
  | c :: cs, x :: xs, ⟨h1, h2, h3⟩ => by
    obtain ⟨g1, g2⟩ := AllC.get h3
    refine ⟨by simp [g1], fun i y hy => ?_⟩
    cases i with
    | zero =>
      simp at hy; subst hy
      refine ⟨c, h1, h2, fun j u hu => ?_⟩
      rw [List.flatten_cons, List.getElem?_append_left (by have := get_lt hu; omega)]
      simpa using hu
    | succ i =>
      obtain ⟨d, e1, e2, e3⟩ := g2 i y (by simpa using hy)
      refine ⟨d, e1, e2, fun j u hu => ?_⟩
      have hm : (i + 1) * z + j = c.length + (i * z + j) := by rw [h1, Nat.add_mul, Nat.one_mul]; omega
      rw [List.flatten_cons, hm, List.getElem?_append_right (by omega)]
      simpa using e3 j u hu
theorem AllC.ext {α : Type} {z : Nat} {E : Elem α} (hE : Mono E) {h h' : Heap} (hx : ExtH h h') : ∀ {css : List (List Value)} {xs : List α}, AllC z E h css xs → AllC z E h' css xs
  | [], [], _ => trivial
  | [], _ :: _, h => h.elim
  | _ :: _, [], h => h.elim
  | _ :: _, _ :: _, ⟨h1, h2, h3⟩ => ⟨h1, hE _ _ _ _ hx h2, AllC.ext hE hx h3⟩
theorem vNewS_sl {α : Type} {z : Nat} {E : Elem α} (hE : Mono E) {h : Heap} {css : List (List Value)} {xs : List α} {t : TypeId} {n : Nat} (hall : AllC z E h css xs) (hn : css.length = n) {K : Value → Heap → Prop}
    (hk : ∀ v h', SlAt z E h' v xs → ExtH h h' → K v h') : vNewS h (.cells css.flatten.toArray t) n K := by
  subst hn
  obtain ⟨g1, g2⟩ := (hall.ext hE (ExtH.push h (.cells css.flatten.toArray t))).get
  refine hk _ _ (.inr ⟨⟨h.size, 0, none⟩, css.length, by rw [g1]; rfl, by omega, fun i x hx => ?_⟩) (ExtH.push h _)
  obtain ⟨c, e1, e2, e3⟩ := g2 i x hx
  refine ⟨c, e1, fun j u hu => ?_, e2⟩
  rw [addr_add, addr_add]
  simpa using (RowAt.push h css.flatten t).cell (e3 j u hu)

end Go.Vc
