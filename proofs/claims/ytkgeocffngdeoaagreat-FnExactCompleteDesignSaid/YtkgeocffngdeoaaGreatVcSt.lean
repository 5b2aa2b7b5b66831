/- A function's own rows and the data around them, as one state. -/
import Derived.Test.YtkgeocffngdeoaaGreatVcOwn
namespace Go.Vc
open Go

/-- The block holds these cells, and may be written. -/
def RowIs (h : Heap) (b : Nat) (cs : List Value) : Prop := ∃ t, h[b]? = some (.cells cs.toArray t)
abbrev Rws := List (Nat × List Value)
abbrev Rws.bs (L : Rws) : List Nat := L.map Prod.fst

theorem RowIs.lt {h : Heap} {b : Nat} {cs : List Value} (hr : RowIs h b cs) : b < h.size := by
  obtain ⟨t, h1⟩ := hr
  rcases Nat.lt_or_ge b h.size with h' | h'
  · exact h'
  · rw [Array.getElem?_eq_none h'] at h1; cases h1
theorem RowIs.same {h h' : Heap} {b : Nat} {cs : List Value} (hr : RowIs h b cs) (he : h'[b]? = h[b]?) : RowIs h' b cs := by
  obtain ⟨t, h1⟩ := hr; exact ⟨t, by rw [he]; exact h1⟩
theorem RowIs.ext {h h' : Heap} {b : Nat} {cs : List Value} (hr : RowIs h b cs) (hx : ExtH h h') : RowIs h' b cs := hr.same (hx.2 b hr.lt)
theorem RowIs.cell {h : Heap} {b : Nat} {cs : List Value} (hr : RowIs h b cs) {j : Nat} {u : Value} (hu : cs[j]? = some u) : hcell h ⟨b, j, none⟩ = some u := by
  obtain ⟨t, h1⟩ := hr
  unfold hcell; rw [h1]; simpa using hu
theorem RowIs.wr {h : Heap} {b : Nat} {cs : List Value} (hr : RowIs h b cs) {j : Nat} (hj : j < cs.length) : Wr h ⟨b, j, none⟩ := by
  obtain ⟨u, hu⟩ := get_some hj
  refine ⟨⟨u, hr.cell hu⟩, ?_⟩
  obtain ⟨t, h1⟩ := hr
  unfold hfroz; rw [h1]; simp
theorem RowIs.set {h : Heap} {b : Nat} {cs : List Value} (hr : RowIs h b cs) (j : Nat) (v : Value) : RowIs (hset h ⟨b, j, none⟩ v) b (cs.set j v) := by
  obtain ⟨t, h1⟩ := hr
  refine ⟨t, ?_⟩
  unfold hset
  rw [Array.getElem?_modify, if_pos rfl, h1]
  simp
theorem RowIs.push (h : Heap) (cs : List Value) (t : TypeId) : RowIs (h.push (.cells cs.toArray t)) h.size cs := ⟨t, by simp⟩


structure Sta (h0 h : Heap) (L : Rws) (D : Heap → Prop) : Prop where
  ext : ExtH h0 h
  row : ∀ b cs, (b, cs) ∈ L → RowIs h b cs
  low : ∀ b, b ∈ L.bs → h0.size ≤ b
  nod : L.bs.Nodup
  dat : ∀ h', ExtBut (· ∈ L.bs) h h' → D h'

theorem Sta.now {h0 h : Heap} {L : Rws} {D : Heap → Prop} (st : Sta h0 h L D) : D h := st.dat h (ExtBut.refl _ _)
theorem Sta.start {h : Heap} {D : Heap → Prop} (hD : ∀ h', ExtH h h' → D h') : Sta h h [] D :=
  ⟨ExtH.refl h, by simp, by simp [Rws.bs], by simp [Rws.bs], fun h' hx => hD h' ⟨hx.1, fun b hb => hx.2 b hb (by simp [Rws.bs])⟩⟩
theorem Sta.lt {h0 h : Heap} {L : Rws} {D : Heap → Prop} (st : Sta h0 h L D) {b : Nat} (hb : b ∈ L.bs) : b < h.size := by
  obtain ⟨⟨b', cs⟩, h1, rfl⟩ := List.mem_map.1 hb
  exact (st.row _ _ h1).lt
theorem Sta.new {h0 h : Heap} {L : Rws} {D : Heap → Prop} (st : Sta h0 h L D) (cs : List Value) (t : TypeId) : Sta h0 (h.push (.cells cs.toArray t)) ((h.size, cs) :: L) D := by
  refine ⟨st.ext.trans (ExtH.push h _), fun b c hm => ?_, fun b hb => ?_, ?_, fun h' hx => st.dat h' ⟨Nat.le_trans (ExtH.push h _).1 hx.1, fun b hb hn => ?_⟩⟩
  · rcases List.mem_cons.1 hm with h1 | h1
    · cases h1; exact RowIs.push h cs t
    · exact (st.row b c h1).ext (ExtH.push h _)
  · rcases List.mem_cons.1 hb with h1 | h1
    · rw [h1]; exact st.ext.1
    · exact st.low b h1
  · refine List.nodup_cons.2 ⟨fun hm => ?_, st.nod⟩
    have := st.lt hm
    exact absurd this (Nat.lt_irrefl _)
  · rw [hx.2 b (Nat.lt_of_lt_of_le hb (ExtH.push h _).1) (fun hm => ?_), (ExtH.push h _).2 b hb]
    rcases List.mem_cons.1 hm with h1 | h1
    · rw [h1] at hb; exact absurd hb (Nat.lt_irrefl _)
    · exact hn h1
theorem bs_set {L : Rws} {i b : Nat} {cs cs' : List Value} (hl : L[i]? = some (b, cs)) : Rws.bs (L.set i (b, cs')) = L.bs := by
  unfold Rws.bs
  rw [List.map_set]
  apply List.ext_getElem?
  intro j
  rw [List.getElem?_set]
  split
  · rename_i hij
    subst hij
    have := get_lt hl
    rw [if_pos (by simpa using this), List.getElem?_map, hl]; rfl
  · rfl
theorem Sta.set {h0 h : Heap} {L : Rws} {D : Heap → Prop} (st : Sta h0 h L D) {i b : Nat} {cs : List Value} (hl : L[i]? = some (b, cs)) (j : Nat) (v : Value) :
    Sta h0 (hset h ⟨b, j, none⟩ v) (L.set i (b, cs.set j v)) D := by
  have hmem : (b, cs) ∈ L := List.mem_of_getElem? hl
  have hbm : b ∈ L.bs := List.mem_map.2 ⟨_, hmem, rfl⟩
  have hx : ExtBut (· = b) h (hset h ⟨b, j, none⟩ v) := ExtBut.hset h _ v
  refine ⟨hx.ext st.ext fun x hx => by rw [hx]; exact st.low b hbm, fun b' c hm => ?_, fun b' hb => ?_, ?_, fun h' hy => st.dat h' ?_⟩
  · obtain ⟨k, hk⟩ := List.getElem?_of_mem hm
    rw [List.getElem?_set] at hk
    by_cases hik : i = k
    · subst hik
      rw [if_pos rfl, if_pos (get_lt hl)] at hk
      cases hk
      exact (st.row b cs hmem).set j v
    · rw [if_neg hik] at hk
      have hm' := List.mem_of_getElem? hk
      refine (st.row b' c hm').same (hx.2 b' (st.row b' c hm').lt fun e => ?_)
      subst e
      have h1 : L.bs[i]? = some b' := by rw [List.getElem?_map, hl]; rfl
      have h2 : L.bs[k]? = some b' := by rw [List.getElem?_map, hk]; rfl
      exact hik ((List.getElem?_inj (get_lt h1) st.nod).1 (h1.trans h2.symm))
  · rw [bs_set hl] at hb; exact st.low b' hb
  · rw [bs_set hl]; exact st.nod
  · rw [bs_set hl] at hy
    exact (hx.mono fun x hx => by rw [hx]; exact hbm).trans hy
theorem Sta.imp {h0 h : Heap} {L : Rws} {D D' : Heap → Prop} (st : Sta h0 h L D) (hD : ∀ h', D h' → D' h') : Sta h0 h L D' := ⟨st.ext, st.row, st.low, st.nod, fun h' hx => hD h' (st.dat h' hx)⟩
/-- A call that leaves what was there. -/
theorem Sta.call {h0 h h1 : Heap} {L : Rws} {D : Heap → Prop} (st : Sta h0 h L D) (hx : ExtH h h1) : Sta h0 h1 L D :=
  ⟨st.ext.trans hx, fun b cs hm => (st.row b cs hm).ext hx, st.low, st.nod, fun h' hy => st.dat h' ((ExtBut.of_ext hx).trans hy)⟩

/-- What is said of the heap rests on some blocks alone. -/
def Fp (F : Nat → Prop) (h : Heap) (A : Heap → Prop) : Prop := ∀ h' : Heap, (∀ b, F b → b < h.size → h'[b]? = h[b]?) → h.size ≤ h'.size → A h'
theorem Fp.now {F : Nat → Prop} {h : Heap} {A : Heap → Prop} (hf : Fp F h A) : A h := hf h (fun _ _ _ => rfl) (Nat.le_refl _)
theorem Fp.next {F : Nat → Prop} {h h' : Heap} {A : Heap → Prop} (hf : Fp F h A) (he : ∀ b, F b → b < h.size → h'[b]? = h[b]?) (hs : h.size ≤ h'.size) : Fp F h' A :=
  fun h2 e2 s2 => hf h2 (fun b hb hl => (e2 b hb (Nat.lt_of_lt_of_le hl hs)).trans (he b hb hl)) (Nat.le_trans hs s2)
theorem Fp.ext {F : Nat → Prop} {h h' : Heap} {A : Heap → Prop} (hf : Fp F h A) (hx : ExtH h h') : Fp F h' A := hf.next (fun b _ hl => hx.2 b hl) hx.1
theorem Fp.but {F B : Nat → Prop} {h h' : Heap} {A : Heap → Prop} (hf : Fp F h A) (hx : ExtBut B h h') (hd : ∀ b, F b → ¬ B b) : Fp F h' A := hf.next (fun b hb hl => hx.2 b hl (hd b hb)) hx.1
theorem Fp.wide {F F' : Nat → Prop} {h : Heap} {A : Heap → Prop} (hf : Fp F h A) (hF : ∀ b, F b → F' b) : Fp F' h A := fun h' he hs => hf h' (fun b hb => he b (hF b hb)) hs
theorem Fp.imp {F : Nat → Prop} {h : Heap} {A A' : Heap → Prop} (hf : Fp F h A) (hA : ∀ h', A h' → A' h') : Fp F h A' := fun h' he hs => hA h' (hf h' he hs)
theorem Fp.and {F : Nat → Prop} {h : Heap} {A A' : Heap → Prop} (hf : Fp F h A) (hf' : Fp F h A') : Fp F h fun x => A x ∧ A' x := fun h' he hs => ⟨hf h' he hs, hf' h' he hs⟩
theorem Fp.of_mono {h : Heap} {A : Heap → Prop} (hA : ∀ h', ExtH h h' → A h') : Fp (fun _ => True) h A := fun h' he hs => hA h' ⟨hs, fun b hb => he b trivial hb⟩

/-- A call that leaves what was there and makes new data. -/
theorem Sta.make {h0 h h1 : Heap} {L : Rws} {D A : Heap → Prop} (st : Sta h0 h L D) (hx : ExtH h h1) (hA : Fp (h.size ≤ ·) h1 A) : Sta h0 h1 L fun x => D x ∧ Fp (h.size ≤ ·) x A :=
  ⟨st.ext.trans hx, fun b cs hm => (st.row b cs hm).ext hx, st.low, st.nod, fun h' hy => ⟨st.dat h' ((ExtBut.of_ext hx).trans hy), hA.but hy fun b hb hm => by have := st.lt hm; omega⟩⟩
/-- A row that is written no more. -/
theorem Sta.freeze {h0 h : Heap} {b : Nat} {cs : List Value} {L : Rws} {D : Heap → Prop} (st : Sta h0 h ((b, cs) :: L) D) : Sta h0 h L fun x => D x ∧ RowIs x b cs := by
  have hb := st.row b cs (List.mem_cons_self ..)
  refine ⟨st.ext, fun b' c hm => st.row b' c (List.mem_cons_of_mem _ hm), fun b' hm => st.low b' (List.mem_cons_of_mem _ hm), (List.nodup_cons.1 st.nod).2, fun h' hy => ⟨st.dat h' (hy.mono fun x hx => List.mem_cons_of_mem _ hx), hb.same (hy.2 b hb.lt (List.nodup_cons.1 st.nod).1)⟩⟩
theorem Sta.drop {h0 h : Heap} {r : Nat × List Value} {L : Rws} {D : Heap → Prop} (st : Sta h0 h (r :: L) D) : Sta h0 h L D := by
  obtain ⟨b, cs⟩ := r
  exact st.freeze.imp fun _ h => h.1

/-! Operations. -/
theorem new_st {h0 h : Heap} {L : Rws} {D : Heap → Prop} (st : Sta h0 h L D) {cs : List Value} {t : TypeId} {K : Addr → Heap → Prop} (hk : ∀ b h', Sta h0 h' ((b, cs) :: L) D → K ⟨b, 0, none⟩ h') :
    vNew h (.cells cs.toArray t) K := hk _ _ (st.new cs t)
theorem store_st {h0 h : Heap} {L : Rws} {D : Heap → Prop} (st : Sta h0 h L D) (i : Nat) {a : Addr} {b j : Nat} {cs : List Value} {v : Value} {K : Heap → Prop} (ha : a = ⟨b, j, none⟩) (hl : L[i]? = some (b, cs)) (hj : (cs[j]?).isSome = true)
    (h1 : v.oneCell' = true) (hk : ∀ h', Sta h0 h' (L.set i (b, cs.set j v)) D → K h') : vStore1 h a v K := by
  subst ha
  refine vStore1_wr ((st.row b cs (List.mem_of_getElem? hl)).wr ?_) h1 (hk _ (st.set hl j v))
  obtain ⟨u, hu⟩ := Option.isSome_iff_exists.1 hj
  exact get_lt hu
theorem ldI_st {h0 h : Heap} {L : Rws} {D : Heap → Prop} (st : Sta h0 h L D) (i : Nat) {a : Addr} {b j : Nat} {cs : List Value} {k : IntKind} {x : Int} {K : Int → Prop} (ha : a = ⟨b, j, none⟩) (hl : L[i]? = some (b, cs)) (hc : cs[j]? = some (.int k x)) (hk : K x) : ldI k h a K := by
  subst ha; exact ldI_of ((st.row b cs (List.mem_of_getElem? hl)).cell hc) hk
theorem ldS_st {h0 h : Heap} {L : Rws} {D : Heap → Prop} (st : Sta h0 h L D) (i : Nat) {a : Addr} {b j : Nat} {cs : List Value} {x : ByteArray} {K : ByteArray → Prop} (ha : a = ⟨b, j, none⟩) (hl : L[i]? = some (b, cs)) (hc : cs[j]? = some (.string x)) (hk : K x) : ldS h a K := by
  subst ha; exact ldS_of ((st.row b cs (List.mem_of_getElem? hl)).cell hc) hk
theorem ldB_st {h0 h : Heap} {L : Rws} {D : Heap → Prop} (st : Sta h0 h L D) (i : Nat) {a : Addr} {b j : Nat} {cs : List Value} {x : Bool} {K : Bool → Prop} (ha : a = ⟨b, j, none⟩) (hl : L[i]? = some (b, cs)) (hc : cs[j]? = some (.bool x)) (hk : K x) : ldB h a K := by
  subst ha; exact ldB_of ((st.row b cs (List.mem_of_getElem? hl)).cell hc) hk
theorem ldP_st {h0 h : Heap} {L : Rws} {D : Heap → Prop} (st : Sta h0 h L D) (i : Nat) {a : Addr} {b j : Nat} {cs : List Value} {x : Addr} {K : Addr → Prop} (ha : a = ⟨b, j, none⟩) (hl : L[i]? = some (b, cs)) (hc : cs[j]? = some (.pointer (some x))) (hk : K x) : ldP h a K := by
  subst ha; exact ldP_of ((st.row b cs (List.mem_of_getElem? hl)).cell hc) hk
theorem ldV_st {h0 h : Heap} {L : Rws} {D : Heap → Prop} (st : Sta h0 h L D) (i : Nat) {a : Addr} {b j : Nat} {cs : List Value} {x : Value} {K : Value → Prop} (ha : a = ⟨b, j, none⟩) (hl : L[i]? = some (b, cs)) (hc : cs[j]? = some x) (hk : K x) : ldV h a K := by
  subst ha; exact ldV_of ((st.row b cs (List.mem_of_getElem? hl)).cell hc) hk
/-- Cells of data. -/
theorem ldI_ce {h : Heap} {p a : Addr} {cs : List Value} (hp : CellsAt h p cs) (j : Nat) {k : IntKind} {x : Int} {K : Int → Prop} (ha : a = p.add j) (hc : cs[j]? = some (.int k x)) (hk : K x) : ldI k h a K := by
  subst ha; exact ldI_of (hp j _ hc) hk
theorem ldS_ce {h : Heap} {p a : Addr} {cs : List Value} (hp : CellsAt h p cs) (j : Nat) {x : ByteArray} {K : ByteArray → Prop} (ha : a = p.add j) (hc : cs[j]? = some (.string x)) (hk : K x) : ldS h a K := by
  subst ha; exact ldS_of (hp j _ hc) hk
theorem ldB_ce {h : Heap} {p a : Addr} {cs : List Value} (hp : CellsAt h p cs) (j : Nat) {x : Bool} {K : Bool → Prop} (ha : a = p.add j) (hc : cs[j]? = some (.bool x)) (hk : K x) : ldB h a K := by
  subst ha; exact ldB_of (hp j _ hc) hk
theorem ldV_ce {h : Heap} {p a : Addr} {cs : List Value} (hp : CellsAt h p cs) (j : Nat) {x : Value} {K : Value → Prop} (ha : a = p.add j) (hc : cs[j]? = some x) (hk : K x) : ldV h a K := by
  subst ha; exact ldV_of (hp j _ hc) hk
theorem add_add (p : Addr) (i j : Nat) : (p.add i).add j = p.add (i + j) := by
  unfold Addr.add
  by_cases hi : i = 0
  · subst hi; simp
  · by_cases hj : j = 0
    · subst hj; simp [hi]
    · rw [if_neg hi, if_neg hj, if_neg (by omega)]; simp [Nat.add_assoc]

/-! A made slice that is filled, element by element. -/
def eSlB {α : Type} (z : Nat) (E : Elem α) : Elem (List α) := fun h cs xs => ∃ v, cs = [v] ∧ SlAt z E h v xs ∧ xs.length ≤ 9223372036854775807
def eStB : Elem ByteArray := fun _ cs x => cs = [.string x] ∧ x.size ≤ 9223372036854775807
def SlB {α : Type} (z : Nat) (E : Elem α) (h : Heap) (v : Value) (xs : List α) : Prop := SlAt z E h v xs ∧ xs.length ≤ 9223372036854775807
theorem mono_slB {α : Type} {z : Nat} {E : Elem α} (hE : Mono E) : Mono (eSlB z E) := fun _ _ _ _ hx ⟨v, h1, h2, h3⟩ => ⟨v, h1, h2.ext hE hx, h3⟩
theorem mono_stB : Mono eStB := fun _ _ _ _ _ h => h
theorem SlB.ext {α : Type} {z : Nat} {E : Elem α} (hE : Mono E) {h h' : Heap} {v : Value} {xs : List α} (hx : ExtH h h') (hs : SlB z E h v xs) : SlB z E h' v xs := ⟨hs.1.ext hE hx, hs.2⟩
theorem SlB.one {α : Type} {z : Nat} {E : Elem α} {h : Heap} {v : Value} {xs : List α} (hs : SlB z E h v xs) : v.oneCell' = true := hs.1.one
theorem ElemAt.slB {α : Type} {z : Nat} {E : Elem α} {h : Heap} {p : Addr} {xs : List α} (he : ElemAt 1 (eSlB z E) h p xs) : ∃ v, hcell h p = some v ∧ SlB z E h v xs := by
  obtain ⟨cs, _, h2, v, rfl, h3⟩ := he; exact ⟨v, h2 0 _ rfl, h3⟩
theorem ElemAt.stB {h : Heap} {p : Addr} {x : ByteArray} (he : ElemAt 1 eStB h p x) : hcell h p = some (.string x) ∧ x.size ≤ 9223372036854775807 := by
  obtain ⟨cs, _, h2, rfl, h3⟩ := he; exact ⟨h2 0 _ rfl, h3⟩

theorem set_mid {pre c post : List Value} {j : Nat} {v : Value} (hj : j < c.length) : (pre ++ c ++ post).set (pre.length + j) v = pre ++ c.set j v ++ post := by
  rw [List.append_assoc, List.append_assoc, List.set_append, if_neg (by omega), List.set_append, if_pos (by omega)]
  simp
theorem store_mid {h0 h : Heap} {L : Rws} {D : Heap → Prop} {b : Nat} {pre c post : List Value} (st : Sta h0 h ((b, pre ++ c ++ post) :: L) D) (j : Nat) {m : Nat} {a : Addr} {v : Value} {K : Heap → Prop} (hm : pre.length = m) (ha : a = ⟨b, m + j, none⟩) (hj : (c[j]?).isSome = true)
    (h1 : v.oneCell' = true) (hk : ∀ h', Sta h0 h' ((b, pre ++ c.set j v ++ post) :: L) D → K h') : vStore1 h a v K := by
  subst hm
  obtain ⟨u, hu⟩ := Option.isSome_iff_exists.1 hj
  have hlt := get_lt hu
  refine store_st st 0 ha rfl ?_ h1 fun h' st' => hk h' ?_
  · rw [List.append_assoc, List.getElem?_append_right (by omega), List.getElem?_append_left (by omega)]
    simpa using hj
  · rw [set_mid hlt] at st'
    exact st'

theorem repl_len (n : Nat) (z : List Value) : (repl n z).length = n * z.length := by
  induction n with
  | zero => simp [repl]
  | succ n ih => rw [repl, List.length_append, ih, Nat.add_mul]; omega

/-- Blocks that are new, and not the row in hand. -/
def FF (h0 : Heap) (b : Nat) (L : Rws) : Nat → Prop := fun c => h0.size ≤ c ∧ c ≠ b ∧ c ∉ L.bs
/-- k of n elements are there. -/
structure Fill {α : Type} (z : Nat) (zero : List Value) (E : Elem α) (xs : List α) (h0 h : Heap) (L : Rws) (D : Heap → Prop) (b k : Nat) (css : List (List Value)) : Prop where
  st : Sta h0 h ((b, css.flatten ++ repl (xs.length - k) zero) :: L) fun x => D x ∧ Fp (FF h0 b L) x fun h' => AllC z E h' css (xs.take k)
  len : css.length = k
  le : k ≤ xs.length
  zz : zero.length = z

theorem AllC.flat {α : Type} {z : Nat} {E : Elem α} {h : Heap} : ∀ {css : List (List Value)} {xs : List α}, AllC z E h css xs → css.flatten.length = css.length * z
  | [], [], _ => by simp
  | [], _ :: _, h => h.elim
  | _ :: _, [], h => h.elim
  | c :: cs, x :: xs, ⟨h1, _, h3⟩ => by rw [List.flatten_cons, List.length_append, h1, AllC.flat h3, List.length_cons, Nat.add_mul]; omega
theorem AllC.snoc {α : Type} {z : Nat} {E : Elem α} {h : Heap} {c : List Value} {x : α} (hc : c.length = z) (he : E h c x) : ∀ {css : List (List Value)} {xs : List α}, AllC z E h css xs → AllC z E h (css ++ [c]) (xs ++ [x])
  | [], [], _ => ⟨hc, he, trivial⟩
  | [], _ :: _, h => h.elim
  | _ :: _, [], h => h.elim
  | _ :: _, _ :: _, ⟨h1, h2, h3⟩ => ⟨h1, h2, AllC.snoc hc he h3⟩

theorem make_fill {α : Type} {bytes z : Nat} {zero : List Value} {el : TypeId} {E : Elem α} {xs : List α} {h0 h : Heap} {L : Rws} {D : Heap → Prop} (st : Sta h0 h L D) (hz : zero.length = z) (hb : xs.length * bytes ≤ 140737488355328) (hl : xs.length ≤ 4611686018427387904) {K : Value → Heap → Prop}
    (hk : ∀ b h', Fill z zero E xs h0 h' L D b 0 [] → K (.slice (some ⟨b, 0, none⟩) xs.length xs.length) h') : vMake bytes zero el (xs.length : Int) (xs.length : Int) h K := by
  have hb' : ((xs.length * bytes : Nat) : Int) ≤ 140737488355328 := by omega
  rw [Int.natCast_mul] at hb'
  refine ⟨⟨by omega, by omega, hb', by omega⟩, ?_⟩
  rw [Int.toNat_natCast]
  exact hk _ _ ⟨(st.new (repl xs.length zero) el).imp fun x hx => ⟨hx, fun h' _ _ => trivial⟩, rfl, Nat.zero_le _, hz⟩

theorem Fill.flat {α : Type} {z : Nat} {zero : List Value} {E : Elem α} {xs : List α} {h0 h : Heap} {L : Rws} {D : Heap → Prop} {b k : Nat} {css : List (List Value)} (f : Fill z zero E xs h0 h L D b k css) : css.flatten.length = k * z := by
  rw [f.st.now.2.now.flat, f.len]
/-- The state in which element k is stored. -/
theorem Fill.mid {α : Type} {z : Nat} {zero : List Value} {E : Elem α} {xs : List α} {h0 h : Heap} {L : Rws} {D : Heap → Prop} {b k : Nat} {css : List (List Value)} (f : Fill z zero E xs h0 h L D b k css) (hk : k < xs.length) :
    Sta h0 h ((b, css.flatten ++ zero ++ repl (xs.length - (k + 1)) zero) :: L) fun x => D x ∧ Fp (FF h0 b L) x fun h' => AllC z E h' css (xs.take k) := by
  have := f.st
  rwa [show xs.length - k = xs.length - (k + 1) + 1 by omega, repl, ← List.append_assoc] at this
theorem Fill.idx {α : Type} {z : Nat} {zero : List Value} {E : Elem α} {xs : List α} {h0 h : Heap} {L : Rws} {D : Heap → Prop} {b k : Nat} {css : List (List Value)} (f : Fill z zero E xs h0 h L D b k css) (hk : k < xs.length) {K : Addr → Prop}
    (hK : css.flatten.length = k * z → K ⟨b, k * z, none⟩) : vIdx (.slice (some ⟨b, 0, none⟩) xs.length xs.length) (k : Int) z K := by
  refine ⟨⟨by omega, by omega⟩, ?_⟩
  rw [addr_add]
  simpa using hK f.flat
/-- A call before the store. -/
theorem Fill.call {α : Type} {z : Nat} {zero : List Value} {E : Elem α} {xs : List α} {h0 h h1 : Heap} {L : Rws} {D : Heap → Prop} {b k : Nat} {css : List (List Value)} (f : Fill z zero E xs h0 h L D b k css) (hx : ExtH h h1) : Fill z zero E xs h0 h1 L D b k css :=
  ⟨f.st.call hx, f.len, f.le, f.zz⟩
/-- What is made by a call is new. -/
theorem Fill.fresh {α : Type} {z : Nat} {zero : List Value} {E : Elem α} {xs : List α} {h0 h : Heap} {L : Rws} {D : Heap → Prop} {b k : Nat} {css : List (List Value)} (f : Fill z zero E xs h0 h L D b k css) {c : Nat} (hc : h.size ≤ c) : FF h0 b L c := by
  have hb := f.st.lt (b := b) (by simp [Rws.bs])
  refine ⟨Nat.le_trans f.st.ext.1 hc, by omega, fun hm => ?_⟩
  have := f.st.lt (b := c) (List.mem_cons_of_mem _ hm)
  omega
/-- Element k is stored. -/
theorem fill_step {α : Type} {z : Nat} {zero : List Value} {E : Elem α} {xs : List α} {h0 h1 : Heap} {L : Rws} {D : Heap → Prop} {b k : Nat} {css : List (List Value)} {x : α} {c : List Value} (hx : xs[k]? = some x) (hl : css.length = k) (hz : zero.length = z) (hc : c.length = z)
    (st : Sta h0 h1 ((b, css.flatten ++ c ++ repl (xs.length - (k + 1)) zero) :: L) fun y => (D y ∧ Fp (FF h0 b L) y fun h' => AllC z E h' css (xs.take k)) ∧ Fp (FF h0 b L) y fun h' => E h' c x) : Fill z zero E xs h0 h1 L D b (k + 1) (css ++ [c]) := by
  refine ⟨?_, by simp [hl], get_lt hx, hz⟩
  have st' := st.imp (D' := fun y => D y ∧ Fp (FF h0 b L) y fun h' => AllC z E h' (css ++ [c]) (xs.take (k + 1))) fun y ⟨⟨g1, g2⟩, g3⟩ => ⟨g1, (g2.and g3).imp fun h' ⟨e1, e2⟩ => ?_⟩
  · simpa using st'
  · rw [List.take_add_one, hx]
    exact AllC.snoc hc e2 e1
theorem Fill.done {α : Type} {z : Nat} {zero : List Value} {E : Elem α} {xs : List α} {h0 h : Heap} {D : Heap → Prop} {b k : Nat} {css : List (List Value)} (f : Fill z zero E xs h0 h [] D b k css) (hk : xs.length ≤ k) :
    Fp (h0.size ≤ ·) h fun h' => SlAt z E h' (.slice (some ⟨b, 0, none⟩) xs.length xs.length) xs := by
  have hkk : k = xs.length := Nat.le_antisymm f.le hk
  subst hkk
  have hrow := f.st.row b _ (List.mem_cons_self ..)
  have hlow := f.st.low b (by simp [Rws.bs])
  have hd := f.st.now.2
  intro h' he hs
  refine .inr ⟨⟨b, 0, none⟩, xs.length, rfl, Nat.le_refl _, fun i x hi => ?_⟩
  have hel := hd h' (fun c hc => he c hc.1) hs
  rw [List.take_length] at hel
  obtain ⟨g1, g2⟩ := hel.get
  obtain ⟨c, e1, e2, e3⟩ := g2 i x hi
  refine ⟨c, e1, fun j u hu => ?_, e2⟩
  have hr' := hrow.same (he b hlow hrow.lt)
  rw [addr_add, addr_add]
  refine hr'.cell ?_
  rw [Nat.sub_self, repl, List.append_nil, Nat.zero_add]
  exact e3 j u hu

end Go.Vc
