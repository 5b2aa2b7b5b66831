/- How Go's data lie in a heap, and what that gives at the operations. -/
import Derived.Test.YtkgeocffngdeoaaGreatVcSoundE
namespace Go.Vc
open Go

def I64 (x : Int) : Prop := -9223372036854775808 ≤ x ∧ x ≤ 9223372036854775807

theorem wrapI {x : Int} (h : I64 x) : IntKind.i64.wrap x = x := wrap64_of h.1 h.2

/-- Cells that stand for a datum. -/
abbrev Elem (α : Type) := Heap → List Value → α → Prop
def Mono {α : Type} (E : Elem α) : Prop := ∀ h h' cs x, ExtH h h' → E h cs x → E h' cs x

def eI64 : Elem Int := fun _ cs x => cs = [.int .i64 x] ∧ I64 x
def eB : Elem Bool := fun _ cs x => cs = [.bool x]
def eStr : Elem ByteArray := fun _ cs x => cs = [.string x]

/-- Cells from an address on. -/
def CellsAt (h : Heap) (p : Addr) (cs : List Value) : Prop := ∀ j u, cs[j]? = some u → hcell h (p.add j) = some u
def ElemAt {α : Type} (z : Nat) (E : Elem α) (h : Heap) (p : Addr) (x : α) : Prop := ∃ cs, cs.length = z ∧ CellsAt h p cs ∧ E h cs x
/-- A slice that reads as a list. -/
def SlAt {α : Type} (z : Nat) (E : Elem α) (h : Heap) (v : Value) (xs : List α) : Prop :=
  (v = .slice none 0 0 ∧ xs = []) ∨ ∃ a c, v = .slice (some a) xs.length c ∧ xs.length ≤ c ∧ ∀ i x, xs[i]? = some x → ElemAt z E h (a.add (i * z)) x
def eSl {α : Type} (z : Nat) (E : Elem α) : Elem (List α) := fun h cs xs => ∃ v, cs = [v] ∧ SlAt z E h v xs

theorem mono_i64 : Mono eI64 := fun _ _ _ _ _ h => h
theorem mono_b : Mono eB := fun _ _ _ _ _ h => h
theorem mono_str : Mono eStr := fun _ _ _ _ _ h => h
theorem CellsAt.ext {h h' : Heap} {p : Addr} {cs : List Value} (hx : ExtH h h') (hc : CellsAt h p cs) : CellsAt h' p cs := fun j u hu => hcell_ext hx (hc j u hu)
theorem ElemAt.ext {α : Type} {z : Nat} {E : Elem α} (hE : Mono E) {h h' : Heap} {p : Addr} {x : α} (hx : ExtH h h') (he : ElemAt z E h p x) : ElemAt z E h' p x := by
  obtain ⟨cs, h1, h2, h3⟩ := he; exact ⟨cs, h1, h2.ext hx, hE _ _ _ _ hx h3⟩
theorem SlAt.ext {α : Type} {z : Nat} {E : Elem α} (hE : Mono E) {h h' : Heap} {v : Value} {xs : List α} (hx : ExtH h h') (hs : SlAt z E h v xs) : SlAt z E h' v xs := by
  rcases hs with hs | ⟨a, c, h1, h2, h3⟩
  · exact .inl hs
  · exact .inr ⟨a, c, h1, h2, fun i x hi => (h3 i x hi).ext hE hx⟩
theorem mono_sl {α : Type} {z : Nat} {E : Elem α} (hE : Mono E) : Mono (eSl z E) := fun _ _ _ _ hx ⟨v, h1, h2⟩ => ⟨v, h1, h2.ext hE hx⟩

theorem add_zero (p : Addr) : p.add 0 = p := rfl

theorem ElemAt.i64 {h : Heap} {p : Addr} {x : Int} (he : ElemAt 1 eI64 h p x) : hcell h p = some (.int .i64 x) ∧ I64 x := by
  obtain ⟨cs, _, h2, rfl, h3⟩ := he; exact ⟨h2 0 _ rfl, h3⟩
theorem ElemAt.str {h : Heap} {p : Addr} {x : ByteArray} (he : ElemAt 1 eStr h p x) : hcell h p = some (.string x) := by
  obtain ⟨cs, _, h2, rfl⟩ := he; exact h2 0 _ rfl
theorem ElemAt.bool {h : Heap} {p : Addr} {x : Bool} (he : ElemAt 1 eB h p x) : hcell h p = some (.bool x) := by
  obtain ⟨cs, _, h2, rfl⟩ := he; exact h2 0 _ rfl
theorem ElemAt.sl {α : Type} {z : Nat} {E : Elem α} {h : Heap} {p : Addr} {xs : List α} (he : ElemAt 1 (eSl z E) h p xs) : ∃ v, hcell h p = some v ∧ SlAt z E h v xs := by
  obtain ⟨cs, _, h2, v, rfl, h3⟩ := he; exact ⟨v, h2 0 _ rfl, h3⟩

theorem SlAt.one {α : Type} {z : Nat} {E : Elem α} {h : Heap} {v : Value} {xs : List α} (hs : SlAt z E h v xs) : v.oneCell' = true := by
  rcases hs with ⟨rfl, _⟩ | ⟨a, c, rfl, _⟩ <;> rfl

theorem vLen_sl {α : Type} {z : Nat} {E : Elem α} {h : Heap} {v : Value} {xs : List α} (hs : SlAt z E h v xs) {K : Nat → Prop} (hk : K xs.length) : vLen v K := by
  rcases hs with ⟨rfl, rfl⟩ | ⟨a, c, rfl, _⟩ <;> exact hk

theorem vIdx_sl {α : Type} {z : Nat} {E : Elem α} {h : Heap} {v : Value} {xs : List α} (hs : SlAt z E h v xs) {k : Nat} {x : α} (hx : xs[k]? = some x) {K : Addr → Prop}
    (hk : ∀ p, ElemAt z E h p x → K p) : vIdx v (k : Int) z K := by
  rcases hs with ⟨rfl, rfl⟩ | ⟨a, c, rfl, _, h3⟩
  · simp at hx
  · have hlt : k < xs.length := by
      rcases Nat.lt_or_ge k xs.length with h' | h'
      · exact h'
      · rw [List.getElem?_eq_none h'] at hx; cases hx
    refine ⟨⟨by omega, by omega⟩, ?_⟩
    have := hk _ (h3 k x hx)
    simpa using this

/-! Loads. -/
theorem ldI_of {k : IntKind} {h : Heap} {p : Addr} {x : Int} (hc : hcell h p = some (.int k x)) {K : Int → Prop} (hk : K x) : ldI k h p K := ⟨x, hc, hk⟩
theorem ldB_of {h : Heap} {p : Addr} {x : Bool} (hc : hcell h p = some (.bool x)) {K : Bool → Prop} (hk : K x) : ldB h p K := ⟨x, hc, hk⟩
theorem ldS_of {h : Heap} {p : Addr} {x : ByteArray} (hc : hcell h p = some (.string x)) {K : ByteArray → Prop} (hk : K x) : ldS h p K := ⟨x, hc, hk⟩
theorem ldP_of {h : Heap} {p x : Addr} (hc : hcell h p = some (.pointer (some x))) {K : Addr → Prop} (hk : K x) : ldP h p K := ⟨x, hc, hk⟩
theorem ldV_of {h : Heap} {p : Addr} {x : Value} (hc : hcell h p = some x) {K : Value → Prop} (hk : K x) : ldV h p K := ⟨x, hc, hk⟩

theorem rdI {h : Heap} {v : Value} {xs : List Int} (hs : SlAt 1 eI64 h v xs) {k : Nat} {x : Int} (hx : xs[k]? = some x) {K : Int → Prop} (hk : I64 x → K x) : vIdx v (k : Int) 1 fun p => ldI .i64 h p K :=
  vIdx_sl hs hx fun _ he => ldI_of he.i64.1 (hk he.i64.2)
theorem rdS {h : Heap} {v : Value} {xs : List ByteArray} (hs : SlAt 1 eStr h v xs) {k : Nat} {x : ByteArray} (hx : xs[k]? = some x) {K : ByteArray → Prop} (hk : K x) : vIdx v (k : Int) 1 fun p => ldS h p K :=
  vIdx_sl hs hx fun _ he => ldS_of he.str hk
theorem rdB {h : Heap} {v : Value} {xs : List Bool} (hs : SlAt 1 eB h v xs) {k : Nat} {x : Bool} (hx : xs[k]? = some x) {K : Bool → Prop} (hk : K x) : vIdx v (k : Int) 1 fun p => ldB h p K :=
  vIdx_sl hs hx fun _ he => ldB_of he.bool hk
theorem rdV {α : Type} {z : Nat} {E : Elem α} {h : Heap} {v : Value} {xs : List (List α)} (hs : SlAt 1 (eSl z E) h v xs) {k : Nat} {x : List α} (hx : xs[k]? = some x) {K : Value → Prop}
    (hk : ∀ u, SlAt z E h u x → K u) : vIdx v (k : Int) 1 fun p => ldV h p K :=
  vIdx_sl hs hx fun _ he => by obtain ⟨u, h1, h2⟩ := he.sl; exact ldV_of h1 (hk u h2)

/-! Branches. -/
theorem bif_of {b : Bool} {A B : Prop} (ha : b = true → A) (hb : b = false → B) : bif b then A else B := by
  cases b
  · exact hb rfl
  · exact ha rfl
theorem bif_pos {b : Bool} {A B : Prop} (h : b = true) (ha : A) : bif b then A else B := by subst h; exact ha
theorem bif_neg {b : Bool} {A B : Prop} (h : b = false) (hb : B) : bif b then A else B := by subst h; exact hb
theorem bif_lt {a b : Int} {A B : Prop} (ha : a < b → A) (hb : b ≤ a → B) : bif decide (a < b) then A else B :=
  bif_of (fun h => ha (of_decide_eq_true h)) (fun h => hb (by have := of_decide_eq_false h; omega))
theorem bif_ne {a b : Int} {A B : Prop} (ha : a ≠ b → A) (hb : a = b → B) : bif (a != b) then A else B :=
  bif_of (fun h => ha (by simpa using h)) (fun h => hb (by simpa using h))
theorem bif_eq {a b : Int} {A B : Prop} (ha : a = b → A) (hb : a ≠ b → B) : bif (a == b) then A else B :=
  bif_of (fun h => ha (by simpa using h)) (fun h => hb (by simpa using h))
theorem bif_not {b : Bool} {A B : Prop} (ha : b = false → A) (hb : b = true → B) : bif (!b) then A else B :=
  bif_of (fun h => ha (by simpa using h)) (fun h => hb (by simpa using h))

/-! Calls. -/
theorem CallsH.mono {P : Program} {f : FuncId} {args : Array Value} {h : Heap} {R R' : Value → Heap → Prop} (hc : CallsH P f args h R) (hr : ∀ v h', R v h' → R' v h') : CallsH P f args h R' :=
  fun w hw => (hc w hw).mono fun _ _ ⟨v, h1, h2, h3⟩ => ⟨v, h1, h2, hr v _ h3⟩
/-- A quiet call: a value, the heap as it was. -/
theorem CallsH.eq {P : Program} {f : FuncId} {args : Array Value} {h : Heap} {R : Value → Heap → Prop} {u : Value} (hc : CallsH P f args h fun v h' => v = u ∧ h' = h) (hr : R u h) : CallsH P f args h R :=
  hc.mono fun _ _ ⟨h1, h2⟩ => by subst h1; subst h2; exact hr

/-! Lists. -/
theorem get_some {α : Type} {xs : List α} {k : Nat} (h : k < xs.length) : ∃ x, xs[k]? = some x := ⟨xs[k], by simp [h]⟩
theorem get_lt {α : Type} {xs : List α} {k : Nat} {x : α} (h : xs[k]? = some x) : k < xs.length := by
  rcases Nat.lt_or_ge k xs.length with h' | h'
  · exact h'
  · rw [List.getElem?_eq_none h'] at h; cases h
/-- The first k agree. -/
def Agr {α : Type} (xs ys : List α) (k : Nat) : Prop := ∀ j, j < k → xs[j]? = ys[j]?
theorem Agr.zero {α : Type} (xs ys : List α) : Agr xs ys 0 := fun j h => by omega
theorem Agr.succ {α : Type} {xs ys : List α} {k : Nat} (h : Agr xs ys k) (he : xs[k]? = ys[k]?) : Agr xs ys (k + 1) := fun j hj => by
  by_cases hjk : j = k
  · subst hjk; exact he
  · exact h j (by omega)
theorem Agr.all {α : Type} {xs ys : List α} {k : Nat} (h : Agr xs ys k) (hk : xs.length ≤ k) (hl : xs.length = ys.length) : xs = ys := by
  apply List.ext_getElem?
  intro j
  by_cases hj : j < k
  · exact h j hj
  · rw [List.getElem?_eq_none (by omega), List.getElem?_eq_none (by omega)]
theorem ne_of_get {α : Type} {xs ys : List α} {k : Nat} {x y : α} (hx : xs[k]? = some x) (hy : ys[k]? = some y) (h : x ≠ y) : xs ≠ ys := fun e => by
  subst e; rw [hx] at hy; exact h (by simpa using hy)
theorem ne_of_len {α : Type} {xs ys : List α} (h : xs.length ≠ ys.length) : xs ≠ ys := fun e => h (by rw [e])

theorem wrapS {k n : Nat} (h : k < n) (hn : n ≤ 4611686018427387904) : IntKind.i64.wrap ((k : Int) + 1) = ((k + 1 : Nat) : Int) := by
  rw [wrap64_of (by omega) (by omega)]; omega

end Go.Vc
