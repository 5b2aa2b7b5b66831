import Derived.Test.YtocnokjekoglnaaGreatDoorPuBase
import Derived.Test.YtocnokjekoglnaaGreatDoorVcLib
namespace Go.Vc
set_option linter.unusedVariables false
set_option linter.unusedSimpArgs false
open Go
def M63 : Nat := 9223372036854775807
theorem wrapN {k n : Nat} (h : k < n) (hn : n ≤ M63) : IntKind.i64.wrap ((k : Int) + 1) = ((k + 1 : Nat) : Int) := by
  unfold M63 at hn
  rw [Zax (by omega) (by omega)]; omega
theorem ZW {α : Type} {xs : List α} {k : Nat} {x : α} (h : xs[k]? = some x) : k < xs.length := by
  rcases Nat.lt_or_ge k xs.length with h' | h'
  · exact h'
  · rw [List.getElem?_eq_none h'] at h; cases h
theorem ZaU {α : Type} {xs : List α} {k : Nat} (h : k < xs.length) : ∃ x, xs[k]? = some x := ⟨xs[k], by simp [h]⟩
theorem Zbx {α : Type} {xs : List α} {k : Nat} {x : α} (h : xs[k]? = some x) : gIdx xs (k : Int) = some x := by
  unfold gIdx; rw [if_pos (by omega), Int.toNat_natCast, h]
theorem lt_t {α : Type} {xs : List α} {k : Nat} (h : k < xs.length) : decide ((k : Int) < (xs.length : Int)) = true := by simpa using h
theorem lt_f {α : Type} {xs : List α} : decide ((xs.length : Int) < (xs.length : Int)) = false := by simp
theorem ZxQ (x y : ByteArray) : (x.toList == y.toList) = true ↔ x = y := by
  rw [ByteArray.toList_eq, ByteArray.toList_eq]
  constructor
  · intro h
    have h' : x.data.toList = y.data.toList := by simpa using h
    exact WideShapes.bytes_inj h'
  · rintro rfl; simp
def IsQ (o : Option Bool) (p : Prop) : Prop := ∃ c, o = some c ∧ (c = true ↔ p)
theorem IsQ.t {p : Prop} (h : p) : IsQ (some true) p := ⟨true, rfl, by simp [h]⟩
theorem IsQ.f {p : Prop} (h : ¬ p) : IsQ (some false) p := ⟨false, rfl, by simp [h]⟩
theorem IsQ.eq {o : Option Bool} {p : Prop} (h : IsQ o p) (hp : p) : o = some true := by
  obtain ⟨c, h1, h2⟩ := h; rw [h1, h2.2 hp]
theorem IsQ.ne {o : Option Bool} {p : Prop} (h : IsQ o p) (hp : ¬ p) : o = some false := by
  obtain ⟨c, h1, h2⟩ := h
  cases c with
  | false => exact h1
  | true => exact absurd (h2.1 rfl) hp
theorem IsQ.congr {o : Option Bool} {p q : Prop} (h : IsQ o p) (hpq : p ↔ q) : IsQ o q := by
  obtain ⟨c, h1, h2⟩ := h; exact ⟨c, h1, h2.trans hpq⟩
theorem IsQ.bind_id {o : Option Bool} {p : Prop} (h : IsQ o p) : IsQ (o.bind fun r => some r) p := by
  obtain ⟨c, rfl, h2⟩ := h; exact ⟨c, rfl, h2⟩
theorem q_ne {x y : Int} {o : Option Bool} {q : Prop} (h1 : x = y → IsQ o q) (h2 : x ≠ y → ¬ q) : IsQ (bif x != y then some false else o) q := by
  by_cases h : x = y
  · subst h; have : (x != x) = false := by simp
    rw [this]; exact h1 rfl
  · have : (x != y) = true := by simpa using h
    rw [this]; exact IsQ.f (h2 h)
theorem Zye {x y : ByteArray} {o : Option Bool} {q : Prop} (h1 : x = y → IsQ o q) (h2 : x ≠ y → ¬ q) : IsQ (bif !(x.toList == y.toList) then some false else o) q := by
  by_cases h : x = y
  · rw [(ZxQ x y).2 h]; exact h1 h
  · have : (x.toList == y.toList) = false := by
      cases hb : (x.toList == y.toList) with
      | false => rfl
      | true => exact absurd ((ZxQ x y).1 hb) h
    rw [this]; exact IsQ.f (h2 h)
theorem q_sub {o1 : Option Bool} {o : Option Bool} {p q : Prop} (hE : IsQ o1 p) (h1 : p → IsQ o q) (h2 : ¬ p → ¬ q) : IsQ (o1.bind fun r => bif !r then some false else o) q := by
  by_cases h : p
  · rw [hE.eq h]; exact h1 h
  · rw [hE.ne h]; exact IsQ.f (h2 h)
def Step {ρ : Type} (o : Option (Int ⊕ ρ)) (k : Nat) (f : ρ) (p : Prop) : Prop := ∃ c : Bool, (c = true ↔ p) ∧ o = some (bif c then .inl (IntKind.i64.wrap ((k : Int) + 1)) else .inr f)
theorem Zqg {α ρ : Type} {xs ys : List α} {B : Int → Option (Int ⊕ ρ)} {t f : ρ} (hl : xs.length = ys.length) (hN : xs.length ≤ M63)
    (hs : ∀ (k : Nat) x y, xs[k]? = some x → ys[k]? = some y → Step (B (k : Int)) k f (x = y)) (he : B (xs.length : Int) = some (.inr t)) : ∃ c : Bool, loop B 0 = some (bif c then t else f) ∧ (c = true ↔ xs = ys) := by
  have key : ∀ (d k : Nat), k + d = xs.length → (∀ j, j < k → xs[j]? = ys[j]?) → ∃ c : Bool, loop B (k : Int) = some (bif c then t else f) ∧ (c = true ↔ xs = ys) := by
    intro d
    induction d with
    | zero =>
      intro k hk ha
      obtain rfl : k = xs.length := by omega
      have hxy : xs = ys := List.ext_getElem? fun j => by
        by_cases hj : j < xs.length
        · exact ha j hj
        · rw [List.getElem?_eq_none (by omega), List.getElem?_eq_none (by omega)]
      exact ⟨true, Zd he, by simp [hxy]⟩
    | succ d ih =>
      intro k hk ha
      obtain ⟨x, hx⟩ := ZaU (xs := xs) (k := k) (by omega)
      obtain ⟨y, hy⟩ := ZaU (xs := ys) (k := k) (by omega)
      obtain ⟨c, hc, hB⟩ := hs k x y hx hy
      cases c with
      | false =>
        refine ⟨false, Zd hB, by simp; intro e; subst e; rw [hx] at hy; cases hy; exact absurd (hc.2 rfl) (by simp)⟩
      | true =>
        have hxy := hc.1 rfl
        subst hxy
        have hB' : B (k : Int) = some (.inl ((k + 1 : Nat) : Int)) := by rw [hB, ← wrapN (n := xs.length) (by omega) hN]; rfl
        rw [ZE hB']
        refine ih (k + 1) (by omega) fun j hj => ?_
        by_cases hjk : j = k
        · subst hjk; rw [hx, hy]
        · exact ha j (by omega)
  exact key xs.length 0 (by omega) fun j hj => by omega
theorem Zc8 {α : Type} {xs ys : List α} {B : Int → Option (Int ⊕ Bool)} (hN : xs.length ≤ M63)
    (hs : ∀ (k : Nat) x y, xs[k]? = some x → ys[k]? = some y → Step (B (k : Int)) k false (x = y)) (he : B (xs.length : Int) = some (.inr true)) :
    IsQ (bif ((xs.length : Int) : Int) != (ys.length : Int) then some false else loop B 0) (xs = ys) := by
  refine q_ne (fun h => ?_) fun h e => h (by rw [e])
  obtain ⟨c, h1, h2⟩ := Zqg (t := true) (f := false) (by omega) hN hs he
  refine ⟨c, ?_, h2⟩
  rw [h1]; cases c <;> rfl
theorem Zbd {ρ : Type} {o : Option (Int ⊕ ρ)} {k : Nat} {f : ρ} {p : Prop} {c : Bool} (hc : c = true ↔ p) (h : o = some (bif c then .inl (IntKind.i64.wrap ((k : Int) + 1)) else .inr f)) : Step o k f p := ⟨c, hc, h⟩
theorem ZoO {α β ρ : Type} {as : List α} {z : β} {c : α → β} {B : Int × List β → Option ((Int × List β) ⊕ ρ)} {g : List β → ρ} (hN : as.length ≤ M63)
    (hs : ∀ (k : Nat) a (xs : List β) x0, as[k]? = some a → xs[k]? = some x0 → B ((k : Int), xs) = some (.inl (IntKind.i64.wrap ((k : Int) + 1), xs.set ((k : Int)).toNat (c a))))
    (he : ∀ xs : List β, B ((as.length : Int), xs) = some (.inr (g xs))) : loop B (0, List.replicate as.length z) = some (g (as.map c)) := by
  let f : Nat → Int × List β := fun k => ((k : Int), (as.take k).map c ++ List.replicate (as.length - k) z)
  have h0 : f 0 = (0, List.replicate as.length z) := by simp [f]
  rw [← h0, Zkk f as.length fun k hk => ?_]
  · have : f as.length = ((as.length : Int), as.map c) := by simp only [f, List.take_length, Nat.sub_self, List.replicate_zero, List.append_nil]
    rw [this]; exact Zd (he _)
  · obtain ⟨a, ha⟩ := ZaU (xs := as) (k := k) hk
    have hr : List.replicate (as.length - k) z = z :: List.replicate (as.length - (k + 1)) z := by
      rw [show as.length - k = (as.length - (k + 1)) + 1 by omega, List.replicate_succ]
    have hln : ((as.take k).map c).length = k := by rw [List.length_map, List.length_take]; omega
    have hx : ((as.take k).map c ++ List.replicate (as.length - k) z)[k]? = some z := by
      rw [List.getElem?_append_right (by omega), hln, hr]; simp
    rw [hs k a _ z ha hx, wrapN hk hN, Int.toNat_natCast]
    have : ((as.take k).map c ++ List.replicate (as.length - k) z).set k (c a) = (as.take (k + 1)).map c ++ List.replicate (as.length - (k + 1)) z := by
      rw [List.set_append, if_neg (by omega), hln, hr, List.take_add_one, ha]
      simp
    rw [this]
theorem ZeQ {α : Type} {b n : Nat} {z : α} (h : n * b ≤ 140737488355328) (h2 : n ≤ 4611686018427387904) : gMake b z (n : Int) (n : Int) = some (List.replicate n z) := by
  unfold gMake
  have h' : ((n * b : Nat) : Int) ≤ 140737488355328 := by omega
  rw [Int.natCast_mul] at h'
  rw [if_pos ⟨by omega, by omega, h', by omega⟩, Int.toNat_natCast]
def Sz {α : Type} (f : α → Int → Option Int) (Ok Sm : α → Prop) : Prop := ∀ x left, Ok x → 0 ≤ left → left ≤ 1048576 → ∃ r, f x left = some r ∧ (r = -1 ∨ (0 ≤ r ∧ r ≤ left ∧ Sm x))
def OkS (s : ByteArray) : Prop := s.size ≤ M63
def OkL {α : Type} (ok : α → Prop) (l : List α) : Prop := l.length ≤ M63 ∧ ∀ x ∈ l, ok x
def SmL {α : Type} (sm : α → Prop) (l : List α) : Prop := l.length ≤ 1048576 ∧ ∀ x ∈ l, sm x
theorem ZoA {left n : Int} (h0 : 0 ≤ left) (h1 : left ≤ 1048576) (hn : 0 ≤ n) (hm : n ≤ 9223372036854775807) : IntKind.i64.wrap (left - n) = left - n := Zax (by omega) (by omega)
theorem Zsd {α : Type} {xs : List α} {f : α → Int → Option Int} {Ok Sm : α → Prop} {B : Int × Int → Option ((Int × Int) ⊕ Int)} (hf : Sz f Ok Sm) (hok : OkL Ok xs) {left : Int} (h0 : 0 ≤ left) (h1 : left ≤ 1048576)
    (hs : ∀ (k : Nat) x l r, xs[k]? = some x → f x l = some r → B (l, (k : Int)) = some (bif decide (r < 0) then .inr (-1) else .inl (r, IntKind.i64.wrap ((k : Int) + 1))))
    (he : ∀ l, B (l, (xs.length : Int)) = some (.inr l)) : ∃ r, loop B (left, 0) = some r ∧ (r = -1 ∨ (0 ≤ r ∧ r ≤ left ∧ ∀ x ∈ xs, Sm x)) := by
  have key : ∀ (d k : Nat) (l : Int), k + d = xs.length → 0 ≤ l → l ≤ left → (∀ x ∈ xs.take k, Sm x) → ∃ r, loop B (l, (k : Int)) = some r ∧ (r = -1 ∨ (0 ≤ r ∧ r ≤ left ∧ ∀ x ∈ xs, Sm x)) := by
    intro d
    induction d with
    | zero =>
      intro k l hk hl hl2 ha
      obtain rfl : k = xs.length := by omega
      rw [List.take_length] at ha
      exact ⟨l, Zd (he l), .inr ⟨hl, hl2, ha⟩⟩
    | succ d ih =>
      intro k l hk hl hl2 ha
      obtain ⟨x, hx⟩ := ZaU (xs := xs) (k := k) (by omega)
      obtain ⟨r, hr, hcase⟩ := hf x l (hok.2 x (List.mem_of_getElem? hx)) hl (by omega)
      have hB := hs k x l r hx hr
      rcases hcase with rfl | ⟨r0, r1, hsm⟩
      · refine ⟨-1, Zd ?_, .inl rfl⟩
        rw [hB]; rfl
      · have hd : decide (r < 0) = false := by simpa using r0
        rw [hd] at hB
        have hB' : B (l, (k : Int)) = some (.inl (r, ((k + 1 : Nat) : Int))) := by rw [hB, ← wrapN (n := xs.length) (by omega) hok.1]; rfl
        rw [ZE hB']
        refine ih (k + 1) r (by omega) r0 (by omega) ?_
        rw [List.take_add_one, hx]
        intro y hy
        rcases List.mem_append.1 hy with h | h
        · exact ha y h
        · simp at h; subst h; exact hsm
  exact key xs.length 0 left (by omega) h0 (by omega) (by simp)
theorem ZvB {α : Type} {f : α → Int → Option Int} {Ok Sm : α → Prop} {p : List α → Int → Option Int} {B : List α → Int × Int → Option ((Int × Int) ⊕ Int)} (hf : Sz f Ok Sm)
    (hp : ∀ xs left, p xs left = bif decide ((IntKind.i64.wrap (left - (xs.length : Int)) : Int) < 0) then some (-1) else loop (B xs) (IntKind.i64.wrap (left - (xs.length : Int)), 0))
    (hs : ∀ xs (k : Nat) x l r, xs[k]? = some x → f x l = some r → B xs (l, (k : Int)) = some (bif decide (r < 0) then .inr (-1) else .inl (r, IntKind.i64.wrap ((k : Int) + 1))))
    (he : ∀ xs l, B xs (l, (xs.length : Int)) = some (.inr l)) : Sz p (OkL Ok) (SmL Sm) := by
  intro xs left hok h0 h1
  have hM := hok.1
  unfold M63 at hM
  rw [hp, ZoA h0 h1 (by omega) (by omega)]
  by_cases hlt : left - (xs.length : Int) < 0
  · have : decide (left - (xs.length : Int) < 0) = true := by simpa using hlt
    rw [this]; exact ⟨-1, rfl, .inl rfl⟩
  · have : decide (left - (xs.length : Int) < 0) = false := by simpa using hlt
    rw [this]
    obtain ⟨r, h2, h3⟩ := Zsd (B := B xs) hf hok (left := left - xs.length) (by omega) (by omega) (hs xs) (he xs)
    refine ⟨r, h2, ?_⟩
    rcases h3 with h3 | ⟨a, b, c⟩
    · exact .inl h3
    · exact .inr ⟨a, by omega, by omega, c⟩
end Go.Vc
