/- All subsets of one size, in order. -/
import Derived.Test.YtkgeocffngdeoaaGreatPuDesB
namespace Go.Proofs.YtkgeocffngdeoaaGreat
open Go Go.Vc
set_option linter.unusedSimpArgs false
set_option linter.unusedVariables false

def iota (lo : Int) : Nat → List Int
  | 0 => []
  | n + 1 => lo :: iota (lo + 1) n
theorem iota_len : ∀ (n : Nat) (lo : Int), (iota lo n).length = n
  | 0, _ => rfl
  | n + 1, lo => by simp [iota, iota_len n]
theorem iota_snoc : ∀ (n : Nat) (lo : Int), iota lo (n + 1) = iota lo n ++ [lo + n]
  | 0, lo => by simp [iota]
  | n + 1, lo => by
    rw [iota, iota_snoc n (lo + 1), iota]
    simp only [List.cons_append]
    rw [show lo + 1 + (n : Int) = lo + ((n + 1 : Nat) : Int) by omega]
theorem iota_ix : ∀ (n : Nat) (lo i : Int), 0 ≤ i → i < (n : Int) → ix (iota lo n) i = lo + i
  | 0, _, _, _, _ => by omega
  | n + 1, lo, i, h0, h1 => by
    rw [iota]
    by_cases h : i = 0
    · subst h; rw [ix_zero]; omega
    · rw [ix_succ (by omega), iota_ix n (lo + 1) (i - 1) (by omega) (by omega)]; omega
def nextS (v : Int) : List Int → Option (List Int)
  | [] => none
  | x :: xs => match nextS v xs with
    | some ys => some (x :: ys)
    | none => if x + ((xs.length : Int) + 1) = v then none else some (iota (x + 1) (xs.length + 1))
theorem nextS_none {v : Int} : ∀ (xs : List Int), (∀ j, 0 ≤ j → j < (xs.length : Int) → ix xs j = v - xs.length + j) → nextS v xs = none
  | [], _ => rfl
  | x :: xs, h => by
    have hl : ((x :: xs).length : Int) = xs.length + 1 := by simp
    have h0 := h 0 (by omega) (by omega)
    rw [ix_zero] at h0
    have ih := nextS_none (v := v) xs fun j a b => by
      have := h (j + 1) (by omega) (by omega)
      rw [ix_succ (by omega), show j + 1 - 1 = j by omega] at this
      omega
    unfold nextS
    rw [ih]
    simp only
    rw [if_pos (by omega)]
theorem nextS_some {v : Int} : ∀ (xs : List Int) (i : Int), 0 ≤ i → i < (xs.length : Int) → ix xs i ≠ v - xs.length + i → (∀ j, i < j → j < (xs.length : Int) → ix xs j = v - xs.length + j) → nextS v xs = some (xs.take i.toNat ++ iota (ix xs i + 1) (xs.length - i.toNat))
  | [], i, h0, h1, _, _ => by simp at h1; omega
  | x :: xs, i, h0, h1, h2, h3 => by
    have hl : ((x :: xs).length : Int) = xs.length + 1 := by simp
    by_cases h : i = 0
    · subst h
      rw [ix_zero] at h2 ⊢
      have hn := nextS_none (v := v) xs fun j a b => by
        have := h3 (j + 1) (by omega) (by omega)
        rw [ix_succ (by omega), show j + 1 - 1 = j by omega] at this
        omega
      unfold nextS
      rw [hn]
      simp only
      rw [if_neg (by omega)]; rfl
    · rw [ix_succ (by omega)] at h2 ⊢
      have ih := nextS_some (v := v) xs (i - 1) (by omega) (by omega) (by omega) fun j a b => by
        have := h3 (j + 1) (by omega) (by omega)
        rw [ix_succ (by omega), show j + 1 - 1 = j by omega] at this
        omega
      unfold nextS
      rw [ih]
      simp only
      rw [show i.toNat = (i - 1).toNat + 1 by omega]
      simp only [List.take_succ_cons, List.length_cons, List.cons_append]
      rw [show xs.length + 1 - ((i - 1).toNat + 1) = xs.length - (i - 1).toNat by omega]

def subs (lo : Int) : Nat → Nat → List (List Int)
  | _, 0 => [[]]
  | 0, _ + 1 => []
  | g + 1, k + 1 => (subs (lo + 1) g k).map (lo :: ·) ++ subs (lo + 1) g (k + 1)
def RisL (hi : Int) : Int → List Int → Prop
  | _, [] => True
  | lo, x :: xs => lo ≤ x ∧ x ≤ hi ∧ RisL hi (x + 1) xs
theorem RisL.mono {hi : Int} : ∀ {lo lo' : Int} {xs : List Int}, lo' ≤ lo → RisL hi lo xs → RisL hi lo' xs
  | _, _, [], _, _ => trivial
  | _, _, x :: xs, h, ⟨a, b, c⟩ => ⟨by omega, b, c⟩
theorem rising_cons {x : Int} {xs : List Int} {lo hi : Int} : Rising (x :: xs) lo hi ↔ (lo ≤ x ∧ x ≤ hi) ∧ Rising xs (x + 1) hi := by
  have hl : ((x :: xs).length : Int) = xs.length + 1 := by simp
  constructor
  · intro h
    have h0 := h 0 (by omega) (by omega)
    rw [ix_zero] at h0
    refine ⟨h0.1, ?_⟩
    have low : ∀ (n : Nat), (n : Int) < xs.length → x + 1 ≤ ix xs n := by
      intro n
      induction n with
      | zero =>
        intro hn
        have := (h 1 (by omega) (by omega)).2 (by omega)
        rw [show (1 : Int) - 1 = 0 by omega, ix_zero, ix_succ (i := 1) (by omega), show (1 : Int) - 1 = 0 by omega] at this
        exact this
      | succ n ih =>
        intro hn
        have h1 := ih (by omega)
        have := (h ((n : Int) + 2) (by omega) (by omega)).2 (by omega)
        rw [ix_succ (i := (n : Int) + 2 - 1) (by omega), ix_succ (i := (n : Int) + 2) (by omega)] at this
        rw [show (n : Int) + 2 - 1 - 1 = n by omega, show (n : Int) + 2 - 1 = ((n + 1 : Nat) : Int) by omega] at this
        omega
    intro k a b
    have h1 := h (k + 1) (by omega) (by omega)
    rw [ix_succ (by omega), show k + 1 - 1 = k by omega] at h1
    have hl' := low k.toNat (by omega)
    rw [show ((k.toNat : Nat) : Int) = k by omega] at hl'
    refine ⟨⟨hl', h1.1.2⟩, fun hk => ?_⟩
    have := h1.2 (by omega)
    rw [ix_succ (by omega)] at this
    exact this
  · rintro ⟨h0, h⟩ k a b
    by_cases hk : k = 0
    · subst hk; rw [ix_zero]; exact ⟨h0, fun h => by omega⟩
    · rw [ix_succ (by omega)]
      have h1 := h (k - 1) (by omega) (by omega)
      refine ⟨⟨by omega, h1.1.2⟩, fun _ => ?_⟩
      by_cases hk1 : k = 1
      · subst hk1; rw [show (1 : Int) - 1 = 0 by omega] at *; rw [ix_zero]; omega
      · rw [ix_succ (by omega)]; exact h1.2 (by omega)
theorem rising_iff {hi : Int} : ∀ {xs : List Int} {lo : Int}, Rising xs lo hi ↔ RisL hi lo xs
  | [], _ => ⟨fun _ => trivial, fun _ k a b => by simp at b; omega⟩
  | x :: xs, lo => by rw [rising_cons, rising_iff, RisL, and_assoc]
theorem mem_subs : ∀ {g k : Nat} {lo : Int} {xs : List Int}, xs ∈ subs lo g k ↔ xs.length = k ∧ RisL (lo + g - 1) lo xs
  | g, 0, lo, xs => by
    rw [show subs lo g 0 = [[]] by cases g <;> rfl]
    constructor
    · intro h; simp at h; subst h; exact ⟨rfl, trivial⟩
    · rintro ⟨h, _⟩; simp at h; simp [h]
  | 0, k + 1, lo, xs => by
    rw [subs]
    constructor
    · intro h; simp at h
    · rintro ⟨h, h2⟩
      cases xs with
      | nil => simp at h
      | cons x xs => obtain ⟨a, b, _⟩ := h2; omega
  | g + 1, k + 1, lo, xs => by
    rw [subs, List.mem_append, List.mem_map, mem_subs (g := g) (k := k + 1)]
    rw [show lo + 1 + (g : Int) - 1 = lo + ((g + 1 : Nat) : Int) - 1 by omega]
    constructor
    · rintro (⟨ys, h1, rfl⟩ | ⟨h1, h2⟩)
      · rw [mem_subs, show lo + 1 + (g : Int) - 1 = lo + ((g + 1 : Nat) : Int) - 1 by omega] at h1
        exact ⟨by simp [h1.1], by omega, by omega, h1.2⟩
      · exact ⟨h1, h2.mono (by omega)⟩
    · rintro ⟨h1, h2⟩
      cases xs with
      | nil => simp at h1
      | cons x xs =>
        obtain ⟨a, b, c⟩ := h2
        by_cases hx : x = lo
        · subst hx
          refine .inl ⟨xs, ?_, rfl⟩
          rw [mem_subs, show x + 1 + (g : Int) - 1 = x + ((g + 1 : Nat) : Int) - 1 by omega]
          exact ⟨by simpa using h1, c⟩
        · exact .inr ⟨h1, by omega, b, c⟩
theorem subs_nil : ∀ {g k : Nat} {lo : Int}, g < k → subs lo g k = []
  | _, 0, _, h => by omega
  | 0, k + 1, _, _ => rfl
  | g + 1, k + 1, lo, h => by rw [subs, subs_nil (by omega), subs_nil (by omega)]; rfl
theorem subs_head : ∀ {g k : Nat} {lo : Int}, k ≤ g → ∃ L, subs lo g k = iota lo k :: L
  | g, 0, lo, _ => ⟨[], by cases g <;> rfl⟩
  | 0, k + 1, _, h => by omega
  | g + 1, k + 1, lo, h => by
    obtain ⟨L, hL⟩ := subs_head (g := g) (k := k) (lo := lo + 1) (by omega)
    rw [subs, hL]
    exact ⟨_, rfl⟩
theorem subs_len : ∀ (g k : Nat) (lo : Int), (subs lo g k).length ≤ 2 ^ g
  | g, 0, lo => by
    rw [show subs lo g 0 = [[]] by cases g <;> rfl]
    exact Nat.one_le_two_pow
  | 0, k + 1, lo => by simp [subs]
  | g + 1, k + 1, lo => by
    rw [subs, List.length_append, List.length_map]
    have h1 := subs_len g k (lo + 1)
    have h2 := subs_len g (k + 1) (lo + 1)
    rw [Nat.pow_succ]; omega
theorem subs_sorted : ∀ (g k : Nat) (lo : Int), (subs lo g k).Pairwise fun a b => cmpL a b < 0
  | g, 0, lo => by
    rw [show subs lo g 0 = [[]] by cases g <;> rfl]; simp
  | 0, k + 1, lo => by simp [subs]
  | g + 1, k + 1, lo => by
    rw [subs, List.pairwise_append]
    refine ⟨?_, subs_sorted g (k + 1) (lo + 1), ?_⟩
    · rw [List.pairwise_map]
      refine (subs_sorted g k (lo + 1)).imp fun {a b} h => ?_
      unfold cmpL; rw [if_neg (by omega), if_neg (by omega)]; exact h
    · intro a ha b hb
      rw [List.mem_map] at ha
      obtain ⟨a', _, rfl⟩ := ha
      rw [mem_subs] at hb
      cases b with
      | nil => simp at hb
      | cons x xs =>
        obtain ⟨_, h1, _, _⟩ := hb
        unfold cmpL; rw [if_pos (by omega)]; decide

def Chain (v : Int) : List (List Int) → Prop
  | [] => True
  | [x] => nextS v x = none
  | x :: y :: L => nextS v x = some y ∧ Chain v (y :: L)
theorem chain_app {v lo : Int} {k : Nat} {B : List (List Int)} (hB : Chain v B) (h1 : B = [] → lo + ((k : Int) + 1) = v) (h2 : ∀ b L, B = b :: L → lo + ((k : Int) + 1) ≠ v ∧ b = iota (lo + 1) (k + 1)) :
    ∀ (A : List (List Int)), Chain v A → (∀ x ∈ A, x.length = k) → Chain v (A.map (lo :: ·) ++ B)
  | [], _, _ => hB
  | [x], hA, hl => by
    have hx := hl x (by simp)
    have hn : nextS v x = none := hA
    simp only [List.map_cons, List.map_nil, List.cons_append, List.nil_append]
    cases B with
    | nil =>
      show nextS v (lo :: x) = none
      unfold nextS; rw [hn]; simp only; rw [hx, if_pos (h1 rfl)]
    | cons b L =>
      obtain ⟨h3, h4⟩ := h2 b L rfl
      refine ⟨?_, hB⟩
      unfold nextS; rw [hn]; simp only; rw [hx, if_neg h3, h4]
  | x :: y :: L, hA, hl => by
    have ih := chain_app hB h1 h2 (y :: L) hA.2 fun z hz => hl z (List.mem_cons_of_mem _ hz)
    simp only [List.map_cons, List.cons_append] at ih ⊢
    refine ⟨?_, ih⟩
    unfold nextS; rw [hA.1]
theorem subs_chain : ∀ (g k : Nat) (lo : Int), Chain (lo + g) (subs lo g k)
  | g, 0, lo => by
    rw [show subs lo g 0 = [[]] by cases g <;> rfl]; rfl
  | 0, k + 1, lo => trivial
  | g + 1, k + 1, lo => by
    rw [subs]
    have hA := subs_chain g k (lo + 1)
    have hB := subs_chain g (k + 1) (lo + 1)
    rw [show lo + 1 + (g : Int) = lo + ((g + 1 : Nat) : Int) by omega] at hA hB
    by_cases hk : k ≤ g
    · refine chain_app (k := k) hB (fun h => ?_) (fun b L h => ?_) _ hA fun x hx => (mem_subs.1 hx).1
      · have : ¬ k + 1 ≤ g := fun hh => by
          obtain ⟨L, hL⟩ := subs_head (lo := lo + 1) hh
          rw [hL] at h; cases h
        omega
      · by_cases hh : k + 1 ≤ g
        · obtain ⟨L', hL⟩ := subs_head (lo := lo + 1) hh
          rw [hL] at h; cases h
          exact ⟨by omega, rfl⟩
        · rw [subs_nil (by omega)] at h; cases h
    · rw [subs_nil (by omega), subs_nil (by omega)]; trivial
end Go.Proofs.YtkgeocffngdeoaaGreat
