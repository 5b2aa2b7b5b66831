import Derived.Test.YtocnokjekoglnaaGreatPuJa
import Derived.Test.YtocnokjekoglnaaGreatCeFns
namespace Go.Proofs.YtocnokjekoglnaaGreat
open Go Go.Vc
set_option linter.unusedSimpArgs false
set_option linter.unusedVariables false
def iota (lo : Int) : Nat → List Int
  | 0 => []
  | n + 1 => lo :: iota (lo + 1) n
theorem Zj5 : ∀ (n : Nat) (lo : Int), (iota lo n).length = n
  | 0, _ => rfl
  | n + 1, lo => by simp [iota, Zj5 n]
theorem Zkd : ∀ (n : Nat) (lo : Int), iota lo (n + 1) = iota lo n ++ [lo + n]
  | 0, lo => by simp [iota]
  | n + 1, lo => by
    rw [iota, Zkd n (lo + 1), iota]
    simp only [List.cons_append]
    rw [show lo + 1 + (n : Int) = lo + ((n + 1 : Nat) : Int) by omega]
def nextS (v : Int) : List Int → Option (List Int)
  | [] => none
  | x :: xs => match nextS v xs with
    | some ys => some (x :: ys)
    | none => if x + ((xs.length : Int) + 1) = v then none else some (iota (x + 1) (xs.length + 1))
theorem ZhF {v : Int} : ∀ (xs : List Int), (∀ j, 0 ≤ j → j < (xs.length : Int) → ix xs j = v - xs.length + j) → nextS v xs = none
  | [], _ => rfl
  | x :: xs, h => by
    have hl : ((x :: xs).length : Int) = xs.length + 1 := by simp
    have h0 := h 0 (by omega) (by omega)
    rw [Zcm] at h0
    have ih := ZhF (v := v) xs fun j a b => by
      have := h (j + 1) (by omega) (by omega)
      rw [Zah (by omega), show j + 1 - 1 = j by omega] at this
      omega
    unfold nextS
    rw [ih]
    simp only
    rw [if_pos (by omega)]
theorem Ziv {v : Int} : ∀ (xs : List Int) (i : Int), 0 ≤ i → i < (xs.length : Int) → ix xs i ≠ v - xs.length + i → (∀ j, i < j → j < (xs.length : Int) → ix xs j = v - xs.length + j) → nextS v xs = some (xs.take i.toNat ++ iota (ix xs i + 1) (xs.length - i.toNat))
  | [], i, h0, h1, _, _ => by simp at h1; omega
  | x :: xs, i, h0, h1, h2, h3 => by
    have hl : ((x :: xs).length : Int) = xs.length + 1 := by simp
    by_cases h : i = 0
    · subst h
      rw [Zcm] at h2 ⊢
      have hn := ZhF (v := v) xs fun j a b => by
        have := h3 (j + 1) (by omega) (by omega)
        rw [Zah (by omega), show j + 1 - 1 = j by omega] at this
        omega
      unfold nextS
      rw [hn]
      simp only
      rw [if_neg (by omega)]; rfl
    · rw [Zah (by omega)] at h2 ⊢
      have ih := Ziv (v := v) xs (i - 1) (by omega) (by omega) (by omega) fun j a b => by
        have := h3 (j + 1) (by omega) (by omega)
        rw [Zah (by omega), show j + 1 - 1 = j by omega] at this
        omega
      unfold nextS
      rw [ih]
      simp only
      rw [show i.toNat = (i - 1).toNat + 1 by omega]
      simp only [List.take_succ_cons, List.length_cons, List.cons_append]
      rw [show xs.length + 1 - ((i - 1).toNat + 1) = xs.length - (i - 1).toNat by omega]
def subs (lo : Int) : Nat → Nat → List (List Int)
  | _, 0 => [[]]
  | 0, _ + 1 => []
  | g + 1, k + 1 => (subs (lo + 1) g k).map (lo :: ·) ++ subs (lo + 1) g (k + 1)
def RisL (hi : Int) : Int → List Int → Prop
  | _, [] => True
  | lo, x :: xs => lo ≤ x ∧ x ≤ hi ∧ RisL hi (x + 1) xs
theorem RisL.mono {hi : Int} : ∀ {lo lo' : Int} {xs : List Int}, lo' ≤ lo → RisL hi lo xs → RisL hi lo' xs
  | _, _, [], _, _ => trivial
  | _, _, x :: xs, h, ⟨a, b, c⟩ => ⟨by omega, b, c⟩
theorem Zqm {x : Int} {xs : List Int} {lo hi : Int} : Rising (x :: xs) lo hi ↔ (lo ≤ x ∧ x ≤ hi) ∧ Rising xs (x + 1) hi := by
  have hl : ((x :: xs).length : Int) = xs.length + 1 := by simp
  constructor
  · intro h
    have h0 := h 0 (by omega) (by omega)
    rw [Zcm] at h0
    refine ⟨h0.1, ?_⟩
    have low : ∀ (n : Nat), (n : Int) < xs.length → x + 1 ≤ ix xs n := by
      intro n
      induction n with
      | zero =>
        intro hn
        have := (h 1 (by omega) (by omega)).2 (by omega)
        rw [show (1 : Int) - 1 = 0 by omega, Zcm, Zah (i := 1) (by omega), show (1 : Int) - 1 = 0 by omega] at this
        exact this
      | succ n ih =>
        intro hn
        have h1 := ih (by omega)
        have := (h ((n : Int) + 2) (by omega) (by omega)).2 (by omega)
        rw [Zah (i := (n : Int) + 2 - 1) (by omega), Zah (i := (n : Int) + 2) (by omega)] at this
        rw [show (n : Int) + 2 - 1 - 1 = n by omega, show (n : Int) + 2 - 1 = ((n + 1 : Nat) : Int) by omega] at this
        omega
    intro k a b
    have h1 := h (k + 1) (by omega) (by omega)
    rw [Zah (by omega), show k + 1 - 1 = k by omega] at h1
    have hl' := low k.toNat (by omega)
    rw [show ((k.toNat : Nat) : Int) = k by omega] at hl'
    refine ⟨⟨hl', h1.1.2⟩, fun hk => ?_⟩
    have := h1.2 (by omega)
    rw [Zah (by omega)] at this
    exact this
  · rintro ⟨h0, h⟩ k a b
    by_cases hk : k = 0
    · subst hk; rw [Zcm]; exact ⟨h0, fun h => by omega⟩
    · rw [Zah (by omega)]
      have h1 := h (k - 1) (by omega) (by omega)
      refine ⟨⟨by omega, h1.1.2⟩, fun _ => ?_⟩
      by_cases hk1 : k = 1
      · subst hk1; rw [show (1 : Int) - 1 = 0 by omega] at *; rw [Zcm]; omega
      · rw [Zah (by omega)]; exact h1.2 (by omega)
theorem ZcZ {hi : Int} : ∀ {xs : List Int} {lo : Int}, Rising xs lo hi ↔ RisL hi lo xs
  | [], _ => ⟨fun _ => trivial, fun _ k a b => by simp at b; omega⟩
  | x :: xs, lo => by rw [Zqm, ZcZ, RisL, and_assoc]
theorem Zbi : ∀ {g k : Nat} {lo : Int} {xs : List Int}, xs ∈ subs lo g k ↔ xs.length = k ∧ RisL (lo + g - 1) lo xs
  | g, 0, lo, xs => by
    rw [show subs lo g 0 = [[]] by cases g <;> rfl]
    constructor
    · intro h; simp at h; subst h; exact ⟨rfl, trivial⟩
    · rintro ⟨h, _⟩; simp at h; simp [h]
  | 0, k + 1, lo, xs => by
    rw [subs]
    constructor
    · intro h; simp at h
    · rintro ⟨h, h2⟩
      cases xs with
      | nil => simp at h
      | cons x xs => obtain ⟨a, b, _⟩ := h2; omega
  | g + 1, k + 1, lo, xs => by
    rw [subs, List.mem_append, List.mem_map, Zbi (g := g) (k := k + 1)]
    rw [show lo + 1 + (g : Int) - 1 = lo + ((g + 1 : Nat) : Int) - 1 by omega]
    constructor
    · rintro (⟨ys, h1, rfl⟩ | ⟨h1, h2⟩)
      · rw [Zbi, show lo + 1 + (g : Int) - 1 = lo + ((g + 1 : Nat) : Int) - 1 by omega] at h1
        exact ⟨by simp [h1.1], by omega, by omega, h1.2⟩
      · exact ⟨h1, h2.mono (by omega)⟩
    · rintro ⟨h1, h2⟩
      cases xs with
      | nil => simp at h1
      | cons x xs =>
        obtain ⟨a, b, c⟩ := h2
        by_cases hx : x = lo
        · subst hx
          refine .inl ⟨xs, ?_, rfl⟩
          rw [Zbi, show x + 1 + (g : Int) - 1 = x + ((g + 1 : Nat) : Int) - 1 by omega]
          exact ⟨by simpa using h1, c⟩
        · exact .inr ⟨h1, by omega, b, c⟩
theorem Zdh : ∀ {g k : Nat} {lo : Int}, g < k → subs lo g k = []
  | _, 0, _, h => by omega
  | 0, k + 1, _, _ => rfl
  | g + 1, k + 1, lo, h => by rw [subs, Zdh (by omega), Zdh (by omega)]; rfl
theorem ZcJ : ∀ {g k : Nat} {lo : Int}, k ≤ g → ∃ L, subs lo g k = iota lo k :: L
  | g, 0, lo, _ => ⟨[], by cases g <;> rfl⟩
  | 0, k + 1, _, h => by omega
  | g + 1, k + 1, lo, h => by
    obtain ⟨L, hL⟩ := ZcJ (g := g) (k := k) (lo := lo + 1) (by omega)
    rw [subs, hL]
    exact ⟨_, rfl⟩
theorem Zfd : ∀ (g k : Nat) (lo : Int), (subs lo g k).length ≤ 2 ^ g
  | g, 0, lo => by
    rw [show subs lo g 0 = [[]] by cases g <;> rfl]
    exact Nat.one_le_two_pow
  | 0, k + 1, lo => by simp [subs]
  | g + 1, k + 1, lo => by
    rw [subs, List.length_append, List.length_map]
    have h1 := Zfd g k (lo + 1)
    have h2 := Zfd g (k + 1) (lo + 1)
    rw [Nat.pow_succ]; omega
def Chain (v : Int) : List (List Int) → Prop
  | [] => True
  | [x] => nextS v x = none
  | x :: y :: L => nextS v x = some y ∧ Chain v (y :: L)
theorem Zid {v lo : Int} {k : Nat} {B : List (List Int)} (hB : Chain v B) (h1 : B = [] → lo + ((k : Int) + 1) = v) (h2 : ∀ b L, B = b :: L → lo + ((k : Int) + 1) ≠ v ∧ b = iota (lo + 1) (k + 1)) :
    ∀ (A : List (List Int)), Chain v A → (∀ x ∈ A, x.length = k) → Chain v (A.map (lo :: ·) ++ B)
  | [], _, _ => hB
  | [x], hA, hl => by
    have hx := hl x (by simp)
    have hn : nextS v x = none := hA
    simp only [List.map_cons, List.map_nil, List.cons_append, List.nil_append]
    cases B with
    | nil =>
      show nextS v (lo :: x) = none
      unfold nextS; rw [hn]; simp only; rw [hx, if_pos (h1 rfl)]
    | cons b L =>
      obtain ⟨h3, h4⟩ := h2 b L rfl
      refine ⟨?_, hB⟩
      unfold nextS; rw [hn]; simp only; rw [hx, if_neg h3, h4]
  | x :: y :: L, hA, hl => by
    have ih := Zid hB h1 h2 (y :: L) hA.2 fun z hz => hl z (List.mem_cons_of_mem _ hz)
    simp only [List.map_cons, List.cons_append] at ih ⊢
    refine ⟨?_, ih⟩
    unfold nextS; rw [hA.1]
theorem ZfL : ∀ (g k : Nat) (lo : Int), Chain (lo + g) (subs lo g k)
  | g, 0, lo => by
    rw [show subs lo g 0 = [[]] by cases g <;> rfl]; rfl
  | 0, k + 1, lo => trivial
  | g + 1, k + 1, lo => by
    rw [subs]
    have hA := ZfL g k (lo + 1)
    have hB := ZfL g (k + 1) (lo + 1)
    rw [show lo + 1 + (g : Int) = lo + ((g + 1 : Nat) : Int) by omega] at hA hB
    by_cases hk : k ≤ g
    · refine Zid (k := k) hB (fun h => ?_) (fun b L h => ?_) _ hA fun x hx => (Zbi.1 hx).1
      · have : ¬ k + 1 ≤ g := fun hh => by
          obtain ⟨L, hL⟩ := ZcJ (lo := lo + 1) hh
          rw [hL] at h; cases h
        omega
      · by_cases hh : k + 1 ≤ g
        · obtain ⟨L', hL⟩ := ZcJ (lo := lo + 1) hh
          rw [hL] at h; cases h
          exact ⟨by omega, rfl⟩
        · rw [Zdh (by omega)] at h; cases h
    · rw [Zdh (by omega), Zdh (by omega)]; trivial
end Go.Proofs.YtocnokjekoglnaaGreat
namespace Go.Proofs.YtocnokjekoglnaaGreat
set_option linter.unusedVariables false
open Go Go.Vc
set_option linter.unusedSimpArgs false
set_option linter.unusedSectionVars false
theorem ZlJ {l : List Int} (h : (l.length : Int) ≤ 4194304) : Zae l = some l := by
  unfold Zae
  rw [Zap (by simp; omega) (by simp; omega)]; rfl
def bump (xs : List Int) (i : Int) (x : Int) (j : Int) : List Int := xs.take i.toNat ++ iota x (j - i).toNat ++ xs.drop j.toNat
section
variable {xs : List Int} {i j x : Int} (h0 : 0 ≤ i) (h1 : i ≤ j)
include h0 h1
theorem Zkn (h2 : j ≤ (xs.length : Int)) : ((xs.take i.toNat ++ iota x (j - i).toNat).length : Int) = j := by
  rw [List.length_append, List.length_take, Zj5]; omega
theorem ZkP (h2 : j ≤ (xs.length : Int)) : ((bump xs i x j).length : Int) = xs.length := by
  have := Zkn (x := x) h0 h1 h2
  unfold bump; rw [List.length_append, List.length_drop]; omega
theorem Ziy (h2 : j < (xs.length : Int)) : (bump xs i x j).set j.toNat (x + (j - i)) = bump xs i x (j + 1) := by
  unfold bump
  rw [Zad (by omega) h2, setMid (by rw [Zkn h0 h1 (by omega)]), show (j + 1 - i).toNat = (j - i).toNat + 1 by omega, Zkd, show (((j - i).toNat : Nat) : Int) = j - i by omega]
  simp
end
theorem Zkv {xs : List Int} {i x : Int} (h0 : 0 ≤ i) : bump xs i x i = xs := by
  unfold bump; rw [Int.sub_self]; simp [iota]
theorem Zjd {xs : List Int} {i x : Int} (h0 : 0 ≤ i) (h1 : i ≤ (xs.length : Int)) : bump xs i x xs.length = xs.take i.toNat ++ iota x (xs.length - i.toNat) := by
  unfold bump; rw [Int.toNat_natCast, List.drop_length, List.append_nil, show ((xs.length : Int) - i).toNat = xs.length - i.toNat by omega]
def Tame (xs : List Int) : Prop := ∀ x ∈ xs, 0 ≤ x ∧ x ≤ 64
theorem ZkG {hi : Int} (h : hi ≤ 64) : ∀ {xs : List Int} {lo : Int}, 0 ≤ lo → RisL hi lo xs → Tame xs
  | [], _, _, _ => fun x hx => by simp at hx
  | y :: ys, lo, h0, ⟨a, b, c⟩ => fun x hx => by
    rcases List.mem_cons.1 hx with rfl | hx
    · exact ⟨by omega, by omega⟩
    · exact ZkG h (by omega) c x hx
def allSub (v k : Int) : List (List Int) := subs 0 v.toNat k.toNat
section
variable {v k : Int} (h0 : 0 ≤ k) (h1 : k ≤ v) (h2 : v ≤ 32)
include h0 h1 h2
theorem Zpk {xs : List Int} : xs ∈ allSub v k ↔ (xs.length : Int) = k ∧ Rising xs 0 (v - 1) := by
  unfold allSub
  rw [Zbi, ZcZ, show (0 : Int) + ((v.toNat : Nat) : Int) - 1 = v - 1 by omega]
  constructor
  · rintro ⟨a, b⟩; exact ⟨by omega, b⟩
  · rintro ⟨a, b⟩; exact ⟨by omega, b⟩
theorem Ziw : ((allSub v k).length : Int) ≤ 4294967296 := by
  have h := Zfd v.toNat k.toNat 0
  have : 2 ^ v.toNat ≤ 2 ^ 32 := Nat.pow_le_pow_right (by omega) (by omega)
  unfold allSub; omega
theorem Zql : ∃ L, allSub v k = iota 0 k.toNat :: L ∧ Chain v (iota 0 k.toNat :: L) := by
  obtain ⟨L, hL⟩ := ZcJ (g := v.toNat) (k := k.toNat) (lo := 0) (by omega)
  have hc := ZfL v.toNat k.toNat 0
  rw [show (0 : Int) + ((v.toNat : Nat) : Int) = v by omega, hL] at hc
  exact ⟨L, hL, hc⟩
end
theorem ZmA {k : Int} {xs : List Int} {i : Int} (hk : (xs.length : Int) = k) (h0 : 0 ≤ i) (h1 : i < k) (hk2 : k ≤ 64) (ht : Tame xs) :
    loop (Zbz xs k i) (i, xs) = some (.inr (xs.take i.toNat ++ iota (ix xs i + 1) (xs.length - i.toNat), true)) := by
  have hx := ht _ (Zl h0 (by omega) : ix xs i ∈ xs)
  have hz := Zkv (xs := xs) (i := i) (x := ix xs i + 1) h0
  have e : ((i, xs) : Int × List Int) = (fun j => (j, bump xs i (ix xs i + 1) j)) i := by simp only [hz]
  rw [e, ZN (B := Zbz xs k i) (fun j => (j, bump xs i (ix xs i + 1) j)) (i := i) (n := k) (by omega) ?_]
  · refine Ze ?_
    simp (disch := omega) only [pz, Zbz]
    rw [← hk, Zjd h0 (by omega)]
  · intro j a b
    have hl := ZkP (xs := xs) (x := ix xs i + 1) (j := j) h0 (by omega) (by omega)
    have hs := Ziy (xs := xs) (x := ix xs i + 1) (j := j) h0 (by omega) (by omega)
    simp (disch := omega) only [pz, Zbz]
    rw [show ix xs i + 1 + j - i = ix xs i + 1 + (j - i) by omega, hs]
theorem Ziq {v k : Int} {xs : List Int} (hk : (xs.length : Int) = k) (hk2 : k ≤ 64) (hv0 : 0 ≤ v) (hv1 : v ≤ 32) (ht : Rising xs 0 (v - 1)) :
    ZdR v xs = some (match nextS v xs with | some ys => (ys, true) | none => ([], false)) := by
  have htm : Tame xs := ZkG (hi := v - 1) (by omega) (Int.le_refl 0) (ZcZ.1 ht)
  have hV := (Zht (l := xs) (n := v) (by omega)).eq ⟨ht, hv0, hv1⟩
  have hC := ZlJ (l := xs) (by omega)
  unfold ZdR
  simp (disch := omega) only [pz, hV, ZaI, hk]
  rcases ZfH (B := Zb4 v xs k) (fun k => k) (fun i => ix xs i ≠ v - k + i) (i := k - 1) (m := -1) (by omega) (fun i a b c => by
      have c := Classical.not_not.1 c
      simp (disch := omega) only [pz, Zb4]) with ⟨i, h1, h2, h3, h4, h5⟩ | ⟨h1, h2⟩
  · rw [h5, Ziv xs i (by omega) (by omega) (by omega) (fun j a b => by have := Classical.not_not.1 (h4 j a (by omega)); omega)]
    refine Ze ?_
    simp (disch := omega) only [pz, Zb4, hC, ZmA hk (show 0 ≤ i by omega) (by omega) hk2 htm]
  · rw [h2, ZhF xs (fun j a b => by have := Classical.not_not.1 (h1 j (by omega) (by omega)); omega)]
    refine Ze ?_
    simp (disch := omega) only [pz, Zb4]
theorem Zis {v k : Int} (hk2 : k ≤ 64) (hv0 : 0 ≤ v) (hv1 : v ≤ 32) : ∀ (L : List (List Int)) (x : List Int) (acc : List (List Int)), Chain v (x :: L) → (∀ y ∈ x :: L, (y.length : Int) = k ∧ Rising y 0 (v - 1)) → acc.length + L.length ≤ 8589934592 → loop (ZbL v) (acc, x, true) = some (acc ++ x :: L)
  | [], x, acc, hc, hy, ha => by
    have h1 := hy x (by simp)
    have hn : nextS v x = none := hc
    have := Ziq h1.1 hk2 hv0 hv1 h1.2
    rw [hn] at this
    rw [ZE (s' := (acc ++ [x], [], false)) (by simp (disch := omega) only [pz, ZbL, this])]
    exact Ze (by simp (disch := omega) only [pz, ZbL])
  | y :: L, x, acc, hc, hy, ha => by
    have h1 := hy x (by simp)
    have := Ziq h1.1 hk2 hv0 hv1 h1.2
    rw [hc.1] at this
    rw [ZE (s' := (acc ++ [x], y, true)) (by simp (disch := omega) only [pz, ZbL, this]), Zis hk2 hv0 hv1 L y (acc ++ [x]) hc.2 (fun z hz => hy z (List.mem_cons_of_mem _ hz)) (by simp at *; omega)]
    simp
theorem ZoM {n : Int} (h0 : 0 ≤ n) (h1 : n ≤ 4194304) : Zbd n = some (iota 0 n.toNat) := by
  unfold Zbd
  rw [ZkS h0 (by omega) (by omega)]
  simp only [Option.bind_some]
  have hl : (((List.replicate n.toNat (0 : Int)).length : Nat) : Int) = n := by rw [List.length_replicate]; omega
  let R : List Int := List.replicate n.toNat (0 : Int)
  have hl' : ((R.length : Nat) : Int) = n := hl
  have e : ((0, R) : Int × List Int) = (fun j => (j, bump R 0 0 j)) 0 := by simp only [Zkv (Int.le_refl 0)]
  show loop (ZaA R) (0, R) = _
  rw [e, ZN (B := ZaA R) (fun j => (j, bump R 0 0 j)) (i := 0) (n := n) (by omega) ?_]
  · refine Ze ?_
    simp (disch := omega) only [pz, ZaA]
    rw [← hl', Zjd (Int.le_refl 0) (by omega)]; simp
  · intro j a b
    have hb := ZkP (xs := R) (x := 0) (j := j) (Int.le_refl 0) (by omega) (by omega)
    have hs := Ziy (xs := R) (x := 0) (j := j) (Int.le_refl 0) (by omega) (by omega)
    simp (disch := omega) only [pz, ZaA]
    rw [show (0 : Int) + (j - 0) = j by omega] at hs
    rw [hs]
theorem ZkD {v k : Int} (h0 : 0 ≤ k) (h1 : k ≤ v) (h2 : v ≤ 32) : ZcD v k = some (allSub v k) := by
  unfold ZcD
  simp (disch := omega) only [pz, ZoM]
  obtain ⟨L, hL, hc⟩ := Zql h0 h1 h2
  have hlen := Ziw h0 h1 h2
  have hy : ∀ y ∈ allSub v k, (y.length : Int) = k ∧ Rising y 0 (v - 1) := fun y hy => (Zpk h0 h1 h2).1 hy
  rw [hL] at hlen hy ⊢
  rw [Zis (by omega) (by omega) (by omega) L _ [] hc hy (by simp at hlen ⊢; omega)]; rfl
end Go.Proofs.YtocnokjekoglnaaGreat
namespace Go.Proofs.YtocnokjekoglnaaGreat
set_option linter.unusedVariables false
open Go Go.Vc
set_option linter.unusedSimpArgs false
def bin : Nat → Nat → Nat
  | _, 0 => 1
  | 0, _ + 1 => 0
  | n + 1, k + 1 => bin n k + bin n (k + 1)
theorem Zao : ∀ (g k : Nat) (lo : Int), (subs lo g k).length = bin g k
  | g, 0, lo => by cases g <;> rfl
  | 0, k + 1, lo => rfl
  | g + 1, k + 1, lo => by
    rw [subs, List.length_append, List.length_map, Zao g k, Zao g (k + 1), bin]
theorem ZfZ : ∀ {n k : Nat}, n < k → bin n k = 0
  | 0, k + 1, _ => rfl
  | n + 1, k + 1, h => by rw [bin, ZfZ (by omega), ZfZ (by omega)]
theorem Zna (n k : Nat) : bin n k ≤ 2 ^ n := by
  rw [← Zao n k 0]; exact Zfd n k 0
theorem bin32 {n : Nat} (k : Nat) (h : n ≤ 32) : bin n k ≤ 4294967296 := by
  have h1 := Zna n k
  have h2 : 2 ^ n ≤ 2 ^ 32 := Nat.pow_le_pow_right (by omega) h
  omega
theorem ZqP : (List.range 33).all (fun n => (List.range (n + 1)).all fun k => decide (ZgX 200 (n : Int) (k : Int) = some ((bin n k : Nat) : Int))) = true := by decide +kernel
theorem ZnU {n k : Nat} (hn : n ≤ 32) : Zat (n : Int) (k : Int) = some ((bin n k : Nat) : Int) := by
  by_cases hk : k ≤ n
  · have h := List.all_eq_true.1 ZqP n (by simp; omega)
    have h2 := of_decide_eq_true (List.all_eq_true.1 h k (by simp; omega))
    exact Zmv (F := 200) _ _ _ h2
  · rw [ZfZ (by omega)]
    unfold Zat ZL
    simp (disch := omega) only [pz, ]
    rfl
def sB : Nat → Nat → Nat → Nat
  | _, 0, _ => 0
  | 0, _ + 1, _ => 0
  | g + 1, d + 1, m => bin g m + sB g d m
def rk : Int → Nat → List Int → Nat
  | _, _, [] => 0
  | lo, g, a :: t => sB g (a - lo).toNat t.length + rk (a + 1) (g - ((a - lo).toNat + 1)) t
theorem sB_le : ∀ {g d m : Nat}, d < g → sB g d m + bin (g - d - 1) m ≤ bin g (m + 1)
  | g + 1, 0, m, _ => by rw [sB, bin]; simp
  | g + 1, d + 1, m, h => by
    have := sB_le (g := g) (d := d) (m := m) (by omega)
    rw [sB, bin, show g + 1 - (d + 1) - 1 = g - d - 1 by omega]
    omega
theorem rk_lt : ∀ (s : List Int) (lo : Int) (g : Nat), RisL (lo + g - 1) lo s → rk lo g s < bin g s.length
  | [], lo, g, _ => by
    have : bin g 0 = 1 := by cases g <;> rfl
    simp [rk, this]
  | a :: t, lo, g, ⟨h1, h2, h3⟩ => by
    have ih := rk_lt t (a + 1) (g - ((a - lo).toNat + 1)) (by rw [show a + 1 + ((g - ((a - lo).toNat + 1) : Nat) : Int) - 1 = lo + g - 1 by omega]; exact h3)
    have hb := sB_le (g := g) (d := (a - lo).toNat) (m := t.length) (by omega)
    rw [show g - (a - lo).toNat - 1 = g - ((a - lo).toNat + 1) by omega] at hb
    rw [rk, List.length_cons]
    omega
end Go.Proofs.YtocnokjekoglnaaGreat
namespace Go.Proofs.YtocnokjekoglnaaGreat
set_option linter.unusedVariables false
open Go Go.Vc
set_option linter.unusedSimpArgs false
theorem chooseJ {n k : Int} (h0 : 0 ≤ n) (h1 : n ≤ 32) (h2 : 0 ≤ k) : Zat n k = some ((bin n.toNat k.toNat : Nat) : Int) := by
  have b := ZnU (n := n.toNat) (k := k.toNat) (by omega)
  rw [Int.toNat_of_nonneg h0, Int.toNat_of_nonneg h2] at b
  exact b
theorem ZlM {n : Int} {set : List Int} (hn : n ≤ 32) {i a : Int} {m : Nat} (i0 : 0 ≤ i) (i1 : i < (set.length : Int)) (hl : (set.length : Int) ≤ 32) (ha : ix set i = a) (hm : (set.length : Int) - 1 - i = m) (han : a < n) :
    ∀ (d : Nat) (rank lo : Int), 0 ≤ lo → lo + d = a → 0 ≤ rank → rank + sB (n - lo).toNat d m ≤ 4294967296 →
      loop (Zb9 n set i a) (rank, lo) = some (.inl (rank + sB (n - lo).toNat d m, a + 1, i + 1)) := by
  intro d
  induction d with
  | zero =>
    intro rank lo h0 h1 h2 h3
    have hs : sB (n - lo).toNat 0 m = 0 := by cases (n - lo).toNat <;> rfl
    rw [hs]
    refine Ze ?_
    simp (disch := omega) only [pz, Zb9]
    simp
  | succ d ih =>
    intro rank lo h0 h1 h2 h3
    obtain ⟨g, hg⟩ : ∃ g : Nat, (n - lo).toNat = g + 1 := ⟨(n - lo).toNat - 1, by omega⟩
    have hgs : (n - (lo + 1)).toNat = g := by omega
    rw [hg, show sB (g + 1) (d + 1) m = bin g m + sB g d m from rfl] at h3 ⊢
    have c2 := chooseJ (n := n - 1 - lo) (k := set.length - 1 - i) (by omega) (by omega) (by omega)
    rw [show (n - 1 - lo).toNat = g by omega, show ((set.length : Int) - 1 - i).toNat = m by omega] at c2
    have hz : ZaI set = some (set.length : Int) := by unfold ZaI; simp (disch := omega) only [pz, ]
    have e2 := ih (rank + (bin g m : Nat)) (lo + 1) (by omega) (by omega) (by omega) (by rw [hgs]; omega)
    rw [hgs] at e2
    have hB2 : Zb9 n set i a (rank, lo) = some (.inl (rank + (bin g m : Nat), lo + 1)) := by
      simp (disch := omega) only [pz, Zb9, hz, c2]
    have ea : rank + (bin g m : Nat) + (sB g d m : Nat) = rank + ((bin g m + sB g d m : Nat) : Int) := by omega
    rw [ea] at e2
    rw [ZE hB2, e2]
theorem ZoQ {n : Int} {set : List Int} (hn : n ≤ 32) (hl : (set.length : Int) ≤ 32) : ∀ (t : List Int) (i lo rank : Int), 0 ≤ i → set.drop i.toNat = t → i ≤ (set.length : Int) → 0 ≤ lo → lo ≤ n → RisL (n - 1) lo t → 0 ≤ rank → rank + rk lo (n - lo).toNat t ≤ 4294967296 →
    loop (Zds n set) (rank, lo, i) = some (rank + rk lo (n - lo).toNat t, 0) := by
  intro t
  induction t with
  | nil =>
    intro i lo rank i0 hd i1 h0 h1 hr h2 h3
    have hi : i = (set.length : Int) := by
      have := congrArg List.length hd
      simp at this; omega
    simp only [rk]
    refine Ze ?_
    simp (disch := omega) only [pz, Zds]
    simp
  | cons a t ih =>
    intro i lo rank i0 hd i1 h0 h1 hr h2 h3
    obtain ⟨r1, r2, r3⟩ := hr
    have hlen : (set.length : Int) - i = t.length + 1 := by
      have := congrArg List.length hd
      simp at this; omega
    have hi2 : i < (set.length : Int) := by omega
    have hx : ix set i = a := by
      have := Zad (xs := set) i0 hi2
      rw [this] at hd
      exact (List.cons.inj hd).1
    have hd2 : set.drop (i + 1).toNat = t := by
      have := Zad (xs := set) i0 hi2
      rw [this] at hd
      exact (List.cons.inj hd).2
    rw [rk] at h3 ⊢
    have hng : (n - lo).toNat - ((a - lo).toNat + 1) = (n - (a + 1)).toNat := by omega
    rw [hng] at h3 ⊢
    have e2 := ZlM hn (m := t.length) i0 hi2 hl hx (by omega) (by omega) (a - lo).toNat rank lo h0 (by omega) h2 (by omega)
    have f2 := ih (i + 1) (a + 1) (rank + sB (n - lo).toNat (a - lo).toNat t.length) (by omega) hd2 (by omega) (by omega) (by omega) r3 (by omega) (by omega)
    have ea : rank + (sB (n - lo).toNat (a - lo).toNat t.length : Nat) + (rk (a + 1) (n - (a + 1)).toNat t : Nat) = rank + ((sB (n - lo).toNat (a - lo).toNat t.length + rk (a + 1) (n - (a + 1)).toNat t : Nat) : Int) := by omega
    rw [ea] at f2
    rw [← f2]
    refine ZE ?_
    simp (disch := omega) only [pz, Zds, hx, e2]
theorem rankJ {n : Int} {set : List Int} (h0 : 0 ≤ n) (hn : n ≤ 32) (hl : (set.length : Int) ≤ 32) (hr : RisL (n - 1) 0 set) (hv : ZaZ set n = some true) : Zei n set = some (((rk 0 n.toNat set : Nat) : Int), 0) := by
  have hlt := rk_lt set 0 n.toNat (by rw [show (0 : Int) + ((n.toNat : Nat) : Int) - 1 = n - 1 by omega]; exact hr)
  have b32 := bin32 set.length (show n.toNat ≤ 32 by omega)
  have e2 := ZoQ hn hl set 0 0 0 (Int.le_refl 0) rfl (by omega) (Int.le_refl 0) h0 hr (Int.le_refl 0) (by rw [show n - 0 = n by omega]; omega)
  rw [show n - 0 = n by omega, Int.zero_add] at e2
  unfold Zei
  simp (disch := omega) only [pz, hv, e2]
theorem ZeW : ∀ (g : Nat) (lo : Int) (s : List Int), RisL (lo + g - 1) lo s → (subs lo g s.length)[rk lo g s]? = some s
  | g, lo, [], _ => by cases g <;> rfl
  | 0, lo, a :: t, ⟨h1, h2, _⟩ => by omega
  | g + 1, lo, a :: t, ⟨h1, h2, h3⟩ => by
    rw [List.length_cons, subs]
    by_cases ha : a = lo
    · subst ha
      have hr : RisL (a + 1 + g - 1) (a + 1) t := by rw [show a + 1 + (g : Int) - 1 = a + ((g + 1 : Nat) : Int) - 1 by omega]; exact h3
      have ih := ZeW g (a + 1) t hr
      have e : rk a (g + 1) (a :: t) = rk (a + 1) g t := by
        rw [rk, show (a - a).toNat = 0 by omega, sB]; simp
      have hlt := rk_lt t (a + 1) g hr
      rw [e, List.getElem?_append_left (by rw [List.length_map, Zao]; exact hlt), List.getElem?_map, ih]; rfl
    · have hr : RisL (lo + 1 + g - 1) (lo + 1) (a :: t) := ⟨by omega, by omega, by rw [show lo + 1 + (g : Int) - 1 = lo + ((g + 1 : Nat) : Int) - 1 by omega]; exact h3⟩
      have ih := ZeW g (lo + 1) (a :: t) hr
      obtain ⟨d, hd⟩ : ∃ d : Nat, (a - lo).toNat = d + 1 := ⟨(a - lo).toNat - 1, by omega⟩
      have e : rk lo (g + 1) (a :: t) = bin g t.length + rk (lo + 1) g (a :: t) := by
        rw [rk, rk, hd, sB, show (a - (lo + 1)).toNat = d by omega, show g + 1 - (d + 1 + 1) = g - (d + 1) by omega]; omega
      rw [e, List.getElem?_append_right (by rw [List.length_map, Zao]; omega), List.length_map, Zao, show bin g t.length + rk (lo + 1) g (a :: t) - bin g t.length = rk (lo + 1) g (a :: t) by omega]
      exact ih
theorem ZlS {g : Nat} {lo a : Int} {t : List Int} (ha : lo < a) : rk lo (g + 1) (a :: t) = bin g t.length + rk (lo + 1) g (a :: t) := by
  obtain ⟨d, hd⟩ : ∃ d : Nat, (a - lo).toNat = d + 1 := ⟨(a - lo).toNat - 1, by omega⟩
  rw [rk, rk, hd, sB, show (a - (lo + 1)).toNat = d by omega, show g + 1 - (d + 1 + 1) = g - (d + 1) by omega]; omega
theorem Zf7 : ∀ (g : Nat) (lo : Int) (k j : Nat) (z : List Int), (subs lo g k)[j]? = some z → rk lo g z = j
  | g, lo, 0, j, z, h => by
    have e : subs lo g 0 = [[]] := by cases g <;> rfl
    rw [e] at h
    cases j with
    | zero => cases h; rfl
    | succ j => simp at h
  | 0, lo, k + 1, j, z, h => by simp [subs] at h
  | g + 1, lo, k + 1, j, z, h => by
    rw [subs] at h
    by_cases hj : j < bin g k
    · rw [List.getElem?_append_left (by rw [List.length_map, Zao]; exact hj), List.getElem?_map, Option.map_eq_some_iff] at h
      obtain ⟨z', h1, rfl⟩ := h
      have ih := Zf7 g (lo + 1) k j z' h1
      rw [rk, show (lo - lo).toNat = 0 by omega, sB]
      simpa using ih
    · rw [List.getElem?_append_right (by rw [List.length_map, Zao]; omega), List.length_map, Zao] at h
      have ih := Zf7 g (lo + 1) (k + 1) (j - bin g k) z h
      have hm := Zbi.1 (List.mem_of_getElem? h)
      cases z with
      | nil => simp at hm
      | cons a t =>
        have h1 : lo + 1 ≤ a := hm.2.1
        have h2 : t.length = k := by have := hm.1; simp at this; omega
        rw [ZlS (by omega), ih, h2]; omega
end Go.Proofs.YtocnokjekoglnaaGreat
