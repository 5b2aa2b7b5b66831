import Derived.Test.YtocnokjekoglnaaGreatPuEv
import Derived.Test.YtocnokjekoglnaaGreatPuCmp
namespace Go.Vc
set_option linter.unusedVariables false
set_option linter.unusedSimpArgs false
open Go
noncomputable instance {α : Type} [Frc α] : Frc (Option α) where
  frc o k := Option.rec (k none) (fun a => Frc.frc a fun a => k (some a)) o
  ok o k := by cases o <;> first | rfl | exact Frc.ok _ _
noncomputable def cSl {α : Type} (xs : List α) (lo hi : Int) : Option (List α) := bif lei 0 lo && (lei lo hi && lei hi (len xs)) then some ((xs.take hi.toNat).drop lo.toNat) else none
theorem Zm {α : Type} (xs : List α) (lo hi : Int) : gSl xs lo hi = cSl xs lo hi := by
  unfold gSl cSl
  rw [← Zb, ← Zb, ← Zb, ZaE]
  by_cases h : 0 ≤ lo ∧ lo ≤ hi ∧ hi ≤ (xs.length : Int)
  · rw [if_pos h, decide_eq_true h.1, decide_eq_true h.2.1, decide_eq_true h.2.2]; rfl
  · rw [if_neg h]
    cases hb : (decide (0 ≤ lo) && (decide (lo ≤ hi) && decide (hi ≤ (xs.length : Int)))) with
    | false => rfl
    | true => simp at hb; exact absurd ⟨hb.1, hb.2.1, hb.2.2⟩ h
noncomputable def insI (x : Int) (l : List Int) : List Int := List.rec [x] (fun a t ih => bif lei x a then x :: a :: t else a :: ih) l
noncomputable def isI (l : List Int) : List Int := List.rec [] (fun a _ ih => insI a ih) l
theorem Zh5 (x a : Int) (t : List Int) : insI x (a :: t) = bif lei x a then x :: a :: t else a :: insI x t := rfl
theorem ZeA (x : Int) : ∀ l, (insI x l).Perm (x :: l)
  | [] => List.Perm.refl _
  | a :: t => by
    rw [Zh5]
    cases lei x a
    · exact ((ZeA x t).cons a).trans (List.Perm.swap ..)
    · exact List.Perm.refl _
theorem ZiJ : ∀ l, (isI l).Perm l
  | [] => List.Perm.refl _
  | a :: t => (ZeA a (isI t)).trans ((ZiJ t).cons a)
theorem ZjK (x : Int) : ∀ {l : List Int}, l.Pairwise (· ≤ ·) → (insI x l).Pairwise (· ≤ ·)
  | [], _ => List.pairwise_singleton _ _
  | a :: t, h => by
    rw [Zh5, ← Zb]
    have h' := List.pairwise_cons.1 h
    by_cases hx : x ≤ a
    · rw [decide_eq_true hx]
      refine List.pairwise_cons.2 ⟨fun b hb => ?_, h⟩
      rcases List.mem_cons.1 hb with rfl | hb
      · exact hx
      · have := h'.1 b hb; omega
    · rw [decide_eq_false hx]
      refine List.pairwise_cons.2 ⟨fun b hb => ?_, ZjK x h'.2⟩
      rcases List.mem_cons.1 ((ZeA x t).mem_iff.1 hb) with rfl | hb
      · omega
      · exact h'.1 b hb
theorem ZjH : ∀ l, (isI l).Pairwise (· ≤ ·)
  | [] => List.Pairwise.nil
  | a :: t => ZjK a (ZjH t)
theorem Zjr : ∀ {a b : List Int}, a.Perm b → a.Pairwise (· ≤ ·) → b.Pairwise (· ≤ ·) → a = b
  | [], b, hp, _, _ => (List.Perm.nil_eq hp)
  | x :: a, b, hp, ha, hb => by
    cases b with
    | nil => exact absurd hp.length_eq (by simp)
    | cons y b =>
      have ha' := List.pairwise_cons.1 ha
      have hb' := List.pairwise_cons.1 hb
      have e : x = y := by
        have h1 : x ∈ y :: b := hp.mem_iff.1 List.mem_cons_self
        have h2 : y ∈ x :: a := hp.mem_iff.2 List.mem_cons_self
        rcases List.mem_cons.1 h1 with h1 | h1
        · exact h1
        · rcases List.mem_cons.1 h2 with h2 | h2
          · exact h2.symm
          · have := hb'.1 x h1; have := ha'.1 y h2; omega
      subst e
      rw [Zjr (List.Perm.cons_inv hp) ha'.2 hb'.2]
theorem ZoI (l : List Int) : sortI l = isI l := by
  refine Zjr ((List.mergeSort_perm _ _).trans (ZiJ l).symm) ?_ (ZjH l)
  have := List.pairwise_mergeSort (le := fun x y : Int => decide (x ≤ y)) (fun a b c h1 h2 => by simp at *; omega) (fun a b => by simp; omega) l
  exact this.imp fun h => by simpa using h
noncomputable def cSortI (x : List Int) : Option (List Int) := bif Nat.ble (len x) 100000 then some (isI x) else none
theorem Zmv (x : List Int) : Le (cSortI x) (if x.length < 4611686018427387904 then some (sortI x) else none) := by
  intro r h
  unfold cSortI at h
  cases hc : Nat.ble (len x) 100000 with
  | false => rw [hc] at h; cases h
  | true =>
    rw [hc] at h; cases h
    rw [Nat.ble_eq, ZaE] at hc
    rw [if_pos (by omega), ZoI]
noncomputable def lxc (a : List Int) : List Int → Int := List.rec (fun b => List.rec 0 (fun _ _ _ => -1) b) (fun x _ ih b => List.rec 1 (fun y t _ => bif lti x y then -1 else bif lti y x then 1 else ih t) b) a
theorem ZhX : ∀ a b, lxc a b = lexC a b
  | [], [] => rfl
  | [], _ :: _ => rfl
  | _ :: _, [] => rfl
  | x :: a, y :: b => by
    show (bif lti x y then -1 else bif lti y x then 1 else lxc a b) = _
    rw [← Zd, ← Zd, ZhX a b, lexC]
    by_cases h1 : x < y
    · rw [if_pos h1, decide_eq_true h1]; rfl
    · rw [if_neg h1, decide_eq_false h1]
      by_cases h2 : y < x
      · rw [if_pos h2, decide_eq_true h2]; rfl
      · rw [if_neg h2, decide_eq_false h2]; rfl
noncomputable def insR (x : List Int) (l : List (List Int)) : List (List Int) := List.rec [x] (fun a t ih => bif lei (lxc x a) 0 then x :: a :: t else a :: ih) l
noncomputable def srtR (l : List (List Int)) : List (List Int) := List.rec [] (fun a _ ih => insR a ih) l
theorem Zjc (x a : List Int) (t : List (List Int)) : insR x (a :: t) = bif lei (lxc x a) 0 then x :: a :: t else a :: insR x t := rfl
theorem ZgA (x : List Int) : ∀ l, (insR x l).Perm (x :: l)
  | [] => List.Perm.refl _
  | a :: t => by
    rw [Zjc]
    cases lei (lxc x a) 0
    · exact ((ZgA x t).cons a).trans (List.Perm.swap ..)
    · exact List.Perm.refl _
theorem ZiI : ∀ l, (srtR l).Perm l
  | [] => List.Perm.refl _
  | a :: t => (ZgA a (srtR t)).trans ((ZiI t).cons a)
def LeR (a b : List Int) : Prop := lexC a b ≤ 0
theorem Zic (x : List Int) : ∀ {l : List (List Int)}, l.Pairwise LeR → (insR x l).Pairwise LeR
  | [], _ => List.pairwise_singleton _ _
  | a :: t, h => by
    rw [Zjc, ← Zb, ZhX]
    have h' := List.pairwise_cons.1 h
    by_cases hx : lexC x a ≤ 0
    · rw [decide_eq_true hx]
      refine List.pairwise_cons.2 ⟨fun b hb => ?_, h⟩
      rcases List.mem_cons.1 hb with rfl | hb
      · exact hx
      · exact (Zdt x a b hx (h'.1 b hb)).1
    · rw [decide_eq_false hx]
      refine List.pairwise_cons.2 ⟨fun b hb => ?_, Zic x h'.2⟩
      rcases List.mem_cons.1 ((ZgA x t).mem_iff.1 hb) with rfl | hb
      · have := Z7 a b; unfold LeR; have h2 := Z7 b a; omega
      · exact h'.1 b hb
theorem Zif : ∀ l, (srtR l).Pairwise LeR
  | [] => List.Pairwise.nil
  | a :: t => Zic a (Zif t)
theorem Zkz (l : List (List Int)) : srtR l = sortRows l := by
  refine Zh1 (ZiI l) fun i j hij hj => ?_
  have := List.pairwise_iff_getElem.1 (Zif l) i j (by omega) hj hij
  rw [getElem!_pos (srtR l) j hj, getElem!_pos (srtR l) i (by omega)]
  have h2 := Z7 (srtR l)[i] (srtR l)[j]
  unfold LeR at this
  unfold lexLt
  exact decide_eq_false (by omega)
noncomputable def allc {α : Type} (p : α → Bool) (l : List α) : Bool := List.rec true (fun a _ ih => bif p a then ih else false) l
theorem ZhZ {α : Type} {p : α → Bool} : ∀ {l : List α}, allc p l = true → ∀ a ∈ l, p a = true
  | [], _, _, h => by cases h
  | x :: l, h, a, ha => by
    have h' : (bif p x then allc p l else false) = true := h
    cases hp : p x with
    | false => rw [hp] at h'; cases h'
    | true =>
      rw [hp] at h'
      rcases List.mem_cons.1 ha with rfl | ha
      · exact hp
      · exact ZhZ h' a ha
noncomputable def eqo (o : Option Int) (z : Int) : Bool := Option.rec false (fun y => eqi y z) o
theorem Zk3 {o : Option Int} {z : Int} (h : eqo o z = true) : o = some z := by
  cases o with
  | none => cases h
  | some y =>
    have h' : eqi y z = true := h
    rw [← Zc] at h'
    rw [eq_of_beq h']
noncomputable def cSortR (x : List (List Int)) (fn : List Int → List Int → Option Int) : Option (List (List Int)) :=
  bif allc (fun a => allc (fun c => eqo (fn a c) (lxc a c)) x) x then bif Nat.ble (len x) 100000 then some (srtR x) else none else none
theorem Zlc {x : List (List Int)} {fn fn' : List Int → List Int → Option Int} (hf : ∀ u v, Le (fn u v) (fn' u v)) {r : List (List Int)} (h : cSortR x fn = some r) : ((∀ a ∈ x, ∀ c ∈ x, fn' a c = some (lexC a c)) ∧ x.length < 4611686018427387904) ∧ r = sortRows x := by
  unfold cSortR at h
  cases ha : allc (fun a => allc (fun c => eqo (fn a c) (lxc a c)) x) x with
  | false => rw [ha] at h; cases h
  | true =>
    rw [ha] at h
    cases hc : Nat.ble (len x) 100000 with
    | false => rw [hc] at h; cases h
    | true =>
      rw [hc] at h; cases h
      rw [Nat.ble_eq, ZaE] at hc
      refine ⟨⟨fun a h1 c h2 => ?_, by omega⟩, Zkz x⟩
      have := Zk3 (ZhZ (ZhZ ha a h1) c h2)
      rw [ZhX] at this
      exact hf a c _ this
end Go.Vc
