import Derived.Test.YtmmbnjijjdakmaaGreatDoorPuJg
import Derived.Lib.ParseIntB
import Derived.Test.YtmmbnjijjdakmaaGreatDoorPuFam
import Derived.Lib.SplitLaws
namespace Go.Proofs.YtmmbnjijjdakmaaGreatDoor
open Go Go.Vc Go.Lib
set_option linter.unusedSimpArgs false
set_option linter.unusedVariables false
def Dg (c : UInt8) : Prop := 48 ≤ c.toNat ∧ c.toNat ≤ 57
def vl (l : List UInt8) : Nat := l.foldl (fun n c => 10 * n + (c.toNat - 48)) 0
theorem Zjq (l : List UInt8) (c : UInt8) : vl (l ++ [c]) = 10 * vl l + (c.toNat - 48) := by
  unfold vl
  rw [List.foldl_append, List.foldl_cons, List.foldl_nil]
theorem dch {d : Nat} (h : d < 10) : (UInt8.ofNat (48 + d)).toNat = 48 + d := by
  rw [UInt8.toNat_ofNat']; omega
theorem Zit {P : List UInt8 → Nat → Prop} (h1 : ∀ u, u < 10 → P [UInt8.ofNat (48 + u)] u) (h2 : ∀ u, 10 ≤ u → P (decDigits (u / 10)) (u / 10) → P (decDigits (u / 10) ++ [UInt8.ofNat (48 + u % 10)]) u) : ∀ (n u : Nat), u < n → P (decDigits u) u := by
  intro n
  induction n with
  | zero => intro u h; omega
  | succ n ih =>
    intro u h
    by_cases hu : u < 10
    · rw [decDigits, dif_pos hu]; exact h1 u hu
    · rw [decDigits, dif_neg hu]; exact h2 u (by omega) (ih _ (by omega))
theorem ZgU (u : Nat) : vl (decDigits u) = u := by
  refine Zit (P := fun l u => vl l = u) (fun u h => ?_) (fun u h ih => ?_) (u + 1) u (by omega)
  · show 10 * 0 + ((UInt8.ofNat (48 + u)).toNat - 48) = u
    rw [dch h]; omega
  · rw [Zjq, ih, dch (Nat.mod_lt _ (by omega))]; omega
theorem ZdY (u : Nat) : ∀ c ∈ decDigits u, Dg c := by
  refine Zit (P := fun l u => ∀ c ∈ l, Dg c) (fun u h c hc => ?_) (fun u h ih c hc => ?_) (u + 1) u (by omega)
  · obtain rfl := List.mem_singleton.1 hc
    unfold Dg; rw [dch h]; omega
  · rcases List.mem_append.1 hc with hc | hc
    · exact ih c hc
    · obtain rfl := List.mem_singleton.1 hc
      have := Nat.mod_lt u (show 0 < 10 by omega)
      unfold Dg; rw [dch this]; omega
theorem ZvR (u : Nat) : u < 10 ^ (decDigits u).length := by
  refine Zit (P := fun l u => u < 10 ^ l.length) (fun u h => ?_) (fun u h ih => ?_) (u + 1) u (by omega)
  · simpa using h
  · have ih : u / 10 < 10 ^ (decDigits (u / 10)).length := ih
    rw [List.length_append, List.length_singleton, Nat.pow_succ]
    omega
theorem vl_lt : ∀ (m : Nat) (l : List UInt8), l.length = m → (∀ c ∈ l, Dg c) → vl l < 10 ^ m := by
  intro m
  induction m with
  | zero => intro l h _; rw [List.eq_nil_of_length_eq_zero h]; show 0 < 1; omega
  | succ m ih =>
    intro l h hd
    have hne : l ≠ [] := fun e => by rw [e] at h; simp at h
    rw [← List.dropLast_concat_getLast hne] at hd ⊢
    have h1 := ih l.dropLast (by simp; omega) fun c hc => hd c (List.mem_append_left _ hc)
    have h2 := hd (l.getLast hne) (by simp)
    rw [Zjq, Nat.pow_succ]
    unfold Dg at h2
    omega
noncomputable def numOf (s : ByteArray) : Int × Bool :=
  @dite _ (∃ n : Int, (-1000000000000000000 < n ∧ n < 1000000000000000000) ∧ itoaB n = s) (Classical.propDecidable _) (fun h => (Classical.choose h, true)) (fun _ => (0, false))
theorem ZcV (n : Int) : (itoaB n).data.toList = itoa n := by unfold itoaB; simp
theorem ZyD {n m : Int} (h : itoaB n = itoaB m) : n = m := by
  have h2 := congrArg (fun s : ByteArray => s.data.toList) h
  simp only [ZcV] at h2
  have hd : ∀ (u v : Nat) , decDigits u ≠ 45 :: decDigits v := fun u v e => by
    have := ZdY u 45 (by rw [e]; exact List.mem_cons_self ..)
    unfold Dg at this
    have e2 : (45 : UInt8).toNat = 45 := rfl
    omega
  unfold itoa at h2
  split at h2
  · split at h2
    · have h3 := (List.cons.inj h2).2
      have h4 := congrArg vl h3
      rw [ZgU, ZgU] at h4
      omega
    · exact absurd h2.symm (hd _ _)
  · split at h2
    · exact absurd h2 (hd _ _)
    · have h4 := congrArg vl h2
      rw [ZgU, ZgU] at h4
      omega
theorem Zgf {n : Int} {s : ByteArray} (h1 : -1000000000000000000 < n ∧ n < 1000000000000000000) (h : itoaB n = s) : numOf s = (n, true) := by
  have hx : ∃ n : Int, (-1000000000000000000 < n ∧ n < 1000000000000000000) ∧ itoaB n = s := ⟨n, h1, h⟩
  unfold numOf
  rw [dif_pos hx]
  have := Classical.choose_spec hx
  rw [ZyD (this.2.trans h.symm)]
theorem Zcx {s : ByteArray} (h : ∀ n : Int, (-1000000000000000000 < n ∧ n < 1000000000000000000) → itoaB n ≠ s) : numOf s = (0, false) := by
  unfold numOf
  rw [dif_neg fun ⟨n, h1, h2⟩ => h n h1 h2]
theorem Zpa {s : ByteArray} {n : Int} (h : numOf s = (n, true)) : (-1000000000000000000 < n ∧ n < 1000000000000000000) ∧ itoaB n = s := by
  by_cases hx : ∃ n : Int, (-1000000000000000000 < n ∧ n < 1000000000000000000) ∧ itoaB n = s
  · obtain ⟨m, h1, h2⟩ := hx
    rw [Zgf h1 h2] at h
    obtain rfl := (Prod.mk.inj h).1
    exact ⟨h1, h2⟩
  · rw [Zcx fun n h1 h2 => hx ⟨n, h1, h2⟩] at h
    exact absurd (Prod.mk.inj h).2 (by simp)
theorem Zkq (M : Nat) : ∀ (l : List UInt8) (a n : Nat) (c : UInt8), parseUintM M a l = .ok n → Dg c → n < 1844674407370955162 → n * 10 + (c.toNat - 48) ≤ M → parseUintM M a (l ++ [c]) = .ok (n * 10 + (c.toNat - 48))
  | [], a, n, c, h, hc, h1, h2 => by
    have h : NumEnd.ok a = NumEnd.ok n := h
    cases h
    rw [List.nil_append]
    unfold parseUintM
    have hc : 48 ≤ c.toNat ∧ c.toNat ≤ 57 := hc
    rw [if_pos hc, if_neg (by omega), if_neg (by omega)]
    rfl
  | d :: l, a, n, c, h, hc, h1, h2 => by
    rw [List.cons_append]
    unfold parseUintM at h ⊢
    split at h
    · rename_i hd
      rw [if_pos hd]
      split at h
      · cases h
      · rename_i ha
        rw [if_neg ha]
        split at h
        · cases h
        · rename_i hm
          rw [if_neg hm]
          exact Zkq M l _ n c h hc h1 h2
    · cases h
theorem ZpS (u : Nat) (hu : u < 1000000000000000000) : parseUintM 18446744073709551615 0 (decDigits u) = .ok u := by
  refine Zit (P := fun l u => u < 1000000000000000000 → parseUintM 18446744073709551615 0 l = .ok u) (fun u h _ => ?_) (fun u h ih hu => ?_) (u + 1) u (by omega) hu
  · have hd : Dg (UInt8.ofNat (48 + u)) := by unfold Dg; rw [dch h]; omega
    have := Zkq 18446744073709551615 [] 0 0 _ rfl hd (by omega) (by rw [dch h]; omega)
    rw [List.nil_append] at this
    rw [this, dch h]
    congr 1; omega
  · have hm := Nat.mod_lt u (show 0 < 10 by omega)
    have hd : Dg (UInt8.ofNat (48 + u % 10)) := by unfold Dg; rw [dch hm]; omega
    rw [Zkq _ _ 0 (u / 10) _ (ih (by omega)) hd (by omega) (by rw [dch hm]; omega), dch hm]
    congr 1; omega
theorem Zol {n : Int} (h : -1000000000000000000 < n ∧ n < 1000000000000000000) : parseIntB 64 (itoaB n).data.toList = .ok n := by
  rw [ZcV]
  have e45 : (45 : UInt8).toNat = 45 := rfl
  unfold itoa
  split
  · have hp := ZpS n.natAbs (by omega)
    have hne : decDigits n.natAbs ≠ [] := fun e => by have := dgn n.natAbs; rw [e] at this; simp at this
    unfold parseIntB parseUintB
    simp only [e45, or_true, if_true]
    rw [if_neg hne, show (2 : Nat) ^ 64 - 1 = 18446744073709551615 from rfl, hp]
    simp only [not_true, false_and, if_false, true_and]
    rw [if_neg (by rw [show (2 : Nat) ^ (64 - 1) = 9223372036854775808 from rfl]; omega)]
    congr 1; omega
  · have hp := ZpS n.toNat (by omega)
    have hall := ZdY n.toNat
    cases hl : decDigits n.toNat with
    | nil => have := dgn n.toNat; rw [hl] at this; simp at this
    | cons c r =>
      rw [hl] at hp hall
      have hc := hall c (List.mem_cons_self ..)
      unfold Dg at hc
      have n43 : ¬ c.toNat = 43 := by omega
      have n45 : ¬ c.toNat = 45 := by omega
      unfold parseIntB parseUintB
      simp only [n43, n45, or_false, if_false, reduceCtorEq]
      rw [show (2 : Nat) ^ 64 - 1 = 18446744073709551615 from rfl, hp]
      simp only [not_false_eq_true, true_and, false_and, if_false]
      rw [if_neg (by rw [show (2 : Nat) ^ (64 - 1) = 9223372036854775808 from rfl]; omega)]
      congr 1; omega
end Go.Proofs.YtmmbnjijjdakmaaGreatDoor
namespace Go.Proofs.YtmmbnjijjdakmaaGreatDoor
set_option linter.unusedVariables false
open Go Go.Vc Go.Lib
set_option linter.unusedSimpArgs false
def spl (b : UInt8) : List UInt8 → List (List UInt8)
  | [] => [[]]
  | c :: l => if c = b then [] :: spl b l else (c :: (spl b l).headD []) :: (spl b l).tail
theorem ZqL (b : UInt8) (l : List UInt8) : spl b l ≠ [] := by
  cases l with
  | nil => simp [spl]
  | cons c l => unfold spl; split <;> simp
theorem Zi0 {b : UInt8} {l : List UInt8} : ∃ h t, spl b l = h :: t := by
  cases e : spl b l with
  | nil => exact absurd e (ZqL b l)
  | cons h t => exact ⟨h, t, rfl⟩
theorem Zmb (x y : List UInt8) (r : List (List UInt8)) (s : List UInt8) : join (x :: y :: r) s = x ++ s ++ join (y :: r) s := by
  rw [join_cons, join_cons]
  simp [joinTail]
theorem ZnL (b : UInt8) : ∀ l : List UInt8, join (spl b l) [b] = l
  | [] => by simp [spl, join_one]
  | c :: l => by
    have ih := ZnL b l
    obtain ⟨h, t, e⟩ := Zi0 (b := b) (l := l)
    unfold spl
    split
    · rename_i hc
      rw [e] at ih ⊢
      rw [Zmb, ih, hc]; rfl
    · rw [e] at ih ⊢
      rw [join_cons] at ih ⊢
      show c :: h ++ joinTail [b] t = c :: l
      rw [← ih]; rfl
theorem Zpj {b : UInt8} : ∀ {x : List UInt8}, b ∉ x → spl b x = [x]
  | [], _ => rfl
  | c :: x, h => by
    have ih := Zpj (x := x) fun hh => h (List.mem_cons_of_mem _ hh)
    unfold spl
    rw [if_neg (fun e => h (by rw [e]; exact List.mem_cons_self ..)), ih]
    rfl
theorem Zn9 {b : UInt8} : ∀ {x : List UInt8} (l : List UInt8), b ∉ x → spl b (x ++ b :: l) = x :: spl b l
  | [], l, _ => by simp [spl]
  | c :: x, l, h => by
    have ih := Zn9 (x := x) l fun hh => h (List.mem_cons_of_mem _ hh)
    rw [List.cons_append]
    conv => lhs; unfold spl
    rw [if_neg (fun e => h (by rw [e]; exact List.mem_cons_self ..)), ih]
    rfl
theorem Zqb {b : UInt8} : ∀ {xs : List (List UInt8)}, xs ≠ [] → (∀ x ∈ xs, b ∉ x) → spl b (join xs [b]) = xs
  | [], h, _ => absurd rfl h
  | [x], _, h => by rw [join_one]; exact Zpj (h x (List.mem_cons_self ..))
  | x :: y :: r, _, h => by
    have ih := Zqb (b := b) (xs := y :: r) (by simp) fun z hz => h z (List.mem_cons_of_mem _ hz)
    rw [Zmb, List.append_assoc]
    show spl b (x ++ b :: join (y :: r) [b]) = _
    rw [Zn9 _ (h x (List.mem_cons_self ..)), ih]
theorem ZoA {b : UInt8} : ∀ (l : List UInt8) (c : UInt8) {os : List (List UInt8)} {u : List UInt8}, spl b l = os ++ [u] → spl b (l ++ [c]) = if c = b then os ++ [u] ++ [[]] else os ++ [u ++ [c]]
  | [], c, os, u, h => by
    have h' : [[]] = os ++ [u] := h
    cases os with
    | nil =>
      obtain rfl : [] = u := by simpa using h'
      simp [spl]
    | cons a t => simp at h'
  | d :: l, c, os, u, h => by
    obtain ⟨h1, t1, e⟩ := Zi0 (b := b) (l := l)
    have ih : ∀ {os : List (List UInt8)} {u : List UInt8}, spl b l = os ++ [u] → spl b (l ++ [c]) = if c = b then os ++ [u] ++ [[]] else os ++ [u ++ [c]] := fun h => ZoA (b := b) l c h
    rw [List.cons_append]
    unfold spl at h ⊢
    by_cases hd : d = b
    · rw [if_pos hd] at h ⊢
      cases os with
      | nil =>
        exfalso
        rw [e] at h
        simp at h
      | cons a t =>
        rw [List.cons_append, List.cons.injEq] at h
        obtain ⟨rfl, h⟩ := h
        rw [ih h]
        split <;> simp
    · rw [if_neg hd] at h ⊢
      cases os with
      | nil =>
        rw [e] at h
        simp only [List.headD_cons, List.tail_cons, List.nil_append, List.cons.injEq] at h
        obtain ⟨rfl, rfl⟩ := h
        rw [ih (os := []) (u := h1) (by rw [e]; rfl)]
        split <;> simp
      | cons a t =>
        rw [List.cons_append, List.cons.injEq, e] at h
        obtain ⟨rfl, h⟩ := h
        have h : t1 = t ++ [u] := h
        rw [ih (os := h1 :: t) (u := u) (by rw [e, h]; rfl)]
        split <;> simp
theorem Zim (b : UInt8) : ∀ l : List UInt8, (spl b l).length ≤ l.length + 1
  | [] => by simp [spl]
  | c :: l => by
    have ih := Zim b l
    obtain ⟨h, t, e⟩ := Zi0 (b := b) (l := l)
    unfold spl
    rw [e] at ih ⊢
    split
    · simp at ih ⊢; omega
    · simp at ih ⊢; omega
theorem Zp3 (b : UInt8) : ∀ l : List UInt8, ∀ x ∈ spl b l, x.length ≤ l.length
  | [], x, hx => by simp [spl] at hx; rw [hx]; simp
  | c :: l, x, hx => by
    have ih := Zp3 b l
    obtain ⟨h, t, e⟩ := Zi0 (b := b) (l := l)
    unfold spl at hx
    rw [e] at ih hx
    split at hx
    · rcases List.mem_cons.1 hx with rfl | hx
      · simp
      · have := ih x hx; simp; omega
    · rcases List.mem_cons.1 hx with rfl | hx
      · have := ih h (List.mem_cons_self ..); simp; omega
      · have := ih x (List.mem_cons_of_mem _ hx); simp; omega
end Go.Proofs.YtmmbnjijjdakmaaGreatDoor
namespace Go.Proofs.YtmmbnjijjdakmaaGreatDoor
set_option linter.unusedVariables false
open Go Go.Vc Go.Lib
set_option linter.unusedSimpArgs false
def tl (l : List UInt8) : List UInt8 := match l with
  | [] => []
  | c :: r => if c = 45 then r else l
theorem ZiL {n : Int} {l : List UInt8} (h : itoa n = l) : tl l = decDigits n.natAbs ∧ (n < 0 ↔ (tl l).length < l.length) := by
  subst h
  unfold itoa
  split
  · refine ⟨by simp [tl], ?_⟩
    simp [tl]; omega
  · rename_i hn
    have e : n.toNat = n.natAbs := by omega
    rw [e]
    have h1 : tl (decDigits n.natAbs) = decDigits n.natAbs := by
      cases hl : decDigits n.natAbs with
      | nil => rfl
      | cons c r =>
        have := ZdY n.natAbs c (by rw [hl]; exact List.mem_cons_self ..)
        unfold Dg at this
        have h45 : ¬ c = 45 := fun e => by rw [e] at this; have e2 : (45 : UInt8).toNat = 45 := rfl; omega
        simp [tl, h45]
    rw [h1]
    exact ⟨rfl, by omega⟩
theorem Zs2 {l : List UInt8} {v : Int} (h : parseIntB 64 l = .ok v) : -9223372036854775808 ≤ v ∧ v ≤ 9223372036854775807 := by
  unfold parseIntB at h
  split at h
  · cases h
  · rename_i c r
    dsimp only at h
    split at h
    · cases h
    · cases h
    · rename_i u hu
      rw [show (2 : Nat) ^ (64 - 1) = 9223372036854775808 from rfl] at h
      split at h
      · cases h
      · split at h
        · cases h
        · rename_i h1 h2
          cases h
          by_cases hc : c.toNat = 45
          · rw [if_pos hc]; omega
          · rw [if_neg hc]; omega
theorem ZgI {s : ByteArray} (h : (tl s.data.toList).length < 1 ∨ 18 < (tl s.data.toList).length) : numOf s = (0, false) := by
  refine Zcx fun n hn e => ?_
  have e2 := congrArg (fun s : ByteArray => s.data.toList) e
  simp only [ZcV] at e2
  have := (ZiL e2).1
  rw [this] at h
  have h1 := dgn n.natAbs
  have h2 := dgl 17 n.natAbs (by omega)
  omega
theorem Zzw {s : ByteArray} (h : ∃ c ∈ tl s.data.toList, ¬ Dg c) : numOf s = (0, false) := by
  refine Zcx fun n hn e => ?_
  have e2 := congrArg (fun s : ByteArray => s.data.toList) e
  simp only [ZcV] at e2
  have := (ZiL e2).1
  rw [this] at h
  obtain ⟨c, h1, h2⟩ := h
  exact h2 (ZdY _ c h1)
theorem ZxF {s : ByteArray} (hd : ∀ c ∈ tl s.data.toList, Dg c) (hl : (tl s.data.toList).length ≤ 18) {n : Int} (hn : n = if (tl s.data.toList).length < s.data.toList.length then -((vl (tl s.data.toList) : Nat) : Int) else ((vl (tl s.data.toList) : Nat) : Int)) :
    numOf s = if itoaB n = s then (n, true) else (0, false) := by
  have hv := vl_lt _ (tl s.data.toList) rfl hd
  have hv2 : vl (tl s.data.toList) < 10 ^ 18 := Nat.lt_of_lt_of_le hv (Nat.pow_le_pow_right (by omega) hl)
  have hr : -1000000000000000000 < n ∧ n < 1000000000000000000 := by
    rw [hn]; split <;> omega
  by_cases e : itoaB n = s
  · rw [if_pos e]; exact Zgf hr e
  · rw [if_neg e]
    refine Zcx fun m hm e2 => e ?_
    have e3 := congrArg (fun s : ByteArray => s.data.toList) e2
    simp only [ZcV] at e3
    obtain ⟨t1, t2⟩ := ZiL e3
    have hmn : m = n := by
      rw [hn, t1, ZgU]
      rw [t1] at t2
      split
      · rename_i h; have := t2.2 h; omega
      · rename_i h; have : ¬ m < 0 := fun h2 => h (t2.1 h2); omega
    rw [← hmn]; exact e2
theorem Zxs {s : ByteArray} (hl : (tl s.data.toList).length ≤ 18) {n : Int} (hp : parseIntB 64 s.data.toList = .ok n) : numOf s = if itoaB n = s then (n, true) else (0, false) := by
  by_cases e : itoaB n = s
  · rw [if_pos e]
    refine Zgf ?_ e
    have e2 := congrArg (fun s : ByteArray => s.data.toList) e
    simp only [ZcV] at e2
    rw [(ZiL e2).1] at hl
    have := ZvR n.natAbs
    have := Nat.lt_of_lt_of_le this (Nat.pow_le_pow_right (show 1 ≤ 10 by omega) hl)
    omega
  · rw [if_neg e]
    refine Zcx fun m hm e2 => e ?_
    have := Zol hm
    rw [e2, hp] at this
    cases this
    exact e2
theorem Zvp {s : ByteArray} (hp : ∀ n, parseIntB 64 s.data.toList ≠ .ok n) : numOf s = (0, false) :=
  Zcx fun m hm e2 => hp m (by rw [← e2]; exact Zol hm)
end Go.Proofs.YtmmbnjijjdakmaaGreatDoor
namespace Go.Proofs.YtmmbnjijjdakmaaGreatDoor
set_option linter.unusedVariables false
open Go Go.Vc Go.Lib
set_option linter.unusedSimpArgs false
theorem Zas (s : ByteArray) : s.data.toList.length = s.size := by rw [Array.length_toList]; rfl
theorem Ziw {s : ByteArray} {i : Int} (h0 : 0 ≤ i) {c : UInt8} (h : s.data.toList[i.toNat]? = some c) : gSt s i = some c := by
  have hl : i.toNat < s.size := by
    rw [← Zas]
    rcases Nat.lt_or_ge i.toNat s.data.toList.length with k | k
    · exact k
    · rw [List.getElem?_eq_none k] at h; cases h
  unfold gSt
  rw [if_pos h0, getElem?_pos s i.toNat hl]
  rw [List.getElem?_eq_getElem (by rw [Zas]; exact hl)] at h
  rw [← Option.some.inj h]
  rfl
theorem ZgP {s : ByteArray} {lo hi : Int} (h0 : 0 ≤ lo) (h1 : lo ≤ hi) (h2 : hi ≤ (s.size : Int)) : gStSl s lo hi = some (bl ((s.data.toList.take hi.toNat).drop lo.toNat)) := by
  unfold gStSl
  rw [if_pos ⟨h0, h1, h2⟩]
  congr 1
  apply ByteArray.ext
  rw [ByteArray.data_extract]
  apply Array.ext'
  rw [Array.toList_extract]
  simp [bl, List.extract_eq_take_drop, List.drop_take]
theorem bl_ne {s : ByteArray} {c : UInt8} {r : List UInt8} (h : s.data.toList = c :: r) : (s.toList == (⟨#[]⟩ : ByteArray).toList) = false := by
  cases hb : s.toList == (⟨#[]⟩ : ByteArray).toList with
  | false => rfl
  | true =>
    have := (Zah s ⟨#[]⟩).1 hb
    rw [this] at h
    cases h
theorem Zs3 {L : List UInt8} {k : Nat} {c : UInt8} (h : L[k]? = some c) : vl (L.take (k + 1)) = 10 * vl (L.take k) + (c.toNat - 48) := by
  rw [List.take_add_one, h]
  exact Zjq _ _
theorem ZpI (s : ByteArray) (hs : s.size ≤ 1000) {n : Int} (h1 : -9223372036854775808 ≤ n) (h2 : n ≤ 9223372036854775807) : ZdN s n = some (.inr (if itoaB n = s then (n, true) else (0, false))) := by
  unfold ZdN
  have hd := Zmm h1 h2
  by_cases e : itoaB n = s
  · have := (Zah (itoaB n) s).2 e
    rw [if_pos e]
    simp (disch := omega) only [pz, hd, this]
  · have : ((itoaB n).toList == s.toList) = false := by
      cases hb : (itoaB n).toList == s.toList with
      | false => rfl
      | true => exact absurd ((Zah _ _).1 hb) e
    rw [if_neg e]
    simp (disch := omega) only [pz, hd, this]
theorem Zq8 {s : ByteArray} (hs : s.size ≤ 1000) (hl1 : 1 ≤ (tl s.data.toList).length) (hl : (tl s.data.toList).length ≤ 18) : ZgR s (bl (tl s.data.toList)) = some (numOf s) := by
  unfold ZgR
  have hsz : (bl (tl s.data.toList)).size = (tl s.data.toList).length := Zen _
  have hdl : (bl (tl s.data.toList)).data.toList = tl s.data.toList := rfl
  have hle : ∀ k : Int, (∀ j, 0 ≤ j → j < k → ∃ c, (tl s.data.toList)[j.toNat]? = some c ∧ Dg c) → 0 ≤ k → k ≤ ((tl s.data.toList).length : Int) →
      loop (Zb9 s (bl (tl s.data.toList))) (0, 0) = loop (Zb9 s (bl (tl s.data.toList))) (((vl ((tl s.data.toList).take k.toNat) : Nat) : Int), k) := by
    intro k hk h0 hkl
    refine ZC (fun k : Int => (((vl ((tl s.data.toList).take k.toNat) : Nat) : Int), k)) h0 fun j j0 j1 => ?_
    obtain ⟨c, hc, hd⟩ := hk j j0 j1
    have hg : gSt (bl (tl s.data.toList)) j = some c := Ziw j0 (by rw [hdl]; exact hc)
    have hv := vl_lt _ ((tl s.data.toList).take j.toNat) rfl fun x hx => by
      obtain ⟨i, a, b, rfl⟩ := Z1 hx
      rw [List.length_take] at b
      obtain ⟨c', hc', hd'⟩ := hk i a (by omega)
      rw [ZcI a (by omega)]
      have := ZN (k := i.toNat) hc'
      rw [show ((i.toNat : Nat) : Int) = i by omega] at this
      rw [this]; exact hd'
    have hv2 : vl ((tl s.data.toList).take j.toNat) < 10 ^ 18 := Nat.lt_of_lt_of_le hv (Nat.pow_le_pow_right (by omega) (by rw [List.length_take]; omega))
    have hv3 : vl ((tl s.data.toList).take j.toNat) < 100000000000000000 := by
      refine Nat.lt_of_lt_of_le hv (Nat.le_trans (Nat.pow_le_pow_right (show 1 ≤ 10 by omega) (show _ ≤ 17 by rw [List.length_take]; omega)) (by omega))
    rw [show (j + 1).toNat = j.toNat + 1 by omega, Zs3 hc]
    generalize vl ((tl s.data.toList).take j.toNat) = n at hv3
    unfold Dg at hd
    have h1 : Zcr (c.toNat : Int) = some true := by simp (disch := omega) only [pz, Zcr]
    have w1 : IntKind.u8.wrap ((c.toNat : Int) - 48) = (c.toNat : Int) - 48 := u8_of (by omega) (by omega)
    simp (disch := omega) only [pz, Zb9, hsz, hg, h1, w1]
    congr 3
    omega
  rcases ZiB (n := ((tl s.data.toList).length : Int)) (by omega) (fun k => ¬ ∃ c, (tl s.data.toList)[k.toNat]? = some c ∧ Dg c) with ⟨k, k0, k1, hk, hb⟩ | hb
  · have e := hle k (fun j a b => Classical.not_not.1 (hb j a b)) k0 (by omega)
    obtain ⟨c, hc⟩ : ∃ c, (tl s.data.toList)[k.toNat]? = some c := ⟨_, List.getElem?_eq_getElem (by omega)⟩
    have hd : ¬ Dg c := fun h => hk ⟨c, hc, h⟩
    have hg : gSt (bl (tl s.data.toList)) k = some c := Ziw k0 (by rw [hdl]; exact hc)
    have h1 : Zcr (c.toNat : Int) = some false := by
      unfold Dg at hd
      by_cases h48 : 48 ≤ (c.toNat : Int)
      · simp (disch := omega) only [pz, Zcr]
      · simp (disch := omega) only [pz, Zcr]
    rw [e, Zzw ⟨c, List.mem_of_getElem? hc, hd⟩]
    exact Zd (by simp (disch := omega) only [pz, Zb9, hsz, hg, h1])
  · have hall : ∀ j, 0 ≤ j → j < ((tl s.data.toList).length : Int) → ∃ c, (tl s.data.toList)[j.toNat]? = some c ∧ Dg c := fun j a b => Classical.not_not.1 (hb j a b)
    have e := hle _ hall (by omega) (Int.le_refl _)
    rw [Int.toNat_natCast, List.take_length] at e
    have hdig : ∀ c ∈ tl s.data.toList, Dg c := fun c hc => by
      obtain ⟨i, hi⟩ := List.getElem?_of_mem hc
      have hlt := Z2 hi
      obtain ⟨c', h1, h2⟩ := hall i (by omega) (by omega)
      rw [Int.toNat_natCast, hi] at h1
      rw [Option.some.inj h1]; exact h2
    have hv := vl_lt _ (tl s.data.toList) rfl hdig
    have hv2 : vl (tl s.data.toList) < 10 ^ 18 := Nat.lt_of_lt_of_le hv (Nat.pow_le_pow_right (by omega) hl)
    rw [e, ZxF hdig hl rfl]
    refine Zd ?_
    by_cases hlt : (tl s.data.toList).length < s.data.toList.length
    · have hlt2 : (((tl s.data.toList).length : Nat) : Int) < (s.size : Int) := by rw [Zas] at hlt; omega
      rw [if_pos hlt]
      have k := ZpI s hs (n := -((vl (tl s.data.toList) : Nat) : Int)) (by omega) (by omega)
      have w0 : (0 : Int) - ((vl (tl s.data.toList) : Nat) : Int) = -((vl (tl s.data.toList) : Nat) : Int) := by omega
      simp (disch := omega) only [pz, Zb9, hsz, w0, k]
    · have hlt2 : ¬ (((tl s.data.toList).length : Nat) : Int) < (s.size : Int) := by rw [Zas] at hlt; omega
      rw [if_neg hlt]
      have k := ZpI s hs (n := ((vl (tl s.data.toList) : Nat) : Int)) (by omega) (by omega)
      simp (disch := omega) only [pz, Zb9, hsz, k]
theorem tl_le (l : List UInt8) : (tl l).length ≤ l.length ∧ l.length ≤ (tl l).length + 1 := by
  cases l with
  | nil => exact ⟨Nat.le_refl _, Nat.le_succ _⟩
  | cons c r =>
    by_cases hc : c = 45
    · simp [tl, hc]
    · simp [tl, hc]
theorem ZjY (s : ByteArray) : ZdK s = some (numOf s) := by
  have k1 : Zda s (bl (tl s.data.toList)) = some (numOf s) := by
    unfold Zda
    have hsz : (bl (tl s.data.toList)).size = (tl s.data.toList).length := Zen _
    by_cases h1 : (tl s.data.toList).length < 1
    · rw [ZgI (.inl h1)]
      simp (disch := omega) only [pz, hsz]
    · by_cases h2 : 18 < (tl s.data.toList).length
      · rw [ZgI (.inr h2)]
        simp (disch := omega) only [pz, hsz]
      · have := tl_le s.data.toList
        rw [Zas] at this
        have k := Zq8 (s := s) (by omega) (by omega) (by omega)
        simp (disch := omega) only [pz, hsz, k]
  unfold ZdK
  cases hl : s.data.toList with
  | nil =>
    have e : s = ⟨#[]⟩ := by
      apply ByteArray.ext
      apply Array.ext'
      rw [hl]
    have hb := (Zah s ⟨#[]⟩).2 e
    have et : bl (tl s.data.toList) = s := by rw [hl, e]; rfl
    rw [et] at k1
    simp (disch := omega) only [pz, hb, k1]
  | cons c r =>
    have hb := bl_ne hl
    have hg : gSt s 0 = some c := Ziw (by omega) (by rw [hl]; rfl)
    have hsl : s.size = r.length + 1 := by rw [← Zas, hl]; rfl
    by_cases hc : c = 45
    · have et : bl (tl s.data.toList) = bl r := by rw [hl]; simp [tl, hc]
      have hs := ZgP (s := s) (lo := 1) (hi := s.size) (by omega) (by omega) (by omega)
      have es : bl ((s.data.toList.take ((s.size : Int)).toNat).drop (1 : Int).toNat) = bl r := by
        rw [Int.toNat_natCast, ← Zas, List.take_length, hl]; rfl
      rw [es] at hs
      rw [et] at k1
      have hc2 : ((c.toNat : Nat) : Int) = 45 := by rw [hc]; rfl
      simp (disch := omega) only [pz, hb, hg, hc2, hs, k1]
    · have et : bl (tl s.data.toList) = s := by
        rw [← Zai s]
        show bl (tl s.data.toList) = bl s.data.toList
        rw [hl]; simp [tl, hc]
      rw [et] at k1
      have hc2 : ¬ ((c.toNat : Nat) : Int) = 45 := fun h => hc (by
        apply UInt8.toNat_inj.1
        have : (45 : UInt8).toNat = 45 := rfl
        omega)
      simp (disch := omega) only [pz, hb, hg, hc2, k1]
theorem Zxk (s : ByteArray) (hs : s.size ≤ 4000000000) : ZgY s ⟨#[45]⟩ = some (bl (tl s.data.toList)) := by
  unfold ZgY Zi9 Zii
  have z1 : ((⟨#[45]⟩ : ByteArray).size : Int) = 1 := rfl
  cases hl : s.data.toList with
  | nil =>
    have e : s = ⟨#[]⟩ := by
      apply ByteArray.ext
      apply Array.ext'
      rw [hl]
    subst e
    have z0 : ((⟨#[]⟩ : ByteArray).size : Int) = 0 := rfl
    simp (disch := omega) only [pz, z1, z0]
    rfl
  | cons c r =>
    have hsl : s.size = r.length + 1 := by rw [← Zas, hl]; rfl
    have hs1 := ZgP (s := s) (lo := 0) (hi := 1) (by omega) (by omega) (by omega)
    have es1 : bl ((s.data.toList.take (1 : Int).toNat).drop (0 : Int).toNat) = bl [c] := by rw [hl]; rfl
    rw [es1] at hs1
    have hs2 := ZgP (s := s) (lo := 1) (hi := s.size) (by omega) (by omega) (by omega)
    have es2 : bl ((s.data.toList.take ((s.size : Int)).toNat).drop (1 : Int).toNat) = bl r := by
      rw [Int.toNat_natCast, ← Zas, List.take_length, hl]; rfl
    rw [es2] at hs2
    by_cases hc : c = 45
    · have hq : ((bl [c]).toList == (⟨#[45]⟩ : ByteArray).toList) = true := (Zah _ _).2 (by rw [hc]; rfl)
      simp (disch := omega) only [pz, z1, hs1, hq, hs2]
      simp [tl, hc]
    · have hq : ((bl [c]).toList == (⟨#[45]⟩ : ByteArray).toList) = false := by
        cases hb : (bl [c]).toList == (⟨#[45]⟩ : ByteArray).toList with
        | false => rfl
        | true =>
          have := congrArg (fun s : ByteArray => s.data.toList) ((Zah _ _).1 hb)
          have h2 : [c] = [45] := this
          exact absurd (List.cons.inj h2).1 hc
      simp (disch := omega) only [pz, z1, hs1, hq]
      have et : bl (tl (c :: r)) = s := by
        rw [← Zai s, hl]; simp [tl, hc]
      rw [et]
theorem Zoq (s : ByteArray) (hs : s.size ≤ 4000000000) : Zd2 s = some (numOf s) := by
  unfold Zd2
  have ht := Zxk s hs
  have hsz : (bl (tl s.data.toList)).size = (tl s.data.toList).length := Zen _
  by_cases h1 : (tl s.data.toList).length < 1
  · rw [ZgI (.inl h1)]
    simp (disch := omega) only [pz, ht, hsz]
  · by_cases h2 : 18 < (tl s.data.toList).length
    · rw [ZgI (.inr h2)]
      simp (disch := omega) only [pz, ht, hsz]
    · have hle := tl_le s.data.toList
      rw [Zas] at hle
      have hg : gPars s = some (parsO s.data.toList) := by unfold gPars; rw [if_pos (by omega)]
      by_cases hp : ∃ n, parseIntB 64 s.data.toList = .ok n
      · obtain ⟨n, hp⟩ := hp
        have hr := Zs2 hp
        have hd := Zli hr.1 hr.2
        have ho := Zp1 hp
        rw [Zxs (by omega) hp]
        have hk : ZcD s (some n) = some (if itoaB n = s then (n, true) else (0, false)) := by
          unfold ZcD
          by_cases e : itoaB n = s
          · have := (Zah (itoaB n) s).2 e
            rw [if_pos e]
            simp (disch := omega) only [pz, hd, this]
          · have : ((itoaB n).toList == s.toList) = false := by
              cases hb : (itoaB n).toList == s.toList with
              | false => rfl
              | true => exact absurd ((Zah _ _).1 hb) e
            rw [if_neg e]
            simp (disch := omega) only [pz, hd, this]
        simp (disch := omega) only [pz, ht, hsz, hg, ho, hk]
      · have hno : ∀ n, parseIntB 64 s.data.toList ≠ .ok n := fun n h => hp ⟨n, h⟩
        have ho := Zos hno
        rw [Zvp hno]
        have hk : ZcD s none = some (0, false) := rfl
        simp (disch := omega) only [pz, ht, hsz, hg, ho, hk]
end Go.Proofs.YtmmbnjijjdakmaaGreatDoor
namespace Go.Proofs.YtmmbnjijjdakmaaGreatDoor
set_option linter.unusedVariables false
open Go Go.Vc Go.Lib
set_option linter.unusedSimpArgs false
theorem ZqJ (b : UInt8) : ∀ l : List UInt8, splitK [b] 0 (count l [b]) l = spl b l
  | [] => by rw [count_one]; rfl
  | c :: l => by
    have ih := ZqJ b l
    unfold spl
    by_cases hc : c = b
    · subst hc
      rw [if_pos rfl, count_cons_eq, Nat.add_comm, ← ih]
      have hix : index (c :: l) [c] = ((0 : Nat) : Int) := by rw [index]; simp [List.isPrefixOf]
      conv => lhs; unfold splitK
      rw [hix]
      rfl
    · rw [if_neg hc, count_cons_ne c b l hc, ← ih]
      have hp : ([b] : List UInt8).isPrefixOf (c :: l) = false := by simp [List.isPrefixOf, Ne.symm hc]
      have hix : index (c :: l) [b] = if index l [b] == -1 then -1 else index l [b] + 1 := by rw [index, hp]; simp
      by_cases hm : index l [b] = -1
      · rw [count_miss hm]; rfl
      · have hge := index_ge l [b]
        obtain ⟨j, hj⟩ : ∃ j : Nat, index l [b] = j := ⟨(index l [b]).toNat, by omega⟩
        have hix' : index (c :: l) [b] = ((j + 1 : Nat) : Int) := by rw [hix, if_neg (fun e => hm (beq_iff_eq.1 e)), hj]; omega
        rw [count_hit (by simp) hj, Nat.add_comm 1]
        generalize count (l.drop (j + [b].length)) [b] = k
        unfold splitK
        rw [hj, hix', if_neg (by rw [beq_iff_eq]; omega), if_neg (by rw [beq_iff_eq]; omega)]
        rfl
def splB (b : UInt8) (s : ByteArray) : List ByteArray := (spl b s.data.toList).map bl
theorem Zr5 (b : UInt8) (s : ByteArray) : splitB ⟨#[b]⟩ 0 (countB s ⟨#[b]⟩) s = splB b s := by
  have h := splitB_data ⟨#[b]⟩ 0 (countB s ⟨#[b]⟩) s
  have h2 : splitK (⟨#[b]⟩ : ByteArray).data.toList 0 (countB s ⟨#[b]⟩) s.data.toList = spl b s.data.toList := ZqJ b s.data.toList
  rw [h2] at h
  unfold splB
  rw [← h, List.map_map]
  conv => lhs; rw [← List.map_id (splitB _ _ _ _)]
  exact List.map_congr_left fun x _ => (Zai x).symm
theorem ZmF {b : UInt8} {s : ByteArray} (hs : s.size ≤ 4294967280) : Zcp s ⟨#[b]⟩ = some (splB b s) := by
  unfold Zcp
  rw [if_pos ⟨by omega, Nat.le_refl _⟩, Zr5]
end Go.Proofs.YtmmbnjijjdakmaaGreatDoor
