import Derived.Test.YtocnokjekoglnaaGreatPuJa
namespace Go.Proofs.YtocnokjekoglnaaGreat
open Go Go.Vc
set_option linter.unusedSimpArgs false
set_option linter.unusedVariables false
theorem ZS : ∀ a b, lexC a b = cmpL a b
  | [], [] => rfl
  | [], _ :: _ => rfl
  | _ :: _, [] => rfl
  | a :: as, b :: bs => by simp only [lexC, cmpL, ZS as bs]
def SortedL (ys : List (List Int)) : Prop := ys.Pairwise fun a b => lexC a b ≤ 0
theorem ZdC {xs ys : List (List Int)} (hp : ys.Perm xs) (hs : SortedL ys) : ys = sortRows xs := by
  refine Zif hp fun i j hij hj => ?_
  have := List.pairwise_iff_getElem.1 hs i j (by omega) hj hij
  rw [getElem!_pos ys i (by omega), getElem!_pos ys j hj]
  simp only [lexLt, decide_eq_false_iff_not, Int.not_lt]
  have := Zab ys[i] ys[j]
  omega
theorem ZbB (xs : List (List Int)) : SortedL (sortRows xs) := by
  have h := List.pairwise_mergeSort (le := fun x y => !lexLt y x) (fun a b c h k => by
    simp only [Bool.not_eq_true', lexLt, decide_eq_false_iff_not, Int.not_lt] at *
    have e1 := Zab a b
    have e2 := Zab b c
    have e3 := Zab a c
    have := (ZdX a b c (by omega) (by omega)).1
    omega) (fun a b => by
    simp only [Bool.or_eq_true, Bool.not_eq_true', lexLt, decide_eq_false_iff_not, Int.not_lt]
    have := Zab a b
    omega) xs
  refine List.Pairwise.imp (fun {a b} hab => ?_) h
  simp only [Bool.not_eq_true', lexLt, decide_eq_false_iff_not, Int.not_lt] at hab
  have := Zab a b
  omega
theorem Z3 {xs : List (List Int)} {x : List Int} : x ∈ sortRows xs ↔ x ∈ xs := (Zbb xs).mem_iff
theorem Z1 (xs : List (List Int)) : (sortRows xs).length = xs.length := (Zbb xs).length_eq
theorem ZiT {xs out : List (List Int)} {x : List Int} {k : Nat} (ho : out = sortRows xs) (h1 : ∀ y ∈ out.take k, lexC y x ≤ 0) (h2 : ∀ y ∈ out.drop k, lexC x y ≤ 0) : out.take k ++ [x] ++ out.drop k = sortRows (xs ++ [x]) := by
  have hs := ZbB xs
  rw [← ho] at hs
  refine ZdC ?_ ?_
  · have p1 : (out.take k ++ [x] ++ out.drop k).Perm ([x] ++ (out.take k ++ out.drop k)) := by
      rw [← List.append_assoc]
      exact List.Perm.append_right _ List.perm_append_comm
    rw [List.take_append_drop] at p1
    refine p1.trans (List.Perm.trans ?_ List.perm_append_comm)
    exact List.Perm.append_left _ (by rw [ho]; exact Zbb xs)
  · have hsp := hs
    unfold SortedL at *
    rw [← List.take_append_drop k out, List.pairwise_append] at hsp
    obtain ⟨s1, s2, s3⟩ := hsp
    rw [List.append_assoc, List.pairwise_append]
    refine ⟨s1, ?_, ?_⟩
    · rw [List.singleton_append, List.pairwise_cons]; exact ⟨h2, s2⟩
    · intro a ha b hb
      rw [List.singleton_append, List.mem_cons] at hb
      rcases hb with rfl | hb
      · exact h1 a ha
      · exact s3 a ha b hb
end Go.Proofs.YtocnokjekoglnaaGreat
namespace Go.Vc
set_option linter.unusedVariables false
open Go
def cmpP (p g : List Int) : List Int := p.map fun x => ix g x
def addq (q : List (List Int)) (p : List Int) : List (List Int) := if p ∈ q then q else q ++ [p]
def rowq (e : List Int) : List (List Int) → List (List Int) → List (List Int)
  | [], q => q
  | g :: gs, q => rowq e gs (addq q (cmpP e g))
inductive Rch (one : List Int) (gens : List (List Int)) : List Int → Prop
  | one : Rch one gens one
  | step {p g : List Int} : Rch one gens p → g ∈ gens → Rch one gens (cmpP p g)
theorem Rch.mono {one : List Int} {gens gens' : List (List Int)} (hs : ∀ g ∈ gens, g ∈ gens') {p : List Int} (h : Rch one gens p) : Rch one gens' p := by
  induction h with
  | one => exact .one
  | step _ hg ih => exact .step ih (hs _ hg)
theorem ZnB {q : List (List Int)} {p x : List Int} : x ∈ addq q p ↔ x ∈ q ∨ x = p := by
  unfold addq
  split
  · rename_i h
    exact ⟨.inl, fun h' => h'.elim id fun e => e ▸ h⟩
  · simp
theorem Zkp {q : List (List Int)} {p : List Int} (h : q.Nodup) : (addq q p).Nodup := by
  unfold addq
  split
  · exact h
  · rename_i hn
    rw [List.nodup_append]
    exact ⟨h, by simp, fun a ha b hb e => by simp at hb; subst hb; subst e; exact hn ha⟩
theorem Zmk (q : List (List Int)) (p : List Int) : q <+: addq q p := by
  unfold addq
  split
  · exact List.prefix_refl _
  · exact List.prefix_append ..
theorem Zdv (e : List Int) : ∀ (gs q : List (List Int)), q <+: rowq e gs q
  | [], q => List.prefix_refl _
  | g :: gs, q => (Zmk q _).trans (Zdv e gs _)
theorem Zfy (e : List Int) : ∀ (gs q : List (List Int)), q.Nodup → (rowq e gs q).Nodup
  | [], _, h => h
  | _ :: gs, _, h => Zfy e gs _ (Zkp h)
theorem Zdm (e : List Int) : ∀ (gs q : List (List Int)) {x : List Int}, x ∈ rowq e gs q ↔ x ∈ q ∨ ∃ g ∈ gs, x = cmpP e g
  | [], q, x => by simp [rowq]
  | g :: gs, q, x => by
    rw [rowq, Zdm e gs, ZnB]
    constructor
    · rintro ((h | h) | ⟨g', h, e⟩)
      · exact .inl h
      · exact .inr ⟨g, by simp, h⟩
      · exact .inr ⟨g', by simp [h], e⟩
    · rintro (h | ⟨g', h, e⟩)
      · exact .inl (.inl h)
      · rcases List.mem_cons.1 h with rfl | h
        · exact .inl (.inr e)
        · exact .inr ⟨g', h, e⟩
theorem Zgz (e : List Int) : ∀ (gs q : List (List Int)) (g : List Int), rowq e (gs ++ [g]) q = addq (rowq e gs q) (cmpP e g)
  | [], _, _ => rfl
  | _ :: gs, _, g => by rw [List.cons_append, rowq, Zgz e gs, rowq]
structure Bfs (e0 : List Int) (gens : List (List Int)) (k : Nat) (q : List (List Int)) : Prop where
  nd : q.Nodup
  one : q[0]? = some e0
  rch : ∀ p ∈ q, Rch e0 gens p
  cls : ∀ (j : Nat) e, j < k → q[j]? = some e → ∀ g ∈ gens, cmpP e g ∈ q
theorem Bfs.start {one : List Int} {gens : List (List Int)} : Bfs one gens 0 [one] := ⟨by simp, rfl, (fun p h => by simp at h; subst h; exact .one), fun j e h => by omega⟩
theorem Zgb {α : Type} {q q' : List α} {j : Nat} {e : α} (h : q <+: q') (hj : q[j]? = some e) : q'[j]? = some e := by
  obtain ⟨t, rfl⟩ := h
  rw [List.getElem?_append_left (ZU hj)]; exact hj
theorem Bfs.row {one : List Int} {gens : List (List Int)} {k : Nat} {q : List (List Int)} {e : List Int} (h : Bfs one gens k q) (he : q[k]? = some e) : Bfs one gens (k + 1) (rowq e gens q) := by
  have hp := Zdv e gens q
  refine ⟨Zfy e gens q h.nd, Zgb hp h.one, fun p hm => ?_, fun j e' hj he' g hg => ?_⟩
  · rcases (Zdm e gens q).1 hm with h1 | ⟨g, hg, rfl⟩
    · exact h.rch p h1
    · exact .step (h.rch e (List.mem_of_getElem? he)) hg
  · have hlt := ZU he
    have hej : q[j]? = some e' := by
      obtain ⟨t, ht⟩ := hp
      rw [← ht, List.getElem?_append_left (by omega)] at he'
      exact he'
    refine (Zdm e gens q).2 ?_
    by_cases hjk : j = k
    · subst hjk
      rw [he] at hej; cases hej
      exact .inr ⟨g, hg, rfl⟩
    · exact .inl (h.cls j e' (by omega) hej g hg)
def Gens (one : List Int) (gens L : List (List Int)) : Prop := L.Nodup ∧ ∀ p, p ∈ L ↔ Rch one gens p
theorem Bfs.done {one : List Int} {gens : List (List Int)} {k : Nat} {q : List (List Int)} (h : Bfs one gens k q) (hk : q.length ≤ k) : Gens one gens q := by
  refine ⟨h.nd, fun p => ⟨h.rch p, fun hp => ?_⟩⟩
  induction hp with
  | one => exact List.mem_of_getElem? h.one
  | step _ hg ih =>
    obtain ⟨j, hj⟩ := List.getElem?_of_mem ih
    exact h.cls j _ (by have := ZU hj; omega) hj _ hg
theorem Zdq {α : Type} [DecidableEq α] : ∀ {l l' : List α}, l.Nodup → (∀ x ∈ l, x ∈ l') → l.length ≤ l'.length
  | [], _, _, _ => Nat.zero_le _
  | a :: l, l', hn, hs => by
    obtain ⟨h1, h2⟩ := List.nodup_cons.1 hn
    have ha := hs a (by simp)
    have := Zdq (l' := l'.erase a) h2 fun x hx => by
      rw [List.mem_erase_of_ne (fun e => by subst e; exact h1 hx)]
      exact hs x (List.mem_cons_of_mem _ hx)
    rw [List.length_erase_of_mem ha] at this
    have hp : 0 < l'.length := List.length_pos_of_mem ha
    simp only [List.length_cons]; omega
theorem Gens.le {one : List Int} {gens L q : List (List Int)} (h : Gens one gens L) (hn : q.Nodup) (hr : ∀ p ∈ q, Rch one gens p) : q.length ≤ L.length := Zdq hn fun x hx => (h.2 x).2 (hr x hx)
theorem Gens.mono {one : List Int} {gens gens' L L' : List (List Int)} (h : Gens one gens L) (h' : Gens one gens' L') (hs : ∀ g ∈ gens, g ∈ gens') : (∀ p ∈ L, p ∈ L') ∧ L.length ≤ L'.length := by
  have : ∀ p ∈ L, p ∈ L' := fun p hp => (h'.2 p).2 (((h.2 p).1 hp).mono hs)
  exact ⟨this, Zdq h.1 this⟩
theorem ZgR {α : Type} [DecidableEq α] : ∀ {l l' : List α}, l.Nodup → (∀ x ∈ l, x ∈ l') → l.length = l'.length → l.Perm l'
  | [], l', _, _, hl => by
    have : l' = [] := List.eq_nil_of_length_eq_zero hl.symm
    subst this; exact .refl _
  | a :: l, l', hn, hs, hl => by
    obtain ⟨h1, h2⟩ := List.nodup_cons.1 hn
    have ha := hs a (by simp)
    have := ZgR (l' := l'.erase a) h2 (fun x hx => by
      rw [List.mem_erase_of_ne (fun e => by subst e; exact h1 hx)]
      exact hs x (List.mem_cons_of_mem _ hx)) (by rw [List.length_erase_of_mem ha]; simp at hl; omega)
    exact (this.cons a).trans (List.perm_cons_erase ha).symm
def idP (n : Int) : List Int := tabl n fun i => i
structure Perm (p : List Int) (n : Int) : Prop where
  len : (p.length : Int) = n
  rng : ∀ x ∈ p, 0 ≤ x ∧ x < n
  nd : p.Nodup
theorem Zc0 (p g : List Int) : (cmpP p g).length = p.length := by simp [cmpP]
theorem ZnW {p g : List Int} {i : Int} (h0 : 0 ≤ i) (h1 : i < (p.length : Int)) : ix (cmpP p g) i = ix g (ix p i) := ZfK h0 h1
theorem ZpX {g : List Int} {n : Int} (h0 : 0 ≤ n) (hg : (g.length : Int) = n) : cmpP (idP n) g = g := by
  have hl : (idP n).length = n.toNat := Zh5
  refine Zja (by rw [Zc0, hl]; omega) fun i h1 h2 => ?_
  rw [Zc0, hl] at h2
  rw [ZnW h1 (by rw [hl]; omega)]
  unfold idP
  rw [Zka h1 (by omega)]
theorem Zpt {gens : List (List Int)} {n : Int} (h0 : 0 ≤ n) (hg : ∀ g ∈ gens, Perm g n) {p : List Int} (hp : Rch (idP n) gens p) : (p.length : Int) = n ∧ ∀ x ∈ p, 0 ≤ x ∧ x < n := by
  induction hp with
  | one =>
    refine ⟨by unfold idP; rw [Zh5]; omega, fun x hx => ?_⟩
    unfold idP tabl at hx
    simp at hx
    obtain ⟨a, h1, rfl⟩ := hx
    omega
  | step _ h1 ih =>
    refine ⟨by rw [Zc0]; exact ih.1, fun x hx => ?_⟩
    unfold cmpP at hx
    rw [List.mem_map] at hx
    obtain ⟨y, hy, rfl⟩ := hx
    have := ih.2 y hy
    have hG := hg _ h1
    exact hG.rng _ (Zl this.1 (by rw [hG.len]; exact this.2))
end Go.Vc
namespace Go.Proofs.YtocnokjekoglnaaGreat
set_option linter.unusedVariables false
open Go Go.Vc
set_option linter.unusedSimpArgs false
def IsP (p : List Int) : Prop := (p.length : Int) ≤ 32 ∧ Vc.Perm p p.length
theorem ZpY {p : List Int} : p.Nodup ↔ ∀ k, 0 ≤ k → k < (p.length : Int) → ix p k ∉ p.take k.toNat := by
  constructor
  · intro h k h0 h1 hm
    have e : p = p.take k.toNat ++ p.drop k.toNat := (List.take_append_drop ..).symm
    rw [e] at h
    refine (List.nodup_append.1 h).2.2 _ hm (ix p k) ?_ rfl
    rw [Zad h0 h1]; simp
  · intro h
    unfold List.Nodup
    rw [List.pairwise_iff_getElem]
    intro i j hi hj hij he
    have h1 := Zq (xs := p) (i := (j : Int)) (by omega) (by omega)
    rw [Int.toNat_natCast] at h1
    refine h (j : Int) (by omega) (by omega) ?_
    rw [Int.toNat_natCast]
    refine List.mem_of_getElem? (i := i) ?_
    rw [List.getElem?_take, if_pos hij, List.getElem?_eq_getElem hi, he, ← List.getElem?_eq_getElem hj, h1]
theorem ZjS : ∀ {l l' : List Int}, l.Perm l' → l.Pairwise (· ≤ ·) → l'.Pairwise (· ≤ ·) → l = l'
  | [], l', hp, _, _ => hp.nil_eq
  | a :: l, [], hp, _, _ => absurd hp.length_eq (by simp)
  | a :: l, b :: l', hp, h1, h2 => by
    have ha : a ∈ b :: l' := hp.mem_iff.1 (by simp)
    have hb : b ∈ a :: l := hp.mem_iff.2 (by simp)
    have e : a = b := by
      rcases List.mem_cons.1 ha with h | h
      · exact h
      · rcases List.mem_cons.1 hb with h' | h'
        · exact h'.symm
        · have q1 := (List.pairwise_cons.1 h1).1 b h'
          have q2 := (List.pairwise_cons.1 h2).1 a h
          omega
    subst e
    rw [ZjS (List.perm_cons _ |>.1 hp) (List.pairwise_cons.1 h1).2 (List.pairwise_cons.1 h2).2]
theorem Zaz (xs : List Int) : (sortI xs).Perm xs := List.mergeSort_perm _ _
theorem ZdQ (xs : List Int) : (sortI xs).Pairwise (· ≤ ·) := by
  have h := List.pairwise_mergeSort (le := fun x y : Int => decide (x ≤ y)) (fun a b c h k => by simp at *; omega) (fun a b => by simp; omega) xs
  exact h.imp fun {a b} hab => by simpa using hab
theorem Z5 (n : Int) : (idP n).length = n.toNat := Zh5
theorem ZbG {n i : Int} (h0 : 0 ≤ i) (h1 : i < n) : ix (idP n) i = i := Zka h0 h1
theorem Zhu {n x : Int} : x ∈ idP n ↔ 0 ≤ x ∧ x < n := by
  unfold idP tabl
  simp only [List.mem_map, List.mem_range]
  constructor
  · rintro ⟨a, h1, rfl⟩; omega
  · intro h; exact ⟨x.toNat, by omega, by omega⟩
theorem Zmp (n : Int) : (idP n).Pairwise (· ≤ ·) := by
  rw [List.pairwise_iff_getElem]
  intro i j hi hj hij
  rw [Z5] at hi hj
  have e1 := Zq (xs := idP n) (i := (i : Int)) (by omega) (by rw [Z5]; omega)
  have e2 := Zq (xs := idP n) (i := (j : Int)) (by omega) (by rw [Z5]; omega)
  rw [Int.toNat_natCast] at e1 e2
  rw [ZbG (by omega) (by omega)] at e1 e2
  rw [List.getElem?_eq_getElem (by rw [Z5]; omega)] at e1 e2
  have := Option.some.inj e1
  have := Option.some.inj e2
  omega
theorem ZiG (n : Int) : (idP n).Nodup := by
  rw [ZpY]
  intro k h0 h1 hm
  rw [Z5] at h1
  rw [ZbG h0 (by omega)] at hm
  obtain ⟨i, a, b, e⟩ := Zaf hm
  rw [List.length_take, Z5] at b
  rw [ZgQ a (by omega), ZbG a (by omega)] at e
  omega
theorem Znx (n : Int) (h : 0 ≤ n) : Vc.Perm (idP n) n := ⟨by rw [Z5]; omega, fun x hx => Zhu.1 hx, ZiG n⟩
theorem ZiI {p : List Int} : sortI p = idP p.length ↔ Vc.Perm p p.length := by
  constructor
  · intro h
    have hp := Zaz p
    rw [h] at hp
    exact ⟨rfl, fun x hx => Zhu.1 (hp.mem_iff.2 hx), hp.nodup_iff.1 (ZiG _)⟩
  · intro h
    refine ZjS ((Zaz p).trans ?_) (ZdQ p) (Zmp _)
    exact ZgR h.nd (fun x hx => Zhu.2 (h.rng x hx)) (by rw [Z5]; omega)
theorem ZjT {p : List Int} (hN : (p.length : Int) ≤ 1048576) : Zae p = some p := by
  unfold Zae
  rw [Zap (by simp; omega) (by simp; omega)]; rfl
theorem Zin {p : List Int} (hN : (p.length : Int) ≤ 1048576) : Zcd p = some (sortI p) := by
  unfold Zcd
  rw [if_pos (by omega)]
theorem ZlI {p : List Int} (hN : (p.length : Int) ≤ 1048576) : IsQ (Zc9 p) (IsP p) := by
  unfold Zc9
  have hlen : (sortI p).length = p.length := (Zaz p).length_eq
  simp only [ZjT hN, Zin hN, Option.bind_some]
  refine (Zip (P := fun k => ix (sortI p) k = k) (n := (sortI p).length) (Q := (p.length : Int) ≤ 32) (by omega) ?_ ?_ fun _ => ?_).congr ?_
  · intro k h0 h1 hp
    simp (disch := omega) only [pz, Zcq]
  · intro k h0 h1 hp
    simp (disch := omega) only [pz, Zcq]
  · by_cases hl : (p.length : Int) ≤ 32
    · rw [Ze (r := true) (by simp (disch := omega) only [pz, Zcq])]; exact IsQ.t hl
    · rw [Ze (r := false) (by simp (disch := omega) only [pz, Zcq])]; exact IsQ.f hl
  · constructor
    · intro h
      refine ⟨h.2, ZiI.1 (Zja (by rw [hlen, Z5]; omega) fun i a b => ?_)⟩
      rw [h.1 i a b, ZbG a (by omega)]
    · intro h
      refine ⟨fun k a b => ?_, h.1⟩
      rw [ZiI.2 h.2, ZbG a (by omega)]
theorem Zkm {n : Int} {ps : List (List Int)} (hs : Sz2 ps) : IsQ (ZdU n ps) (∀ p ∈ ps, (p.length : Int) = n ∧ IsP p) := by
  unfold ZdU
  refine (containsLL (q := fun p => ¬ ((p.length : Int) = n ∧ IsP p)) hs.1 fun p hp => ?_).not.congr ⟨fun h p hp => Classical.byContradiction fun hn => h ⟨p, hp, hn⟩, fun h ⟨p, hp, hn⟩ => hn (h p hp)⟩
  unfold Zfc ZaI
  have hr := hs.2 p hp
  by_cases hl : (p.length : Int) = n
  · simp (disch := omega) only [pz]
    exact (ZlI hr).not.congr ⟨fun h h' => h h'.2, fun h h' => h ⟨hl, h'⟩⟩
  · simp (disch := omega) only [pz]
    exact IsQ.t fun h => hl h.1
end Go.Proofs.YtocnokjekoglnaaGreat
