/- Images of a set, and all images of a set: reference and program. -/
import Derived.Test.YtapkemdomnkccaaGreatPuJc
import Derived.Test.YtapkemdomnkccaaGreatPuJd
namespace Go.Proofs.YtapkemdomnkccaaGreat
open Go Go.Vc
set_option linter.unusedSimpArgs false
set_option linter.unusedVariables false
theorem ZGS {α : Type} {R : α → α → Prop} (asym : ∀ x y, R x y → ¬ R y x) : ∀ {a b : List α}, a.Pairwise R → b.Pairwise R → (∀ x, x ∈ a ↔ x ∈ b) → a = b
  | [], [], _, _, _ => rfl
  | [], y :: b, _, _, h => by have := (h y).2 (List.mem_cons_self ..); simp at this
  | x :: a, [], _, _, h => by have := (h x).1 (List.mem_cons_self ..); simp at this
  | x :: a, y :: b, ha, hb, h => by
    rw [List.pairwise_cons] at ha hb
    have irr : ∀ x, ¬ R x x := fun x hx => asym x x hx hx
    have e : x = y := by
      rcases List.mem_cons.1 ((h x).1 (List.mem_cons_self ..)) with e | hx
      · exact e
      · rcases List.mem_cons.1 ((h y).2 (List.mem_cons_self ..)) with e | hy
        · exact e.symm
        · exact absurd (ha.1 y hy) (asym _ _ (hb.1 x hx))
    subst e
    rw [ZGS asym ha.2 hb.2 fun z => ?_]
    constructor
    · intro hz
      rcases List.mem_cons.1 ((h z).1 (List.mem_cons_of_mem _ hz)) with e | hz'
      · subst e; exact absurd (ha.1 z hz) (irr z)
      · exact hz'
    · intro hz
      rcases List.mem_cons.1 ((h z).2 (List.mem_cons_of_mem _ hz)) with e | hz'
      · subst e; exact absurd (hb.1 z hz) (irr z)
      · exact hz'
def insL {α : Type} (c : α → Int) (y : α) : List α → List α
  | [] => [y]
  | x :: r => if c x < 0 then x :: insL c y r else if c x = 0 then x :: r else y :: x :: r
theorem ZFR {α : Type} {c : α → Int} {y : α} (h0 : ∀ x, c x = 0 → x = y) : ∀ {l : List α} {z : α}, z ∈ insL c y l ↔ z = y ∨ z ∈ l
  | [], z => by simp [insL]
  | x :: r, z => by
    rw [insL]
    by_cases h1 : c x < 0
    · rw [if_pos h1, List.mem_cons, ZFR h0, List.mem_cons]
      constructor
      · rintro (h | h | h)
        · exact .inr (.inl h)
        · exact .inl h
        · exact .inr (.inr h)
      · rintro (h | h | h)
        · exact .inr (.inl h)
        · exact .inl h
        · exact .inr (.inr h)
    · rw [if_neg h1]
      by_cases h2 : c x = 0
      · rw [if_pos h2]
        have := h0 x h2
        subst this
        constructor
        · exact .inr
        · rintro (h | h)
          · rw [h]; exact List.mem_cons_self ..
          · exact h
      · rw [if_neg h2, List.mem_cons]
theorem ZGc {α : Type} {R : α → α → Prop} {c : α → Int} {y : α} (h0 : ∀ x, c x = 0 → x = y) (h1 : ∀ x, c x < 0 → R x y) (h2 : ∀ x, 0 < c x → R y x) (tr : ∀ x y z, R x y → R y z → R x z) : ∀ {l : List α}, l.Pairwise R → (insL c y l).Pairwise R
  | [], _ => by simp [insL]
  | x :: r, h => by
    rw [List.pairwise_cons] at h
    rw [insL]
    by_cases g1 : c x < 0
    · rw [if_pos g1, List.pairwise_cons]
      refine ⟨fun z hz => ?_, ZGc h0 h1 h2 tr h.2⟩
      rcases (ZFR h0).1 hz with e | hz
      · rw [e]; exact h1 x g1
      · exact h.1 z hz
    · rw [if_neg g1]
      by_cases g2 : c x = 0
      · rw [if_pos g2, List.pairwise_cons]; exact h
      · rw [if_neg g2, List.pairwise_cons, List.pairwise_cons]
        refine ⟨fun z hz => ?_, h⟩
        rcases List.mem_cons.1 hz with e | hz
        · rw [e]; exact h2 x (by omega)
        · exact tr _ _ _ (h2 x (by omega)) (h.1 z hz)
theorem ZGr {α : Type} (c : α → Int) (y : α) : ∀ (l : List α), (insL c y l).length ≤ l.length + 1
  | [] => by simp [insL]
  | x :: r => by
    have := ZGr c y r
    rw [insL]
    split
    · simp only [List.length_cons]; omega
    · split
      · simp
      · simp
theorem ZHC {l : List Int} {n : Int} (hl : (l.length : Int) ≤ 1000000) : ∀ (t : List Int) (i : Int) (out : List Int), 0 ≤ i → l.drop i.toNat = t → i ≤ (l.length : Int) → (out.length : Int) ≤ i + 1 → loop (ZDl l n) (out, true, i) = some (out ++ t) := by
  intro t
  induction t with
  | nil =>
    intro i out i0 hd i1 ho
    have hi : i = (l.length : Int) := by have := congrArg List.length hd; simp at this; omega
    rw [List.append_nil]
    refine Zd ?_
    simp (disch := omega) only [pz, ZDl]
  | cons a t ih =>
    intro i out i0 hd i1 ho
    have hi2 : i < (l.length : Int) := by have := congrArg List.length hd; simp at this; omega
    have hx := Zbi (xs := l) i0 hi2
    rw [hd] at hx
    obtain ⟨rfl, hd2⟩ := List.cons.inj hx
    have hB : ZDl l n (out, true, i) = some (.inl (out ++ [ix l i], true, i + 1)) := by
      simp (disch := omega) only [pz, ZDl, ZDI, ZDC]
    rw [ZG hB, ih (i + 1) _ (by omega) hd2.symm (by omega) (by rw [List.length_append, List.length_singleton]; omega), List.append_assoc]; rfl
theorem ZIz {l : List Int} {n : Int} (hl : (l.length : Int) ≤ 1000000) : ∀ (t : List Int) (i : Int) (out : List Int), 0 ≤ i → l.drop i.toNat = t → i ≤ (l.length : Int) → (out.length : Int) ≤ i → loop (ZDl l n) (out, false, i) = some (out ++ insL (fun x => x - n) n t) := by
  intro t
  induction t with
  | nil =>
    intro i out i0 hd i1 ho
    have hi : i = (l.length : Int) := by have := congrArg List.length hd; simp at this; omega
    refine Zd ?_
    simp (disch := omega) only [pz, ZDl, insL]
  | cons a t ih =>
    intro i out i0 hd i1 ho
    have hi2 : i < (l.length : Int) := by have := congrArg List.length hd; simp at this; omega
    have hx := Zbi (xs := l) i0 hi2
    rw [hd] at hx
    obtain ⟨rfl, hd2⟩ := List.cons.inj hx
    rw [insL]
    by_cases h1 : ix l i - n < 0
    · rw [if_pos h1]
      have hB : ZDl l n (out, false, i) = some (.inl (out ++ [ix l i], false, i + 1)) := by
        simp (disch := omega) only [pz, ZDl, ZDI, ZDC]
      rw [ZG hB, ih (i + 1) _ (by omega) hd2.symm (by omega) (by rw [List.length_append, List.length_singleton]; omega), List.append_assoc]; rfl
    · rw [if_neg h1]
      by_cases h2 : ix l i - n = 0
      · rw [if_pos h2]
        have hB : ZDl l n (out, false, i) = some (.inl (out ++ [ix l i], true, i + 1)) := by
          simp (disch := omega) only [pz, ZDl, ZDI, ZDC]
        rw [ZG hB, ZHC hl t (i + 1) _ (by omega) hd2.symm (by omega) (by rw [List.length_append, List.length_singleton]; omega), List.append_assoc]; rfl
      · rw [if_neg h2]
        have hB : ZDl l n (out, false, i) = some (.inl (out ++ [n] ++ [ix l i], true, i + 1)) := by
          have e1 : (out ++ [n]).length = out.length + 1 := by simp
          simp (disch := omega) only [pz, ZDl, ZDI, ZDC]
        rw [ZG hB, ZHC hl t (i + 1) _ (by omega) hd2.symm (by omega) (by rw [List.length_append, List.length_append, List.length_singleton, List.length_singleton]; omega), List.append_assoc, List.append_assoc]; rfl
theorem ZI1 {l : List Int} {n : Int} (hl : (l.length : Int) ≤ 1000000) : ZFH l n = some (insL (fun x => x - n) n l) := ZIz hl l 0 [] (Int.le_refl 0) rfl (by omega) (by simp)
theorem ZHQ {l : List (List Int)} {y : List Int} (hl : (l.length : Int) ≤ 1000000) (hr : ∀ x ∈ l, (x.length : Int) ≤ 1048576) : ∀ (t : List (List Int)) (i : Int) (out : List (List Int)), 0 ≤ i → l.drop i.toNat = t → i ≤ (l.length : Int) → (out.length : Int) ≤ i + 1 → loop (ZDk l y) (out, true, i) = some (out ++ t) := by
  intro t
  induction t with
  | nil =>
    intro i out i0 hd i1 ho
    have hi : i = (l.length : Int) := by have := congrArg List.length hd; simp at this; omega
    rw [List.append_nil]
    refine Zd ?_
    simp (disch := omega) only [pz, ZDk]
  | cons a t ih =>
    intro i out i0 hd i1 ho
    have hi2 : i < (l.length : Int) := by have := congrArg List.length hd; simp at this; omega
    have hx := Zbi (xs := l) i0 hi2
    rw [hd] at hx
    obtain ⟨rfl, hd2⟩ := List.cons.inj hx
    have hc := Zeo (a := ix l i) (b := y) (by have := hr _ (ZW i0 hi2); omega)
    have hB : ZDk l y (out, true, i) = some (.inl (out ++ [ix l i], true, i + 1)) := by
      simp (disch := omega) only [pz, ZDk, ZDM, ZDA, hc]
    rw [ZG hB, ih (i + 1) _ (by omega) hd2.symm (by omega) (by rw [List.length_append, List.length_singleton]; omega), List.append_assoc]; rfl
theorem ZJs {l : List (List Int)} {y : List Int} (hl : (l.length : Int) ≤ 1000000) (hr : ∀ x ∈ l, (x.length : Int) ≤ 1048576) : ∀ (t : List (List Int)) (i : Int) (out : List (List Int)), 0 ≤ i → l.drop i.toNat = t → i ≤ (l.length : Int) → (out.length : Int) ≤ i → loop (ZDk l y) (out, false, i) = some (out ++ insL (fun x => cmpL x y) y t) := by
  intro t
  induction t with
  | nil =>
    intro i out i0 hd i1 ho
    have hi : i = (l.length : Int) := by have := congrArg List.length hd; simp at this; omega
    refine Zd ?_
    simp (disch := omega) only [pz, ZDk, insL]
  | cons a t ih =>
    intro i out i0 hd i1 ho
    have hi2 : i < (l.length : Int) := by have := congrArg List.length hd; simp at this; omega
    have hx := Zbi (xs := l) i0 hi2
    rw [hd] at hx
    obtain ⟨rfl, hd2⟩ := List.cons.inj hx
    have hc := Zeo (a := ix l i) (b := y) (by have := hr _ (ZW i0 hi2); omega)
    rw [insL]
    by_cases h1 : cmpL (ix l i) y < 0
    · rw [if_pos h1]
      have hB : ZDk l y (out, false, i) = some (.inl (out ++ [ix l i], false, i + 1)) := by
        simp (disch := omega) only [pz, ZDk, ZDM, ZDA, hc]
      rw [ZG hB, ih (i + 1) _ (by omega) hd2.symm (by omega) (by rw [List.length_append, List.length_singleton]; omega), List.append_assoc]; rfl
    · rw [if_neg h1]
      by_cases h2 : cmpL (ix l i) y = 0
      · rw [if_pos h2]
        have hB : ZDk l y (out, false, i) = some (.inl (out ++ [ix l i], true, i + 1)) := by
          simp (disch := omega) only [pz, ZDk, ZDM, ZDA, hc]
        rw [ZG hB, ZHQ hl hr t (i + 1) _ (by omega) hd2.symm (by omega) (by rw [List.length_append, List.length_singleton]; omega), List.append_assoc]; rfl
      · rw [if_neg h2]
        have hB : ZDk l y (out, false, i) = some (.inl (out ++ [y] ++ [ix l i], true, i + 1)) := by
          have e1 : (out ++ [y]).length = out.length + 1 := by simp
          simp (disch := omega) only [pz, ZDk, ZDM, ZDA, hc]
        rw [ZG hB, ZHQ hl hr t (i + 1) _ (by omega) hd2.symm (by omega) (by rw [List.length_append, List.length_append, List.length_singleton, List.length_singleton]; omega), List.append_assoc, List.append_assoc]; rfl
theorem ZJ5 {l : List (List Int)} {y : List Int} (hl : (l.length : Int) ≤ 1000000) (hr : ∀ x ∈ l, (x.length : Int) ≤ 1048576) : ZFJ l y = some (insL (fun x => cmpL x y) y l) := ZJs hl hr l 0 [] (Int.le_refl 0) rfl (by omega) (by simp)
def imgS (p s : List Int) : List Int := sortI (s.map fun x => ix p x)
theorem ZHm {p s : List Int} {z : Int} : z ∈ imgS p s ↔ ∃ x ∈ s, ix p x = z := by
  unfold imgS
  rw [(ZjT _).mem_iff, List.mem_map]
theorem ZFM (p s : List Int) : (imgS p s).length = s.length := by
  unfold imgS
  rw [(ZjT _).length_eq, List.length_map]
structure SetIn (s : List Int) (n : Int) : Prop where
  srt : s.Pairwise (· < ·)
  rng : ∀ x ∈ s, 0 ≤ x ∧ x < n
theorem ZIC {p s : List Int} {n : Int} (hp : Vc.Perm p n) (hs : SetIn s n) : (s.map fun x => ix p x).Nodup := by
  refine List.pairwise_map.2 (hs.srt.imp_of_mem fun {a b} ha hb hab e => ?_)
  have ra := hs.rng a ha
  have rb := hs.rng b hb
  have hl := hp.len
  have ga := Zau (xs := p) (i := a) (by omega) (by omega)
  have gb := Zau (xs := p) (i := b) (by omega) (by omega)
  rw [e] at ga
  have := (List.getElem?_inj (by omega) hp.nd).1 (ga.trans gb.symm)
  omega
theorem ZHK {p s : List Int} {n : Int} (hp : Vc.Perm p n) (hs : SetIn s n) : SetIn (imgS p s) n := by
  refine ⟨?_, fun z hz => ?_⟩
  · have h1 := ZuZ (s.map fun x => ix p x)
    have h2 : (imgS p s).Nodup := (ZjT _).nodup_iff.2 (ZIC hp hs)
    exact (h1.and h2).imp fun {a b} h => by have := h.1; have := h.2; omega
  · obtain ⟨x, hx, rfl⟩ := ZHm.1 hz
    have := hs.rng x hx
    have hl := hp.len
    exact hp.rng _ (ZW (by omega) (by omega))
theorem ZIV {p s : List Int} {n : Int} (hp : Vc.Perm p n) (hs : SetIn s n) (hl : (s.length : Int) ≤ 1000000) : ZEO p s = some (imgS p s) := by
  unfold ZEO
  have hpl := hp.len
  have w := ZH (B := ZEk p s) (fun i => ((s.take i.toNat).map fun x => ix p x, i)) (i := 0) (n := s.length) (by omega) fun i i0 i1 => by
    have hr := hs.rng _ (ZW i0 i1)
    have ht := Zc3 i0 i1
    have hlen : ((s.take i.toNat).map fun x => ix p x).length ≤ 1000000 := by rw [List.length_map, List.length_take]; omega
    simp (disch := omega) only [pz, ZEk, ht, List.map_append, List.map_cons, List.map_nil]
  have z0 : ((List.take (Int.toNat 0) s).map fun x => ix p x, (0 : Int)) = (([] : List Int), (0 : Int)) := rfl
  rw [z0] at w
  rw [w]
  refine Zd ?_
  have hs' := Zrj (p := s.map fun x => ix p x) (by rw [List.length_map]; omega)
  have et : s.take (s.length : Int).toNat = s := by rw [Int.toNat_natCast, List.take_length]
  simp only [et]
  simp (disch := omega) only [pz, ZEk, hs']
  rfl
theorem ZIN {p s : List Int} {n : Int} (hp : Vc.Perm p n) (hs : SetIn s n) (hl : (s.length : Int) ≤ 1000) : ZE0 p s = some (imgS p s) := by
  unfold ZE0
  have hpl := hp.len
  obtain ⟨s', ⟨h1, h2, h3, h4⟩, h5⟩ := ZHt (B := ZEn p s) (fun i q => q.2 = i ∧ q.1.Pairwise (· < ·) ∧ (∀ z, z ∈ q.1 ↔ ∃ x ∈ s.take i.toNat, ix p x = z) ∧ (q.1.length : Int) ≤ i) (i := 0) (n := s.length) (by omega) (s := (([] : List Int), (0 : Int))) ⟨rfl, by simp, by simp, by simp⟩ fun i q i0 i1 ⟨g1, g2, g3, g4⟩ => by
    obtain ⟨out, j⟩ := q
    dsimp only at g1 g2 g3 g4
    subst g1
    have hr := hs.rng _ (ZW i0 i1)
    have hput := ZI1 (l := out) (n := ix p (ix s j)) (by omega)
    refine ⟨(insL (fun x => x - ix p (ix s j)) (ix p (ix s j)) out, j + 1), by simp (disch := omega) only [pz, ZEn, hput], rfl, ?_, fun z => ?_, ?_⟩
    · exact ZGc (fun x h => by omega) (fun x h => by omega) (fun x h => by omega) (fun x y z h k => by omega) g2
    · rw [ZFR (fun x h => by omega), g3, Zc3 i0 i1]
      simp only [List.mem_append, List.mem_singleton]
      constructor
      · rintro (h | ⟨x, hx, h⟩)
        · exact ⟨_, .inr rfl, h.symm⟩
        · exact ⟨x, .inl hx, h⟩
      · rintro ⟨x, hx | hx, h⟩
        · exact .inr ⟨x, hx, h⟩
        · subst hx; exact .inl h.symm
    · have := ZGr (fun x => x - ix p (ix s j)) (ix p (ix s j)) out
      dsimp only; omega
  obtain ⟨out, j⟩ := s'
  dsimp only at h1 h2 h3 h4
  subst h1
  rw [h5]
  have hset := ZHK hp hs
  have e : out = imgS p s := ZGS (R := (· < ·)) (fun x y h k => by omega) h2 hset.srt fun z => by
    rw [h3, ZHm, Int.toNat_natCast, List.take_length]
  refine Zd ?_
  simp (disch := omega) only [pz, ZEn, e]
def LtR (a b : List Int) : Prop := cmpL a b < 0
theorem LtR.asym (x y : List Int) (h : LtR x y) : ¬ LtR y x := fun k => by
  unfold LtR at h k
  have := Zch x y
  omega
theorem ZHP {f : List Int → List Int → Option Bool} (hf : ∀ a b, (a.length : Int) ≤ 1000 → f a b = some (decide (a = b))) : ∀ (l : List (List Int)) (p : List Int), (∀ x ∈ l, (x.length : Int) ≤ 1000) → (p :: l).Pairwise (fun a b => lexC a b ≤ 0) →
    ∃ q, cpt f p l = some q ∧ (p :: q).Pairwise LtR ∧ (∀ z, z ∈ p :: q ↔ z ∈ p :: l) ∧ q.length ≤ l.length
  | [], p, _, _ => ⟨[], rfl, by simp, by simp, Nat.le_refl _⟩
  | y :: l, p, hl, hs => by
    rw [List.pairwise_cons] at hs
    obtain ⟨q, q1, q2, q3, q4⟩ := ZHP hf l y (fun x hx => hl x (List.mem_cons_of_mem _ hx)) hs.2
    have hfy := hf y p (hl y (List.mem_cons_self ..))
    have hpy := hs.1 y (List.mem_cons_self ..)
    rw [Zdv] at hpy
    by_cases e : y = p
    · subst e
      refine ⟨q, ?_, q2, fun z => ?_, by simp; omega⟩
      · rw [cpt, hfy, q1]; simp
      · rw [q3]; simp
    · refine ⟨y :: q, ?_, ?_, fun z => ?_, by simp; omega⟩
      · rw [cpt, hfy, q1]; simp [e]
      · have hlt : LtR p y := by
          unfold LtR
          have : cmpL p y ≠ 0 := fun h => e ((ZbC _ _).1 h).symm
          omega
        rw [List.pairwise_cons]
        refine ⟨fun z hz => ?_, q2⟩
        rcases List.mem_cons.1 hz with rfl | hz
        · exact hlt
        · exact Zdd _ _ _ hlt ((List.pairwise_cons.1 q2).1 z hz)
      · rw [List.mem_cons, q3]; simp
theorem ZIS {f : List Int → List Int → Option Bool} (hf : ∀ a b, (a.length : Int) ≤ 1000 → f a b = some (decide (a = b))) {l : List (List Int)} (hl : ∀ x ∈ l, (x.length : Int) ≤ 1000) (hs : l.Pairwise (fun a b => lexC a b ≤ 0)) :
    ∃ q, cptL f l = some q ∧ q.Pairwise LtR ∧ (∀ z, z ∈ q ↔ z ∈ l) ∧ q.length ≤ l.length := by
  cases l with
  | nil => exact ⟨[], rfl, by simp, by simp, Nat.le_refl _⟩
  | cons p l =>
    obtain ⟨q, q1, q2, q3, q4⟩ := ZHP hf l p (fun x hx => hl x (List.mem_cons_of_mem _ hx)) hs
    exact ⟨p :: q, by rw [cptL, q1]; rfl, q2, q3, by simp; omega⟩
theorem ZKx {g : ZaB} {s : List Int} (hE : EOk g.Degree g.Elements) (hs : SetIn s g.Degree) (hl : (s.length : Int) ≤ 1000) :
    ∃ q, ZFi g s = some q ∧ ZFt g s = some q ∧ q.Pairwise LtR ∧ (∀ z, z ∈ q ↔ ∃ p ∈ g.Elements, imgS p s = z) ∧ (q.length : Int) ≤ 720 := by
  have hN := hE.l1
  have hset : ∀ z, (∃ p ∈ g.Elements, imgS p s = z) → (z.length : Int) = s.length := fun z ⟨p, _, e⟩ => by rw [← e, ZFM]
  -- the reference
  unfold ZFi
  obtain ⟨s', ⟨h1, h2, h3, h4⟩, h5⟩ := ZHt (B := ZEC g s) (fun i q => q.2 = i ∧ q.1.Pairwise LtR ∧ (∀ z, z ∈ q.1 ↔ ∃ p ∈ g.Elements.take i.toNat, imgS p s = z) ∧ (q.1.length : Int) ≤ i) (i := 0) (n := g.Elements.length) (by omega) (s := (([] : List (List Int)), (0 : Int))) ⟨rfl, by simp, by simp, by simp⟩ fun i q i0 i1 ⟨g1, g2, g3, g4⟩ => by
    obtain ⟨out, j⟩ := q
    dsimp only at g1 g2 g3 g4
    subst g1
    have hp := hE.perm (ZW i0 i1)
    have hi := ZIN hp hs hl
    have hput := ZJ5 (l := out) (y := imgS (ix g.Elements j) s) (by omega) (fun x hx => by
      obtain ⟨p, _, e⟩ := (g3 x).1 hx
      rw [← e, ZFM]; omega)
    refine ⟨(insL (fun x => cmpL x (imgS (ix g.Elements j) s)) (imgS (ix g.Elements j) s) out, j + 1), by simp (disch := omega) only [pz, ZEC, hi, hput], rfl, ?_, fun z => ?_, ?_⟩
    · exact ZGc (R := LtR) (fun x h => (ZbC _ _).1 h) (fun x h => h) (fun x h => by
        have := Zch x (imgS (ix g.Elements j) s)
        show cmpL _ _ < 0
        omega) (fun x y z h k => Zdd _ _ _ h k) g2
    · rw [ZFR (fun x h => (ZbC _ _).1 h), g3, Zc3 i0 i1]
      simp only [List.mem_append, List.mem_singleton]
      constructor
      · rintro (h | ⟨x, hx, h⟩)
        · exact ⟨_, .inr rfl, h.symm⟩
        · exact ⟨x, .inl hx, h⟩
      · rintro ⟨x, hx | hx, h⟩
        · exact .inr ⟨x, hx, h⟩
        · subst hx; exact .inl h.symm
    · have := ZGr (fun x => cmpL x (imgS (ix g.Elements j) s)) (imgS (ix g.Elements j) s) out
      dsimp only; omega
  obtain ⟨out, j⟩ := s'
  dsimp only at h1 h2 h3 h4
  subst h1
  have h3' : ∀ z, z ∈ out ↔ ∃ p ∈ g.Elements, imgS p s = z := fun z => by rw [h3, Int.toNat_natCast, List.take_length]
  refine ⟨out, ?_, ?_, h2, h3', by omega⟩
  · rw [h5]
    refine Zd ?_
    simp (disch := omega) only [pz, ZEC]
  -- the program
  · unfold ZFt
    have w := ZH (B := ZEF g s) (fun i => ((g.Elements.take i.toNat).map fun p => imgS p s, i)) (i := 0) (n := g.Elements.length) (by omega) fun i i0 i1 => by
      have hp := hE.perm (ZW i0 i1)
      have hi := ZIV hp hs (by omega)
      have ht := Zc3 i0 i1
      have hlen : ((g.Elements.take i.toNat).map fun p => imgS p s).length ≤ 1000000 := by rw [List.length_map, List.length_take]; omega
      simp (disch := omega) only [pz, ZEF, hi, ht, List.map_append, List.map_cons, List.map_nil]
    have z0 : ((List.take (Int.toNat 0) g.Elements).map fun p => imgS p s, (0 : Int)) = (([] : List (List Int)), (0 : Int)) := rfl
    rw [z0] at w
    rw [w]
    refine Zd ?_
    have et : g.Elements.take (g.Elements.length : Int).toNat = g.Elements := by rw [Int.toNat_natCast, List.take_length]
    simp only [et]
    have hrow : ∀ x ∈ g.Elements.map fun p => imgS p s, (x.length : Int) ≤ 1000 := fun x hx => by
      obtain ⟨p, hp, rfl⟩ := List.mem_map.1 hx
      rw [ZFM]; omega
    have hsort := ZrU (q := g.Elements.map fun p => imgS p s) (by rw [List.length_map]; omega) (fun x hx => by have := hrow x hx; omega)
    obtain ⟨q, q1, q2, q3, q4⟩ := ZIS (f := fun y0 y1 => ZfP y0 y1) (fun a b ha => by
      by_cases e : a = b
      · rw [decide_eq_true e]; exact (Zt1 (by omega)).eq e
      · rw [decide_eq_false e]; exact (Zt1 (by omega)).ne e) (l := sortRows (g.Elements.map fun p => imgS p s)) (fun x hx => hrow x (Zbd.1 hx)) (Zio _)
    have eq : q = out := ZGS LtR.asym q2 h2 fun z => by
      rw [q3, Zbd, h3', List.mem_map]
    have hc : ZFn (sortRows (g.Elements.map fun p => imgS p s)) (fun y0 y1 => ZfP y0 y1) = some out := by
      unfold ZFn
      rw [if_pos (by rw [ZhO, List.length_map]; omega), q1, eq]
    simp (disch := omega) only [pz, ZEF, hsort, hc]
end Go.Proofs.YtapkemdomnkccaaGreat
namespace Go.Proofs.YtapkemdomnkccaaGreat
set_option linter.unusedVariables false
open Go Go.Vc
set_option linter.unusedSimpArgs false
set_option linter.unusedVariables false
theorem ZHH {σ ρ τ : Type} {B : σ → Option (σ ⊕ ρ)} {B' : σ → Option (σ ⊕ τ)} (I : Int → σ → Prop) {i n : Int} (hi : i ≤ n) {s : σ} (hs : I i s) (h : ∀ k s, i ≤ k → k < n → I k s → ∃ s', B s = some (.inl s') ∧ B' s = some (.inl s') ∧ I (k + 1) s') : ∃ s', I n s' ∧ loop B s = loop B s' ∧ loop B' s = loop B' s' := by
  have key : ∀ (d : Nat) (k : Int) (t : σ), k + d = n → i ≤ k → I k t → ∃ s', I n s' ∧ loop B t = loop B s' ∧ loop B' t = loop B' s' := by
    intro d
    induction d with
    | zero => intro k t hk _ ht; obtain rfl : k = n := by omega
              exact ⟨t, ht, rfl, rfl⟩
    | succ d ih =>
      intro k t hk hik ht
      obtain ⟨t', h1, h1', h2⟩ := h k t hik (by omega) ht
      obtain ⟨s', h3, h4, h5⟩ := ih (k + 1) t' (by omega) (by omega) h2
      exact ⟨s', h3, by rw [ZG h1, h4], by rw [ZG h1', h5]⟩
  exact key (n - i).toNat i s (by omega) (by omega) hs
theorem ZFB {hi : Int} : ∀ {s : List Int} {lo : Int}, RisL hi lo s ↔ s.Pairwise (· < ·) ∧ ∀ x ∈ s, lo ≤ x ∧ x ≤ hi
  | [], lo => by simp [RisL]
  | a :: t, lo => by
    rw [RisL, ZFB, List.pairwise_cons]
    constructor
    · rintro ⟨h1, h2, h3, h4⟩
      refine ⟨⟨fun x hx => by have := h4 x hx; omega, h3⟩, fun x hx => ?_⟩
      rcases List.mem_cons.1 hx with rfl | hx
      · exact ⟨h1, h2⟩
      · have := h4 x hx; omega
    · rintro ⟨⟨h1, h2⟩, h3⟩
      have ha := h3 a (List.mem_cons_self ..)
      exact ⟨ha.1, ha.2, h2, fun x hx => ⟨by have := h1 x hx; omega, (h3 x (List.mem_cons_of_mem _ hx)).2⟩⟩
theorem SetIn.ris {s : List Int} {n : Int} (h : SetIn s n) : RisL (n - 1) 0 s := ZFB.2 ⟨h.srt, fun x hx => by have := h.rng x hx; omega⟩
theorem SetIn.of {s : List Int} {n : Int} (h : RisL (n - 1) 0 s) : SetIn s n := ⟨(ZFB.1 h).1, fun x hx => by have := (ZFB.1 h).2 x hx; omega⟩
structure OrbOk (n k : Int) (o : List (List Int)) : Prop where
  ne : 0 < (o.length : Int)
  len : (o.length : Int) ≤ 720
  set : ∀ z ∈ o, SetIn z n ∧ (z.length : Int) = k
theorem ZJG {g : ZaB} {k : Int} (hE : EOk g.Degree g.Elements) (k0 : 0 ≤ k) (k1 : k ≤ g.Degree) {q : List (List Int)} (hq : OrbOk g.Degree k q) {out : List (List (List Int))} {r : Int} (hr0 : 0 ≤ r) (hr1 : r ≤ 4294967296) (ho : (out.length : Int) ≤ r) {seen : List Bool} (hs : seen.length = bin g.Degree.toNat k.toNat) :
    ∃ seen' : List Bool, seen'.length = seen.length ∧ loop (ZDX g out r q) (0, seen) = some (.inl (out ++ [q], r + 1, seen')) ∧ loop (ZDQ g out r q) (0, seen) = some (.inl (out ++ [q], r + 1, seen')) := by
  have n0 := hE.n0; have n1 := hE.n1; have hql := hq.len
  obtain ⟨s', ⟨h1, h2⟩, h3, h4⟩ := ZHH (B := ZDX g out r q) (B' := ZDQ g out r q) (fun i s => s.1 = i ∧ s.2.length = seen.length) (i := 0) (n := q.length) (by omega) (s := ((0 : Int), seen)) ⟨rfl, rfl⟩ fun i s i0 i1 ⟨g1, g2⟩ => by
    obtain ⟨j, xs⟩ := s
    dsimp only at g1 g2
    subst g1
    obtain ⟨hset, hlen⟩ := hq.set _ (ZW i0 i1)
    obtain ⟨e1, e2, e3⟩ := ZJP (n := g.Degree) (set := ix q j) (by omega) n1 (by omega) hset.ris
    have hv := (ZtL (l := ix q j) (n := g.Degree) (by omega)).eq ⟨ZFG.2 hset.ris, by omega, n1⟩
    have e2' := e2 hv
    rw [show (ix q j).length = k.toNat by omega] at e3
    refine ⟨(j + 1, xs.set (rk 0 g.Degree.toNat (ix q j)) true), ?_, ?_, rfl, by rw [List.length_set]; exact g2⟩
    · simp (disch := omega) only [pz, ZDX, e1]
    · simp (disch := omega) only [pz, ZDQ, e2']
  obtain ⟨j, xs⟩ := s'
  dsimp only at h1 h2
  subst h1
  refine ⟨xs, h2, ?_, ?_⟩
  · rw [h3]
    refine Zd ?_
    simp (disch := omega) only [pz, ZDX]
  · rw [h4]
    refine Zd ?_
    simp (disch := omega) only [pz, ZDQ]
theorem ZGB {g : ZaB} {k : Int} (hE : EOk g.Degree g.Elements) (k0 : 0 ≤ k) (k1 : k ≤ g.Degree) :
    ∃ L, ZEb g k = some L ∧ ZDW g k = some L ∧ (∀ o ∈ L, OrbOk g.Degree k o) ∧ L.length ≤ bin g.Degree.toNat k.toNat ∧ 0 < L.length := by
  have n0 := hE.n0; have n1 := hE.n1
  obtain ⟨c1, c2⟩ := chooseI (n := g.Degree) (k := k) (by omega) n1 k0
  have b32 := bin32 k.toNat (show g.Degree.toNat ≤ 32 by omega)
  have hpos : 0 < bin g.Degree.toNat k.toNat := by
    obtain ⟨M, hM⟩ := ZFm (g := g.Degree.toNat) (k := k.toNat) (lo := 0) (by omega)
    rw [← ZDK g.Degree.toNat k.toNat 0, hM]; simp
  obtain ⟨N, hN⟩ : ∃ N, N = bin g.Degree.toNat k.toNat := ⟨_, rfl⟩
  rw [← hN] at c1 c2 b32 hpos
  have ha := ZII k0 k1 n1
  have hal : (allSub g.Degree k).length = N := by unfold allSub; rw [ZDK, hN]
  have hmk : gMake 1 false (N : Int) (N : Int) = some (List.replicate N false) := Zgh (by omega) (by omega)
  have eg : ZaB.mk g.Degree g.Elements = g := rfl
  obtain ⟨s', ⟨h1, h2, h3, h4, h5, _⟩, h6, h7⟩ := ZHH (B := ZEd g k (N : Int)) (B' := ZEa g (allSub g.Degree k)) (fun i s => s.2.1 = i ∧ s.2.2.length = N ∧ (∀ o ∈ s.1, OrbOk g.Degree k o) ∧ (s.1.length : Int) ≤ i ∧ ((0 < i → 0 < s.1.length) ∧ (i = 0 → s.2.2 = List.replicate N false))) (i := 0) (n := N) (by omega) (s := (([] : List (List (List Int))), (0 : Int), List.replicate N false)) ⟨rfl, by simp, by simp, by simp, by simp, fun _ => rfl⟩ fun i s i0 i1 ⟨g1, g2, g3, g4, g5, g6⟩ => by
    obtain ⟨out, r, seen⟩ := s
    dsimp only at g1 g2 g3 g4 g5 g6
    subst g1
    cases hx : ix seen r with
    | true =>
      refine ⟨(out, r + 1, seen), ?_, ?_, rfl, g2, g3, by dsimp only; omega, fun _ => ?_, fun h => by omega⟩
      · simp (disch := omega) only [pz, ZEd, hx]
      · simp (disch := omega) only [pz, ZEa, hx]
      · by_cases hr : 0 < r
        · exact g5 hr
        · have hr0 : r = 0 := by omega
          rw [g6 hr0, hr0, Zms (Int.le_refl 0) (by omega)] at hx
          cases hx
    | false =>
      obtain ⟨s, s1, s2⟩ := ZJN (n := g.Degree) (k := k) (by omega) n1 k0 k1 (r := r.toNat) (by rw [← hN]; omega)
      rw [Int.toNat_of_nonneg i0] at s2
      have hs3 : ix (allSub g.Degree k) r = s := by
        have := Zau (xs := allSub g.Degree k) (i := r) i0 (by omega)
        rw [show allSub g.Degree k = subs 0 g.Degree.toNat k.toNat from rfl, s1] at this
        exact (Option.some.inj this).symm
      have hmem := ZEo.1 (List.mem_of_getElem? s1)
      have hset : SetIn s g.Degree := SetIn.of (by have := hmem.2; rwa [show (0 : Int) + ((g.Degree.toNat : Nat) : Int) - 1 = g.Degree - 1 by omega] at this)
      obtain ⟨q, q1, q2, q3, q4, q5⟩ := ZKx hE hset (by omega)
      have hq : OrbOk g.Degree k q := by
        refine ⟨?_, q5, fun z hz => ?_⟩
        · have hl0 := hE.l0
          have hp0 := ZW (xs := g.Elements) (i := 0) (Int.le_refl 0) (by omega)
          have := List.length_pos_of_mem ((q4 _).2 ⟨_, hp0, rfl⟩)
          omega
        · obtain ⟨p, hp, e⟩ := (q4 z).1 hz
          rw [← e]
          exact ⟨ZHK (hE.perm hp) hset, by rw [ZFM]; omega⟩
      obtain ⟨seen', m1, m2, m3⟩ := ZJG hE k0 k1 hq (out := out) (r := r) i0 (by omega) g4 (seen := seen) (by rw [g2, hN])
      refine ⟨(out ++ [q], r + 1, seen'), ?_, ?_, rfl, by dsimp only; omega, fun o ho => ?_, by dsimp only; rw [List.length_append, List.length_singleton]; omega, fun _ => by simp, fun h => by omega⟩
      · simp (disch := omega) only [pz, ZEd, hx, s2, q1, m2]
      · simp (disch := omega) only [pz, ZEa, hx, hs3, eg, q2, m3]
      · rcases List.mem_append.1 ho with h | h
        · exact g3 o h
        · rw [List.mem_singleton.1 h]; exact hq
  obtain ⟨out, r, seen⟩ := s'
  dsimp only at h1 h2 h3 h4 h5
  subst h1
  refine ⟨out, ?_, ?_, h3, by omega, h5 (by omega)⟩
  · unfold ZEb
    simp (disch := omega) only [pz, c1, hmk]
    rw [h6]
    refine Zd ?_
    simp (disch := omega) only [pz, ZEd]
  · unfold ZDW
    simp (disch := omega) only [pz, c2, hmk, ha]
    rw [h7]
    refine Zd ?_
    simp (disch := omega) only [pz, ZEa]
end Go.Proofs.YtapkemdomnkccaaGreat
