import Derived.Test.YtocnokjekoglnaaGreatPuJc
import Derived.Test.YtocnokjekoglnaaGreatPuJd
namespace Go.Proofs.YtocnokjekoglnaaGreat
open Go Go.Vc
set_option linter.unusedSimpArgs false
set_option linter.unusedVariables false
theorem Ziu {α : Type} {R : α → α → Prop} (asym : ∀ x y, R x y → ¬ R y x) : ∀ {a b : List α}, a.Pairwise R → b.Pairwise R → (∀ x, x ∈ a ↔ x ∈ b) → a = b
  | [], [], _, _, _ => rfl
  | [], y :: b, _, _, h => by have := (h y).2 (List.mem_cons_self ..); simp at this
  | x :: a, [], _, _, h => by have := (h x).1 (List.mem_cons_self ..); simp at this
  | x :: a, y :: b, ha, hb, h => by
    rw [List.pairwise_cons] at ha hb
    have irr : ∀ x, ¬ R x x := fun x hx => asym x x hx hx
    have e : x = y := by
      rcases List.mem_cons.1 ((h x).1 (List.mem_cons_self ..)) with e | hx
      · exact e
      · rcases List.mem_cons.1 ((h y).2 (List.mem_cons_self ..)) with e | hy
        · exact e.symm
        · exact absurd (ha.1 y hy) (asym _ _ (hb.1 x hx))
    subst e
    rw [Ziu asym ha.2 hb.2 fun z => ?_]
    constructor
    · intro hz
      rcases List.mem_cons.1 ((h z).1 (List.mem_cons_of_mem _ hz)) with e | hz'
      · subst e; exact absurd (ha.1 z hz) (irr z)
      · exact hz'
    · intro hz
      rcases List.mem_cons.1 ((h z).2 (List.mem_cons_of_mem _ hz)) with e | hz'
      · subst e; exact absurd (hb.1 z hz) (irr z)
      · exact hz'
def imgS (p s : List Int) : List Int := sortI (s.map fun x => ix p x)
theorem ZbR {p s : List Int} {z : Int} : z ∈ imgS p s ↔ ∃ x ∈ s, ix p x = z := by
  unfold imgS
  rw [(Zaz _).mem_iff, List.mem_map]
theorem Zhw (p s : List Int) : (imgS p s).length = s.length := by
  unfold imgS
  rw [(Zaz _).length_eq, List.length_map]
structure SetIn (s : List Int) (n : Int) : Prop where
  srt : s.Pairwise (· < ·)
  rng : ∀ x ∈ s, 0 ≤ x ∧ x < n
theorem Zpr {p s : List Int} {n : Int} (hp : Vc.Perm p n) (hs : SetIn s n) : (s.map fun x => ix p x).Nodup := by
  refine List.pairwise_map.2 (hs.srt.imp_of_mem fun {a b} ha hb hab e => ?_)
  have ra := hs.rng a ha
  have rb := hs.rng b hb
  have hl := hp.len
  have ga := Zq (xs := p) (i := a) (by omega) (by omega)
  have gb := Zq (xs := p) (i := b) (by omega) (by omega)
  rw [e] at ga
  have := (List.getElem?_inj (by omega) hp.nd).1 (ga.trans gb.symm)
  omega
theorem Zp2 {p s : List Int} {n : Int} (hp : Vc.Perm p n) (hs : SetIn s n) : SetIn (imgS p s) n := by
  refine ⟨?_, fun z hz => ?_⟩
  · have h1 := ZdQ (s.map fun x => ix p x)
    have h2 : (imgS p s).Nodup := (Zaz _).nodup_iff.2 (Zpr hp hs)
    exact (h1.and h2).imp fun {a b} h => by have := h.1; have := h.2; omega
  · obtain ⟨x, hx, rfl⟩ := ZbR.1 hz
    have := hs.rng x hx
    have hl := hp.len
    exact hp.rng _ (Zl (by omega) (by omega))
theorem ZkJ {p s : List Int} {n : Int} (hp : Vc.Perm p n) (hs : SetIn s n) (hl : (s.length : Int) ≤ 1000000) : Zch p s = some (imgS p s) := by
  unfold Zch
  have hpl := hp.len
  have w := ZN (B := ZbY p s) (fun i => ((s.take i.toNat).map fun x => ix p x, i)) (i := 0) (n := s.length) (by omega) fun i i0 i1 => by
    have hr := hs.rng _ (Zl i0 i1)
    have ht := Z7 i0 i1
    have hlen : ((s.take i.toNat).map fun x => ix p x).length ≤ 1000000 := by rw [List.length_map, List.length_take]; omega
    simp (disch := omega) only [pz, ZbY, ht, List.map_append, List.map_cons, List.map_nil]
  have z0 : ((List.take (Int.toNat 0) s).map fun x => ix p x, (0 : Int)) = (([] : List Int), (0 : Int)) := rfl
  rw [z0] at w
  rw [w]
  refine Ze ?_
  have hs' := Zin (p := s.map fun x => ix p x) (by rw [List.length_map]; omega)
  have et : s.take (s.length : Int).toNat = s := by rw [Int.toNat_natCast, List.take_length]
  simp only [et]
  simp (disch := omega) only [pz, ZbY, hs']
  rfl
def LtR (a b : List Int) : Prop := cmpL a b < 0
theorem LtR.asym (x y : List Int) (h : LtR x y) : ¬ LtR y x := fun k => by
  unfold LtR at h k
  have := ZaB x y
  omega
theorem Zik {f : List Int → List Int → Option Bool} (hf : ∀ a b, (a.length : Int) ≤ 1000 → f a b = some (decide (a = b))) : ∀ (l : List (List Int)) (p : List Int), (∀ x ∈ l, (x.length : Int) ≤ 1000) → (p :: l).Pairwise (fun a b => lexC a b ≤ 0) →
    ∃ q, cpt f p l = some q ∧ (p :: q).Pairwise LtR ∧ (∀ z, z ∈ p :: q ↔ z ∈ p :: l) ∧ q.length ≤ l.length
  | [], p, _, _ => ⟨[], rfl, by simp, by simp, Nat.le_refl _⟩
  | y :: l, p, hl, hs => by
    rw [List.pairwise_cons] at hs
    obtain ⟨q, q1, q2, q3, q4⟩ := Zik hf l y (fun x hx => hl x (List.mem_cons_of_mem _ hx)) hs.2
    have hfy := hf y p (hl y (List.mem_cons_self ..))
    have hpy := hs.1 y (List.mem_cons_self ..)
    rw [ZS] at hpy
    by_cases e : y = p
    · subst e
      refine ⟨q, ?_, q2, fun z => ?_, by simp; omega⟩
      · rw [cpt, hfy, q1]; simp
      · rw [q3]; simp
    · refine ⟨y :: q, ?_, ?_, fun z => ?_, by simp; omega⟩
      · rw [cpt, hfy, q1]; simp [e]
      · have hlt : LtR p y := by
          unfold LtR
          have : cmpL p y ≠ 0 := fun h => e ((Zas _ _).1 h).symm
          omega
        rw [List.pairwise_cons]
        refine ⟨fun z hz => ?_, q2⟩
        rcases List.mem_cons.1 hz with rfl | hz
        · exact hlt
        · exact Zbm _ _ _ hlt ((List.pairwise_cons.1 q2).1 z hz)
      · rw [List.mem_cons, q3]; simp
theorem ZnT {f : List Int → List Int → Option Bool} (hf : ∀ a b, (a.length : Int) ≤ 1000 → f a b = some (decide (a = b))) {l : List (List Int)} (hl : ∀ x ∈ l, (x.length : Int) ≤ 1000) (hs : l.Pairwise (fun a b => lexC a b ≤ 0)) :
    ∃ q, cptL f l = some q ∧ q.Pairwise LtR ∧ (∀ z, z ∈ q ↔ z ∈ l) ∧ q.length ≤ l.length := by
  cases l with
  | nil => exact ⟨[], rfl, by simp, by simp, Nat.le_refl _⟩
  | cons p l =>
    obtain ⟨q, q1, q2, q3, q4⟩ := Zik hf l p (fun x hx => hl x (List.mem_cons_of_mem _ hx)) hs
    exact ⟨p :: q, by rw [cptL, q1]; rfl, q2, q3, by simp; omega⟩
end Go.Proofs.YtocnokjekoglnaaGreat
namespace Go.Proofs.YtocnokjekoglnaaGreat
set_option linter.unusedVariables false
open Go Go.Vc
set_option linter.unusedSimpArgs false
theorem ZeA {hi : Int} : ∀ {s : List Int} {lo : Int}, RisL hi lo s ↔ s.Pairwise (· < ·) ∧ ∀ x ∈ s, lo ≤ x ∧ x ≤ hi
  | [], lo => by simp [RisL]
  | a :: t, lo => by
    rw [RisL, ZeA, List.pairwise_cons]
    constructor
    · rintro ⟨h1, h2, h3, h4⟩
      refine ⟨⟨fun x hx => by have := h4 x hx; omega, h3⟩, fun x hx => ?_⟩
      rcases List.mem_cons.1 hx with rfl | hx
      · exact ⟨h1, h2⟩
      · have := h4 x hx; omega
    · rintro ⟨⟨h1, h2⟩, h3⟩
      have ha := h3 a (List.mem_cons_self ..)
      exact ⟨ha.1, ha.2, h2, fun x hx => ⟨by have := h1 x hx; omega, (h3 x (List.mem_cons_of_mem _ hx)).2⟩⟩
theorem SetIn.ris {s : List Int} {n : Int} (h : SetIn s n) : RisL (n - 1) 0 s := ZeA.2 ⟨h.srt, fun x hx => by have := h.rng x hx; omega⟩
theorem SetIn.of {s : List Int} {n : Int} (h : RisL (n - 1) 0 s) : SetIn s n := ⟨(ZeA.1 h).1, fun x hx => by have := (ZeA.1 h).2 x hx; omega⟩
structure OrbOk (n k : Int) (o : List (List Int)) : Prop where
  ne : 0 < (o.length : Int)
  len : (o.length : Int) ≤ 720
  set : ∀ z ∈ o, SetIn z n ∧ (z.length : Int) = k
end Go.Proofs.YtocnokjekoglnaaGreat
namespace Go.Proofs.YtocnokjekoglnaaGreat
set_option linter.unusedVariables false
open Go Go.Vc
set_option linter.unusedSimpArgs false
set_option linter.unusedSectionVars false
structure OrbitOf (E : List (List Int)) (s : List Int) (o : List (List Int)) : Prop where
  pw : o.Pairwise LtR
  mem : ∀ z, z ∈ o ↔ ∃ p ∈ E, imgS p s = z
theorem imagesJ {g : Zb} {s : List Int} (hE : EOk g.Degree g.Elements) (hs : SetIn s g.Degree) (hl : (s.length : Int) ≤ 1000) :
    ∃ q, Zda g s = some q ∧ OrbitOf g.Elements s q ∧ (q.length : Int) ≤ 720 := by
  have hN := hE.l1
  unfold Zda
  have w := ZN (B := Zb1 g s) (fun i => ((g.Elements.take i.toNat).map fun p => imgS p s, i)) (i := 0) (n := g.Elements.length) (by omega) fun i i0 i1 => by
    have hp := hE.perm (Zl i0 i1)
    have hi := ZkJ hp hs (by omega)
    have ht := Z7 i0 i1
    have hlen : ((g.Elements.take i.toNat).map fun p => imgS p s).length ≤ 1000000 := by rw [List.length_map, List.length_take]; omega
    simp (disch := omega) only [pz, Zb1, hi, ht, List.map_append, List.map_cons, List.map_nil]
  have z0 : ((List.take (Int.toNat 0) g.Elements).map fun p => imgS p s, (0 : Int)) = (([] : List (List Int)), (0 : Int)) := rfl
  rw [z0] at w
  rw [w]
  have et : g.Elements.take (g.Elements.length : Int).toNat = g.Elements := by rw [Int.toNat_natCast, List.take_length]
  simp only [et]
  have hrow : ∀ x ∈ g.Elements.map fun p => imgS p s, (x.length : Int) ≤ 1000 := fun x hx => by
    obtain ⟨p, hp, rfl⟩ := List.mem_map.1 hx
    rw [Zhw]; omega
  have hsort := Zjq (q := g.Elements.map fun p => imgS p s) (by rw [List.length_map]; omega) (fun x hx => by have := hrow x hx; omega)
  obtain ⟨q, q1, q2, q3, q4⟩ := ZnT (f := fun y0 y1 => Za7 y0 y1) (fun a b ha => by
    by_cases e : a = b
    · rw [decide_eq_true e]; exact (ZfU (by omega)).eq e
    · rw [decide_eq_false e]; exact (ZfU (by omega)).ne e) (l := sortRows (g.Elements.map fun p => imgS p s)) (fun x hx => hrow x (Z3.1 hx)) (ZbB _)
  have hc : Zdo (sortRows (g.Elements.map fun p => imgS p s)) (fun y0 y1 => Za7 y0 y1) = some q := by
    unfold Zdo
    rw [if_pos (by rw [Z1, List.length_map]; omega), q1]
  rw [Z1, List.length_map] at q4
  refine ⟨q, ?_, ⟨q2, fun z => by rw [q3, Z3, List.mem_map]⟩, by omega⟩
  refine Ze ?_
  simp (disch := omega) only [pz, Zb1, hsort, hc]
theorem Zhd : ∀ {a b : List Int}, a.Perm b → a.Pairwise (· ≤ ·) → b.Pairwise (· ≤ ·) → a = b
  | [], b, hp, _, _ => (List.Perm.nil_eq hp)
  | x :: a, b, hp, ha, hb => by
    cases b with
    | nil => exact absurd hp.length_eq (by simp)
    | cons y b =>
      have ha' := List.pairwise_cons.1 ha
      have hb' := List.pairwise_cons.1 hb
      have e : x = y := by
        have h1 : x ∈ y :: b := hp.mem_iff.1 List.mem_cons_self
        have h2 : y ∈ x :: a := hp.mem_iff.2 List.mem_cons_self
        rcases List.mem_cons.1 h1 with h1 | h1
        · exact h1
        · rcases List.mem_cons.1 h2 with h2 | h2
          · exact h2.symm
          · have := hb'.1 x h1; have := ha'.1 y h2; omega
      subst e
      rw [Zhd (List.Perm.cons_inv hp) ha'.2 hb'.2]
theorem ZjP {α : Type} [BEq α] [LawfulBEq α] : ∀ {a b : List α}, a.Nodup → (∀ x ∈ a, x ∈ b) → b.length ≤ a.length → a.Perm b
  | [], b, _, _, h => by
    have : b = [] := List.eq_nil_of_length_eq_zero (by simpa using h)
    rw [this]
  | x :: a, b, hn, hs, hl => by
    have hn' := List.pairwise_cons.1 hn
    have hx := hs x List.mem_cons_self
    refine ((ZjP (b := b.erase x) hn'.2 (fun y hy => ?_) ?_).cons x).trans (List.perm_cons_erase hx).symm
    · exact (List.mem_erase_of_ne (fun e => hn'.1 y hy e.symm)).2 (hs y (List.mem_cons_of_mem _ hy))
    · rw [List.length_erase_of_mem hx]; rw [List.length_cons] at hl; omega
theorem Zl9 {a b : List Int} (h : a.Perm b) : sortI a = sortI b := by
  refine Zhd ((Zaz a).trans (h.trans (Zaz b).symm)) (ZdQ a) (ZdQ b)
theorem Zpp {p q s : List Int} (hs : ∀ x ∈ s, 0 ≤ x ∧ x < (p.length : Int)) : imgS q (imgS p s) = imgS (cmpP p q) s := by
  unfold imgS
  refine Zl9 (((Zaz _).map _).trans ?_)
  rw [List.map_map]
  refine List.Perm.of_eq (List.map_congr_left fun x hx => ?_)
  have := hs x hx
  show ix q (ix p x) = ix (cmpP p q) x
  unfold cmpP
  rw [ZfK this.1 this.2]
theorem Zlx {n : Int} {s : List Int} (hs : SetIn s n) (hn : 0 ≤ n) : imgS (idP n) s = s := by
  unfold imgS
  have e : (s.map fun x => ix (idP n) x) = s := by
    conv => rhs; rw [← List.map_id s]
    refine List.map_congr_left fun x hx => ?_
    have := hs.rng x hx
    exact ZbG this.1 this.2
  rw [e]
  exact Zhd (Zaz s) (ZdQ s) (hs.srt.imp fun h => by omega)
theorem ZkE {p s t : List Int} {n : Int} (hp : Vc.Perm p n) (hs : SetIn s n) (ht : SetIn t n) (h : imgS p s = imgS p t) : s = t := by
  refine Ziu (R := (· < ·)) (fun x y h k => by omega) hs.srt ht.srt fun z => ?_
  have key : ∀ {a b : List Int}, SetIn a n → SetIn b n → imgS p a = imgS p b → z ∈ a → z ∈ b := by
    intro a b ha hb e hz
    have h1 : ix p z ∈ imgS p b := by rw [← e]; exact ZbR.2 ⟨z, hz, rfl⟩
    obtain ⟨x, hx, e2⟩ := ZbR.1 h1
    have ra := ha.rng z hz
    have rb := hb.rng x hx
    have hl := hp.len
    have ga := Zq (xs := p) (i := z) (by omega) (by omega)
    have gb := Zq (xs := p) (i := x) (by omega) (by omega)
    rw [e2] at gb
    have := (List.getElem?_inj (by omega) hp.nd).1 (ga.trans gb.symm)
    rw [show z = x by omega]; exact hx
  exact ⟨key hs ht h, key ht hs h.symm⟩
section
variable {g : Zb} (hE : EOk g.Degree g.Elements) (hG : Grp g.Degree g.Elements)
include hE hG
theorem ZpE {s : List Int} {o : List (List Int)} (hs : SetIn s g.Degree) (ho : OrbitOf g.Elements s o) : s ∈ o := by
  have := hE.n0
  exact (ho.mem s).2 ⟨_, hG.1, Zlx hs (by omega)⟩
theorem ZeP {s : List Int} {o : List (List Int)} (hs : SetIn s g.Degree) (ho : OrbitOf g.Elements s o) {z : List Int} (hz : z ∈ o) : SetIn z g.Degree ∧ z.length = s.length := by
  obtain ⟨p, hp, e⟩ := (ho.mem z).1 hz
  rw [← e]
  exact ⟨Zp2 (hE.perm hp) hs, Zhw _ _⟩
theorem ZqD {s : List Int} {o : List (List Int)} (hs : SetIn s g.Degree) (ho : OrbitOf g.Elements s o) {z : List Int} (hz : z ∈ o) {q : List Int} (hq : q ∈ g.Elements) : imgS q z ∈ o := by
  obtain ⟨p, hp, e⟩ := (ho.mem z).1 hz
  have hl := (hE.perm hp).len
  rw [← e, Zpp fun x hx => by have := hs.rng x hx; omega]
  exact (ho.mem _).2 ⟨_, hG.2 p hp q hq, rfl⟩
theorem Zjr {s : List Int} {o : List (List Int)} (hs : SetIn s g.Degree) (ho : OrbitOf g.Elements s o) {q : List Int} (hq : q ∈ g.Elements) : (o.map (imgS q)).Perm o := by
  have hnd : o.Nodup := ho.pw.imp fun {a b} h e => by
    subst e
    have : cmpL a a < 0 := h
    have h2 := ZaB a a
    omega
  have hmap : (o.map (imgS q)).Nodup := by
    refine List.pairwise_map.2 (hnd.imp_of_mem fun {a b} ha hb hab e => hab ?_)
    exact ZkE (hE.perm hq) (ZeP hE hG hs ho ha).1 (ZeP hE hG hs ho hb).1 e
  refine ZjP hmap (fun z hz => ?_) (by rw [List.length_map]; omega)
  obtain ⟨a, ha, rfl⟩ := List.mem_map.1 hz
  exact ZqD hE hG hs ho ha hq
theorem Zls {s t : List Int} {o : List (List Int)} (hs : SetIn s g.Degree) (ht : SetIn t g.Degree) (ho : OrbitOf g.Elements s o) {q : List Int} (hq : q ∈ g.Elements) (h : imgS q t ∈ o) : t ∈ o := by
  obtain ⟨a, ha, e⟩ := List.mem_map.1 ((Zjr hE hG hs ho hq).mem_iff.2 h)
  rw [← ZkE (hE.perm hq) (ZeP hE hG hs ho ha).1 ht e]; exact ha
end
theorem markJ {g : Zb} {k : Int} (hE : EOk g.Degree g.Elements) (k0 : 0 ≤ k) (k1 : k ≤ g.Degree) {q : List (List Int)} (hq : OrbOk g.Degree k q) {out : List (List (List Int))} {r : Int} (hr0 : 0 ≤ r) (hr1 : r ≤ 4294967296) (ho : (out.length : Int) ≤ r) {seen : List Bool} (hs : seen.length = bin g.Degree.toNat k.toNat) :
    ∃ seen' : List Bool, seen'.length = seen.length ∧ loop (ZbM g out r q) (0, seen) = some (.inl (out ++ [q], r + 1, seen')) ∧ ∀ (j : Nat) (z : List Int), (subs 0 g.Degree.toNat k.toNat)[j]? = some z → (seen'[j]? = some true ↔ seen[j]? = some true ∨ z ∈ q) := by
  have n0 := hE.n0; have n1 := hE.n1; have hql := hq.len
  have hinj : ∀ (j j' : Nat) (z : List Int), (subs 0 g.Degree.toNat k.toNat)[j]? = some z → j' = rk 0 g.Degree.toNat z → j = j' := by
    intro j j' z hj e
    rw [e, Zf7 _ _ _ _ _ hj]
  obtain ⟨s', ⟨h1, h2, h3⟩, h4⟩ := Zjn (B := ZbM g out r q) (fun i s => s.1 = i ∧ s.2.length = seen.length ∧ ∀ (j : Nat) (z : List Int), (subs 0 g.Degree.toNat k.toNat)[j]? = some z → (s.2[j]? = some true ↔ seen[j]? = some true ∨ z ∈ q.take i.toNat)) (i := 0) (n := q.length) (by omega) (s := ((0 : Int), seen)) ⟨rfl, rfl, fun j z hj => by simp⟩ fun i s i0 i1 ⟨g1, g2, g3⟩ => by
    obtain ⟨j, xs⟩ := s
    dsimp only at g1 g2 g3
    subst g1
    obtain ⟨hset, hlen⟩ := hq.set _ (Zl i0 i1)
    have hv := (Zht (l := ix q j) (n := g.Degree) (by omega)).eq ⟨ZcZ.2 hset.ris, by omega, n1⟩
    have e2 := rankJ (n := g.Degree) (set := ix q j) (by omega) n1 (by omega) hset.ris hv
    have e3 := rk_lt (ix q j) 0 g.Degree.toNat (by rw [show (0 : Int) + ((g.Degree.toNat : Nat) : Int) - 1 = g.Degree - 1 by omega]; exact hset.ris)
    rw [show (ix q j).length = k.toNat by omega] at e3
    refine ⟨(j + 1, xs.set (rk 0 g.Degree.toNat (ix q j)) true), ?_, rfl, by rw [List.length_set]; exact g2, fun a z ha => ?_⟩
    · simp (disch := omega) only [pz, ZbM, e2]
    · dsimp only
      rw [Z7 i0 i1, List.mem_append, List.mem_singleton, List.getElem?_set]
      by_cases e : rk 0 g.Degree.toNat (ix q j) = a
      · subst e
        have hz := ZeW g.Degree.toNat 0 (ix q j) (by rw [show (0 : Int) + ((g.Degree.toNat : Nat) : Int) - 1 = g.Degree - 1 by omega]; exact hset.ris)
        rw [show (ix q j).length = k.toNat by omega, ha] at hz
        have hz' := Option.some.inj hz
        rw [if_pos rfl, if_pos (by omega)]
        exact ⟨fun _ => .inr (.inr hz'), fun _ => rfl⟩
      · rw [if_neg e, g3 a z ha]
        constructor
        · rintro (h | h)
          · exact .inl h
          · exact .inr (.inl h)
        · rintro (h | h | h)
          · exact .inl h
          · exact .inr h
          · exact absurd (hinj a _ z ha (by rw [h])) fun e5 => e e5.symm
  obtain ⟨j, xs⟩ := s'
  dsimp only at h1 h2 h3
  subst h1
  refine ⟨xs, h2, ?_, fun a z ha => by rw [h3 a z ha, Int.toNat_natCast, List.take_length]⟩
  rw [h4]
  refine Ze ?_
  simp (disch := omega) only [pz, ZbM]
structure Orbs (g : Zb) (k : Int) (L : List (List (List Int))) : Prop where
  orb : ∀ o ∈ L, OrbOk g.Degree k o ∧ ∃ s, SetIn s g.Degree ∧ (s.length : Int) = k ∧ OrbitOf g.Elements s o
  all : ∀ s, SetIn s g.Degree → (s.length : Int) = k → ∃ o ∈ L, s ∈ o
  apart : L.Pairwise fun o o' => ∀ z ∈ o, z ∉ o'
theorem orbitsJ {g : Zb} {k : Int} (hE : EOk g.Degree g.Elements) (hG : Grp g.Degree g.Elements) (k0 : 0 ≤ k) (k1 : k ≤ g.Degree) :
    ∃ L, Za5 g k = some L ∧ Orbs g k L ∧ L.length ≤ bin g.Degree.toNat k.toNat ∧ 0 < L.length := by
  have n0 := hE.n0; have n1 := hE.n1
  have c2 := chooseJ (n := g.Degree) (k := k) (by omega) n1 k0
  have b32 := bin32 k.toNat (show g.Degree.toNat ≤ 32 by omega)
  have hpos : 0 < bin g.Degree.toNat k.toNat := by
    obtain ⟨M, hM⟩ := ZcJ (g := g.Degree.toNat) (k := k.toNat) (lo := 0) (by omega)
    rw [← Zao g.Degree.toNat k.toNat 0, hM]; simp
  obtain ⟨N, hN⟩ : ∃ N, N = bin g.Degree.toNat k.toNat := ⟨_, rfl⟩
  rw [← hN] at c2 b32 hpos
  have ha := ZkD k0 k1 n1
  have hal : (allSub g.Degree k).length = N := by unfold allSub; rw [Zao, hN]
  have hmk : gMake 1 false (N : Int) (N : Int) = some (List.replicate N false) := Zeo (by omega) (by omega)
  have eg : Zb.mk g.Degree g.Elements = g := rfl
  have hset0 : ∀ (j : Nat) z, (allSub g.Degree k)[j]? = some z → SetIn z g.Degree ∧ (z.length : Int) = k := fun j z hz => by
    have hmem := Zbi.1 (List.mem_of_getElem? hz)
    exact ⟨SetIn.of (by have := hmem.2; rwa [show (0 : Int) + ((g.Degree.toNat : Nat) : Int) - 1 = g.Degree - 1 by omega] at this), by omega⟩
  obtain ⟨s', ⟨h1, h2, h3, h4, h5, h6, h7, h8⟩, h9⟩ := Zjn (B := ZbC g (allSub g.Degree k)) (fun i s => s.2.1 = i ∧ s.2.2.length = N ∧ (∀ o ∈ s.1, OrbOk g.Degree k o ∧ ∃ a, SetIn a g.Degree ∧ (a.length : Int) = k ∧ OrbitOf g.Elements a o) ∧ (s.1.length : Int) ≤ i ∧
      (∀ (j : Nat) z, (allSub g.Degree k)[j]? = some z → (s.2.2[j]? = some true ↔ ∃ o ∈ s.1, z ∈ o)) ∧ (∀ (j : Nat) z, (j : Int) < i → (allSub g.Degree k)[j]? = some z → ∃ o ∈ s.1, z ∈ o) ∧ (s.1.Pairwise fun o o' => ∀ z ∈ o, z ∉ o') ∧ (0 < i → 0 < s.1.length))
      (i := 0) (n := N) (by omega) (s := (([] : List (List (List Int))), (0 : Int), List.replicate N false)) ⟨rfl, by simp, by simp, by simp, fun j z hj => by simp [List.getElem?_replicate], fun j z hj => by omega, List.Pairwise.nil, by simp⟩ fun i s i0 i1 ⟨g1, g2, g3, g4, g5, g6, g7, g8⟩ => by
    obtain ⟨out, r, seen⟩ := s
    dsimp only at g1 g2 g3 g4 g5 g6 g7 g8
    subst g1
    have hz := Zq (xs := allSub g.Degree k) (i := r) i0 (by omega)
    have hsr := Zq (xs := seen) (i := r) i0 (by omega)
    cases hx : ix seen r with
    | true =>
      rw [hx] at hsr
      obtain ⟨o, ho, hzo⟩ := (g5 _ _ hz).1 hsr
      refine ⟨(out, r + 1, seen), ?_, rfl, g2, g3, by dsimp only; omega, g5, fun j z hj hjz => ?_, g7, fun _ => List.length_pos_of_mem ho⟩
      · simp (disch := omega) only [pz, ZbC, hx]
      · by_cases e : (j : Int) < r
        · exact g6 j z e hjz
        · have e2 : j = r.toNat := by omega
          subst e2
          rw [hz] at hjz
          cases hjz
          exact ⟨o, ho, hzo⟩
    | false =>
      rw [hx] at hsr
      obtain ⟨hset, hlen⟩ := hset0 _ _ hz
      generalize hs3 : ix (allSub g.Degree k) r = s at hz hset hlen
      obtain ⟨q, q1, q2, q3⟩ := imagesJ hE hset (by omega)
      have hself := ZpE hE hG hset q2
      have hq : OrbOk g.Degree k q := ⟨by have := List.length_pos_of_mem hself; omega, q3, fun z hz => by
        obtain ⟨a, b⟩ := ZeP hE hG hset q2 hz
        exact ⟨a, by omega⟩⟩
      obtain ⟨seen', m1, m2, m3⟩ := markJ hE k0 k1 hq (out := out) (r := r) i0 (by omega) g4 (seen := seen) (by rw [g2, hN])
      refine ⟨(out ++ [q], r + 1, seen'), ?_, rfl, by dsimp only; omega, fun o ho => ?_, by dsimp only; rw [List.length_append, List.length_singleton]; omega, fun j z hj => ?_, fun j z hj hjz => ?_, ?_, fun _ => by simp⟩
      · simp (disch := omega) only [pz, ZbC, hx, hs3, eg, q1, m2]
      · rcases List.mem_append.1 ho with h | h
        · exact g3 o h
        · rw [List.mem_singleton.1 h]; exact ⟨hq, s, hset, hlen, q2⟩
      · dsimp only
        rw [m3 j z hj, g5 j z hj]
        constructor
        · rintro (⟨o, ho, h⟩ | h)
          · exact ⟨o, List.mem_append_left _ ho, h⟩
          · exact ⟨q, List.mem_append_right _ List.mem_cons_self, h⟩
        · rintro ⟨o, ho, h⟩
          rcases List.mem_append.1 ho with h2 | h2
          · exact .inl ⟨o, h2, h⟩
          · rw [List.mem_singleton.1 h2] at h; exact .inr h
      · dsimp only
        by_cases e : (j : Int) < r
        · obtain ⟨o, ho, h⟩ := g6 j z e hjz
          exact ⟨o, List.mem_append_left _ ho, h⟩
        · have e2 : j = r.toNat := by omega
          subst e2
          rw [hz] at hjz
          cases hjz
          exact ⟨q, List.mem_append_right _ List.mem_cons_self, hself⟩
      · dsimp only
        refine List.pairwise_append.2 ⟨g7, List.pairwise_singleton _ _, fun o ho q' hq' z hzo hzq => ?_⟩
        rw [List.mem_singleton.1 hq'] at hzq
        obtain ⟨_, a, ha1, ha2, ha3⟩ := g3 o ho
        obtain ⟨p, hp, e⟩ := (q2.mem z).1 hzq
        have hso := Zls hE hG ha1 hset ha3 hp (by rw [e]; exact hzo)
        have := (g5 _ _ hz).2 ⟨o, ho, hso⟩
        rw [hsr] at this
        cases this
  obtain ⟨out, r, seen⟩ := s'
  dsimp only at h1 h2 h3 h4 h5 h6 h7 h8
  subst h1
  refine ⟨out, ?_, ⟨h3, fun s hs hl => ?_, h7⟩, by omega, h8 (by omega)⟩
  · unfold Za5
    simp (disch := omega) only [pz, c2, hmk, ha]
    rw [h9]
    refine Ze ?_
    simp (disch := omega) only [pz, ZbC]
  · have hr : RisL (0 + ((g.Degree.toNat : Nat) : Int) - 1) 0 s := by rw [show (0 : Int) + ((g.Degree.toNat : Nat) : Int) - 1 = g.Degree - 1 by omega]; exact hs.ris
    have e := ZeW g.Degree.toNat 0 s hr
    have hlt := rk_lt s 0 g.Degree.toNat hr
    rw [show s.length = k.toNat by omega] at e hlt
    exact h6 _ s (by omega) e
end Go.Proofs.YtocnokjekoglnaaGreat
