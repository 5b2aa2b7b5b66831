import Derived.Test.YtocnokjekoglnaaGreatPuJe
import Derived.Test.YtocnokjekoglnaaGreatPuJf
import Derived.Test.YtocnokjekoglnaaGreatPuJh
import Derived.Test.YtocnokjekoglnaaGreatPuJa
namespace Go.Proofs.YtocnokjekoglnaaGreat
open Go Go.Vc
set_option linter.unusedSimpArgs false
set_option linter.unusedVariables false
set_option linter.unusedSectionVars false
theorem ZkX {n t k : Int} (n1 : n ≤ 32) (t1 : t ≤ n) (k1 : k ≤ n) {rows cols : List (List (List Int))} (hs : ∀ o ∈ rows, OrbOk n t o) (hc : ∀ o ∈ cols, OrbOk n k o) (hl : (cols.length : Int) ≤ 2000) (hl2 : (rows.length : Int) ≤ 2000) :
    loop (ZbF cols rows) (([] : List (List Int)), 0) = some (km rows cols, 0) := by
  have et : rows.take (rows.length : Int).toNat = rows := by rw [Int.toNat_natCast, List.take_length]
  have z0 : (km (List.take (Int.toNat 0) rows) cols, (0 : Int)) = (([] : List (List Int)), (0 : Int)) := rfl
  have hlen : ∀ i : Int, 0 ≤ i → i ≤ (rows.length : Int) → (km (rows.take i.toNat) cols).length ≤ 2000 := fun i _ _ => by unfold km; rw [List.length_map, List.length_take]; omega
  have w := ZN (B := ZbF cols rows) (fun i => (km (rows.take i.toNat) cols, i)) (i := 0) (n := rows.length) (by omega) fun i i0 i1 => by
    have hl' := hlen i i0 (by omega)
    have h2 := ZqI n1 t1 k1 (hs _ (Zl i0 i1)) hc hl (out := km (rows.take i.toNat) cols) (by omega) (a := i) i0 (by omega)
    rw [← ZlY i0 i1] at h2
    simp (disch := omega) only [pz, ZbF, h2]
  rw [z0] at w
  rw [w]
  refine Ze ?_
  simp only [et]
  simp (disch := omega) only [pz, ZbF]
theorem countableJ {g : Zb} (hs : Sz2 g.Elements) (hg : ValidGr g) {ks : List Int} (hl : (ks.length : Int) ≤ 2) (hk : ∀ x ∈ ks, 0 ≤ x ∧ x ≤ g.Degree) :
    ZbV g ks = some (if ∀ x ∈ ks, bin g.Degree.toNat x.toNat ≤ 2000 then 0 else 5) := by
  have n0 := hg.1.n0; have n1 := hg.1.n1
  have e : Zb.mk g.Degree g.Elements = g := rfl
  unfold ZbV
  have w := ZN (B := Zdb g ks) (fun k => k) (i := 0) (n := ks.length) (by omega) fun i i0 i1 => by
    have hx := hk _ (Zl i0 i1)
    simp (disch := omega) only [pz, Zdb, ZO]
  simp (disch := omega) only [pz, e, (Zdw hs).eq hg]
  rw [w]
  refine Ze ?_
  have hin : loop (Zbx g ks) 0 = some (.inr (if ∀ x ∈ ks, bin g.Degree.toNat x.toNat ≤ 2000 then 0 else 5)) := by
    rcases Zc3 (B := Zbx g ks) (fun k => k) (fun k => ¬ bin g.Degree.toNat (ix ks k).toNat ≤ 2000) (i := 0) (n := ks.length) (by omega) (fun k h0 h1 h2 => by
      have hx := hk _ (Zl h0 h1)
      have hc := chooseJ (n := g.Degree) (k := ix ks k) (by omega) n1 hx.1
      have h2' := Classical.not_not.1 h2
      simp (disch := omega) only [pz, Zbx, hc]) with ⟨k, h1, h2, h3, h4, h5⟩ | ⟨h1, h2⟩
    · have hx := hk _ (Zl h1 h2)
      have hc := chooseJ (n := g.Degree) (k := ix ks k) (by omega) n1 hx.1
      rw [h5, if_neg fun hh => h3 (hh _ (Zl h1 h2))]
      refine Ze ?_
      simp (disch := omega) only [pz, Zbx, hc]
    · rw [h2, if_pos fun x hx => by obtain ⟨i, a, b, rfl⟩ := Zaf hx; exact Classical.not_not.1 (h1 i a b)]
      refine Ze ?_
      simp (disch := omega) only [pz, Zbx]
  simp (disch := omega) only [pz, Zdb, hin]
structure KM (g : Zb) (t k : Int) (m : R2) (R C : List (List (List Int))) : Prop where
  t0 : 0 ≤ t
  tk : t ≤ k
  kn : k ≤ g.Degree
  row : Orbs g t R
  col : Orbs g k C
  oc : Za5 g k = some C
  eq : m = km R C
  cnt : Counts m
  ok : OkL (OkL I64) m
  b2 : bin g.Degree.toNat k.toNat ≤ 2000
  lc : C.length ≤ 2000
theorem kramJ {g : Zb} {t k : Int} (hs : Sz2 g.Elements) (hg : ValidGr g) : ∃ m c, Zbs g t k = some (m, c) ∧ (c = 0 → ∃ R C, KM g t k m R C) := by
  have n0 := hg.1.n0; have n1 := hg.1.n1
  have e : Zb.mk g.Degree g.Elements = g := rfl
  have v2 := (Zdw hs).eq hg
  by_cases h1 : 0 ≤ t ∧ t ≤ k ∧ k ≤ g.Degree
  · obtain ⟨t0, tk, kn⟩ := h1
    have hc := countableJ hs hg (ks := [t, k]) (by simp) (fun x hx => by
      rcases List.mem_cons.1 hx with rfl | hx
      · omega
      · rw [List.mem_singleton.1 hx]; omega)
    by_cases h2 : bin g.Degree.toNat t.toNat ≤ 2000 ∧ bin g.Degree.toNat k.toNat ≤ 2000
    · obtain ⟨b1, b2⟩ := h2
      rw [if_pos (by
        intro x hx
        rcases List.mem_cons.1 hx with rfl | hx
        · exact b1
        · rw [List.mem_singleton.1 hx]; exact b2)] at hc
      obtain ⟨R, r2, r3, r4, r5⟩ := orbitsJ (g := g) (k := t) hg.1 hg.2 t0 (by omega)
      obtain ⟨C, q2, q3, q4, q5⟩ := orbitsJ (g := g) (k := k) hg.1 hg.2 (by omega) kn
      have m1 := ZkX (n := g.Degree) (t := t) (k := k) n1 (by omega) kn (fun o ho => (r3.orb o ho).1) (fun o ho => (q3.orb o ho).1) (by omega) (by omega)
      have hin : ∀ row ∈ km R C, row.length = C.length ∧ ∀ x ∈ row, 0 ≤ x ∧ x ≤ 2000 := fun row hrow => by
        obtain ⟨o, ho, rfl⟩ := List.mem_map.1 hrow
        refine ⟨by unfold kmRow; rw [List.length_map], fun x hx => ?_⟩
        obtain ⟨z, hz, rfl⟩ := List.mem_map.1 hx
        have := Zio o z
        have := (q3.orb z hz).1.len
        omega
      have hlen : (km R C).length = R.length := by unfold km; rw [List.length_map]
      have hC : Counts (km R C) := ⟨C.length, by omega, by omega, by omega, hin⟩
      have hO : OkL (OkL I64) (km R C) := ⟨by unfold M63; omega, fun row hrow => ⟨by have := (hin row hrow).1; unfold M63; omega, fun x hx => by have := (hin row hrow).2 x hx; unfold I64; omega⟩⟩
      refine ⟨km R C, 0, ?_, fun _ => ⟨R, C, t0, tk, kn, r3, q3, q2, rfl, hC, hO, b2, by omega⟩⟩
      unfold Zbs Zem
      simp (disch := omega) only [pz, e, v2, ZO, hc, q2, r2, m1]
    · rw [if_neg (fun hh => h2 ⟨hh t List.mem_cons_self, hh k (List.mem_cons_of_mem _ List.mem_cons_self)⟩)] at hc
      refine ⟨[], 5, ?_, fun h => absurd h (by decide)⟩
      unfold Zbs Zem
      simp (disch := omega) only [pz, e, v2, ZO, hc]
  · refine ⟨[], 2, ?_, fun h => absurd h (by decide)⟩
    unfold Zbs
    by_cases h2 : 0 ≤ t ∧ t ≤ k
    · simp (disch := omega) only [pz, e, v2, ZO]
    · simp (disch := omega) only [pz, e, v2, ZO]
theorem chooseGood {m : R2} {lam budget : Int} (h : OkL (OkL I64) m) (hc : Counts m) (h1 : 1 ≤ budget ∧ budget ≤ 20000) : ∃ l c, ZdF m lam budget = some (l, c) ∧ (c = 0 → 1 ≤ lam ∧ ∃ n, CountsN m n ∧ Good m lam n l) := by
  unfold ZdF
  rw [(Zp9 h).eq hc, ZcB, ZoO]
  simp only [Option.bind_some, Bool.not_true, cond_false]
  rw [decide_eq_true h1]
  simp only [Bool.not_true, cond_false]
  by_cases h2 : 1 ≤ lam ∧ lam ≤ 2000
  · rw [decide_eq_true h2]
    simp only [Bool.not_true, cond_false]
    obtain ⟨n, hn⟩ := id hc
    have hin : ChIn m n lam 1 budget := ⟨hn, h2.1, h2.2, by omega, by omega, h1.1, h1.2⟩
    obtain ⟨sums, later', ch', e2⟩ := Zoz hin
    unfold Ze0
    rw [e2]
    simp only [Option.bind_some]
    have hg := Zmq hin
    cases hf : (sEnd m n lam 1 budget).full
    · cases hz : ((sEnd m n lam 1 budget).count == 0)
      · refine ⟨(sEnd m n lam 1 budget).first, 0, rfl, fun _ => ⟨h2.1, n, hn, hg.resolve_left (by simpa using hz)⟩⟩
      · exact ⟨[], 3, rfl, fun h => absurd h (by decide)⟩
    · exact ⟨[], 5, rfl, fun h => absurd h (by decide)⟩
  · rw [decide_eq_false h2]; exact ⟨[], 2, rfl, fun h => absurd h (by decide)⟩
structure Pre (g : Zb) (t k lam : Int) (d : Zj) (R C : List (List (List Int))) (l : List Int) : Prop where
  km : KM g t k (km R C) R C
  k1 : 1 ≤ k
  lam0 : 1 ≤ lam
  up : ChUp C.length l
  sum : ∀ small ∈ R, (((catO C l).countP fun z => decide (Sub (ix small 0) z) : Nat) : Int) = lam
  len : (catO C l).length ≤ 128
  eq : d = Zj.mk g.Degree (sortRows (catO C l))
theorem ZjJ {C : List (List (List Int))} {small : List (List Int)} : ∀ (l : List Int), (∀ c ∈ l, 0 ≤ c ∧ c < (C.length : Int)) → chSum (kmRow C small) l = (((catO C l).countP fun z => decide (Sub (ix small 0) z) : Nat) : Int)
  | [], _ => rfl
  | c :: l, h => by
    have hc := h c List.mem_cons_self
    have ih := ZjJ (small := small) l fun x hx => h x (List.mem_cons_of_mem _ hx)
    have e1 : catO C (c :: l) = ix C c ++ catO C l := rfl
    have e2 : chSum (kmRow C small) (c :: l) = (kmRow C small).getD c.toNat 0 + chSum (kmRow C small) l := by unfold chSum; simp
    have e3 : (kmRow C small).getD c.toNat 0 = cnt small (ix C c) := by
      unfold kmRow
      have := Zq (xs := C) (i := c) hc.1 hc.2
      rw [List.getD_eq_getElem?_getD, List.getElem?_map, this]; rfl
    rw [e1, e2, e3, ih, List.countP_append]
    unfold cnt; omega
theorem preJ {g : Zb} (hs : Sz2 g.Elements) (t k lam budget : Int) : ∃ d c, Zb8 g t k lam budget = some (d, c) ∧ (c ≠ 0 → d = Zj.mk 0 []) ∧ (c = 0 → ValidGr g ∧ ∃ R C l, Pre g t k lam d R C l) := by
  have e : Zb.mk g.Degree g.Elements = g := rfl
  unfold Zb8
  by_cases hg : ValidGr g
  · have n0 := hg.1.n0; have n1 := hg.1.n1
    have v2 := (Zdw hs).eq hg
    by_cases hb : 1 ≤ budget ∧ budget ≤ 20000
    · obtain ⟨m, c, m2, m3⟩ := kramJ (t := t) (k := k) hs hg
      by_cases hc : c = 0
      · subst hc
        obtain ⟨R, C, hKM⟩ := m3 rfl
        by_cases hk : k = 0
        · refine ⟨_, 2, ?_, fun _ => rfl, fun h => absurd h (by decide)⟩
          simp (disch := omega) only [pz, e, v2, ZcB, m2]
        · obtain ⟨l, c2, f2, f3⟩ := chooseGood (lam := lam) hKM.ok hKM.cnt hb
          by_cases h0 : c2 = 0
          · subst h0
            obtain ⟨l0, n, hn, hgood⟩ := f3 rfl
            have kn := hKM.kn; have t0 := hKM.t0; have tk := hKM.tk
            have hrow : ∃ small, small ∈ R := by
              have h1 := hn.1
              rw [hKM.eq] at h1
              unfold km at h1
              rw [List.length_map] at h1
              exact ⟨R[0], List.getElem_mem _⟩
            have hnC : n = C.length := by
              obtain ⟨small, hsm⟩ := hrow
              have := (hn.2.2.2 (kmRow C small) (by rw [hKM.eq]; exact List.mem_map.2 ⟨small, hsm, rfl⟩)).1
              unfold kmRow at this
              rw [List.length_map] at this
              exact this.symm
            subst hnC
            have hris := hgood.up.rising
            have hlen : l.length ≤ C.length := by
              have key : ∀ (l : List Int) (a : Int), l.Pairwise (· < ·) → (∀ c ∈ l, a ≤ c ∧ c < (C.length : Int)) → (l.length : Int) ≤ max 0 ((C.length : Int) - a) := by
                intro l
                induction l with
                | nil => intro a _ _; simp; omega
                | cons x l ih =>
                  intro a hp hb
                  have hx := hb x List.mem_cons_self
                  have hp' := List.pairwise_cons.1 hp
                  have := ih (x + 1) hp'.2 fun c hc => by
                    have h1 := hp'.1 c hc
                    have h2 := hb c (List.mem_cons_of_mem _ hc)
                    omega
                  rw [List.length_cons]
                  omega
              have := key l 0 hgood.up.1 hgood.up.2
              omega
            have lc := hKM.lc
            have hcO := countableJ hs hg (ks := [k]) (by simp) (fun x hx => by rw [List.mem_singleton.1 hx]; omega)
            rw [if_pos (by intro x hx; rw [List.mem_singleton.1 hx]; exact hKM.b2)] at hcO
            have i2 := (ZmY (l := l) (n := (C.length : Int)) (by omega) (by omega) (by omega)).eq hris
            have hz : Ze7 C = some (C.length : Int) := rfl
            have d2 := Zlb (g := g) (n := g.Degree) (k := k) (L := C) (l := l) (fun o ho => (hKM.col.orb o ho).1) (by omega) (by omega) hris
            have ho : Zc1 g k l = some (made g.Degree (catO C l)) := by
              unfold Zc1
              simp (disch := omega) only [pz, e, v2, hcO, hKM.oc, hz, i2, d2]
            refine ⟨(made g.Degree (catO C l)).1, (made g.Degree (catO C l)).2, ?_, ?_, ?_⟩
            · simp (disch := omega) only [pz, e, v2, ZcB, m2, f2, ho]
            · unfold made
              by_cases g1 : ((catO C l).length : Int) > 128
              · rw [if_pos g1]; intro _; rfl
              · rw [if_neg g1]; intro h; exact absurd rfl h
            · unfold made
              by_cases g1 : ((catO C l).length : Int) > 128
              · rw [if_pos g1]; intro h; exact absurd h (by decide)
              · rw [if_neg g1]
                intro _
                refine ⟨hg, R, C, l, ⟨hKM.eq ▸ hKM, by omega, l0, hgood.up, fun small hsm => ?_, by omega, rfl⟩⟩
                rw [← ZjJ l hgood.up.2]
                exact hgood.sum _ (by rw [hKM.eq]; exact List.mem_map.2 ⟨small, hsm, rfl⟩)
          · refine ⟨_, c2, ?_, fun _ => rfl, fun h => absurd h h0⟩
            simp (disch := omega) only [pz, e, v2, ZcB, m2, f2]
      · refine ⟨_, c, ?_, fun _ => rfl, fun h => absurd h hc⟩
        simp (disch := omega) only [pz, e, v2, ZcB, m2]
    · refine ⟨_, 2, ?_, fun _ => rfl, fun h => absurd h (by decide)⟩
      simp (disch := omega) only [pz, e, v2, ZcB]
  · have v2 := (Zdw hs).ne hg
    refine ⟨_, 1, ?_, fun _ => rfl, fun h => absurd h (by decide)⟩
    simp (disch := omega) only [pz, e, v2]
end Go.Proofs.YtocnokjekoglnaaGreat
namespace Go.Proofs.YtocnokjekoglnaaGreat
set_option linter.unusedVariables false
open Go Go.Vc
set_option linter.unusedSimpArgs false
set_option linter.unusedSectionVars false
theorem lt_nd {o : List (List Int)} (h : o.Pairwise LtR) : o.Nodup := h.imp fun {a b} h e => by
  subst e
  have : cmpL a a < 0 := h
  have h2 := ZaB a a
  omega
section
variable {g : Zb} (hE : EOk g.Degree g.Elements) (hG : Grp g.Degree g.Elements) {k : Int} {C : List (List (List Int))} (hC : Orbs g k C)
include hE hG hC
theorem ZjY {l : List Int} (hl : ∀ c ∈ l, 0 ≤ c ∧ c < (C.length : Int)) {b : List Int} (hb : b ∈ catO C l) : SetIn b g.Degree ∧ (b.length : Int) = k := by
  obtain ⟨o, ho, hbo⟩ := Zkl hl hb
  exact (hC.orb o ho).1.set b hbo
theorem ZiH : ∀ {l : List Int}, l.Pairwise (· < ·) → (∀ c ∈ l, 0 ≤ c ∧ c < (C.length : Int)) → (catO C l).Nodup
  | [], _, _ => List.Pairwise.nil
  | c :: l, hp, hl => by
    have hp' := List.pairwise_cons.1 hp
    have hc := hl c List.mem_cons_self
    have hl' : ∀ x ∈ l, 0 ≤ x ∧ x < (C.length : Int) := fun x hx => hl x (List.mem_cons_of_mem _ hx)
    have e1 : catO C (c :: l) = ix C c ++ catO C l := rfl
    rw [e1]
    obtain ⟨_, s, _, _, ho⟩ := hC.orb _ (Zl hc.1 hc.2)
    refine List.nodup_append.2 ⟨lt_nd ho.pw, ZiH hp'.2 hl', fun a ha b hb e => ?_⟩
    subst e
    obtain ⟨c', hc', hb'⟩ := List.mem_flatMap.1 hb
    have h1 := hp'.1 c' hc'
    have h2 := hl' c' hc'
    have h3 := List.pairwise_iff_getElem.1 hC.apart c.toNat c'.toNat (by omega) (by omega) (by omega)
    have e2 := Zq (xs := C) (i := c) hc.1 hc.2
    have e3 := Zq (xs := C) (i := c') h2.1 h2.2
    rw [List.getElem?_eq_getElem (by omega)] at e2 e3
    rw [Option.some.inj e2, Option.some.inj e3] at h3
    exact h3 a ha hb'
theorem ZfN {q : List Int} (hq : q ∈ g.Elements) : ∀ {l : List Int}, (∀ c ∈ l, 0 ≤ c ∧ c < (C.length : Int)) → ((catO C l).map (imgS q)).Perm (catO C l)
  | [], _ => List.Perm.refl _
  | c :: l, hl => by
    have hc := hl c List.mem_cons_self
    have e1 : catO C (c :: l) = ix C c ++ catO C l := rfl
    obtain ⟨_, s, hs, _, ho⟩ := hC.orb _ (Zl hc.1 hc.2)
    rw [e1, List.map_append]
    exact (Zjr hE hG hs ho hq).append (ZfN hq fun x hx => hl x (List.mem_cons_of_mem _ hx))
theorem ZkI {l : List Int} (hl : ∀ c ∈ l, 0 ≤ c ∧ c < (C.length : Int)) {q s : List Int} (hq : q ∈ g.Elements) (hs : SetIn s g.Degree) : (catO C l).countP (fun z => decide (Sub (imgS q s) z)) = (catO C l).countP fun z => decide (Sub s z) := by
  rw [← (ZfN hE hG hC hq hl).countP_eq, List.countP_map]
  refine List.countP_congr fun z hz => ?_
  have hzs := (ZjY hE hG hC hl hz).1
  have hp := hE.perm hq
  have hlen := hp.len
  simp only [Function.comp, decide_eq_true_eq]
  constructor
  · intro h x hx
    have h1 := h (ix q x) (ZbR.2 ⟨x, hx, rfl⟩)
    obtain ⟨y, hy, e⟩ := ZbR.1 h1
    have ra := hs.rng x hx
    have rb := hzs.rng y hy
    have ga := Zq (xs := q) (i := x) (by omega) (by omega)
    have gb := Zq (xs := q) (i := y) (by omega) (by omega)
    rw [e] at gb
    have := (List.getElem?_inj (by omega) hp.nd).1 (ga.trans gb.symm)
    rw [show x = y by omega]; exact hy
  · intro h x hx
    obtain ⟨y, hy, e⟩ := ZbR.1 hx
    exact ZbR.2 ⟨y, h y hy, e⟩
end
section
variable {g : Zb} (hg : ValidGr g) {t k lam : Int} {d : Zj} {R C : List (List (List Int))} {l : List Int} (hP : Pre g t k lam d R C l)
include hg hP
theorem ZpH {s : List Int} (hs : SetIn s g.Degree) (hl : (s.length : Int) = t) : (d.Blocks.countP (fun z => decide (Sub s z)) : Int) = lam := by
  rw [hP.eq]
  show (((sortRows (catO C l)).countP fun z => decide (Sub s z) : Nat) : Int) = lam
  rw [(Zbb _).countP_eq]
  obtain ⟨small, hsm, hmem⟩ := hP.km.row.all s hs hl
  obtain ⟨hok, a, ha, _, ho⟩ := hP.km.row.orb small hsm
  have hne := hok.ne
  have hrep : ix small 0 ∈ small := Zl (by omega) (by omega)
  obtain ⟨p1, hp1, e1⟩ := (ho.mem s).1 hmem
  obtain ⟨p2, hp2, e2⟩ := (ho.mem _).1 hrep
  have c1 := ZkI hg.1 hg.2 hP.km.col hP.up.2 hp1 ha
  have c2 := ZkI hg.1 hg.2 hP.km.col hP.up.2 hp2 ha
  rw [e1] at c1
  rw [e2] at c2
  rw [c1, ← c2]
  exact hP.sum small hsm
theorem Zbn {b : List Int} (hb : b ∈ d.Blocks) : SetIn b g.Degree ∧ (b.length : Int) = k := by
  rw [hP.eq] at hb
  exact ZjY hg.1 hg.2 hP.km.col hP.up.2 (Z3.1 hb)
theorem Zeg : d.Blocks.length ≤ 128 := by
  rw [hP.eq]; show (sortRows (catO C l)).length ≤ 128
  rw [Z1]; exact hP.len
theorem ZkH : d.Blocks.Pairwise LtR := by
  have h1 : d.Blocks.Nodup := by
    rw [hP.eq]
    exact (Zbb _).nodup_iff.2 (ZiH hg.1 hg.2 hP.km.col hP.up.1 hP.up.2)
  have h2 : SortedL d.Blocks := by rw [hP.eq]; exact ZbB _
  refine (h2.and h1).imp fun {a b} h => ?_
  have h3 := h.1
  rw [ZS] at h3
  have h4 : cmpL a b ≠ 0 := fun e => h.2 ((Zas _ _).1 e)
  unfold LtR; omega
theorem Ze6 : Sz2 d.Blocks := ⟨by have := Zeg hg hP; omega, fun b hb => by
  have := (Zbn hg hP hb).2
  have := hP.km.kn; have := hg.1.n1; omega⟩
theorem ZkL : ValidD d := by
  have hst := ZkH hg hP
  have hpts : d.Points = g.Degree := by rw [hP.eq]
  refine ⟨by rw [hpts]; exact hg.1.n0, by rw [hpts]; exact hg.1.n1, by have := Zeg hg hP; omega, fun i i0 i1 => ?_, fun i i0 i1 => ?_⟩
  · obtain ⟨h1, h2⟩ := Zbn hg hP (Zl i0 i1)
    have := hP.k1
    exact ⟨by omega, by rw [hpts]; exact ZcZ.2 h1.ris⟩
  · have h1 := List.pairwise_iff_getElem.1 hst (i - 1).toNat i.toNat (by omega) (by omega) (by omega)
    have e1 := Zq (xs := d.Blocks) (i := i - 1) (by omega) (by omega)
    have e2 := Zq (xs := d.Blocks) (i := i) (by omega) i1
    rw [List.getElem?_eq_getElem (by omega)] at e1 e2
    rw [Option.some.inj e1, Option.some.inj e2] at h1
    have : cmpL (ix d.Blocks (i - 1)) (ix d.Blocks i) < 0 := h1
    omega
theorem Zpd {i : Int} (i0 : 0 < i) (i1 : i < (d.Blocks.length : Int)) : cmpL (ix d.Blocks (i - 1)) (ix d.Blocks i) = -1 := by
  have h1 := List.pairwise_iff_getElem.1 (ZkH hg hP) (i - 1).toNat i.toNat (by omega) (by omega) (by omega)
  have e1 := Zq (xs := d.Blocks) (i := i - 1) (by omega) (by omega)
  have e2 := Zq (xs := d.Blocks) (i := i) (by omega) i1
  rw [List.getElem?_eq_getElem (by omega)] at e1 e2
  rw [Option.some.inj e1, Option.some.inj e2] at h1
  have : cmpL (ix d.Blocks (i - 1)) (ix d.Blocks i) < 0 := h1
  rcases Zg5 (ix d.Blocks (i - 1)) (ix d.Blocks i) with h | h | h <;> omega
end
end Go.Proofs.YtocnokjekoglnaaGreat
namespace Go.Proofs.YtocnokjekoglnaaGreat
set_option linter.unusedVariables false
open Go Go.Vc
set_option linter.unusedSimpArgs false
set_option linter.unusedSectionVars false
theorem areSameJ {a b : List (List Int)} (ha : (a.length : Int) ≤ 1048576) (hr : ∀ x ∈ a, (x.length : Int) ≤ 1048576) : IsQ (Zd5 a b) (a = b) := by
  unfold Zd5
  refine IsQ.bind_id ?_
  unfold Zet
  refine Zjg (by unfold M63; omega) (fun k x y hx hy => ?_) (by simp (disch := omega) only [pz, Zeh])
  have h1 := ZU hx
  have h2 := ZU hy
  have hs := ZfU (a := x) (b := y) (hr x (List.mem_of_getElem? hx))
  by_cases h : x = y
  · exact Zfg (c := true) (by simp [h]) (by simp (disch := omega) only [pz, Zeh, ZJ hx, ZJ hy, hs.eq h])
  · exact Zfg (c := false) (by simp [h]) (by simp (disch := omega) only [pz, Zeh, ZJ hx, ZJ hy, hs.ne h])
section
variable {g : Zb} (hg : ValidGr g) {t k lam : Int} {d : Zj} {R C : List (List (List Int))} {l : List Int} (hP : Pre g t k lam d R C l)
include hg hP
theorem Zo3 {s : List Int} (hs : SetIn s g.Degree) (hl : (s.length : Int) = t) {idx y : Int} (y0 : 0 ≤ y) (y1 : y ≤ 4294967296) (hi : idx = -1 ∨ idx = lam) :
    loop (Za4 d idx y s) (0, 0) = some (.inl (lam, y + 1)) := by
  have hlen := Zeg hg hP
  have hcnt := ZpH hg hP hs hl
  have hl0 := hP.lam0
  have hkn := hP.km.kn; have n1 := hg.1.n1; have htk := hP.km.tk
  have w := ZN (B := Za4 d idx y s) (fun i => (((d.Blocks.take i.toNat).countP (fun z => decide (Sub s z)) : Int), i)) (i := 0) (n := d.Blocks.length) (by omega) fun i i0 i1 => by
    have hb := Zbn hg hP (Zl i0 i1)
    have hsub := Zjl (s := s) (z := ix d.Blocks i) (by omega) (by omega)
    have hle := List.countP_le_length (p := fun z => decide (Sub s z)) (l := d.Blocks.take i.toNat)
    rw [List.length_take] at hle
    have e1 : (((d.Blocks.take (i + 1).toNat).countP (fun z => decide (Sub s z)) : Nat) : Int) = ((d.Blocks.take i.toNat).countP (fun z => decide (Sub s z)) : Int) + (if Sub s (ix d.Blocks i) then 1 else 0) := by
      rw [Z7 i0 i1, List.countP_append]
      by_cases h : Sub s (ix d.Blocks i)
      · simp [h]
      · simp [h]
    by_cases h : Sub s (ix d.Blocks i)
    · rw [if_pos h] at e1
      simp (disch := omega) only [pz, Za4, hsub, e1, decide_eq_true h]
    · rw [if_neg h] at e1
      simp (disch := omega) only [pz, Za4, hsub, e1, decide_eq_false h]
      simp
  have z0 : (((d.Blocks.take (Int.toNat 0)).countP (fun z => decide (Sub s z)) : Int), (0 : Int)) = ((0 : Int), (0 : Int)) := rfl
  rw [z0] at w
  rw [w]
  refine Ze ?_
  have et : d.Blocks.take (d.Blocks.length : Int).toNat = d.Blocks := by rw [Int.toNat_natCast, List.take_length]
  simp only [et, hcnt]
  rcases hi with rfl | rfl
  · simp (disch := omega) only [pz, Za4]
  · simp (disch := omega) only [pz, Za4]
theorem ZnE (t3 : t ≤ 3) : ZcH d t = some (lam, 0) := by
  have e : Zj.mk d.Points d.Blocks = d := rfl
  have hv := (ZiE (Ze6 hg hP)).eq (ZkL hg hP)
  have hpts : d.Points = g.Degree := by rw [hP.eq]
  have t0 := hP.km.t0; have htk := hP.km.tk; have hkn := hP.km.kn; have n1 := hg.1.n1; have n0 := hg.1.n0
  have hl0 := hP.lam0
  have ha := ZkD (v := g.Degree) (k := t) t0 (by omega) n1
  have hlen := Ziw (v := g.Degree) (k := t)
  have hmem : ∀ s ∈ allSub g.Degree t, SetIn s g.Degree ∧ (s.length : Int) = t := fun s hs => by
    have := Zbi.1 hs
    exact ⟨SetIn.of (by have := this.2; rwa [show (0 : Int) + ((g.Degree.toNat : Nat) : Int) - 1 = g.Degree - 1 by omega] at this), by omega⟩
  have hpos : 0 < ((allSub g.Degree t).length : Int) := by
    obtain ⟨M, hM⟩ := ZcJ (g := g.Degree.toNat) (k := t.toNat) (lo := 0) (by omega)
    unfold allSub; rw [hM]; simp
  have hI : Zdt d t = some lam := by
    unfold Zdt
    rw [hpts, ha]
    simp only [Option.bind_some]
    have w := ZN (B := ZdL d (allSub g.Degree t)) (fun i => ((if i = 0 then -1 else lam), i)) (i := 0) (n := (allSub g.Degree t).length) (by omega) fun i i0 i1 => by
      obtain ⟨h1, h2⟩ := hmem _ (Zl i0 i1)
      have hc := Zo3 hg hP h1 h2 (idx := if i = 0 then -1 else lam) (y := i) i0 (by omega) (by by_cases h : i = 0 <;> simp [h])
      rw [if_neg (show ¬ i + 1 = 0 by omega)]
      simp (disch := omega) only [pz, ZdL, hc]
    rw [if_pos rfl] at w
    rw [w, if_neg (by omega)]
    refine Ze ?_
    simp (disch := omega) only [pz, ZdL]
    rw [if_neg (by omega)]
  unfold ZcH
  simp (disch := omega) only [pz, e, hv, ZO, hI]
theorem Zop {q : List Int} (hq : q ∈ g.Elements) : Zef d q = some d := by
  have hlen := Zeg hg hP
  have hkn := hP.km.kn; have n1 := hg.1.n1
  have hp := hg.1.perm hq
  have hpts : d.Points = g.Degree := by rw [hP.eq]
  have w := ZN (B := ZcM d q) (fun i => ((d.Blocks.take i.toNat).map (imgS q), i)) (i := 0) (n := d.Blocks.length) (by omega) fun i i0 i1 => by
    obtain ⟨h1, h2⟩ := Zbn hg hP (Zl i0 i1)
    have hi := ZkJ hp h1 (by omega)
    have ht := Z7 i0 i1
    have hl : ((d.Blocks.take i.toNat).map (imgS q)).length ≤ 128 := by rw [List.length_map, List.length_take]; omega
    simp (disch := omega) only [pz, ZcM, hi, ht, List.map_append, List.map_cons, List.map_nil]
  unfold Zef
  have z0 : ((List.take (Int.toNat 0) d.Blocks).map (imgS q), (0 : Int)) = (([] : List (List Int)), (0 : Int)) := rfl
  rw [z0] at w
  rw [w]
  refine Ze ?_
  have et : d.Blocks.take (d.Blocks.length : Int).toNat = d.Blocks := by rw [Int.toNat_natCast, List.take_length]
  simp only [et]
  have hrow : ∀ b ∈ d.Blocks.map (imgS q), (b.length : Int) ≤ 32 := fun b hb => by
    obtain ⟨a, ha, rfl⟩ := List.mem_map.1 hb
    rw [Zhw]
    have := (Zbn hg hP ha).2
    omega
  have hml : (d.Blocks.map (imgS q)).length = d.Blocks.length := List.length_map ..
  have hs := Zjb (p := d.Points) (xs := d.Blocks.map (imgS q)) (fun _ => Zia ⟨by rw [hml]; omega, fun b hb => by have := hrow b hb; omega⟩) fun b hb => by have := hrow b hb; omega
  have hmade : made d.Points (d.Blocks.map (imgS q)) = (d, 0) := by
    unfold made
    rw [if_neg (by rw [hml]; omega)]
    have e1 : sortRows (d.Blocks.map (imgS q)) = d.Blocks := by
      refine (ZdC ?_ ?_).symm
      · have h1 : d.Blocks.Perm (catO C l) := by rw [hP.eq]; exact Zbb _
        exact h1.trans ((ZfN hg.1 hg.2 hP.km.col hq hP.up.2).symm.trans ((h1.map _).symm))
      · rw [hP.eq]; exact ZbB _
    rw [e1]
  rw [hmade] at hs
  simp (disch := omega) only [pz, ZcM, hs]
theorem ZoJ : ZcN d g = some (true, 0) := by
  have e : Zj.mk d.Points d.Blocks = d := rfl
  have e2 : Zb.mk g.Degree g.Elements = g := rfl
  have hv := (ZiE (Ze6 hg hP)).eq (ZkL hg hP)
  have hN := hg.1.l1; have n1 := hg.1.n1
  have hgs : Sz2 g.Elements := ⟨by omega, fun b hb => by have := (hg.1.prm b hb).1; omega⟩
  have hv2 := (Zdw hgs).eq hg
  have hpts : d.Points = g.Degree := by rw [hP.eq]
  have hone : ∀ q ∈ g.Elements, Zb7 q d = some false := fun q hq => by
    have hsm := (areSameJ (a := d.Blocks) (b := d.Blocks) (Ze6 hg hP).1 (Ze6 hg hP).2).eq rfl
    have hsame : ZdN d d = some true := by
      unfold ZdN
      simp (disch := omega) only [pz, hsm]
    unfold Zb7
    simp (disch := omega) only [pz, Zop hg hP hq, hsame]
  have hc := (containsLL (s := g.Elements) (fn := fun y0 => Zb7 y0 d) (q := fun _ => False) (by omega) fun q hq => by
    rw [hone q hq]; exact IsQ.f id).ne (by rintro ⟨_, _, h⟩; exact h)
  have hne : (g.Degree != d.Points) = false := by rw [hpts]; simp
  unfold ZcN ZeC
  rw [e, hv]
  simp only [Option.bind_some, Bool.not_true, cond_false]
  rw [e2, hv2]
  simp only [Option.bind_some, Bool.not_true, cond_false]
  rw [hne, hc]
  rfl
end
end Go.Proofs.YtocnokjekoglnaaGreat
