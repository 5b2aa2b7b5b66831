import Derived.Test.YtocnokjekoglnaaGreatPuJc
import Derived.Test.YtocnokjekoglnaaGreatPuJb
import Derived.Test.YtocnokjekoglnaaGreatPuJf
import Derived.Test.YtocnokjekoglnaaGreatPuJg
namespace Go.Proofs.YtocnokjekoglnaaGreat
open Go Go.Vc
set_option linter.unusedSimpArgs false
set_option linter.unusedVariables false
theorem Zos {xs : List (List Int)} (hl : (xs.length : Int) ≤ 1000000) (hr : ∀ b ∈ xs, (b.length : Int) ≤ 1048576) {i : Int} (h0 : 0 ≤ i) (h1 : i < (xs.length : Int)) :
    Zbl xs (sortRows (xs.take i.toNat), i) = some (.inl (sortRows (xs.take (i + 1).toNat), i + 1)) := by
  have hol : ((sortRows (xs.take i.toNat)).length : Int) = i := by rw [Z1, List.length_take]; omega
  have hom : ∀ b ∈ sortRows (xs.take i.toNat), (b.length : Int) ≤ 1048576 := fun b hb => hr b (List.mem_of_mem_take (Z3.1 hb))
  have hx := hr _ (Zl h0 h1)
  have hsrt := ZbB (xs.take i.toNat)
  generalize hout : sortRows (xs.take i.toNat) = out at *
  have hok : ∀ {k : Int}, 0 ≤ k → k ≤ (out.length : Int) → (∀ y ∈ out.take k.toNat, lexC y (ix xs i) ≤ 0) → (∀ y ∈ out.drop k.toNat, lexC (ix xs i) y ≤ 0) →
      ZcO xs out i k = some (.inl (sortRows (xs.take (i + 1).toNat), i + 1)) := by
    intro k k0 k1 g1 g2
    have hins := ZiT (xs := xs.take i.toNat) (x := ix xs i) (k := k.toNat) hout.symm g1 g2
    rw [Z7 h0 h1]
    have hlt : ((out.take k.toNat).length : Int) = k := by rw [List.length_take]; omega
    have hld : ((out.drop k.toNat).length : Int) = out.length - k := by rw [List.length_drop]; omega
    have hs0 : gSl out 0 k = some (out.take k.toNat) := by rw [Ze5 (by omega) (by omega) (by omega)]; rfl
    have hs1 : gSl out k (out.length : Int) = some (out.drop k.toNat) := Ze9 k0 k1
    unfold ZcO
    rw [hs0]
    simp only [Option.bind_some]
    rw [Zap (by simp only [List.length_nil]; omega) (by simp only [List.length_nil]; omega)]
    simp only [Option.bind_some, List.nil_append]
    rw [Zax h0 h1]
    simp only [Option.bind_some]
    rw [Zpl (by omega)]
    simp only [Option.bind_some]
    rw [gApp1 (by omega) (by omega)]
    simp only [Option.bind_some]
    rw [hs1]
    simp only [Option.bind_some]
    rw [Zap (by rw [List.length_append, List.length_singleton]; omega) (by rw [List.length_append, List.length_singleton]; omega)]
    simp only [Option.bind_some]
    rw [hins, wr64 (by omega) (by omega)]
  unfold Zbl
  have hc : decide (i < (xs.length : Int)) = true := dec_t h1
  simp only [hc, cond_true]
  rcases ZfH (B := Zb6 xs out i) (fun k => k) (fun k => ¬ cmpL (ix out (k - 1)) (ix xs i) > 0) (i := out.length) (m := 0) (by omega) (fun k a b c => by
      have hr2 := hom _ (Zl (xs := out) (i := k - 1) (by omega) (by omega))
      have c' := Classical.not_not.1 c
      simp (disch := omega) only [pz, Zb6, Zhy]) with ⟨k, a, b, c, d, e⟩ | ⟨a, b⟩
  · rw [e]
    have hr2 := hom _ (Zl (xs := out) (i := k - 1) (by omega) (by omega))
    have hkk := hok (k := k) (by omega) (by omega) (fun y hy => ?_) (fun y hy => ?_)
    · refine Ze ?_
      simp (disch := omega) only [pz, Zb6, Zhy, hkk]
    · obtain ⟨j, j0, j1, rfl⟩ := Zaf hy
      have hj2 : j < k := by rw [List.length_take] at j1; omega
      rw [ZgQ j0 hj2]
      by_cases hjk : j = k - 1
      · rw [hjk, ZS]; omega
      · have hp := List.pairwise_iff_getElem.1 hsrt j.toNat (k - 1).toNat (by omega) (by omega) (by omega)
        have e1 : out[j.toNat]'(by omega) = ix out j := by have := Zq (xs := out) j0 (by omega); rw [List.getElem?_eq_getElem (by omega)] at this; exact Option.some.inj this
        have e2 : out[(k - 1).toNat]'(by omega) = ix out (k - 1) := by have := Zq (xs := out) (i := k - 1) (by omega) (by omega); rw [List.getElem?_eq_getElem (by omega)] at this; exact Option.some.inj this
        rw [e1, e2] at hp
        exact (ZdX _ _ _ hp (by rw [ZS]; omega)).1
    · obtain ⟨j, j0, j1, rfl⟩ := Zaf hy
      rw [List.length_drop] at j1
      rw [Zj0 (by omega) j0]
      have hd := Classical.not_not.1 (d (k + j + 1) (by omega) (by omega))
      rw [show k + j + 1 - 1 = k + j by omega] at hd
      have hn := Zab (ix out (k + j)) (ix xs i)
      rw [ZS, ZS] at hn
      rw [ZS]; omega
  · rw [b]
    have hkk := hok (k := 0) (by omega) (by omega) (fun y hy => by simp at hy) (fun y hy => ?_)
    · refine Ze ?_
      simp (disch := omega) only [pz, Zb6, hkk]
    · obtain ⟨j, j0, j1, rfl⟩ := Zaf hy
      rw [show (0 : Int).toNat = 0 from rfl, List.drop_zero] at *
      have hd := Classical.not_not.1 (a (j + 1) (by omega) (by omega))
      rw [show j + 1 - 1 = j by omega] at hd
      have hn := Zab (ix out j) (ix xs i)
      rw [ZS, ZS] at hn
      rw [ZS]; omega
theorem ZkM {xs : List (List Int)} (hl : (xs.length : Int) ≤ 1000000) (hr : ∀ b ∈ xs, (b.length : Int) ≤ 1048576) : Zeb xs = some (sortRows xs) := by
  unfold Zeb
  have e0 : (([] : List (List Int)), (0 : Int)) = (fun j : Int => (sortRows (xs.take j.toNat), j)) 0 := by simp [sortRows]
  rw [e0, ZN (B := Zbl xs) (fun j => (sortRows (xs.take j.toNat), j)) (i := 0) (n := xs.length) (by omega) fun j a b => Zos hl hr a b]
  refine Ze ?_
  unfold Zbl
  have hc : decide ((xs.length : Int) < (xs.length : Int)) = false := dec_f (by omega)
  simp only [hc, cond_false, Int.toNat_natCast, List.take_length]
def made (p : Int) (xs : List (List Int)) : Zj × Int := if (xs.length : Int) > 128 then (Zj.mk 0 [], 5) else (Zj.mk p (sortRows xs), 0)
theorem Zjb {p : Int} {xs : List (List Int)} (hcp : (xs.length : Int) ≤ 128 → ZcS xs = some xs) (hr : ∀ b ∈ xs, (b.length : Int) ≤ 1048576) : Zcv p xs = some (made p xs) := by
  unfold Zcv made
  by_cases h : (xs.length : Int) > 128
  · simp (disch := omega) only [pz]
    rw [if_pos h]
  · have hs : ZaM xs (fun y0 y1 => ZR y0 y1) = some (sortRows xs) := by
      unfold ZaM
      rw [if_pos ⟨fun a ha c _ => by rw [ZS]; exact ZaC (by have := hr a ha; omega), by omega⟩]
    have hcp' := hcp (by omega)
    simp (disch := omega) only [pz, hcp', hs]
    rw [if_neg h]
end Go.Proofs.YtocnokjekoglnaaGreat
namespace Go.Proofs.YtocnokjekoglnaaGreat
set_option linter.unusedVariables false
open Go Go.Vc
set_option linter.unusedSimpArgs false
set_option linter.unusedSectionVars false
theorem Zia {xs : List (List Int)} (hs : Sz2 xs) : ZcS xs = some xs := by
  unfold ZcS
  have hl := hs.1
  have hgo := ZN (B := Zci xs) (fun k => (xs.take k.toNat, k)) (i := 0) (n := xs.length) (by omega) fun k h0 h1 => by
    have hr := hs.row h0 h1
    have ht : (xs.take k.toNat).length ≤ 1048576 := by rw [List.length_take]; omega
    simp (disch := omega) only [pz, Zci, ZjT, Z7 h0 h1]
  have e0 : (([] : List (List Int)), (0 : Int)) = (fun k : Int => (xs.take k.toNat, k)) 0 := by simp
  rw [e0, hgo]
  refine Ze ?_
  simp (disch := omega) only [pz, Zci]
theorem ZmY {l : List Int} {n : Int} (hl : (l.length : Int) ≤ 1048576) (n0 : 0 ≤ n) (n1 : n ≤ 1048576) : IsQ (Zen l n) (Rising l 0 (n - 1)) := by
  unfold Zen
  have hz : ∀ k, 0 ≤ k → k < (l.length : Int) → (∀ j, 0 ≤ j → j < k → (0 ≤ ix l j ∧ ix l j ≤ n - 1) ∧ (0 < j → ix l (j - 1) < ix l j)) → ZaN l n ((if k = 0 then -1 else ix l (k - 1)), k) = some (bif decide ((0 ≤ ix l k ∧ ix l k ≤ n - 1) ∧ (0 < k → ix l (k - 1) < ix l k)) then .inl (ix l k, k + 1) else .inr false) := by
    intro k h0 h1 hp
    by_cases hk : k = 0
    · subst hk
      rw [if_pos rfl]
      by_cases hg : 0 ≤ ix l 0 ∧ ix l 0 ≤ n - 1
      · simp (disch := omega) only [pz, ZaN, ZO]
      · simp (disch := omega) only [pz, ZaN, ZO]
    · rw [if_neg hk]
      have hq := (hp (k - 1) (by omega) (by omega)).1
      by_cases hg : ix l (k - 1) + 1 ≤ ix l k ∧ ix l k ≤ n - 1
      · simp (disch := omega) only [pz, ZaN, ZO]
      · simp (disch := omega) only [pz, ZaN, ZO]
  rcases Zc3 (B := ZaN l n) (fun k => ((if k = 0 then -1 else ix l (k - 1)), k)) (fun k => ¬ ∀ j, 0 ≤ j → j ≤ k → (0 ≤ ix l j ∧ ix l j ≤ n - 1) ∧ (0 < j → ix l (j - 1) < ix l j)) (i := 0) (n := l.length) (by omega) (fun k h0 h1 h2 => by
    have h2' := Classical.not_not.1 h2
    have := hz k h0 h1 fun j a b => h2' j a (by omega)
    rw [this, decide_eq_true (h2' k h0 (Int.le_refl k))]
    simp only [cond_true]
    rw [if_neg (by omega), show k + 1 - 1 = k by omega]) with ⟨k, h1, h2, h3, h4, h5⟩ | ⟨h1, h2⟩
  · have hb : ∀ j, 0 ≤ j → j < k → (0 ≤ ix l j ∧ ix l j ≤ n - 1) ∧ (0 < j → ix l (j - 1) < ix l j) := fun j a b => Classical.not_not.1 (h4 j a b) j a (Int.le_refl j)
    have hk : ¬ ((0 ≤ ix l k ∧ ix l k ≤ n - 1) ∧ (0 < k → ix l (k - 1) < ix l k)) := fun h => h3 fun j a b => by
      by_cases e : j = k
      · rw [e]; exact h
      · exact hb j a (by omega)
    have e0 : ((-1 : Int), (0 : Int)) = (fun k : Int => ((if k = 0 then -1 else ix l (k - 1)), k)) 0 := rfl
    rw [e0, h5, Ze (r := false) (by rw [hz k h1 h2 hb, decide_eq_false hk]; rfl)]
    exact IsQ.f fun h => hk (h k h1 h2)
  · have e0 : ((-1 : Int), (0 : Int)) = (fun k : Int => ((if k = 0 then -1 else ix l (k - 1)), k)) 0 := rfl
    rw [e0, h2, Ze (r := true) (by simp (disch := omega) only [pz, ZaN])]
    exact IsQ.t fun k a b => Classical.not_not.1 (h1 k a b) k a (Int.le_refl k)
def catO (L : List (List (List Int))) (l : List Int) : List (List Int) := l.flatMap fun e => ix L e
theorem Zp0 {L : List (List (List Int))} {l : List Int} {i : Int} (i0 : 0 ≤ i) (i1 : i < (l.length : Int)) : catO L (l.take (i + 1).toNat) = catO L (l.take i.toNat) ++ ix L (ix l i) := by
  unfold catO
  rw [Z7 i0 i1, List.flatMap_append]; simp
theorem ZhL {L : List (List (List Int))} (hL : ∀ o ∈ L, (o.length : Int) ≤ 720) : ∀ (l : List Int), (∀ e ∈ l, 0 ≤ e ∧ e < (L.length : Int)) → ((catO L l).length : Int) ≤ 720 * l.length
  | [], _ => by simp [catO]
  | e :: l, h => by
    have h1 := ZhL hL l fun x hx => h x (List.mem_cons_of_mem _ hx)
    have h2 := h e List.mem_cons_self
    have h3 := hL _ (Zl h2.1 h2.2)
    have e1 : catO L (e :: l) = ix L e ++ catO L l := rfl
    rw [e1, List.length_append, List.length_cons]
    omega
theorem Zkl {L : List (List (List Int))} {l : List Int} (h : ∀ e ∈ l, 0 ≤ e ∧ e < (L.length : Int)) {b : List Int} (hb : b ∈ catO L l) : ∃ o ∈ L, b ∈ o := by
  obtain ⟨e, he, hb'⟩ := List.mem_flatMap.1 hb
  exact ⟨_, Zl (h e he).1 (h e he).2, hb'⟩
theorem Rising.rng {l : List Int} {n : Int} (h : Rising l 0 (n - 1)) : ∀ e ∈ l, 0 ≤ e ∧ e < n := fun e he => by
  obtain ⟨i, a, b, rfl⟩ := Zaf he
  have := (h i a b).1
  omega
section
variable {g : Zb} {n k : Int} {L : List (List (List Int))} {l : List Int} (hL : ∀ o ∈ L, OrbOk n k o) (k1 : k ≤ 32) (hll : (l.length : Int) ≤ 2000) (hr : Rising l 0 ((L.length : Int) - 1))
include hL k1 hll hr
theorem Zno {ρ : Type} {B : List (List Int) × Int → Option ((List (List Int) × Int) ⊕ ρ)} (hB : ∀ i xs, 0 ≤ i → i < (l.length : Int) → (xs.length : Int) ≤ 1440000 → B (xs, i) = some (.inl (xs ++ ix L (ix l i), i + 1))) : loop B (([] : List (List Int)), 0) = loop B (catO L l, (l.length : Int)) := by
  have w := ZN (B := B) (fun i => (catO L (l.take i.toNat), i)) (i := 0) (n := l.length) (by omega) fun i i0 i1 => by
    have hlen := ZhL (fun o ho => (hL o ho).len) (l.take i.toNat) fun e he => hr.rng e (List.mem_of_mem_take he)
    rw [List.length_take] at hlen
    rw [hB i _ i0 i1 (by omega), Zp0 i0 i1]
  simpa [catO] using w
theorem Zod : ((catO L l).length : Int) ≤ 1440000 ∧ ∀ b ∈ catO L l, (b.length : Int) ≤ 32 := by
  have hlen := ZhL (fun o ho => (hL o ho).len) l fun e he => hr.rng e he
  refine ⟨by omega, fun b hb => ?_⟩
  obtain ⟨o, ho, hbo⟩ := Zkl (fun e he => hr.rng e he) hb
  have := ((hL o ho).set b hbo).2
  omega
theorem Zlb : loop (Zcp g l L) (([] : List (List Int)), 0) = some (made g.Degree (catO L l)) := by
  obtain ⟨b1, b2⟩ := Zod hL k1 hll hr
  rw [Zno hL k1 hll hr fun i xs i0 i1 hx => by
    have hi := hr.rng _ (Zl i0 i1)
    have ho := (hL _ (Zl hi.1 hi.2)).len
    have ha : gApp 24 xs (ix L (ix l i)) = some (xs ++ ix L (ix l i)) := Zap (by omega) (by omega)
    simp (disch := omega) only [pz, Zcp, ha]]
  refine Ze ?_
  have hs := Zjb (p := g.Degree) (xs := catO L l) (fun h => Zia ⟨by omega, fun b hb => by have := b2 b hb; omega⟩) fun b hb => by have := b2 b hb; omega
  simp (disch := omega) only [pz, Zcp, hs]
end
end Go.Proofs.YtocnokjekoglnaaGreat
namespace Go.Proofs.YtocnokjekoglnaaGreat
set_option linter.unusedVariables false
open Go Go.Vc
set_option linter.unusedSimpArgs false
def chSum (row ch : List Int) : Int := (ch.map fun c => row.getD c.toNat 0).sum
def ChUp (n : Nat) (ch : List Int) : Prop := ch.Pairwise (· < ·) ∧ ∀ c ∈ ch, 0 ≤ c ∧ c < (n : Int)
structure Good (m : R2) (lam : Int) (n : Nat) (ch : List Int) : Prop where
  up : ChUp n ch
  sum : ∀ row ∈ m, chSum row ch = lam
def chSums (m : R2) (ch : List Int) : List Int := m.map fun row => chSum row ch
theorem Zpn (row ch : List Int) (c : Nat) : chSum row (ch ++ [(c : Int)]) = chSum row ch + row.getD c 0 := by
  unfold chSum; simp
theorem ZoA (m : R2) (ch : List Int) (c : Nat) : addL (chSums m ch) (QcolOf m c) = chSums m (ch ++ [(c : Int)]) := by
  unfold addL chSums QcolOf
  induction m with
  | nil => rfl
  | cons r m ih => rw [List.map_cons, List.map_cons, List.map_cons, List.zipWith_cons_cons, Zpn, ih]
theorem ChUp.app {n : Nat} {ch : List Int} {c : Nat} (h : ChUp c ch) (hc : c < n) : ChUp n (ch ++ [(c : Int)]) := by
  refine ⟨List.pairwise_append.2 ⟨h.1, List.pairwise_singleton _ _, fun a ha b hb => ?_⟩, fun x hx => ?_⟩
  · rw [List.mem_singleton.1 hb]; exact (h.2 a ha).2
  · rcases List.mem_append.1 hx with hx | hx
    · have := h.2 x hx; omega
    · rw [List.mem_singleton.1 hx]; omega
theorem ChUp.mono {a b : Nat} {ch : List Int} (h : ChUp a ch) (hb : a ≤ b) : ChUp b ch := ⟨h.1, fun c hc => by have := h.2 c hc; omega⟩
theorem Zmh {m : R2} {lam : Int} {n : Nat} {ch : List Int} (hlen : ∀ r ∈ m, r.length = n) (hu : ChUp n ch) (hh : highB lam (chSums m ch) = false) (hl : lowB lam (chSums m ch) (tailsOf m n) = false) : Good m lam n ch := by
  refine ⟨hu, fun row hr => ?_⟩
  have h1 := Ziz hh (chSum row ch) (List.mem_map.2 ⟨row, hr, rfl⟩)
  obtain ⟨k, hk⟩ := List.getElem?_of_mem hr
  have h2 := Zk4 hl (k := k) (x := chSum row ch) (y := (row.drop n).sum) (by unfold chSums; rw [List.getElem?_map, hk]; rfl) (ZaS hk)
  rw [List.drop_of_length_le (by rw [hlen row hr]; exact Nat.le_refl _)] at h2
  simp at h2
  omega
theorem Zjf {m : R2} {lam limit budget : Int} {n : Nat} (hlen : ∀ r ∈ m, r.length = n) : ∀ (r : Nat) (ch : List Int) (s : ChS), r ≤ n → ChUp (n - r) ch → highB lam (chSums m ch) = false → (r = 0 → lowB lam (chSums m ch) (tailsOf m n) = false) →
    (s.count = 0 ∨ Good m lam n s.first) → (goCh m lam limit budget n r (chSums m ch) ch s).count = 0 ∨ Good m lam n (goCh m lam limit budget n r (chSums m ch) ch s).first
  | 0, ch, s, _, hu, hh, hl, hs => by
    right
    unfold goCh
    simp only
    cases hc : (s.count == 0)
    · have : ¬ s.count = 0 := by simpa using hc
      exact hs.resolve_left this
    · exact Zmh hlen hu hh (hl rfl)
  | r + 1, ch, s, hr, hu, hh, hl, hs => by
    have on : ∀ (ch' : List Int) (s' : ChS), ChUp (n - r) ch' → highB lam (chSums m ch') = false → (s'.count = 0 ∨ Good m lam n s'.first) →
        (onCh limit budget (lowB lam (chSums m ch') (tailsOf m (n - r))) (goCh m lam limit budget n r (chSums m ch') ch') s').count = 0 ∨ Good m lam n (onCh limit budget (lowB lam (chSums m ch') (tailsOf m (n - r))) (goCh m lam limit budget n r (chSums m ch') ch') s').first := by
      intro ch' s' hu' hh' hs'
      unfold onCh
      cases hlw : lowB lam (chSums m ch') (tailsOf m (n - r))
      · cases (false || s'.full || s'.count == limit)
        · cases (s'.nodes == budget)
          · simp only [cond_false]
            exact Zjf hlen r ch' _ (by omega) hu' hh' (fun e => by subst e; exact hlw) hs'
          · exact hs'
        · exact hs'
      · exact hs'
    unfold goCh
    simp only
    refine on ch _ (hu.mono (by omega)) hh ?_
    rw [ZoA]
    cases hx : highB lam (chSums m (ch ++ [((n - (r + 1) : Nat) : Int)]))
    · exact on _ _ (hu.app (by omega)) hx hs
    · exact hs
theorem Zhe (m : R2) : chSums m [] = zeros m := by
  unfold chSums zeros chSum
  induction m with
  | nil => rfl
  | cons r m ih => simp only [List.map_cons, List.length_cons, List.replicate_succ]; rw [ih]; rfl
theorem Zmq {m : R2} {n : Nat} {lam limit budget : Int} (hin : ChIn m n lam limit budget) : (sEnd m n lam limit budget).count = 0 ∨ Good m lam n (sEnd m n lam limit budget).first := by
  unfold sEnd
  cases hr : reach m lam
  · exact .inl rfl
  · have hl : lowB lam (zeros m) (tailsOf m 0) = false := by unfold reach at hr; simpa using hr
    have := Zjf (lam := lam) (limit := limit) (budget := budget) (fun r hr => (hin.cnt.2.2.2 r hr).1) n [] s0 (Nat.le_refl _) ⟨List.Pairwise.nil, by simp⟩ (by
      rw [Zhe]
      refine Zey fun x hx => ?_
      unfold zeros at hx
      have h1 := hin.lam0
      rw [(List.mem_replicate.1 hx).2]; omega) (fun e => by subst e; rw [Zhe]; exact hl) (.inl rfl)
    rw [Zhe] at this
    exact this
theorem ChUp.rising {n : Nat} {ch : List Int} (h : ChUp n ch) : Rising ch 0 ((n : Int) - 1) := by
  intro k k0 k1
  have := h.2 _ (Zl k0 k1)
  refine ⟨⟨by omega, by omega⟩, fun hk => ?_⟩
  have h1 := List.pairwise_iff_getElem.1 h.1 (k - 1).toNat k.toNat (by omega) (by omega) (by omega)
  have e1 := Zq (xs := ch) (i := k - 1) (by omega) (by omega)
  have e2 := Zq (xs := ch) (i := k) k0 k1
  rw [List.getElem?_eq_getElem (by omega)] at e1 e2
  have e1' := Option.some.inj e1
  have e2' := Option.some.inj e2
  rw [e1', e2'] at h1
  exact h1
end Go.Proofs.YtocnokjekoglnaaGreat
