/- Sorted designs, without the test of blocks (printed by mkq.py from PuSrt). -/
import Derived.Test.YtapkemdomnkccaaGreatPuJc
import Derived.Test.YtapkemdomnkccaaGreatPuJb
import Derived.Test.YtapkemdomnkccaaGreatPuJf
namespace Go.Proofs.YtapkemdomnkccaaGreat
open Go Go.Vc
set_option linter.unusedSimpArgs false
set_option linter.unusedVariables false
theorem ZIf {xs : List (List Int)} (hl : (xs.length : Int) ≤ 1000000) (hr : ∀ b ∈ xs, (b.length : Int) ≤ 1048576) {i : Int} (h0 : 0 ≤ i) (h1 : i < (xs.length : Int)) :
    ZDT xs (sortRows (xs.take i.toNat), i) = some (.inl (sortRows (xs.take (i + 1).toNat), i + 1)) := by
  have hol : ((sortRows (xs.take i.toNat)).length : Int) = i := by rw [ZhO, List.length_take]; omega
  have hom : ∀ b ∈ sortRows (xs.take i.toNat), (b.length : Int) ≤ 1048576 := fun b hb => hr b (List.mem_of_mem_take (Zbd.1 hb))
  have hx := hr _ (ZW h0 h1)
  have hsrt := Zio (xs.take i.toNat)
  generalize hout : sortRows (xs.take i.toNat) = out at *
  have hok : ∀ {k : Int}, 0 ≤ k → k ≤ (out.length : Int) → (∀ y ∈ out.take k.toNat, lexC y (ix xs i) ≤ 0) → (∀ y ∈ out.drop k.toNat, lexC (ix xs i) y ≤ 0) →
      ZEh xs out i k = some (.inl (sortRows (xs.take (i + 1).toNat), i + 1)) := by
    intro k k0 k1 g1 g2
    have hins := ZsX (xs := xs.take i.toNat) (x := ix xs i) (k := k.toNat) hout.symm g1 g2
    rw [Zc3 h0 h1]
    have hlt : ((out.take k.toNat).length : Int) = k := by rw [List.length_take]; omega
    have hld : ((out.drop k.toNat).length : Int) = out.length - k := by rw [List.length_drop]; omega
    have hs0 : gSl out 0 k = some (out.take k.toNat) := by rw [Zbp (by omega) (by omega) (by omega)]; rfl
    have hs1 : gSl out k (out.length : Int) = some (out.drop k.toNat) := Zk3 k0 k1
    unfold ZEh
    rw [hs0]
    simp only [Option.bind_some]
    rw [Zdu (by simp only [List.length_nil]; omega) (by simp only [List.length_nil]; omega)]
    simp only [Option.bind_some, List.nil_append]
    rw [Zhr h0 h1]
    simp only [Option.bind_some]
    rw [Zvs (by omega)]
    simp only [Option.bind_some]
    rw [gApp1 (by omega) (by omega)]
    simp only [Option.bind_some]
    rw [hs1]
    simp only [Option.bind_some]
    rw [Zdu (by rw [List.length_append, List.length_singleton]; omega) (by rw [List.length_append, List.length_singleton]; omega)]
    simp only [Option.bind_some]
    rw [hins, wr64 (by omega) (by omega)]
  unfold ZDT
  have hc : decide (i < (xs.length : Int)) = true := dec_t h1
  simp only [hc, cond_true]
  rcases ZtH (B := ZEl xs out i) (fun k => k) (fun k => ¬ cmpL (ix out (k - 1)) (ix xs i) > 0) (i := out.length) (m := 0) (by omega) (fun k a b c => by
      have hr2 := hom _ (ZW (xs := out) (i := k - 1) (by omega) (by omega))
      have c' := Classical.not_not.1 c
      simp (disch := omega) only [pz, ZEl, Zeo]) with ⟨k, a, b, c, d, e⟩ | ⟨a, b⟩
  · rw [e]
    have hr2 := hom _ (ZW (xs := out) (i := k - 1) (by omega) (by omega))
    have hkk := hok (k := k) (by omega) (by omega) (fun y hy => ?_) (fun y hy => ?_)
    · refine Zd ?_
      simp (disch := omega) only [pz, ZEl, Zeo, hkk]
    · obtain ⟨j, j0, j1, rfl⟩ := Z5 hy
      have hj2 : j < k := by rw [List.length_take] at j1; omega
      rw [ZeB j0 hj2]
      by_cases hjk : j = k - 1
      · rw [hjk, Zdv]; omega
      · have hp := List.pairwise_iff_getElem.1 hsrt j.toNat (k - 1).toNat (by omega) (by omega) (by omega)
        have e1 : out[j.toNat]'(by omega) = ix out j := by have := Zau (xs := out) j0 (by omega); rw [List.getElem?_eq_getElem (by omega)] at this; exact Option.some.inj this
        have e2 : out[(k - 1).toNat]'(by omega) = ix out (k - 1) := by have := Zau (xs := out) (i := k - 1) (by omega) (by omega); rw [List.getElem?_eq_getElem (by omega)] at this; exact Option.some.inj this
        rw [e1, e2] at hp
        exact (ZhQ _ _ _ hp (by rw [Zdv]; omega)).1
    · obtain ⟨j, j0, j1, rfl⟩ := Z5 hy
      rw [List.length_drop] at j1
      rw [ZmC (by omega) j0]
      have hd := Classical.not_not.1 (d (k + j + 1) (by omega) (by omega))
      rw [show k + j + 1 - 1 = k + j by omega] at hd
      have hn := ZaP (ix out (k + j)) (ix xs i)
      rw [Zdv, Zdv] at hn
      rw [Zdv]; omega
  · rw [b]
    have hkk := hok (k := 0) (by omega) (by omega) (fun y hy => by simp at hy) (fun y hy => ?_)
    · refine Zd ?_
      simp (disch := omega) only [pz, ZEl, hkk]
    · obtain ⟨j, j0, j1, rfl⟩ := Z5 hy
      rw [show (0 : Int).toNat = 0 from rfl, List.drop_zero] at *
      have hd := Classical.not_not.1 (a (j + 1) (by omega) (by omega))
      rw [show j + 1 - 1 = j by omega] at hd
      have hn := ZaP (ix out j) (ix xs i)
      rw [Zdv, Zdv] at hn
      rw [Zdv]; omega
theorem ZJt {xs : List (List Int)} (hl : (xs.length : Int) ≤ 1000000) (hr : ∀ b ∈ xs, (b.length : Int) ≤ 1048576) : ZFd xs = some (sortRows xs) := by
  unfold ZFd
  have e0 : (([] : List (List Int)), (0 : Int)) = (fun j : Int => (sortRows (xs.take j.toNat), j)) 0 := by simp [sortRows]
  rw [e0, ZH (B := ZDT xs) (fun j => (sortRows (xs.take j.toNat), j)) (i := 0) (n := xs.length) (by omega) fun j a b => ZIf hl hr a b]
  refine Zd ?_
  unfold ZDT
  have hc : decide ((xs.length : Int) < (xs.length : Int)) = false := dec_f (by omega)
  simp only [hc, cond_false, Int.toNat_natCast, List.take_length]
def made (p : Int) (xs : List (List Int)) : ZaT × Int := if (xs.length : Int) > 128 then (ZaT.mk 0 [], 5) else (ZaT.mk p (sortRows xs), 0)
theorem ZI3 {p : Int} {xs : List (List Int)} (hcp : (xs.length : Int) ≤ 128 → Zbc xs = some xs) (hr : ∀ b ∈ xs, (b.length : Int) ≤ 1048576) : ZEW p xs = some (made p xs) := by
  unfold ZEW made
  by_cases h : (xs.length : Int) > 128
  · simp (disch := omega) only [pz]
    rw [if_pos h]
  · have hs : Zen xs (fun y0 y1 => Zam y0 y1) = some (sortRows xs) := by
      unfold Zen
      rw [if_pos ⟨fun a ha c _ => by rw [Zdv]; exact ZcA (by have := hr a ha; omega), by omega⟩]
    have hcp' := hcp (by omega)
    simp (disch := omega) only [pz, hcp', hs]
    rw [if_neg h]
end Go.Proofs.YtapkemdomnkccaaGreat
namespace Go.Proofs.YtapkemdomnkccaaGreat
set_option linter.unusedVariables false
open Go Go.Vc
set_option linter.unusedSimpArgs false
set_option linter.unusedVariables false
set_option linter.unusedSectionVars false
theorem ZJC {xs : List (List Int)} (hs : Sz2 xs) : Zbc xs = some xs := by
  unfold Zbc
  have hl := hs.1
  have hgo := ZH (B := Zdh xs) (fun k => (xs.take k.toNat, k)) (i := 0) (n := xs.length) (by omega) fun k h0 h1 => by
    have hr := hs.row h0 h1
    have ht : (xs.take k.toNat).length ≤ 1048576 := by rw [List.length_take]; omega
    simp (disch := omega) only [pz, Zdh, Zjb, Zc3 h0 h1]
  have e0 : (([] : List (List Int)), (0 : Int)) = (fun k : Int => (xs.take k.toNat, k)) 0 := by simp
  rw [e0, hgo]
  refine Zd ?_
  simp (disch := omega) only [pz, Zdh]
theorem ZKZ {l : List Int} {n : Int} (hl : (l.length : Int) ≤ 1048576) (n0 : 0 ≤ n) (n1 : n ≤ 1048576) : IsQ (ZFw l n) (Rising l 0 (n - 1)) := by
  unfold ZFw
  have hz : ∀ k, 0 ≤ k → k < (l.length : Int) → (∀ j, 0 ≤ j → j < k → (0 ≤ ix l j ∧ ix l j ≤ n - 1) ∧ (0 < j → ix l (j - 1) < ix l j)) → ZDw l n ((if k = 0 then -1 else ix l (k - 1)), k) = some (bif decide ((0 ≤ ix l k ∧ ix l k ≤ n - 1) ∧ (0 < k → ix l (k - 1) < ix l k)) then .inl (ix l k, k + 1) else .inr false) := by
    intro k h0 h1 hp
    by_cases hk : k = 0
    · subst hk
      rw [if_pos rfl]
      by_cases hg : 0 ≤ ix l 0 ∧ ix l 0 ≤ n - 1
      · simp (disch := omega) only [pz, ZDw, ZK]
      · simp (disch := omega) only [pz, ZDw, ZK]
    · rw [if_neg hk]
      have hq := (hp (k - 1) (by omega) (by omega)).1
      by_cases hg : ix l (k - 1) + 1 ≤ ix l k ∧ ix l k ≤ n - 1
      · simp (disch := omega) only [pz, ZDw, ZK]
      · simp (disch := omega) only [pz, ZDw, ZK]
  rcases Zcm (B := ZDw l n) (fun k => ((if k = 0 then -1 else ix l (k - 1)), k)) (fun k => ¬ ∀ j, 0 ≤ j → j ≤ k → (0 ≤ ix l j ∧ ix l j ≤ n - 1) ∧ (0 < j → ix l (j - 1) < ix l j)) (i := 0) (n := l.length) (by omega) (fun k h0 h1 h2 => by
    have h2' := Classical.not_not.1 h2
    have := hz k h0 h1 fun j a b => h2' j a (by omega)
    rw [this, decide_eq_true (h2' k h0 (Int.le_refl k))]
    simp only [cond_true]
    rw [if_neg (by omega), show k + 1 - 1 = k by omega]) with ⟨k, h1, h2, h3, h4, h5⟩ | ⟨h1, h2⟩
  · have hb : ∀ j, 0 ≤ j → j < k → (0 ≤ ix l j ∧ ix l j ≤ n - 1) ∧ (0 < j → ix l (j - 1) < ix l j) := fun j a b => Classical.not_not.1 (h4 j a b) j a (Int.le_refl j)
    have hk : ¬ ((0 ≤ ix l k ∧ ix l k ≤ n - 1) ∧ (0 < k → ix l (k - 1) < ix l k)) := fun h => h3 fun j a b => by
      by_cases e : j = k
      · rw [e]; exact h
      · exact hb j a (by omega)
    have e0 : ((-1 : Int), (0 : Int)) = (fun k : Int => ((if k = 0 then -1 else ix l (k - 1)), k)) 0 := rfl
    rw [e0, h5, Zd (r := false) (by rw [hz k h1 h2 hb, decide_eq_false hk]; rfl)]
    exact IsQ.f fun h => hk (h k h1 h2)
  · have e0 : ((-1 : Int), (0 : Int)) = (fun k : Int => ((if k = 0 then -1 else ix l (k - 1)), k)) 0 := rfl
    rw [e0, h2, Zd (r := true) (by simp (disch := omega) only [pz, ZDw])]
    exact IsQ.t fun k a b => Classical.not_not.1 (h1 k a b) k a (Int.le_refl k)
def catO (L : List (List (List Int))) (l : List Int) : List (List Int) := l.flatMap fun e => ix L e
theorem ZJS {L : List (List (List Int))} {l : List Int} {i : Int} (i0 : 0 ≤ i) (i1 : i < (l.length : Int)) : catO L (l.take (i + 1).toNat) = catO L (l.take i.toNat) ++ ix L (ix l i) := by
  unfold catO
  rw [Zc3 i0 i1, List.flatMap_append]; simp
theorem ZHd {L : List (List (List Int))} (hL : ∀ o ∈ L, (o.length : Int) ≤ 720) : ∀ (l : List Int), (∀ e ∈ l, 0 ≤ e ∧ e < (L.length : Int)) → ((catO L l).length : Int) ≤ 720 * l.length
  | [], _ => by simp [catO]
  | e :: l, h => by
    have h1 := ZHd hL l fun x hx => h x (List.mem_cons_of_mem _ hx)
    have h2 := h e List.mem_cons_self
    have h3 := hL _ (ZW h2.1 h2.2)
    have e1 : catO L (e :: l) = ix L e ++ catO L l := rfl
    rw [e1, List.length_append, List.length_cons]
    omega
theorem ZKK {L : List (List (List Int))} {l : List Int} (h : ∀ e ∈ l, 0 ≤ e ∧ e < (L.length : Int)) {b : List Int} (hb : b ∈ catO L l) : ∃ o ∈ L, b ∈ o := by
  obtain ⟨e, he, hb'⟩ := List.mem_flatMap.1 hb
  exact ⟨_, ZW (h e he).1 (h e he).2, hb'⟩
theorem Rising.rng {l : List Int} {n : Int} (h : Rising l 0 (n - 1)) : ∀ e ∈ l, 0 ≤ e ∧ e < n := fun e he => by
  obtain ⟨i, a, b, rfl⟩ := Z5 he
  have := (h i a b).1
  omega
section
variable {g : ZaB} {n k : Int} {L : List (List (List Int))} {l : List Int} (hL : ∀ o ∈ L, OrbOk n k o) (k1 : k ≤ 32) (hll : (l.length : Int) ≤ 2000) (hr : Rising l 0 ((L.length : Int) - 1))
include hL k1 hll hr
theorem ZHi {ρ : Type} {B : List (List Int) × Int → Option ((List (List Int) × Int) ⊕ ρ)} (hB : ∀ i xs, 0 ≤ i → i < (l.length : Int) → (xs.length : Int) ≤ 1440000 → B (xs, i) = some (.inl (xs ++ ix L (ix l i), i + 1))) : loop B (([] : List (List Int)), 0) = loop B (catO L l, (l.length : Int)) := by
  have w := ZH (B := B) (fun i => (catO L (l.take i.toNat), i)) (i := 0) (n := l.length) (by omega) fun i i0 i1 => by
    have hlen := ZHd (fun o ho => (hL o ho).len) (l.take i.toNat) fun e he => hr.rng e (List.mem_of_mem_take he)
    rw [List.length_take] at hlen
    rw [hB i _ i0 i1 (by omega), ZJS i0 i1]
  simpa [catO] using w
theorem ZGo : ((catO L l).length : Int) ≤ 1440000 ∧ ∀ b ∈ catO L l, (b.length : Int) ≤ 32 := by
  have hlen := ZHd (fun o ho => (hL o ho).len) l fun e he => hr.rng e he
  refine ⟨by omega, fun b hb => ?_⟩
  obtain ⟨o, ho, hbo⟩ := ZKK (fun e he => hr.rng e he) hb
  have := ((hL o ho).set b hbo).2
  omega
theorem ZKo : loop (ZD0 g l L) (([] : List (List Int)), 0) = some (made g.Degree (catO L l)) := by
  obtain ⟨b1, b2⟩ := ZGo hL k1 hll hr
  rw [ZHi hL k1 hll hr fun i xs i0 i1 hx => by
    have hi := hr.rng _ (ZW i0 i1)
    have ho := (hL _ (ZW hi.1 hi.2)).len
    have ha : gApp 24 xs (ix L (ix l i)) = some (xs ++ ix L (ix l i)) := Zdu (by omega) (by omega)
    simp (disch := omega) only [pz, ZD0, ha]]
  refine Zd ?_
  unfold made
  by_cases h : ((catO L l).length : Int) > 128
  · simp (disch := omega) only [pz, ZD0]
    rw [if_pos h]
  · simp (disch := omega) only [pz, ZD0, ZJt (xs := catO L l) (by omega) fun b hb => by have := b2 b hb; omega]
    rw [if_neg h]
theorem ZID : loop (ZEx g l L) (([] : List (List Int)), 0) = some (made g.Degree (catO L l)) := by
  obtain ⟨b1, b2⟩ := ZGo hL k1 hll hr
  rw [ZHi hL k1 hll hr fun i xs i0 i1 hx => by
    have hi := hr.rng _ (ZW i0 i1)
    have ho := (hL _ (ZW hi.1 hi.2)).len
    have ha : gApp 24 xs (ix L (ix l i)) = some (xs ++ ix L (ix l i)) := Zdu (by omega) (by omega)
    simp (disch := omega) only [pz, ZEx, ha]]
  refine Zd ?_
  have hs := ZI3 (p := g.Degree) (xs := catO L l) (fun h => ZJC ⟨by omega, fun b hb => by have := b2 b hb; omega⟩) fun b hb => by have := b2 b hb; omega
  simp (disch := omega) only [pz, ZEx, hs]
end
theorem ZJb {p : Int} {xs : List (List Int)} (h : ∀ b ∈ xs, (b.length : Int) ≤ 32) : Sz2 (made p xs).1.Blocks := by
  unfold made
  by_cases g : (xs.length : Int) > 128
  · rw [if_pos g]; exact ⟨by simp, by simp⟩
  · rw [if_neg g]
    exact ⟨by dsimp only; rw [ZhO]; omega, fun b hb => by have := h b (Zbd.1 hb); omega⟩
theorem ZHW {g : ZaB} (hs : Sz2 g.Elements) (hg : ValidGr g) {ks : List Int} (hl : (ks.length : Int) ≤ 2) (hk : ∀ x ∈ ks, 0 ≤ x ∧ x ≤ g.Degree) :
    ZEw g ks = some (if ∀ x ∈ ks, bin g.Degree.toNat x.toNat ≤ 2000 then 0 else 5) := by
  have n0 := hg.1.n0; have n1 := hg.1.n1
  have e : ZaB.mk g.Degree g.Elements = g := rfl
  unfold ZEw
  have w := ZH (B := ZFj g ks) (fun k => k) (i := 0) (n := ks.length) (by omega) fun i i0 i1 => by
    have hx := hk _ (ZW i0 i1)
    simp (disch := omega) only [pz, ZFj, ZK]
  simp (disch := omega) only [pz, e, (ZqT hs).eq hg]
  rw [w]
  refine Zd ?_
  have hin : loop (ZDV g ks) 0 = some (.inr (if ∀ x ∈ ks, bin g.Degree.toNat x.toNat ≤ 2000 then 0 else 5)) := by
    rcases Zcm (B := ZDV g ks) (fun k => k) (fun k => ¬ bin g.Degree.toNat (ix ks k).toNat ≤ 2000) (i := 0) (n := ks.length) (by omega) (fun k h0 h1 h2 => by
      have hx := hk _ (ZW h0 h1)
      have hc := (chooseI (n := g.Degree) (k := ix ks k) (by omega) n1 hx.1).2
      have h2' := Classical.not_not.1 h2
      simp (disch := omega) only [pz, ZDV, hc]) with ⟨k, h1, h2, h3, h4, h5⟩ | ⟨h1, h2⟩
    · have hx := hk _ (ZW h1 h2)
      have hc := (chooseI (n := g.Degree) (k := ix ks k) (by omega) n1 hx.1).2
      rw [h5, if_neg fun hh => h3 (hh _ (ZW h1 h2))]
      refine Zd ?_
      simp (disch := omega) only [pz, ZDV, hc]
    · rw [h2, if_pos fun x hx => by obtain ⟨i, a, b, rfl⟩ := Z5 hx; exact Classical.not_not.1 (h1 i a b)]
      refine Zd ?_
      simp (disch := omega) only [pz, ZDV]
  simp (disch := omega) only [pz, ZFj, hin]
end Go.Proofs.YtapkemdomnkccaaGreat
