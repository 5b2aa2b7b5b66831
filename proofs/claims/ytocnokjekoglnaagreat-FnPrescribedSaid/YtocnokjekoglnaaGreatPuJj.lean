import Derived.Test.YtocnokjekoglnaaGreatPuFam
import Derived.Test.YtocnokjekoglnaaGreatPuJa
import Derived.Test.YtocnokjekoglnaaGreatPuDrE
import Derived.Test.YtocnokjekoglnaaGreatPuJh
import Derived.Test.YtocnokjekoglnaaGreatPuJc
import Derived.KernelRfl
import Derived.Test.YtocnokjekoglnaaGreatPuJi
namespace Go.Proofs.YtocnokjekoglnaaGreat
open Go Go.Vc
set_option linter.unusedSimpArgs false
set_option linter.unusedVariables false
def Bytes (code : List Int) : Prop := code.length ≤ 1048576 ∧ ∀ x ∈ code, 0 ≤ x ∧ x ≤ 255
structure Src (code : List Int) (n : Int) (s : Za) : Prop where
  c : s.qcode = code
  a0 : 0 ≤ s.qat
  a1 : s.qat ≤ n
theorem Src.mono {code : List Int} {n m : Int} {s : Za} (h : Src code n s) (hm : n ≤ m) : Src code m s := ⟨h.c, h.a0, by have := h.a1; omega⟩
section
variable {code : List Int} {n : Int} {s : Za}
theorem ZqQ : ∃ s, ZeD code = some s ∧ s.qcode = code ∧ Src code 0 s := ⟨_, rfl, rfl, rfl, Int.le_refl _, Int.le_refl _⟩
theorem Zku (h : Src code n s) (hn : n ≤ 1000000000) {b : Int} (b0 : 0 ≤ b) (b1 : b ≤ 255) : ∃ x s', Zco s b = some (x, s') ∧ (0 ≤ x ∧ x ≤ 255) ∧ Src code (n + 1) s' := by
  have a0 := h.a0; have a1 := h.a1
  have ew : IntKind.i64.wrap (s.qat + 1) = s.qat + 1 := wr64 (by omega) (by omega)
  unfold Zco
  rw [ew]
  cases decide (s.qat + 1 ≤ (s.qcode.length : Int))
  · refine ⟨_, _, rfl, ?_, h.c, by show 0 ≤ s.qat + 1; omega, by show s.qat + 1 ≤ n + 1; omega⟩
    generalize BitVec.ofInt IntKind.u64.bits _ = v
    have h1 : (v &&& BitVec.ofInt IntKind.u64.bits 255).toNat ≤ 255 := by
      rw [BitVec.toNat_and]
      exact Nat.le_trans Nat.and_le_right (by decide)
    generalize (v &&& BitVec.ofInt IntKind.u64.bits 255).toNat = z at h1 ⊢
    have h2 : IntKind.u64.wrap (z : Int) = (z : Int) := by
      have : IntKind.u64.wrap (z : Int) = (z : Int) % 18446744073709551616 := rfl
      rw [this]; omega
    rw [h2, wr64 (by omega) (by omega)]
    omega
  · exact ⟨_, _, rfl, ⟨b0, b1⟩, h.c, by show 0 ≤ s.qat + 1; omega, by show s.qat + 1 ≤ n + 1; omega⟩
theorem Zju (hb : Bytes code) (h : Src code n s) (hn : n ≤ 1000000000) : ∃ x s', ZbO s = some (x, s') ∧ (0 ≤ x ∧ x ≤ 255) ∧ Src code (n + 1) s' := by
  have a0 := h.a0; have a1 := h.a1; have hc := h.c
  unfold ZbO
  by_cases hl : s.qat < (s.qcode.length : Int)
  · have hm : 0 ≤ ix s.qcode s.qat ∧ ix s.qcode s.qat ≤ 255 := hb.2 (ix s.qcode s.qat) (by rw [← hc]; exact Zl a0 hl)
    rw [decide_eq_true hl, Zax a0 hl]
    simp only [cond_true, Option.bind_some]
    rw [wr64 (by omega) (by omega)]
    exact Zku h hn hm.1 hm.2
  · rw [decide_eq_false hl]
    exact Zku h hn (by omega) (by omega)
theorem Z0 (hb : Bytes code) (h : Src code n s) (hn : n ≤ 900000000) {k : Int} : ∃ x s', ZG s k = some (x, s') ∧ (0 ≤ x ∧ (1 ≤ k → x < k) ∧ x ≤ 65535) ∧ Src code (n + 2) s' := by
  unfold ZG
  by_cases hk : k ≤ 1
  · rw [decide_eq_true hk]
    exact ⟨0, s, rfl, by omega, h.mono (by omega)⟩
  · rw [decide_eq_false hk]
    obtain ⟨x, s', e1, hx, h'⟩ := Zju hb h (by omega)
    have e1' : ZbO (Za.mk s.qcode s.qat s.qseed) = some (x, s') := e1
    simp only [cond_false, e1', Option.bind_some]
    have tm : ∀ z : Int, 0 ≤ z → z ≤ 65535 → 0 ≤ Int.tmod z k ∧ (1 ≤ k → Int.tmod z k < k) ∧ Int.tmod z k ≤ 65535 := fun z h0 h1 => by
      have := Int.tmod_nonneg k h0
      have h2 := Int.tmod_lt_of_pos z (show 0 < k by omega)
      have h3 : Int.tmod z k ≤ z := by
        rw [Int.tmod_eq_emod_of_nonneg h0]
        by_cases hz : z < k
        · rw [Int.emod_eq_of_lt h0 hz]; omega
        · have := Int.emod_lt_of_pos z (show 0 < k by omega); omega
      omega
    by_cases hk2 : k > 200
    · rw [decide_eq_true hk2]
      have h2 : Src code (n + 1) (Za.mk s.qcode s'.qat s'.qseed) := ⟨h.c, h'.a0, h'.a1⟩
      obtain ⟨y, s2, e2, hy, h3⟩ := Zju hb h2 (by omega)
      simp only [cond_true, e2, Option.bind_some, ZfB (show ¬ k = 0 by omega)]
      rw [wr64 (x := x * 256) (by omega) (by omega), wr64 (x := x * 256 + y) (by omega) (by omega)]
      exact ⟨_, _, rfl, tm _ (by omega) (by omega), h.c, h3.a0, by have := h3.a1; show s2.qat ≤ n + 2; omega⟩
    · rw [decide_eq_false hk2]
      simp only [cond_false, ZfB (show ¬ k = 0 by omega), Option.bind_some]
      exact ⟨_, _, rfl, tm _ (by omega) (by omega), h.c, h'.a0, by have := h'.a1; show s'.qat ≤ n + 2; omega⟩
theorem ZiW (hb : Bytes code) (h : Src code n s) (hn : n ≤ 900000000) {k : Int} : ∃ x s', ZbQ s k = some (x, s') ∧ Src code (n + 2) s' := by
  obtain ⟨x, s', e1, hx, h'⟩ := Z0 hb h hn (k := k)
  unfold ZbQ
  have e1' : ZG (Za.mk s.qcode s.qat s.qseed) k = some (x, s') := e1
  simp only [e1', Option.bind_some]
  exact ⟨_, _, rfl, h.c, h'.a0, h'.a1⟩
theorem Zaj (hb : Bytes code) (h : Src code n s) (hn : n ≤ 900000000) {l : List Int} (hl : 1 ≤ (l.length : Int)) (hl2 : (l.length : Int) ≤ 60000) : ∃ x s', ZQ s l = some (x, s') ∧ x ∈ l ∧ Src code (n + 2) s' := by
  obtain ⟨x, s', e1, hx, h'⟩ := Z0 hb h hn (k := (l.length : Int))
  unfold ZQ
  have e1' : ZG (Za.mk s.qcode s.qat s.qseed) (l.length : Int) = some (x, s') := e1
  have hi := Zax (xs := l) (i := x) (by omega) (by omega)
  simp only [e1', Option.bind_some, hi]
  exact ⟨_, _, rfl, Zl (by omega) (by omega), h.c, h'.a0, h'.a1⟩
theorem Src.of {m : Int} {s s' : Za} (h : Src code n s) (h' : Src code m s') : Src code m (Za.mk s.qcode s'.qat s'.qseed) := ⟨h.c, h'.a0, h'.a1⟩
end
theorem Zjt {σ β : Type} {B : σ → Option (σ ⊕ β)} {I : Nat → σ → Prop} {Q : β → Prop} (step : ∀ n s, I n s → (∃ s' m, B s = some (.inl s') ∧ m < n ∧ I m s') ∨ (∃ r, B s = some (.inr r) ∧ Q r)) : ∀ (n : Nat) (s : σ), I n s → ∃ r, loop B s = some r ∧ Q r := by
  intro n
  induction n using Nat.strongRecOn with
  | ind n ih =>
    intro s hs
    rcases step n s hs with ⟨s', m, e, hm, hI⟩ | ⟨r, e, hq⟩
    · obtain ⟨r, h1, h2⟩ := ih m hm s' hI
      exact ⟨r, by rw [ZE e]; exact h1, h2⟩
    · exact ⟨r, Ze e, hq⟩
section
variable {code : List Int} {n : Int} {s : Za}
theorem Zn9 (hb : Bytes code) (h : Src code n s) (hn : n ≤ 100000000) : ∃ x s', ZbW s = some (x, s') ∧ I64 x ∧ Src code (n + 10) s' := by
  unfold ZbW
  obtain ⟨x, s1, e1, h1⟩ := ZiW hb h (by omega) (k := 8)
  have e1' : ZbQ (Za.mk s.qcode s.qat s.qseed) 8 = some (x, s1) := e1
  simp only [e1', Option.bind_some]
  have g1 := h.of h1
  cases x
  · obtain ⟨y, s2, e2, hy, h2⟩ := Z0 hb g1 (by omega) (k := 5)
    simp only [cond_false, e2, Option.bind_some]
    rw [wr64 (by omega) (by omega)]
    exact ⟨_, _, rfl, by unfold I64; omega, (h.of h2).mono (by omega)⟩
  · obtain ⟨y, s2, e2, hy, h2⟩ := Zaj hb g1 (by omega) (l := [0, -1, 2000, 2001]) (by simp) (by simp)
    simp only [cond_true, e2, Option.bind_some]
    refine ⟨_, _, rfl, ?_, (h.of h2).mono (by omega)⟩
    unfold I64
    simp at hy; omega
theorem ZpC (hb : Bytes code) (h : Src code n s) (hn : n ≤ 100000000) : ∃ x s', ZcI s = some (x, s') ∧ I64 x ∧ Src code (n + 10) s' := by
  unfold ZcI
  obtain ⟨x, s1, e1, hx, h1⟩ := Z0 hb h (by omega) (k := 8)
  have e1' : ZG (Za.mk s.qcode s.qat s.qseed) 8 = some (x, s1) := e1
  simp only [e1', Option.bind_some]
  have g1 := h.of h1
  cases (x == 0)
  · cases (x == 1)
    · obtain ⟨y, s2, e2, hy, h2⟩ := Z0 hb g1 (by omega) (k := 1000)
      simp only [cond_false, e2, Option.bind_some]
      rw [wr64 (by omega) (by omega)]
      exact ⟨_, _, rfl, by unfold I64; omega, (h.of h2).mono (by omega)⟩
    · obtain ⟨y, s2, e2, hy, h2⟩ := Z0 hb g1 (by omega) (k := 30)
      simp only [cond_true, cond_false, e2, Option.bind_some]
      rw [wr64 (by omega) (by omega)]
      exact ⟨_, _, rfl, by unfold I64; omega, (h.of h2).mono (by omega)⟩
  · obtain ⟨y, s2, e2, hy, h2⟩ := Zaj hb g1 (by omega) (l := [0, 1, -1, 20000, 20001]) (by simp) (by simp)
    simp only [cond_true, e2, Option.bind_some]
    refine ⟨_, _, rfl, ?_, (h.of h2).mono (by omega)⟩
    unfold I64
    simp at hy; omega
end
end Go.Proofs.YtocnokjekoglnaaGreat
namespace Go.Proofs.YtocnokjekoglnaaGreat
set_option linter.unusedVariables false
open Go Go.Vc
set_option linter.unusedSimpArgs false
set_option maxRecDepth 100000
theorem ZgH {n : Int} (h0 : 1 ≤ n) (h1 : n ≤ 13) : ∃ g, ZaR n [1] = some g ∧ Sz2 g.Elements := by
  have h := List.all_eq_true.1 ZpM n (by simp; omega)
  unfold affT at h
  split at h
  · rename_i g e; exact ⟨g, ZjM _ _ _ e, ZjQ h⟩
  · cases h
theorem Zji {p e : Int} (h : frobT p e = true) : ∃ r, Zbp p e = some r ∧ Sz2 r.1.Elements := by
  unfold frobT at h
  split at h
  · rename_i g e; exact ⟨g, Zo9 _ _ _ e, ZjQ h⟩
  · cases h
theorem ZcY {n a b : Int} (h : turnT n a b = true) : ∃ r, Zaw n a b = some r ∧ Vc.Perm r n := by
  unfold turnT at h
  split at h
  · rename_i r e
    unfold permB at h
    rw [Bool.and_eq_true, Bool.and_eq_true, List.all_eq_true] at h
    exact ⟨r, Zoy _ _ _ _ e, of_decide_eq_true h.1, fun x hx => by have := h.2.1 x hx; simpa using this, of_decide_eq_true h.2.2⟩
  · cases h
section
variable {code : List Int} {n : Int} {s : Za}
theorem Znn (hb : Bytes code) (h : Src code n s) (hn : n ≤ 100000000) {m : Int} (m0 : 1 ≤ m) (m1 : m ≤ 32) : ∃ p s', ZdI s m = some (p, s') ∧ Vc.Perm p m ∧ Src code (n + 64) s' := by
  unfold ZdI
  rw [Zgl (by omega) m1]
  simp only [Option.bind_some]
  rw [wr64 (by omega) (by omega)]
  have key := Zjt (B := Zca s) (Q := fun r => Vc.Perm r.1 m ∧ Src code (n + 64) r.2)
    (I := fun k st => ∃ (i a b : Int) (xs : List Int), st = (i, a, b, xs) ∧ 0 ≤ i ∧ i ≤ m - 1 ∧ k = i.toNat ∧ Vc.Perm xs m ∧ Src code (n + 2 * (m - 1 - i)) (Za.mk s.qcode a b))
    (by
      rintro k st ⟨i, a, b, xs, rfl, i0, i1, hk, hp, hsrc⟩
      by_cases hi : i > 0
      · left
        obtain ⟨r, s', e1, hr, h'⟩ := Z0 hb hsrc (by omega) (k := i + 1)
        have hr2 := hr.2.1 (by omega)
        have hl := hp.len
        have g1 := Zax (xs := xs) (i := i) (by omega) (by omega)
        have g2 := Zax (xs := xs) (i := r) (by omega) (by omega)
        have g3 := Zax (xs := xs.set i.toNat (ix xs r)) (i := r) (by omega) (by rw [List.length_set]; omega)
        have hperm : ((xs.set i.toNat (ix xs r)).set r.toNat (ix xs i)).Perm xs := by
          have q1 : xs[i.toNat]'(by omega) = ix xs i := by
            have := Zq (xs := xs) (i := i) (by omega) (by omega)
            rw [List.getElem?_eq_getElem (by omega)] at this
            exact Option.some.inj this
          have q2 : xs[r.toNat]'(by omega) = ix xs r := by
            have := Zq (xs := xs) (i := r) (by omega) (by omega)
            rw [List.getElem?_eq_getElem (by omega)] at this
            exact Option.some.inj this
          have := List.set_set_perm (as := xs) (i := i.toNat) (j := r.toNat) (by omega) (by omega)
          rw [q1, q2] at this
          exact this
        refine ⟨(i - 1, s'.qat, s'.qseed, (xs.set i.toNat (ix xs r)).set r.toNat (ix xs i)), (i - 1).toNat, ?_, by omega, i - 1, s'.qat, s'.qseed, _, rfl, by omega, by omega, rfl, ⟨by rw [hperm.length_eq]; exact hl, fun x hx => hp.rng x (hperm.mem_iff.1 hx), hperm.nodup_iff.2 hp.nd⟩, ⟨h.c, h'.a0, by have := h'.a1; show s'.qat ≤ _; omega⟩⟩
        unfold Zca
        simp only [decide_eq_true hi, cond_true]
        rw [wr64 (by omega) (by omega)]
        simp only [e1, Option.bind_some, g1, g2, g3]
        rw [wr64 (by omega) (by omega)]
      · right
        refine ⟨(xs, Za.mk s.qcode a b), ?_, hp, Src.mono (m := n + 64) hsrc (by omega)⟩
        unfold Zca
        simp only [decide_eq_false hi, cond_false])
    (m - 1).toNat _ ⟨m - 1, s.qat, s.qseed, idP m, rfl, by omega, by omega, rfl, Znx m (by omega), ⟨h.c, h.a0, by have := h.a1; show s.qat ≤ _; omega⟩⟩
  obtain ⟨⟨p, s'⟩, e, h1, h2⟩ := key
  exact ⟨p, s', e, h1, h2⟩
theorem Zmf (hb : Bytes code) (h : Src code n s) (hn : n ≤ 10000000) : ∃ m l s', Zcj s = some (m, l, s') ∧ GOk m l ∧ Src code (n + 400) s' := by
  unfold Zcj
  obtain ⟨a, s1, e1, ha, h1⟩ := Z0 hb h (by omega) (k := 8)
  have e1' : ZG (Za.mk s.qcode s.qat s.qseed) 8 = some (a, s1) := e1
  have g1 := h.of h1
  obtain ⟨b, s2, e2, hb2, h2⟩ := Z0 hb g1 (by omega) (k := 4)
  have e2' : ZG (Za.mk s.qcode s1.qat s1.qseed) 4 = some (b, s2) := e2
  have g2 := h.of h2
  have ha2 := ha.2.1 (by omega)
  have hw : IntKind.i64.wrap (1 + a) = a + 1 := by rw [wr64 (by omega) (by omega)]; omega
  have hw2 : IntKind.i64.wrap (a + 1 - 1) = a + 1 - 1 := wr64 (by omega) (by omega)
  simp only [e1', e2', Option.bind_some, hw, hw2]
  cases (b == 0)
  · cases (b == 1)
    · cases (b == 2)
      · obtain ⟨c, s3, e3, hc, h3⟩ := Z0 hb g2 (by omega) (k := 5)
        have g3 := h.of h3
        obtain ⟨d, s4, e4, hd, h4⟩ := Z0 hb g3 (by omega) (k := 3)
        have g4 := h.of h4
        have e4' : ZG (Za.mk s.qcode s3.qat s3.qseed) 3 = some (d, s4) := e4
        have hc2 := hc.2.1 (by omega)
        have hd2 := hd.2.1 (by omega)
        simp only [cond_false, e3, e4', Option.bind_some]
        have hw3 : IntKind.i64.wrap (1 + c) = c + 1 := by rw [wr64 (by omega) (by omega)]; omega
        have key := Zjt (B := Zb3 s (c, s3)) (Q := fun r => r.1 = c + 1 ∧ GOk (c + 1) r.2.1 ∧ Src code (n + 400) r.2.2)
          (I := fun k st => ∃ (l : List (List Int)) (i a b : Int), st = (l, i, a, b) ∧ 0 ≤ i ∧ i ≤ d ∧ k = i.toNat ∧ (l.length : Int) = d - i ∧ (∀ p ∈ l, Vc.Perm p (c + 1)) ∧ Src code (n + 8 + 64 * (d - i)) (Za.mk s.qcode a b))
          (by
            rintro k st ⟨l, i, a, b, rfl, i0, i1, hk, hl, hp, hsrc⟩
            by_cases hi : i > 0
            · left
              obtain ⟨p, s', e5, hp5, h'⟩ := Znn hb hsrc (by omega) (m := c + 1) (by omega) (by omega)
              refine ⟨(l ++ [p], i - 1, s'.qat, s'.qseed), (i - 1).toNat, ?_, by omega, l ++ [p], i - 1, s'.qat, s'.qseed, rfl, by omega, by omega, rfl, by rw [List.length_append]; simp; omega, fun x hx => ?_, ⟨h.c, h'.a0, by have := h'.a1; show s'.qat ≤ _; omega⟩⟩
              · unfold Zb3
                simp only [decide_eq_true hi, cond_true, hw3, e5, Option.bind_some]
                rw [gApp1 (by omega) (by omega)]
                simp only [Option.bind_some]
                rw [wr64 (by omega) (by omega)]
              · rcases List.mem_append.1 hx with hx | hx
                · exact hp x hx
                · rw [List.mem_singleton.1 hx]; exact hp5
            · right
              refine ⟨(IntKind.i64.wrap (1 + c), l, Za.mk s.qcode a b), ?_, hw3, ⟨by omega, by omega, by show (l.length : Int) ≤ _; omega, hp⟩, Src.mono (m := n + 400) hsrc (by omega)⟩
              unfold Zb3
              simp only [decide_eq_false hi, cond_false])
          d.toNat _ ⟨[], d, s4.qat, s4.qseed, rfl, by omega, Int.le_refl _, rfl, by simp, by simp, ⟨h.c, h4.a0, by have := h4.a1; show s4.qat ≤ _; omega⟩⟩
        obtain ⟨⟨m, l, s'⟩, e, h5, h6, h7⟩ := key
        have h5' : m = c + 1 := h5
        exact ⟨m, l, s', e, by rw [h5']; exact h6, h7⟩
      · obtain ⟨c, s3, e3, hc, h3⟩ := Zaj hb g2 (by omega) (l := [5, 7, 11, 13]) (by simp) (by simp)
        have g3 := h.of h3
        obtain ⟨d, s4, e4, hd, h4⟩ := Zaj hb g3 (by omega) (l := [2, 3, 4]) (by simp) (by simp)
        have e4' : ZQ (Za.mk s.qcode s3.qat s3.qseed) [2, 3, 4] = some (d, s4) := e4
        have hc1 : 1 ≤ c ∧ c ≤ 13 := by simp at hc; omega
        obtain ⟨r1, t1, p1⟩ := ZcY (List.all_eq_true.1 Zhr c (by simp; omega))
        obtain ⟨r2, t2, p2⟩ := ZcY (List.all_eq_true.1 (List.all_eq_true.1 Zp7 c hc) d hd)
        simp only [cond_false, cond_true, e3, t1, e4', t2, Option.bind_some]
        refine ⟨_, _, _, rfl, ⟨hc1.1, by omega, by simp, fun x hx => ?_⟩, (h.of h4).mono (by omega)⟩
        rcases List.mem_cons.1 hx with rfl | hx
        · exact p1
        · rw [List.mem_singleton.1 hx]; exact p2
    · obtain ⟨r1, t1, p1⟩ := ZcY (List.all_eq_true.1 Zhr (a + 1) (by simp; omega))
      obtain ⟨r2, t2, p2⟩ := ZcY (List.all_eq_true.1 ZpQ (a + 1) (by simp; omega))
      simp only [cond_false, cond_true, t1, t2, Option.bind_some]
      refine ⟨_, _, _, rfl, ⟨by omega, by omega, by simp, fun x hx => ?_⟩, g2.mono (by omega)⟩
      rcases List.mem_cons.1 hx with rfl | hx
      · exact p1
      · rw [List.mem_singleton.1 hx]; exact p2
  · obtain ⟨r1, t1, p1⟩ := ZcY (List.all_eq_true.1 Zhr (a + 1) (by simp; omega))
    simp only [cond_true, t1, Option.bind_some]
    exact ⟨_, _, _, rfl, ⟨by omega, by omega, by simp, fun x hx => by rw [List.mem_singleton.1 hx]; exact p1⟩, g2.mono (by omega)⟩
theorem ZjU (hb : Bytes code) (h : Src code n s) (hn : n ≤ 1000000) : ∃ g s', Zbw s = some (g, s') ∧ (1 ≤ (g.Elements.length : Int) ∧ (g.Elements.length : Int) ≤ 1000 ∧ ∀ b ∈ g.Elements, (b.length : Int) ≤ 32) ∧ Src code (n + 400) s' := by
  unfold Zbw
  obtain ⟨m, l, s1, e1, hG, h1⟩ := Zmf hb h (by omega)
  have e1' : Zcj (Za.mk s.qcode s.qat s.qseed) = some (m, l, s1) := e1
  have n0 := hG.n0; have n1 := hG.n1
  have hc := ZlL hG (most := 720) (by omega) (by omega)
  rw [show ((720 : Nat) : Int) = 720 from rfl] at hc
  rcases hc with ⟨L, hL, hlen, ec⟩ | ⟨_, ec⟩
  · have hrow : ∀ b ∈ L, (b.length : Int) ≤ 32 := fun b hb => by
      have := (hG.rng ((hL.2 b).1 hb)).1
      omega
    have hs := ZkM (xs := sortRows L) (by rw [Z1]; omega) (fun b hb => by have := hrow b (Z3.1 hb); omega)
    have hne : 0 < L.length := List.length_pos_of_mem ((hL.2 _).2 .one)
    simp only [e1', ec, Option.bind_some, Bool.not_true, cond_false]
    unfold Zcl
    simp only [hs, Option.bind_some]
    refine ⟨_, _, rfl, ⟨?_, ?_, fun b hb => hrow b (Z3.1 (Z3.1 hb))⟩, h.c, h1.a0, h1.a1⟩
    · show 1 ≤ ((sortRows (sortRows L)).length : Int)
      rw [Z1, Z1]; omega
    · show ((sortRows (sortRows L)).length : Int) ≤ 1000
      rw [Z1, Z1]; omega
  · have hs := ZkM (xs := [idP m]) (by simp) (fun b hb => by rw [List.mem_singleton.1 hb, Z5]; omega)
    simp only [e1', ec, Option.bind_some, Bool.not_false, cond_true, Zgl (show 0 ≤ m by omega) n1]
    unfold Zcl
    simp only [hs, Option.bind_some]
    refine ⟨_, _, rfl, ⟨?_, ?_, fun b hb => ?_⟩, h.c, h1.a0, h1.a1⟩
    · show 1 ≤ ((sortRows [idP m]).length : Int)
      rw [Z1]; simp
    · show ((sortRows [idP m]).length : Int) ≤ 1000
      rw [Z1]; simp
    · rw [List.mem_singleton.1 (Z3.1 hb), Z5]; omega
theorem Znd (hb : Bytes code) (h : Src code n s) (hn : n ≤ 1000000) : ∃ g s', Zd9 s = some (g, s') ∧ Sz2 g.Elements ∧ Src code (n + 500) s' := by
  unfold Zd9
  obtain ⟨g, s1, e1, ⟨l0, l1, hr⟩, h1⟩ := ZjU hb h hn
  have e1' : Zbw (Za.mk s.qcode s.qat s.qseed) = some (g, s1) := e1
  have g1 := h.of h1
  obtain ⟨a, s2, e2, ha, h2⟩ := Z0 hb g1 (by omega) (k := 20)
  have e2' : ZG (Za.mk s.qcode s1.qat s1.qseed) 20 = some (a, s2) := e2
  have g2 := h.of h2
  have sz : Sz2 g.Elements := ⟨by omega, fun b hb => by have := hr b hb; omega⟩
  simp only [e1', e2', Option.bind_some]
  cases (a == 0)
  · cases (a == 1)
    · cases (a == 2)
      · cases (a == 3)
        · exact ⟨_, _, rfl, sz, g2.mono (by omega)⟩
        · simp only [cond_true, cond_false]
          by_cases hl : (g.Elements.length : Int) > 2
          · rw [decide_eq_true hl]
            simp only [cond_true]
            rw [wr64 (by omega) (by omega), Ze5 (by omega) (by omega) (by omega)]
            simp only [Option.bind_some]
            have hlt : ((g.Elements.take ((g.Elements.length : Int) - 1).toNat).drop (0 : Int).toNat).length ≤ 1000 := by
              rw [List.length_drop, List.length_take]; omega
            rw [Zap (by simp; omega) (by simp; omega)]
            simp only [Option.bind_some, List.nil_append]
            refine ⟨_, _, rfl, ⟨by show ((List.drop _ (List.take _ _)).length : Int) ≤ _; omega, fun b hb => ?_⟩, g2.mono (by omega)⟩
            have := hr b (List.mem_of_mem_take (List.mem_of_mem_drop hb))
            omega
          · rw [decide_eq_false hl]
            exact ⟨_, _, rfl, sz, g2.mono (by omega)⟩
      · simp only [cond_true, cond_false]
        rw [Zax (by omega) (by omega)]
        simp only [Option.bind_some]
        rw [gApp1 (by omega) (by omega)]
        simp only [Option.bind_some]
        refine ⟨_, _, rfl, ⟨by show ((g.Elements ++ [_]).length : Int) ≤ _; rw [List.length_append]; simp; omega, fun b hb => ?_⟩, g2.mono (by omega)⟩
        rcases List.mem_append.1 hb with hb | hb
        · have := hr b hb; omega
        · rw [List.mem_singleton.1 hb]
          have := hr _ (Zl (xs := g.Elements) (i := 0) (by omega) (by omega)); omega
    · simp only [cond_true, cond_false]
      rw [Ze9 (by omega) (by omega)]
      simp only [Option.bind_some]
      refine ⟨_, _, rfl, ⟨by show ((List.drop _ g.Elements).length : Int) ≤ _; rw [List.length_drop]; omega, fun b hb => ?_⟩, g2.mono (by omega)⟩
      have := hr b (List.mem_of_mem_drop hb)
      omega
  · obtain ⟨c, s3, e3, hc, h3⟩ := Zaj hb g2 (by omega) (l := [0, 1, 33]) (by simp) (by simp)
    simp only [cond_true, e3, Option.bind_some]
    exact ⟨_, _, rfl, sz, (h.of h3).mono (by omega)⟩
theorem Zo4 (hb : Bytes code) (h : Src code n s) (hn : n ≤ 100000) : ∃ g s', ZcA s = some (g, s') ∧ Sz2 g.Elements ∧ Src code (n + 600) s' := by
  unfold ZcA
  obtain ⟨a, s1, e1, ha, h1⟩ := Z0 hb h (by omega) (k := 6)
  have e1' : ZG (Za.mk s.qcode s.qat s.qseed) 6 = some (a, s1) := e1
  have g1 := h.of h1
  simp only [e1', Option.bind_some]
  cases (a == 0)
  · cases (a == 1)
    · cases (a == 2)
      · cases (a == 3)
        · obtain ⟨g, s2, e2, ⟨l0, l1, hr⟩, h2⟩ := ZjU hb g1 (by omega)
          simp only [cond_false, e2, Option.bind_some]
          exact ⟨_, _, rfl, ⟨by show (g.Elements.length : Int) ≤ _; omega, fun b hb => by have := hr b hb; omega⟩, (h.of h2).mono (by omega)⟩
        · obtain ⟨g, s2, e2, hsz, h2⟩ := Znd hb g1 (by omega)
          simp only [cond_true, cond_false, e2, Option.bind_some]
          exact ⟨_, _, rfl, hsz, (h.of h2).mono (by omega)⟩
      · obtain ⟨p, s2, e2, hp, h2⟩ := Zaj hb g1 (by omega) (l := [5, 11, 13]) (by simp) (by simp)
        have g2 := h.of h2
        obtain ⟨e, s3, e3, he, h3⟩ := Zaj hb g2 (by omega) (l := [1, 2, 4]) (by simp) (by simp)
        have e3' : ZQ (Za.mk s.qcode s2.qat s2.qseed) [1, 2, 4] = some (e, s3) := e3
        obtain ⟨r, f1, f2⟩ := Zji (List.all_eq_true.1 (List.all_eq_true.1 ZoE p hp) e he)
        obtain ⟨ga, a1, a2⟩ := ZgH (n := p) (by simp at hp; omega) (by simp at hp; omega)
        simp only [cond_true, cond_false, e2, e3', f1, a1, Option.bind_some]
        cases (r.1.Degree == 0)
        · exact ⟨_, _, rfl, f2, (h.of h3).mono (by omega)⟩
        · exact ⟨_, _, rfl, a2, (h.of h3).mono (by omega)⟩
    · obtain ⟨e, s2, e2, he, h2⟩ := Zaj hb g1 (by omega) (l := [1, 2, 3, 6]) (by simp) (by simp)
      obtain ⟨r, f1, f2⟩ := Zji (List.all_eq_true.1 ZnL e he)
      simp only [cond_true, cond_false, e2, f1, Option.bind_some]
      exact ⟨_, _, rfl, f2, (h.of h2).mono (by omega)⟩
  · obtain ⟨c, s2, e2, hc, h2⟩ := Z0 hb g1 (by omega) (k := 11)
    have hc2 := hc.2.1 (by omega)
    obtain ⟨ga, a1, a2⟩ := ZgH (n := c + 1) (by omega) (by omega)
    simp only [cond_true, e2, Option.bind_some]
    rw [wr64 (by omega) (by omega), a1]
    simp only [Option.bind_some]
    exact ⟨_, _, rfl, a2, (h.of h2).mono (by omega)⟩
theorem Znv (hb : Bytes code) : ∃ g t k lam budget, Zd0 code = some (g, t, k, lam, budget) ∧ Sz2 g.Elements ∧ t ≤ 3 := by
  unfold Zd0
  obtain ⟨s, e0, hs, h0⟩ := ZqQ (code := code)
  simp only [e0, Option.bind_some]
  obtain ⟨g, s1, e1, hg, h1⟩ := Zo4 hb h0 (by omega)
  have e1' : ZcA (Za.mk s.qcode s.qat s.qseed) = some (g, s1) := e1
  have g1 := h0.of h1
  obtain ⟨b, s2, e2, h2⟩ := ZiW hb g1 (by omega) (k := 2)
  have g2 := h0.of h2
  simp only [e1', e2, Option.bind_some]
  have fin : ∀ (m : Int) (E : List (List Int)) (a b : Int), Sz2 E → Src code 2000 (Za.mk s.qcode a b) → ∃ g t k lam budget, Zck s m E a b = some (g, t, k, lam, budget) ∧ Sz2 g.Elements ∧ t ≤ 3 := by
    intro m E a b hE hsrc
    unfold Zck
    obtain ⟨t, s3, e3, ht, h3⟩ := Zaj hb hsrc (by omega) (l := [2, 2, 2, 1, 3, 0, -1]) (by simp) (by simp)
    obtain ⟨k, s4, e4, hk, h4⟩ := Zaj hb (hsrc.of h3) (by omega) (l := [3, 3, 4, 2, 1, 0, 5]) (by simp) (by simp)
    have e4' : ZQ (Za.mk s.qcode s3.qat s3.qseed) [3, 3, 4, 2, 1, 0, 5] = some (k, s4) := e4
    obtain ⟨lam, s5, e5, hl, h5⟩ := Zn9 hb (hsrc.of h4) (by omega)
    have e5' : ZbW (Za.mk s.qcode s4.qat s4.qseed) = some (lam, s5) := e5
    obtain ⟨B, s6, e6, hB, h6⟩ := ZpC hb (hsrc.of h5) (by omega)
    have e6' : ZcI (Za.mk s.qcode s5.qat s5.qseed) = some (B, s6) := e6
    simp only [e3, e4', e5', e6', Option.bind_some]
    exact ⟨_, _, _, _, _, rfl, hE, by simp at ht; omega⟩
  cases b
  · simp only [cond_false]
    exact fin _ _ _ _ hg (g2.mono (by omega))
  · obtain ⟨p, s3, e3, hp, h3⟩ := Zaj hb g2 (by omega) (l := [5, 6, 7, 9, 11, 13]) (by simp) (by simp)
    obtain ⟨ga, a1, a2⟩ := ZgH (n := p) (by simp at hp; omega) (by simp at hp; omega)
    simp only [cond_true, e3, a1, Option.bind_some]
    exact fin _ _ _ _ a2 ((h0.of h3).mono (by omega))
end
end Go.Proofs.YtocnokjekoglnaaGreat
namespace Go.Proofs.YtocnokjekoglnaaGreat
set_option linter.unusedVariables false
open Go Go.Vc
set_option linter.unusedSimpArgs false
theorem Znm {code : List Int} (hc : OkL (fun x => 0 ≤ x ∧ x ≤ 255) code) : Zfh code = some true := by
  unfold Zfh Ze8
  simp only [Option.bind_some]
  by_cases hl : (code.length : Int) > 1048576
  · rw [decide_eq_true hl]; rfl
  · rw [decide_eq_false hl]
    simp only [cond_false]
    obtain ⟨g, t, k, lam, budget, e1, hsz, ht⟩ := Znv (code := code) ⟨by omega, hc.2⟩
    rw [e1]
    simp only [Option.bind_some]
    obtain ⟨d, c, e2, h1, h2⟩ := preJ hsz t k lam budget
    have e2' : Zb8 (Zb.mk g.Degree g.Elements) t k lam budget = some (d, c) := e2
    rw [e2']
    simp only [Option.bind_some]
    by_cases h0 : c = 0
    · subst h0
      obtain ⟨hg, R, C, l, hP⟩ := h2 rfl
      have e3 : ZcH (Zj.mk d.Points d.Blocks) t = some (lam, 0) := ZnE hg hP ht
      have e4 : ZcN (Zj.mk d.Points d.Blocks) (Zb.mk g.Degree g.Elements) = some (true, 0) := ZoJ hg hP
      have hlen := Zeg hg hP
      have hkn := hP.km.kn; have n1 := hg.1.n1
      have hk1 : Zcy (g, t, k, lam, budget) (d, 0) = some true := by
        unfold Zcy
        have w := ZN (B := ZdH (g, t, k, lam, budget) (d, 0)) (fun i => i) (i := 0) (n := d.Blocks.length) (by omega) fun i i0 i1 => by
          have hb := (Zbn hg hP (Zl i0 i1)).2
          have hne : ((ix d.Blocks i).length : Int) ≠ k → False := fun h => h hb
          unfold ZdH
          simp only
          rw [decide_eq_true i1, Zax i0 i1]
          simp only [cond_true, Option.bind_some]
          have hn : (((ix d.Blocks i).length : Int) != k) = false := by rw [hb]; simp
          rw [hn]
          simp only [cond_false]
          rw [wr64 (x := i + 1) (by omega) (by omega)]
          by_cases hi : i > 0
          · rw [decide_eq_true hi, wr64 (by omega) (by omega), Zax (by omega) (by omega)]
            simp only [cond_true, Option.bind_some]
            have hb2 := (Zbn hg hP (Zl (xs := d.Blocks) (i := i - 1) (by omega) (by omega))).2
            have hcmp : Zd6 (ix d.Blocks (i - 1)) (ix d.Blocks i) = some (-1) := by
              unfold Zd6
              rw [ZaC (by omega), Zpd hg hP (by omega) i1]; rfl
            rw [hcmp]
            rfl
          · rw [decide_eq_false hi]
            rfl
        rw [w]
        refine Ze ?_
        unfold ZdH
        simp
      rw [e3, e4]
      simp only [Option.bind_some]
      rw [decide_eq_true ht, hk1]
      simp
    · rw [h1 h0]
      have hn : (c != 0) = true := by simpa using h0
      simp only [hn, cond_true]
      rfl
end Go.Proofs.YtocnokjekoglnaaGreat
