import Derived.Test.YtocnokjekoglnaaPuFam
import Derived.Test.YtocnokjekoglnaaPuJa
import Derived.Test.YtocnokjekoglnaaCeFns
import Derived.KernelRfl
import Derived.Test.YtocnokjekoglnaaPuJb
namespace Go.Proofs.Ytocnokjekoglnaa
open Go Go.Vc
set_option linter.unusedSimpArgs false
set_option linter.unusedVariables false
def Bytes (code : List Int) : Prop := code.length ≤ 1048576 ∧ ∀ x ∈ code, 0 ≤ x ∧ x ≤ 255
structure Src (code : List Int) (n : Int) (s : Za) : Prop where
  c : s.qcode = code
  a0 : 0 ≤ s.qat
  a1 : s.qat ≤ n
theorem Src.mono {code : List Int} {n m : Int} {s : Za} (h : Src code n s) (hm : n ≤ m) : Src code m s := ⟨h.c, h.a0, by have := h.a1; omega⟩
section
variable {code : List Int} {n : Int} {s : Za}
theorem Zjg : ∃ s, Zcd code = some s ∧ s.qcode = code ∧ Src code 0 s := ⟨_, rfl, rfl, rfl, Int.le_refl _, Int.le_refl _⟩
theorem ZfH (h : Src code n s) (hn : n ≤ 1000000000) {b : Int} (b0 : 0 ≤ b) (b1 : b ≤ 255) : ∃ x s', ZaK s b = some (x, s') ∧ (0 ≤ x ∧ x ≤ 255) ∧ Src code (n + 1) s' := by
  have a0 := h.a0; have a1 := h.a1
  have ew : IntKind.i64.wrap (s.qat + 1) = s.qat + 1 := wr64 (by omega) (by omega)
  unfold ZaK
  rw [ew]
  cases decide (s.qat + 1 ≤ (s.qcode.length : Int))
  · refine ⟨_, _, rfl, ?_, h.c, by show 0 ≤ s.qat + 1; omega, by show s.qat + 1 ≤ n + 1; omega⟩
    generalize BitVec.ofInt IntKind.u64.bits _ = v
    have h1 : (v &&& BitVec.ofInt IntKind.u64.bits 255).toNat ≤ 255 := by
      rw [BitVec.toNat_and]
      exact Nat.le_trans Nat.and_le_right (by decide)
    generalize (v &&& BitVec.ofInt IntKind.u64.bits 255).toNat = z at h1 ⊢
    have h2 : IntKind.u64.wrap (z : Int) = (z : Int) := by
      have : IntKind.u64.wrap (z : Int) = (z : Int) % 18446744073709551616 := rfl
      rw [this]; omega
    rw [h2, wr64 (by omega) (by omega)]
    omega
  · exact ⟨_, _, rfl, ⟨b0, b1⟩, h.c, by show 0 ≤ s.qat + 1; omega, by show s.qat + 1 ≤ n + 1; omega⟩
theorem Zfs (hb : Bytes code) (h : Src code n s) (hn : n ≤ 1000000000) : ∃ x s', Zai s = some (x, s') ∧ (0 ≤ x ∧ x ≤ 255) ∧ Src code (n + 1) s' := by
  have a0 := h.a0; have a1 := h.a1; have hc := h.c
  unfold Zai
  by_cases hl : s.qat < (s.qcode.length : Int)
  · have hm : 0 ≤ ix s.qcode s.qat ∧ ix s.qcode s.qat ≤ 255 := hb.2 (ix s.qcode s.qat) (by rw [← hc]; exact Zaj a0 hl)
    rw [decide_eq_true hl, Zaf a0 hl]
    simp only [cond_true, Option.bind_some]
    rw [wr64 (by omega) (by omega)]
    exact ZfH h hn hm.1 hm.2
  · rw [decide_eq_false hl]
    exact ZfH h hn (by omega) (by omega)
theorem ZL (hb : Bytes code) (h : Src code n s) (hn : n ≤ 900000000) {k : Int} : ∃ x s', Zy s k = some (x, s') ∧ (0 ≤ x ∧ (1 ≤ k → x < k) ∧ x ≤ 65535) ∧ Src code (n + 2) s' := by
  unfold Zy
  by_cases hk : k ≤ 1
  · rw [decide_eq_true hk]
    exact ⟨0, s, rfl, by omega, h.mono (by omega)⟩
  · rw [decide_eq_false hk]
    obtain ⟨x, s', e1, hx, h'⟩ := Zfs hb h (by omega)
    have e1' : Zai (Za.mk s.qcode s.qat s.qseed) = some (x, s') := e1
    simp only [cond_false, e1', Option.bind_some]
    have tm : ∀ z : Int, 0 ≤ z → z ≤ 65535 → 0 ≤ Int.tmod z k ∧ (1 ≤ k → Int.tmod z k < k) ∧ Int.tmod z k ≤ 65535 := fun z h0 h1 => by
      have := Int.tmod_nonneg k h0
      have h2 := Int.tmod_lt_of_pos z (show 0 < k by omega)
      have h3 : Int.tmod z k ≤ z := by
        rw [Int.tmod_eq_emod_of_nonneg h0]
        by_cases hz : z < k
        · rw [Int.emod_eq_of_lt h0 hz]; omega
        · have := Int.emod_lt_of_pos z (show 0 < k by omega); omega
      omega
    by_cases hk2 : k > 200
    · rw [decide_eq_true hk2]
      have h2 : Src code (n + 1) (Za.mk s.qcode s'.qat s'.qseed) := ⟨h.c, h'.a0, h'.a1⟩
      obtain ⟨y, s2, e2, hy, h3⟩ := Zfs hb h2 (by omega)
      simp only [cond_true, e2, Option.bind_some, ZdK (show ¬ k = 0 by omega)]
      rw [wr64 (x := x * 256) (by omega) (by omega), wr64 (x := x * 256 + y) (by omega) (by omega)]
      exact ⟨_, _, rfl, tm _ (by omega) (by omega), h.c, h3.a0, by have := h3.a1; show s2.qat ≤ n + 2; omega⟩
    · rw [decide_eq_false hk2]
      simp only [cond_false, ZdK (show ¬ k = 0 by omega), Option.bind_some]
      exact ⟨_, _, rfl, tm _ (by omega) (by omega), h.c, h'.a0, by have := h'.a1; show s'.qat ≤ n + 2; omega⟩
theorem ZeC (hb : Bytes code) (h : Src code n s) (hn : n ≤ 900000000) {k : Int} : ∃ x s', Z8 s k = some (x, s') ∧ Src code (n + 2) s' := by
  obtain ⟨x, s', e1, hx, h'⟩ := ZL hb h hn (k := k)
  unfold Z8
  have e1' : Zy (Za.mk s.qcode s.qat s.qseed) k = some (x, s') := e1
  simp only [e1', Option.bind_some]
  exact ⟨_, _, rfl, h.c, h'.a0, h'.a1⟩
theorem Zb2 (hb : Bytes code) (h : Src code n s) (hn : n ≤ 900000000) {l : List Int} (hl : 1 ≤ (l.length : Int)) (hl2 : (l.length : Int) ≤ 60000) : ∃ x s', ZV s l = some (x, s') ∧ x ∈ l ∧ Src code (n + 2) s' := by
  obtain ⟨x, s', e1, hx, h'⟩ := ZL hb h hn (k := (l.length : Int))
  unfold ZV
  have e1' : Zy (Za.mk s.qcode s.qat s.qseed) (l.length : Int) = some (x, s') := e1
  have hi := Zaf (xs := l) (i := x) (by omega) (by omega)
  simp only [e1', Option.bind_some, hi]
  exact ⟨_, _, rfl, Zaj (by omega) (by omega), h.c, h'.a0, h'.a1⟩
theorem Src.of {m : Int} {s s' : Za} (h : Src code n s) (h' : Src code m s') : Src code m (Za.mk s.qcode s'.qat s'.qseed) := ⟨h.c, h'.a0, h'.a1⟩
end
theorem Zeu {σ β : Type} {B : σ → Option (σ ⊕ β)} {I : Nat → σ → Prop} {Q : β → Prop} (step : ∀ n s, I n s → (∃ s' m, B s = some (.inl s') ∧ m < n ∧ I m s') ∨ (∃ r, B s = some (.inr r) ∧ Q r)) : ∀ (n : Nat) (s : σ), I n s → ∃ r, loop B s = some r ∧ Q r := by
  intro n
  induction n using Nat.strongRecOn with
  | ind n ih =>
    intro s hs
    rcases step n s hs with ⟨s', m, e, hm, hI⟩ | ⟨r, e, hq⟩
    · obtain ⟨r, h1, h2⟩ := ih m hm s' hI
      exact ⟨r, by rw [Zac e]; exact h1, h2⟩
    · exact ⟨r, ZK e, hq⟩
section
variable {code : List Int} {n : Int} {s : Za}
theorem ZhW (hb : Bytes code) (h : Src code n s) (hn : n ≤ 100000000) : ∃ x s', Zbz s = some (x, s') ∧ I64 x ∧ Src code (n + 10) s' := by
  unfold Zbz
  obtain ⟨x, s1, e1, h1⟩ := ZeC hb h (by omega) (k := 8)
  have e1' : Z8 (Za.mk s.qcode s.qat s.qseed) 8 = some (x, s1) := e1
  simp only [e1', Option.bind_some]
  have g1 := h.of h1
  cases x
  · obtain ⟨y, s2, e2, hy, h2⟩ := ZL hb g1 (by omega) (k := 5)
    simp only [cond_false, e2, Option.bind_some]
    rw [wr64 (by omega) (by omega)]
    exact ⟨_, _, rfl, by unfold I64; omega, (h.of h2).mono (by omega)⟩
  · obtain ⟨y, s2, e2, hy, h2⟩ := Zb2 hb g1 (by omega) (l := [0, -1, 2000, 2001]) (by simp) (by simp)
    simp only [cond_true, e2, Option.bind_some]
    refine ⟨_, _, rfl, ?_, (h.of h2).mono (by omega)⟩
    unfold I64
    simp at hy; omega
theorem ZiX (hb : Bytes code) (h : Src code n s) (hn : n ≤ 100000000) : ∃ x s', ZbQ s = some (x, s') ∧ I64 x ∧ Src code (n + 10) s' := by
  unfold ZbQ
  obtain ⟨x, s1, e1, hx, h1⟩ := ZL hb h (by omega) (k := 8)
  have e1' : Zy (Za.mk s.qcode s.qat s.qseed) 8 = some (x, s1) := e1
  simp only [e1', Option.bind_some]
  have g1 := h.of h1
  cases (x == 0)
  · cases (x == 1)
    · obtain ⟨y, s2, e2, hy, h2⟩ := ZL hb g1 (by omega) (k := 1000)
      simp only [cond_false, e2, Option.bind_some]
      rw [wr64 (by omega) (by omega)]
      exact ⟨_, _, rfl, by unfold I64; omega, (h.of h2).mono (by omega)⟩
    · obtain ⟨y, s2, e2, hy, h2⟩ := ZL hb g1 (by omega) (k := 30)
      simp only [cond_true, cond_false, e2, Option.bind_some]
      rw [wr64 (by omega) (by omega)]
      exact ⟨_, _, rfl, by unfold I64; omega, (h.of h2).mono (by omega)⟩
  · obtain ⟨y, s2, e2, hy, h2⟩ := Zb2 hb g1 (by omega) (l := [0, 1, -1, 20000, 20001]) (by simp) (by simp)
    simp only [cond_true, e2, Option.bind_some]
    refine ⟨_, _, rfl, ?_, (h.of h2).mono (by omega)⟩
    unfold I64
    simp at hy; omega
end
end Go.Proofs.Ytocnokjekoglnaa
namespace Go.Proofs.Ytocnokjekoglnaa
set_option linter.unusedVariables false
open Go Go.Vc
set_option linter.unusedSimpArgs false
set_option maxRecDepth 100000
def rowB (r : List Int) : Bool := Nat.ble r.length 10000 && r.all fun x => decide (0 ≤ x) && decide (x ≤ 10000)
def matB (m : List (List Int)) : Bool := Nat.ble m.length 10000 && m.all rowB
noncomputable def matT (F : Nat) (n : Int) : Bool := match ZcQ F n [1] with
  | some g => (match Zb1 F g 2 3 with | some m => matB m | none => false) && (match Zb1 F g 2 4 with | some m => matB m | none => false)
  | none => false
theorem mat5 : matT 200 5 = true := by kernel_rfl
theorem mat6 : matT 200 6 = true := by kernel_rfl
theorem mat7 : matT 200 7 = true := by kernel_rfl
theorem mat8 : matT 200 8 = true := by kernel_rfl
theorem mat9 : matT 200 9 = true := by kernel_rfl
theorem Zje {r : List Int} (h : r.length ≤ 10000) (h2 : ∀ x ∈ r, 0 ≤ x ∧ x ≤ 10000) : rowB r = true := by
  unfold rowB
  rw [Bool.and_eq_true, Nat.ble_eq, List.all_eq_true]
  exact ⟨h, fun x hx => by have := h2 x hx; simp; omega⟩
theorem Zeh {m : List (List Int)} (h : matB m = true) : OkL (OkL I64) m := by
  unfold matB rowB at h
  rw [Bool.and_eq_true, Nat.ble_eq, List.all_eq_true] at h
  refine ⟨by have := h.1; unfold M63; omega, fun r hr => ?_⟩
  have h2 := h.2 r hr
  rw [Bool.and_eq_true, Nat.ble_eq, List.all_eq_true] at h2
  refine ⟨by have := h2.1; unfold M63; omega, fun x hx => ?_⟩
  have h3 := h2.2 x hx
  simp only [Bool.and_eq_true, decide_eq_true_eq] at h3
  unfold I64; omega
theorem ZiO {n : Int} (h : matT 200 n = true) : ∃ g, ZaO n [1] = some g ∧ ∀ k, k = 3 ∨ k = 4 → ∃ m, Zat g 2 k = some m ∧ OkL (OkL I64) m := by
  unfold matT at h
  split at h
  · rename_i g hg
    rw [Bool.and_eq_true] at h
    obtain ⟨h1, h2⟩ := h
    refine ⟨g, ZhL n [1] g hg, fun k hk => ?_⟩
    rcases hk with rfl | rfl
    · split at h1
      · rename_i m hm; exact ⟨m, Zfu g 2 3 m hm, Zeh h1⟩
      · cases h1
    · split at h2
      · rename_i m hm; exact ⟨m, Zfu g 2 4 m hm, Zeh h2⟩
      · cases h2
  · cases h
section
variable {code : List Int} {n : Int} {s : Za}
theorem Zi0 (hb : Bytes code) {y0 : Za} (hc : y0.qcode = code) {r27 : Int × Za} {p : Int} (hp : r27.1 = p) (p0 : 0 ≤ p) (p1 : p ≤ 8) {y7 : List (List Int)} {y8 : Int} {q q2 : Int} (hs : Src code n (Za.mk y0.qcode q q2)) (hn : n ≤ 10000000) (hm : matB y7 = true) (hl : y7.length ≤ 100) (h8 : 0 ≤ y8) (h8' : y8 ≤ 100) :
    ∃ r, loop (ZaR y0 r27 y7 y8) (([] : List Int), 0, q, q2) = some r ∧ ∃ row a b, r = .inl (y7 ++ [row], y8 + 1, a, b) ∧ rowB row = true ∧ (row.length : Int) = p ∧ Src code (n + 20) (Za.mk y0.qcode a b) := by
  refine Zeu (I := fun k st => ∃ (row : List Int) (i a b : Int), st = (row, i, a, b) ∧ 0 ≤ i ∧ i ≤ p ∧ k = (p - i).toNat ∧ (row.length : Int) = i ∧ (∀ x ∈ row, 0 ≤ x ∧ x ≤ 10000) ∧ Src code (n + 2 * i) (Za.mk y0.qcode a b)) ?_ p.toNat _ ⟨[], 0, q, q2, rfl, Int.le_refl _, p0, by simp, rfl, by simp, hs.mono (by omega)⟩
  rintro k st ⟨row, i, a, b, rfl, i0, i1, hk, hlen, hx, hsrc⟩
  by_cases hi : i < p
  · left
    obtain ⟨x, s', e1, hx1, h'⟩ := ZL hb hsrc (by omega) (k := 3)
    have hx2 := hx1.2.1 (by omega)
    refine ⟨(row ++ [x], i + 1, s'.qat, s'.qseed), (p - (i + 1)).toNat, ?_, by omega, row ++ [x], i + 1, s'.qat, s'.qseed, rfl, by omega, by omega, rfl, by rw [List.length_append]; simp; omega, ?_, ⟨hc, h'.a0, by have := h'.a1; show s'.qat ≤ _; omega⟩⟩
    · unfold ZaR
      simp only [hp, decide_eq_true hi, cond_true, e1, Option.bind_some]
      rw [gApp1 (by omega) (by omega)]
      simp only [Option.bind_some]
      rw [wr64 (by omega) (by omega)]
    · intro z hz
      rcases List.mem_append.1 hz with hz | hz
      · exact hx z hz
      · rw [List.mem_singleton.1 hz]; omega
  · right
    refine ⟨.inl (y7 ++ [row], y8 + 1, a, b), ?_, row, a, b, rfl, Zje (by omega) hx, by omega, hsrc.mono (by omega)⟩
    unfold ZaR
    simp only [hp, decide_eq_false hi, cond_false]
    rw [gApp1 (by omega) (by omega)]
    simp only [Option.bind_some]
    rw [wr64 (by omega) (by omega)]
theorem Zg6 {m : List (List Int)} {r : List Int} (h : matB m = true) (hl : m.length ≤ 100) (hr : rowB r = true) : matB (m ++ [r]) = true := by
  unfold matB at h ⊢
  rw [Bool.and_eq_true, Nat.ble_eq, List.all_eq_true] at h ⊢
  refine ⟨by rw [List.length_append]; simp; omega, fun x hx => ?_⟩
  rcases List.mem_append.1 hx with hx | hx
  · exact h.2 x hx
  · rw [List.mem_singleton.1 hx]; exact hr
theorem ZfA {m : List (List Int)} {r : List Int} {k : Nat} (h : OkL (OkL I64) m) (hr : OkL I64 r) : OkL (OkL I64) (m.set k r) := by
  refine ⟨by rw [List.length_set]; exact h.1, fun x hx => ?_⟩
  rcases List.mem_or_eq_of_mem_set hx with hx | rfl
  · exact h.2 x hx
  · exact hr
theorem Zii (hb : Bytes code) (h : Src code n s) (hn : n ≤ 1000000) : ∃ m s', ZaT s = some (m, s') ∧ OkL (OkL I64) m ∧ Src code (n + 1000) s' := by
  unfold ZaT
  obtain ⟨x, s1, e1, h1⟩ := ZeC hb h (by omega) (k := 3)
  have e1' : Z8 (Za.mk s.qcode s.qat s.qseed) 3 = some (x, s1) := e1
  simp only [e1', Option.bind_some]
  have g1 := h.of h1
  cases x
  · simp only [cond_false]
    obtain ⟨p4, s2, e2, hp4, h2⟩ := ZL hb g1 (by omega) (k := 4)
    have g2 := h.of h2
    obtain ⟨p, s3, e3, hp9, h3⟩ := ZL hb g2 (by omega) (k := 9)
    have g3 := h.of h3
    have e3' : Zy (Za.mk s.qcode s2.qat s2.qseed) 9 = some (p, s3) := e3
    simp only [e2, e3', Option.bind_some]
    have b4 := hp4.2.1 (by omega)
    have b9 := hp9.2.1 (by omega)
    have hw : IntKind.i64.wrap (p4 + 1) = p4 + 1 := wr64 (by omega) (by omega)
    have key := Zeu (B := ZaD s (p4, s2) (p, s3)) (Q := fun r => OkL (OkL I64) r.1 ∧ Src code (n + 1000) r.2)
      (I := fun k st => ∃ (m : List (List Int)) (i a b : Int), st = (m, i, a, b) ∧ 0 ≤ i ∧ i ≤ p4 + 1 ∧ k = (p4 + 1 - i).toNat ∧ (m.length : Int) = i ∧ matB m = true ∧ (∀ r ∈ m, (r.length : Int) = p) ∧ Src code (n + 6 + 20 * i) (Za.mk s.qcode a b))
      (by
        rintro k st ⟨m, i, a, b, rfl, i0, i1, hk, hlen, hm, hr, hsrc⟩
        by_cases hi : i < p4 + 1
        · left
          obtain ⟨r, el, row, a2, b2, rfl, hrow, hlr, hs2⟩ := Zi0 hb h.c (r27 := (p, s3)) (p := p) rfl (by omega) (by omega) hsrc (by omega) hm (by omega) i0 (by omega)
          refine ⟨(m ++ [row], i + 1, a2, b2), (p4 + 1 - (i + 1)).toNat, ?_, by omega, m ++ [row], i + 1, a2, b2, rfl, by omega, by omega, rfl, by rw [List.length_append]; simp; omega, Zg6 hm (by omega) hrow, ?_, hs2.mono (by omega)⟩
          · unfold ZaD
            simp only [hw, decide_eq_true hi, cond_true]
            exact el
          · intro z hz
            rcases List.mem_append.1 hz with hz | hz
            · exact hr z hz
            · rw [List.mem_singleton.1 hz]; exact hlr
        · right
          have hi1 : i = p4 + 1 := by omega
          have hok := Zeh hm
          obtain ⟨z, s4, e4, hz, h4⟩ := ZL hb hsrc (by omega) (k := 12)
          have g4 : Src code (n + 6 + 20 * i + 2) (Za.mk s.qcode s4.qat s4.qseed) := ⟨h.c, h4.a0, h4.a1⟩
          have i7 := Zaf (xs := m) (i := 0) (by omega) (by omega)
          have hmem : ix m 0 ∈ m := Zaj (by omega) (by omega)
          have hlen0 := hr _ hmem
          have hok0 := hok.2 _ hmem
          unfold ZaD
          simp only [hw, decide_eq_false hi, cond_false, e4, Option.bind_some]
          cases (z == 0)
          · cases (z == 1)
            · cases (z == 2)
              · exact ⟨_, rfl, hok, g4.mono (by omega)⟩
              · by_cases hp : p > 0
                · obtain ⟨y, s5, e5, hy, h5⟩ := Zb2 hb g4 (by omega) (l := [-1, 2000, 2001]) (by simp) (by simp)
                  have i8 := Zaf (xs := ix m 0) (i := 0) (by omega) (by omega)
                  have e5' : ZV (Za.mk s.qcode s4.qat s4.qseed) [-1, 2000, 2001] = some (y, s5) := e5
                  simp only [cond_false, cond_true, decide_eq_true hp, e5', Option.bind_some, i7, i8]
                  refine ⟨_, rfl, ZfA hok ⟨by rw [List.length_set]; exact hok0.1, fun w hw => ?_⟩, ?_⟩
                  · rcases List.mem_or_eq_of_mem_set hw with hw | rfl
                    · exact hok0.2 w hw
                    · unfold I64; simp at hy; omega
                  · exact ⟨h.c, h5.a0, by have := h5.a1; show s5.qat ≤ n + 1000; omega⟩
                · simp only [cond_false, cond_true, decide_eq_false hp]
                  exact ⟨_, rfl, hok, g4.mono (by omega)⟩
            · simp only [cond_false, cond_true, i7, Option.bind_some]
              rw [gApp1 (by omega) (by omega)]
              simp only [Option.bind_some]
              refine ⟨_, rfl, ZfA hok ⟨by rw [List.length_append]; simp; unfold M63; omega, fun w hw => ?_⟩, g4.mono (by omega)⟩
              rcases List.mem_append.1 hw with hw | hw
              · exact hok0.2 w hw
              · rw [List.mem_singleton.1 hw]; unfold I64; omega
          · exact ⟨_, rfl, ⟨by simp, by simp⟩, g4.mono (by omega)⟩)
      (p4 + 1).toNat _ ⟨[], 0, s3.qat, s3.qseed, rfl, Int.le_refl _, by omega, by simp, rfl, rfl, by simp, g3.mono (by omega)⟩
    obtain ⟨⟨m, s'⟩, r1, r2, r3⟩ := key
    exact ⟨m, s', r1, r2, r3⟩
  · obtain ⟨k, s2, e2, hk, h2⟩ := Zb2 hb g1 (by omega) (l := [5, 6, 7, 8, 9]) (by simp) (by simp)
    have g2 := h.of h2
    obtain ⟨z, s3, e3, hz, h3⟩ := ZL hb g2 (by omega) (k := 2)
    have hz2 := hz.2.1 (by omega)
    have hT : matT 200 k = true := by
      simp only [List.mem_cons, List.not_mem_nil, or_false] at hk
      rcases hk with rfl | rfl | rfl | rfl | rfl
      · exact mat5
      · exact mat6
      · exact mat7
      · exact mat8
      · exact mat9
    obtain ⟨g, a1, a2⟩ := ZiO hT
    have e3' : Zy (Za.mk s.qcode s2.qat s2.qseed) 2 = some (z, s3) := e3
    have hw : IntKind.i64.wrap (z + 3) = z + 3 := wr64 (by omega) (by omega)
    obtain ⟨m, b1, b2⟩ := a2 (z + 3) (by omega)
    have b1' : Zat (Zo.mk g.Degree g.Elements) 2 (z + 3) = some m := b1
    simp only [cond_true, e2, Option.bind_some, a1, e3', hw, b1']
    exact ⟨_, _, rfl, b2, h.c, h3.a0, by have := h3.a1; show s3.qat ≤ n + 1000; omega⟩
theorem Zgk (hb : Bytes code) : ∃ m lam budget, Zbo code = some (m, lam, budget) ∧ OkL (OkL I64) m ∧ I64 lam ∧ I64 budget := by
  unfold Zbo
  obtain ⟨s, e0, hs, h0⟩ := Zjg (code := code)
  simp only [e0, Option.bind_some]
  obtain ⟨m, s1, e1, hm, h1⟩ := Zii hb h0 (by omega)
  have e1' : ZaT (Za.mk s.qcode s.qat s.qseed) = some (m, s1) := e1
  obtain ⟨l, s2, e2, hl, h2⟩ := ZhW hb (h0.of h1) (by omega)
  obtain ⟨b, s3, e3, hb3, h3⟩ := ZiX hb (h0.of h2) (by omega)
  simp only [e1', e2, e3, Option.bind_some]
  exact ⟨_, _, _, rfl, hm, hl, hb3⟩
end
end Go.Proofs.Ytocnokjekoglnaa
namespace Go.Proofs.Ytocnokjekoglnaa
set_option linter.unusedVariables false
open Go Go.Vc
set_option linter.unusedSimpArgs false
theorem ZgT {m : R2} {lam budget : Int} (h : OkL (OkL I64) m) : ∃ r q, Zbv m lam budget = some r ∧ Zbk m lam 1 budget = some q ∧
    ((r.2 = 3 ∧ r.1 = [] ∧ q = (0, 0)) ∨ (r.2 ≠ 3 ∧ r.2 ≠ 0 ∧ r.1 = [] ∧ q = (0, r.2)) ∨ (r.2 = 0 ∧ q = (1, 0) ∧ Counts m ∧ 1 ≤ lam ∧ lam ≤ 2000 ∧ ∃ n, CountsN m n ∧ Good m lam n r.1)) := by
  unfold Zbv Zbk
  by_cases hc : Counts m
  · rw [(Zdm h).eq hc, ZgL, Zfn]
    simp only [Option.bind_some, Bool.not_true, cond_false]
    by_cases h1 : 1 ≤ budget ∧ budget ≤ 20000
    · rw [decide_eq_true h1]
      simp only [Bool.not_true, cond_false]
      by_cases h2 : 1 ≤ lam ∧ lam ≤ 2000
      · rw [decide_eq_true h2]
        simp only [Bool.not_true, cond_false]
        rw [Za9, decide_eq_true (show (1 : Int) ≤ 1 ∧ (1 : Int) ≤ 1000 by omega)]
        simp only [Option.bind_some, Bool.not_true, cond_false]
        obtain ⟨n, hn⟩ := id hc
        have hin : ChIn m n lam 1 budget := ⟨hn, h2.1, h2.2, by omega, by omega, h1.1, h1.2⟩
        obtain ⟨sums, later', ch', e2⟩ := ZfT hin
        unfold Zcp Zcr
        rw [e2]
        simp only [Option.bind_some]
        have inv0 : ChInv 1 budget s0 := ⟨by show (0 : Int) ≤ 0; omega, by show (0 : Int) ≤ 1; omega, by show (0 : Int) ≤ 0; omega, by show (0 : Int) ≤ budget; omega⟩
        have hinv : ChInv 1 budget (sEnd m n lam 1 budget) := by
          unfold sEnd
          cases reach m lam
          · exact inv0
          · exact Zce n _ _ s0 inv0 (by show (0 : Int) < 1; omega)
        have hg := ZfK hin
        have c0 := hinv.c0
        have c1 := hinv.c1
        cases hf : (sEnd m n lam 1 budget).full
        · by_cases hz : (sEnd m n lam 1 budget).count = 0
          · refine ⟨([], 3), (0, 0), ?_, by rw [hz]; rfl, .inl ⟨rfl, rfl, rfl⟩⟩
            have : ((sEnd m n lam 1 budget).count == 0) = true := by simpa using hz
            simp only [cond_false]
            rw [this]; rfl
          · refine ⟨((sEnd m n lam 1 budget).first, 0), (1, 0), ?_, by rw [show (sEnd m n lam 1 budget).count = 1 by omega]; rfl, .inr (.inr ⟨rfl, rfl, hc, h2.1, h2.2, n, hn, hg.resolve_left hz⟩)⟩
            have : ((sEnd m n lam 1 budget).count == 0) = false := by simpa using hz
            simp only [cond_false]
            rw [this]; rfl
        · exact ⟨([], 5), (0, 5), rfl, rfl, .inr (.inl ⟨by decide, by decide, rfl, rfl⟩)⟩
      · rw [decide_eq_false h2]; exact ⟨([], 2), (0, 2), rfl, rfl, .inr (.inl ⟨by decide, by decide, rfl, rfl⟩)⟩
    · rw [decide_eq_false h1]; exact ⟨([], 2), (0, 2), rfl, rfl, .inr (.inl ⟨by decide, by decide, rfl, rfl⟩)⟩
  · rw [(Zdm h).ne hc]
    exact ⟨([], 1), (0, 1), rfl, rfl, .inr (.inl ⟨by decide, by decide, rfl, rfl⟩)⟩
theorem Zi5 {m : R2} {n : Nat} {row ch : List Int} {lam : Int} (hrow : row.length = n ∧ ∀ x ∈ row, 0 ≤ x ∧ x ≤ 2000) (hn : n ≤ 2000) (hu : ChUp n ch) (hl : ch.length ≤ 2000) (hs : chSum row ch = lam) : ZaM row ch lam = some false := by
  unfold ZaM
  have key : ∀ k : Nat, k ≤ ch.length → 0 ≤ chSum row (ch.take k) ∧ chSum row (ch.take k) ≤ 2000 * k ∧ loop (ZaP row ch lam) (0, 0) = loop (ZaP row ch lam) (chSum row (ch.take k), (k : Int)) := by
    intro k
    induction k with
    | zero => intro _; exact ⟨by simp [chSum], by simp [chSum], by simp [chSum]⟩
    | succ k ih =>
      intro hk
      obtain ⟨i1, i2, i3⟩ := ih (by omega)
      have e1 : ch[k]? = some ch[k] := List.getElem?_eq_getElem (by omega)
      have hc := hu.2 ch[k] (List.getElem_mem _)
      have e2 : ch.take (k + 1) = ch.take k ++ [ch[k]] := (List.take_append_getElem (by omega)).symm
      have hx : 0 ≤ ix row ch[k] ∧ ix row ch[k] ≤ 2000 := hrow.2 _ (Zaj hc.1 (by rw [hrow.1]; omega))
      have e3 : chSum row (ch.take (k + 1)) = chSum row (ch.take k) + ix row ch[k] := by
        rw [e2]
        unfold chSum ix
        rw [List.map_append, List.sum_append]
        simp
      refine ⟨by omega, by omega, ?_⟩
      rw [i3, e3]
      refine Zac ?_
      unfold ZaP
      simp only
      rw [decide_eq_true (show (k : Int) < (ch.length : Int) by omega)]
      simp only [cond_true]
      rw [ZI e1]
      simp only [Option.bind_some]
      rw [Zaf hc.1 (by rw [hrow.1]; omega)]
      simp only [Option.bind_some]
      rw [wr64 (by omega) (by omega), wr64 (by omega) (by omega)]
      rfl
  obtain ⟨_, _, k3⟩ := key ch.length (Nat.le_refl _)
  rw [k3, List.take_length, hs]
  refine ZK ?_
  unfold ZaP
  simp
theorem ZjD {n : Nat} {ch : List Int} (h : ChUp n ch) : ch.length ≤ n := by
  have key : ∀ (l : List Int) (a : Int), l.Pairwise (· < ·) → (∀ c ∈ l, a ≤ c ∧ c < (n : Int)) → (l.length : Int) ≤ max 0 ((n : Int) - a) := by
    intro l
    induction l with
    | nil => intro a _ _; simp; omega
    | cons x l ih =>
      intro a hp hb
      have hx := hb x List.mem_cons_self
      have hp' := List.pairwise_cons.1 hp
      have := ih (x + 1) hp'.2 fun c hc => by
        have h1 := hp'.1 c hc
        have h2 := hb c (List.mem_cons_of_mem _ hc)
        omega
      rw [List.length_cons]
      omega
  have := key ch 0 h.1 h.2
  omega
theorem ZhU {m : R2} {lam : Int} {n : Nat} {ch : List Int} (h : OkL (OkL I64) m) (hc : Counts m) (hn : CountsN m n) (l0 : 1 ≤ lam) (l1 : lam ≤ 2000) (hg : Good m lam n ch) : ZbC m lam ch = some (true, 0) := by
  unfold ZbC
  rw [(Zdm h).eq hc, Zfn, decide_eq_true (show 1 ≤ lam ∧ lam ≤ 2000 from ⟨l0, l1⟩)]
  simp only [Option.bind_some, Bool.not_true, cond_false]
  have hlm := hn.1
  have hlm2 := hn.2.1
  have hn2 := hn.2.2.1
  have hmem : ix m 0 ∈ m := Zaj (by omega) (by omega)
  have hr0 := hn.2.2.2 _ hmem
  have hlen := ZjD hg.up
  rw [Zaf (by omega) (by omega)]
  simp only [Option.bind_some]
  rw [show ZcD (ix m 0) = some ((ix m 0).length : Int) from rfl]
  simp only [Option.bind_some]
  rw [hr0.1, (Zhl (l := ch) (n := (n : Int)) (by omega) (by omega) (by omega)).eq hg.up.rising]
  simp only [Option.bind_some, Bool.not_true, cond_false]
  rw [(containsLL (s := m) (fn := fun y0 => ZaM y0 ch lam) (q := fun _ => False) (by omega) fun row hr => by
    rw [Zi5 (m := m) (hn.2.2.2 row hr) hn2 hg.up (by omega) (hg.sum row hr)]
    exact IsQ.f id).ne (by rintro ⟨_, _, h⟩; exact h)]
  rfl
theorem ZiI {code : List Int} (hc : OkL (fun x => 0 ≤ x ∧ x ≤ 255) code) : ZcF code = some true := by
  unfold ZcF Zcm
  simp only [Option.bind_some]
  by_cases hl : (code.length : Int) > 1048576
  · rw [decide_eq_true hl]; rfl
  · rw [decide_eq_false hl]
    simp only [cond_false]
    obtain ⟨m, lam, budget, e1, hm, hlam, hbud⟩ := Zgk (code := code) ⟨by omega, hc.2⟩
    obtain ⟨r, q, e2, e3, hr⟩ := ZgT (lam := lam) (budget := budget) hm
    rw [e1]
    simp only [Option.bind_some]
    rw [e2, e3]
    simp only [Option.bind_some]
    rcases hr with ⟨h1, h2, rfl⟩ | ⟨h1, h0, h2, rfl⟩ | ⟨h1, rfl, h2, h3, h4, n, h5, h6⟩
    · rw [h1, h2]; rfl
    · have a : (r.2 != 0) = true := by simpa using h0
      have b : (r.2 == 3) = false := by simpa using h1
      have c : (r.2 == r.2) = true := by simp
      rw [a, b, c, h2]
      rfl
    · rw [ZhU hm h2 h5 h3 h4 h6, h1]
      rfl
end Go.Proofs.Ytocnokjekoglnaa
