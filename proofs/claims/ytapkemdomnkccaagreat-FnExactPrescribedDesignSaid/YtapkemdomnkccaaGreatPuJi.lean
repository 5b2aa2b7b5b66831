/- Marks on lists of integers, and on lists of such lists. -/
import Derived.Test.YtapkemdomnkccaaGreatPuFam
import Derived.Test.YtapkemdomnkccaaGreatPuJh
import Derived.Test.YtapkemdomnkccaaGreatPuJg
namespace Go.Proofs.YtapkemdomnkccaaGreat
open Go Go.Vc
set_option linter.unusedSimpArgs false
def marks (k : Int) (n : Nat) : List Int := (List.range n).map fun (j : Nat) => k + (j : Int)
theorem ZbK (k : Int) (n : Nat) : (marks k n).length = n := by unfold marks; simp
theorem ZqD {k : Int} {n j : Nat} (h : j < n) : (marks k n)[j]? = some (k + (j : Int)) := by
  unfold marks; rw [List.getElem?_map, List.getElem?_range h]; rfl
theorem ZnR {xs : List Int} {k : Int} (h : xs.length ≤ 4194304) (h0 : 0 ≤ k) (h1 : k ≤ 9100000000000000000) : ZcS xs k = some (k + (xs.length : Int), marks k xs.length) := by
  unfold ZcS
  let f : Nat → Int × Int × List Int := fun j => (k + (j : Int), (j : Int), marks k j ++ xs.drop j)
  have e0 : f 0 = (k, 0, xs) := by simp [f, marks]
  have e1 : f xs.length = (k + (xs.length : Int), (xs.length : Int), marks k xs.length) := by simp only [f]; rw [List.drop_length, List.append_nil]
  rw [← e0, Zd7 f xs.length fun j hj => ?_, e1]
  · refine Zd ?_
    rw [Zel]
    have : decide ((xs.length : Int) < ((marks k xs.length).length : Int)) = false := by rw [ZbK]; simp
    rw [this]; rfl
  · obtain ⟨x, hx⟩ := Za5 (xs := xs) (k := j) hj
    have hl : (marks k j ++ xs.drop j).length = xs.length := by rw [List.length_append, ZbK, List.length_drop]; omega
    have hc : (marks k j ++ xs.drop j)[j]? = some x := by
      rw [List.getElem?_append_right (by rw [ZbK]; omega), ZbK, Nat.sub_self, List.getElem?_drop]; simpa using hx
    simp only [f]
    rw [Zel]
    have : decide ((j : Int) < ((marks k j ++ xs.drop j).length : Int)) = true := by rw [hl]; simpa using hj
    rw [this, Zak hc]
    simp only [cond_true, Option.bind_some]
    rw [wrapN hj (by unfold M63; omega), Zbf (by omega) (by omega), Int.toNat_natCast]
    have hs : (marks k j ++ xs.drop j).set j (k + (j : Int)) = marks k (j + 1) ++ xs.drop (j + 1) := by
      rw [List.set_append, if_neg (by rw [ZbK]; omega), ZbK, Nat.sub_self]
      have hd : xs.drop j = x :: xs.drop (j + 1) := by
        rw [List.drop_eq_getElem_cons hj]
        congr 1
        have := List.getElem?_eq_getElem (l := xs) (i := j) hj
        rw [hx] at this; exact (Option.some.inj this).symm
      rw [hd]
      unfold marks
      rw [List.range_succ, List.map_append]; simp
    rw [hs, show k + (j : Int) + 1 = k + ((j + 1 : Nat) : Int) by omega]
theorem ZrG {n : Nat} {k : Int} (h : n ≤ 4194304) (h0 : 0 ≤ k) (h1 : k ≤ 9100000000000000000) : Ze0 (marks k n) k = some (k + (n : Int)) := by
  unfold Ze0
  let f : Nat → Int × Int := fun j => (k + (j : Int), (j : Int))
  have e0 : f 0 = (k, 0) := by simp [f]
  rw [← e0, Zd7 f n fun j hj => ?_]
  · refine Zd ?_
    simp only [f]
    rw [Zg2]
    have : decide ((n : Int) < ((marks k n).length : Int)) = false := by rw [ZbK]; simp
    rw [this]; rfl
  · simp only [f]
    rw [Zg2]
    have : decide ((j : Int) < ((marks k n).length : Int)) = true := by rw [ZbK]; simpa using hj
    rw [this, Zak (ZqD hj)]
    simp only [cond_true, Option.bind_some]
    have hb : ((k + (j : Int)) != (k + (j : Int))) = false := by simp
    rw [hb]
    simp only [cond_false]
    rw [wrapN hj (by unfold M63; omega), Zbf (by omega) (by omega), show k + (j : Int) + 1 = k + ((j + 1 : Nat) : Int) by omega]
def marksR : Int → List (List Int) → List (List Int)
  | _, [] => []
  | k, r :: rs => marks k r.length :: marksR (k + r.length) rs
def total : List (List Int) → Nat
  | [] => 0
  | r :: rs => r.length + total rs
theorem Zm6 : ∀ (xs : List (List Int)), (∀ r ∈ xs, r.length ≤ 4194304) → total xs ≤ xs.length * 4194304
  | [], _ => by simp [total]
  | r :: rs, h => by
    have h1 := h r (List.mem_cons_self ..)
    have h2 := Zm6 rs fun x hx => h x (List.mem_cons_of_mem _ hx)
    simp only [total, List.length_cons]; omega
theorem Zgy : ∀ (k : Int) (xs : List (List Int)), (marksR k xs).length = xs.length
  | _, [] => rfl
  | k, r :: rs => by simp [marksR, Zgy]
theorem Zvv {xs : List (List Int)} {j : Nat} {r : List Int} (h : xs[j]? = some r) : total (xs.take (j + 1)) = total (xs.take j) + r.length := by
  induction xs generalizing j with
  | nil => simp at h
  | cons x xs ih =>
    cases j with
    | zero => simp at h; subst h; simp [total]
    | succ j => simp only [List.take_succ_cons, total]; rw [ih (by simpa using h)]; omega
theorem Zr6 {xs : List (List Int)} {j : Nat} {r : List Int} (h : xs[j]? = some r) : ∀ k : Int, (marksR k xs)[j]? = some (marks (k + (total (xs.take j) : Int)) r.length) := by
  induction xs generalizing j with
  | nil => simp at h
  | cons x xs ih =>
    intro k
    cases j with
    | zero => simp at h; subst h; simp [marksR, total]
    | succ j =>
      simp only [marksR, List.getElem?_cons_succ, List.take_succ_cons, total]
      rw [ih (by simpa using h)]
      congr 2; omega
theorem Zo8 (xs : List (List Int)) (j : Nat) : total (xs.take j) ≤ total xs := by
  induction xs generalizing j with
  | nil => simp [total]
  | cons x xs ih =>
    cases j with
    | zero => simp [total]
    | succ j => simp only [List.take_succ_cons, total]; have := ih j; omega
theorem Zwj {xs : List (List Int)} {k : Int} (h : xs.length ≤ 4194304) (hr : ∀ r ∈ xs, r.length ≤ 4194304) (h0 : 0 ≤ k) (h1 : k ≤ 9000000000000000000) : Zek xs k = some (k + (total xs : Int), marksR k xs) := by
  have htot := Zm6 xs hr
  have htb : total xs ≤ 17592186044416 := Nat.le_trans htot (by omega)
  unfold Zek
  let f : Nat → Int × Int × List (List Int) := fun j => (k + (total (xs.take j) : Int), (j : Int), (marksR k xs).take j ++ xs.drop j)
  have e0 : f 0 = (k, 0, xs) := by simp [f, total]
  have e1 : f xs.length = (k + (total xs : Int), (xs.length : Int), marksR k xs) := by
    simp only [f]; rw [List.take_length, List.drop_length, List.append_nil, List.take_of_length_le (by rw [Zgy]; omega)]
  rw [← e0, Zd7 f xs.length fun j hj => ?_, e1]
  · refine Zd ?_
    rw [Zgr]
    have : decide ((xs.length : Int) < ((marksR k xs).length : Int)) = false := by rw [Zgy]; simp
    rw [this]; rfl
  · obtain ⟨r, hx⟩ := Za5 (xs := xs) (k := j) hj
    have htl : ((marksR k xs).take j).length = j := by rw [List.length_take, Zgy]; omega
    have hl : ((marksR k xs).take j ++ xs.drop j).length = xs.length := by rw [List.length_append, htl, List.length_drop]; omega
    have hc : ((marksR k xs).take j ++ xs.drop j)[j]? = some r := by
      rw [List.getElem?_append_right (by omega), htl, Nat.sub_self, List.getElem?_drop]; simpa using hx
    have htm := Zo8 xs j
    simp only [f]
    rw [Zgr]
    have : decide ((j : Int) < (((marksR k xs).take j ++ xs.drop j).length : Int)) = true := by rw [hl]; simpa using hj
    rw [this, Zak hc]
    simp only [cond_true, Option.bind_some]
    rw [ZnR (hr r (List.mem_of_getElem? hx)) (by omega) (by omega)]
    simp only [Option.bind_some]
    rw [wrapN hj (by unfold M63; omega), Int.toNat_natCast]
    have hs : ((marksR k xs).take j ++ xs.drop j).set j (marks (k + (total (xs.take j) : Int)) r.length) = (marksR k xs).take (j + 1) ++ xs.drop (j + 1) := by
      rw [List.set_append, if_neg (by omega), htl, Nat.sub_self, List.take_add_one, Zr6 hx]
      have hd : xs.drop j = r :: xs.drop (j + 1) := by
        rw [List.drop_eq_getElem_cons hj]
        congr 1
        have := List.getElem?_eq_getElem (l := xs) (i := j) hj
        rw [hx] at this; exact (Option.some.inj this).symm
      rw [hd]; simp
    rw [hs, Zvv hx, show k + (total (xs.take j) : Int) + (r.length : Int) = k + ((total (xs.take j) + r.length : Nat) : Int) by omega]
end Go.Proofs.YtapkemdomnkccaaGreat
namespace Go.Proofs.YtapkemdomnkccaaGreat
set_option linter.unusedVariables false
open Go Go.Vc
set_option linter.unusedSimpArgs false
theorem ZCf {xs : List (List Int)} {k : Int} (h : xs.length ≤ 4194304) (hr : ∀ r ∈ xs, r.length ≤ 4194304) (h0 : 0 ≤ k) (h1 : k ≤ 9000000000000000000) : ZA9 (marksR k xs) k = some (k + (total xs : Int)) := by
  have htot := Zm6 xs hr
  have htb : total xs ≤ 17592186044416 := Nat.le_trans htot (by omega)
  unfold ZA9
  let f : Nat → Int × Int := fun j => (k + (total (xs.take j) : Int), (j : Int))
  have e0 : f 0 = (k, 0) := by simp [f, total]
  have e1 : f xs.length = (k + (total xs : Int), (xs.length : Int)) := by simp only [f]; rw [List.take_length]
  rw [← e0, Zd7 f xs.length fun j hj => ?_, e1]
  · refine Zd ?_
    rw [ZBg]
    have : decide ((xs.length : Int) < ((marksR k xs).length : Int)) = false := by rw [Zgy]; simp
    rw [this]; rfl
  · obtain ⟨r, hx⟩ := Za5 (xs := xs) (k := j) hj
    have htm := Zo8 xs j
    have htm2 := Zo8 xs (j + 1)
    simp only [f]
    rw [ZBg]
    have : decide ((j : Int) < ((marksR k xs).length : Int)) = true := by rw [Zgy]; simpa using hj
    rw [this, Zak (Zr6 hx k)]
    simp only [cond_true, Option.bind_some]
    rw [ZrG (hr r (List.mem_of_getElem? hx)) (by omega) (by omega)]
    simp only [Option.bind_some]
    have hneg : decide (k + (total (xs.take j) : Int) + (r.length : Int) < 0) = false := by simp; omega
    rw [hneg]
    simp only [cond_false]
    rw [wrapN hj (by unfold M63; omega), Zvv hx, show k + (total (xs.take j) : Int) + (r.length : Int) = k + ((total (xs.take j) + r.length : Nat) : Int) by omega]
end Go.Proofs.YtapkemdomnkccaaGreat
namespace Go.Proofs.YtapkemdomnkccaaGreat
set_option linter.unusedVariables false
open Go Go.Vc
set_option linter.unusedSimpArgs false
theorem ZJ4 {p : Int} {xs : List (List Int)} (h : xs.length ≤ 4194304) (hr : ∀ r ∈ xs, r.length ≤ 4194304) : ZE4 (ZaT.mk p xs) 1 = some (1 + (total xs : Int), ZaT.mk p (marksR 1 xs)) := by
  unfold ZE4
  simp only
  rw [Zwj h hr (by omega) (by omega)]; rfl
theorem ZIG {p : Int} {xs : List (List Int)} (h : xs.length ≤ 4194304) (hr : ∀ r ∈ xs, r.length ≤ 4194304) : ZEA (ZaT.mk p (marksR 1 xs)) 1 = some (1 + (total xs : Int)) := by
  unfold ZEA
  simp only
  rw [ZCf h hr (by omega) (by omega)]
  simp only [Option.bind_some]
  have hneg : decide (1 + (total xs : Int) < 0) = false := by simp; omega
  rw [hneg]; rfl
end Go.Proofs.YtapkemdomnkccaaGreat
namespace Go.Proofs.YtapkemdomnkccaaGreat
set_option linter.unusedVariables false
open Go Go.Vc
set_option linter.unusedSimpArgs false
set_option linter.unusedVariables false
theorem ZJv {g : ZaB} {t k : Int} (hs : Sz2 g.Elements) (hg : ValidGr g) : ∃ r, ZDS g t k = some r ∧ ZDO g t k = some r ∧ (r.2 = 0 → Counts r.1 ∧ OkL (OkL I64) r.1 ∧ 0 ≤ k ∧ k ≤ g.Degree ∧ bin g.Degree.toNat k.toNat ≤ 2000) := by
  have n0 := hg.1.n0; have n1 := hg.1.n1
  have e : ZaB.mk g.Degree g.Elements = g := rfl
  have v1 := (Zpu hs).eq hg
  have v2 := (ZqT hs).eq hg
  by_cases h1 : 0 ≤ t ∧ t ≤ k ∧ k ≤ g.Degree
  · obtain ⟨t0, tk, kn⟩ := h1
    have c1 := (chooseI (n := g.Degree) (k := t) (by omega) n1 t0).1
    have c2 := (chooseI (n := g.Degree) (k := k) (by omega) n1 (by omega)).1
    have hc := ZHW hs hg (ks := [t, k]) (by simp) (fun x hx => by
      rcases List.mem_cons.1 hx with rfl | hx
      · omega
      · rw [List.mem_singleton.1 hx]; omega)
    by_cases h2 : bin g.Degree.toNat t.toNat ≤ 2000 ∧ bin g.Degree.toNat k.toNat ≤ 2000
    · obtain ⟨b1, b2⟩ := h2
      rw [if_pos (by
        intro x hx
        rcases List.mem_cons.1 hx with rfl | hx
        · exact b1
        · rw [List.mem_singleton.1 hx]; exact b2)] at hc
      obtain ⟨R, r1, r2, r3, r4, r5⟩ := ZGB (g := g) (k := t) hg.1 t0 (by omega)
      obtain ⟨C, q1, q2, q3, q4, q5⟩ := ZGB (g := g) (k := k) hg.1 (by omega) kn
      obtain ⟨m1, m2⟩ := ZJ7 (n := g.Degree) (t := t) (k := k) n1 (by omega) kn r3 q3 (by omega) (by omega)
      have m3 : ZFs g t k = some (km R C) := by unfold ZFs; simp (disch := omega) only [pz, r1, q1, m2]
      have hin : ∀ row ∈ km R C, row.length = C.length ∧ ∀ x ∈ row, 0 ≤ x ∧ x ≤ 2000 := fun row hrow => by
        obtain ⟨o, ho, rfl⟩ := List.mem_map.1 hrow
        refine ⟨by unfold kmRow; rw [List.length_map], fun x hx => ?_⟩
        obtain ⟨z, hz, rfl⟩ := List.mem_map.1 hx
        have := ZGZ o z
        have := (q3 z hz).len
        omega
      have hlen : (km R C).length = R.length := by unfold km; rw [List.length_map]
      have hC : Counts (km R C) := ⟨C.length, by omega, by omega, by omega, hin⟩
      have hO : OkL (OkL I64) (km R C) := ⟨by unfold M63; omega, fun row hrow => ⟨by have := (hin row hrow).1; unfold M63; omega, fun x hx => by have := (hin row hrow).2 x hx; unfold I64; omega⟩⟩
      refine ⟨(km R C, 0), ?_, ?_, fun _ => ⟨hC, hO, by omega, kn, b2⟩⟩
      · unfold ZDS ZFf ZFI
        simp (disch := omega) only [pz, e, v1, in_ok, c1, c2, m3]
      · unfold ZDO ZES
        simp (disch := omega) only [pz, e, v2, ZK, hc, q2, r2, m1]
    · rw [if_neg (fun hh => h2 ⟨hh t List.mem_cons_self, hh k (List.mem_cons_of_mem _ List.mem_cons_self)⟩)] at hc
      refine ⟨([], 5), ?_, ?_, fun h => absurd h (by decide)⟩
      · unfold ZDS ZFf
        by_cases h3 : bin g.Degree.toNat t.toNat ≤ 2000
        · simp (disch := omega) only [pz, e, v1, in_ok, c1, c2]
        · simp (disch := omega) only [pz, e, v1, in_ok, c1]
      · unfold ZDO ZES
        simp (disch := omega) only [pz, e, v2, ZK, hc]
  · refine ⟨([], 2), ?_, ?_, fun h => absurd h (by decide)⟩
    · unfold ZDS
      by_cases h2 : 0 ≤ k ∧ k ≤ g.Degree
      · simp (disch := omega) only [pz, e, v1, in_ok]
      · simp (disch := omega) only [pz, e, v1, in_ok]
    · unfold ZDO
      by_cases h2 : 0 ≤ t ∧ t ≤ k
      · simp (disch := omega) only [pz, e, v2, ZK]
      · simp (disch := omega) only [pz, e, v2, ZK]
theorem ZKN {g : ZaB} {k : Int} {l : List Int} (hs : Sz2 g.Elements) (hg : ValidGr g) (k0 : 1 ≤ k) (k1 : k ≤ g.Degree) (hb : bin g.Degree.toNat k.toNat ≤ 2000) (hl : l.length ≤ 2000) :
    ∃ r, ZD2 g k l = some r ∧ ZFk g k l = some r ∧ Sz2 r.1.Blocks := by
  have n0 := hg.1.n0; have n1 := hg.1.n1
  have e : ZaB.mk g.Degree g.Elements = g := rfl
  have v1 := (Zpu hs).eq hg
  have v2 := (ZqT hs).eq hg
  have c2 := (chooseI (n := g.Degree) (k := k) (by omega) n1 (by omega)).1
  have hc := ZHW hs hg (ks := [k]) (by simp) (fun x hx => by rw [List.mem_singleton.1 hx]; omega)
  rw [if_pos (by intro x hx; rw [List.mem_singleton.1 hx]; exact hb)] at hc
  obtain ⟨C, q1, q2, q3, q4, q5⟩ := ZGB (g := g) (k := k) hg.1 (by omega) k1
  have i1 := ZtN (l := l) (lo := 0) (hi := (C.length : Int) - 1) (by omega)
  have i2 := ZKZ (l := l) (n := (C.length : Int)) (by omega) (by omega) (by omega)
  have hz : ZF1 C = some (C.length : Int) := rfl
  unfold ZD2 ZFk
  by_cases hr : Rising l 0 ((C.length : Int) - 1)
  · have d1 := ZKo (g := g) q3 (by omega) (by omega) hr
    have d2 := ZID (g := g) q3 (by omega) (by omega) hr
    have hbd := (ZGo q3 (by omega) (by omega) hr).2
    refine ⟨made g.Degree (catO C l), ?_, ?_, ZJb hbd⟩
    · simp (disch := omega) only [pz, e, v1, in_ok, c2, q1, i1.eq hr, d1]
    · simp (disch := omega) only [pz, e, v2, hc, q2, hz, i2.eq hr, d2]
  · refine ⟨(ZaT.mk 0 [], 2), ?_, ?_, ⟨by simp, by simp⟩⟩
    · simp (disch := omega) only [pz, e, v1, in_ok, c2, q1, i1.ne hr]
    · simp (disch := omega) only [pz, e, v2, hc, q2, hz, i2.ne hr]
theorem ZIM {g : ZaB} (hs : Sz2 g.Elements) (t k lam budget : Int) : ∃ r, ZFu g t k lam budget = some r ∧ ZEq g t k lam budget = some r ∧ Sz2 r.1.Blocks := by
  have e : ZaB.mk g.Degree g.Elements = g := rfl
  have nil : ∀ c : Int, Sz2 ((ZaT.mk 0 [], c) : ZaT × Int).1.Blocks := fun c => ⟨by simp, by simp⟩
  unfold ZFu ZEq
  by_cases hg : ValidGr g
  · have v1 := (Zpu hs).eq hg
    have v2 := (ZqT hs).eq hg
    by_cases hb : 1 ≤ budget ∧ budget ≤ 20000
    · obtain ⟨⟨m, c⟩, m1, m2, m3⟩ := ZJv (t := t) (k := k) hs hg
      by_cases hc : c = 0
      · subst hc
        obtain ⟨w1, w2, w3, w4, w5⟩ := m3 rfl
        by_cases hk : k = 0
        · refine ⟨(ZaT.mk 0 [], 2), ?_, ?_, nil 2⟩
          · simp (disch := omega) only [pz, e, v1, ZEE, m1]
          · simp (disch := omega) only [pz, e, v2, ZDG, m2]
        · by_cases hl : 1 ≤ lam ∧ lam ≤ 2000
          · obtain ⟨⟨l, c2⟩, f1, f2, f3⟩ := ZIx (lam := lam) (budget := budget) w2 w1 hb hl
            have p1 : ZFa g k lam budget (m, 0) = if c2 = 0 then ZD2 g k l else some (ZaT.mk 0 [], c2) := by
              unfold ZFa
              by_cases h0 : c2 = 0
              · rw [if_pos h0]
                subst h0
                simp (disch := omega) only [pz, f1, e]
                cases ZD2 g k l <;> rfl
              · rw [if_neg h0]
                simp (disch := omega) only [pz, f1]
            by_cases h0 : c2 = 0
            · rw [if_pos h0] at p1
              obtain ⟨r, o1, o2, o3⟩ := ZKN (k := k) (l := l) hs hg (by omega) w4 w5 f3
              rw [o1] at p1
              refine ⟨r, ?_, ?_, o3⟩
              · simp (disch := omega) only [pz, e, v1, ZEE, m1, ZGz, p1]
              · simp (disch := omega) only [pz, e, v2, ZDG, m2, f2, o2]
            · rw [if_neg h0] at p1
              refine ⟨(ZaT.mk 0 [], c2), ?_, ?_, nil c2⟩
              · simp (disch := omega) only [pz, e, v1, ZEE, m1, ZGz, p1]
              · simp (disch := omega) only [pz, e, v2, ZDG, m2, f2]
          · have f2 : ZDY m lam budget = some ([], 2) := by
              unfold ZDY
              simp (disch := omega) only [pz, (ZHj w2).eq w1, ZDG, ZH1]
            refine ⟨(ZaT.mk 0 [], 2), ?_, ?_, nil 2⟩
            · simp (disch := omega) only [pz, e, v1, ZEE, m1, ZGz]
            · simp (disch := omega) only [pz, e, v2, ZDG, m2, f2]
      · refine ⟨(ZaT.mk 0 [], c), ?_, ?_, nil c⟩
        · simp (disch := omega) only [pz, e, v1, ZEE, m1]
        · simp (disch := omega) only [pz, e, v2, ZDG, m2]
    · refine ⟨(ZaT.mk 0 [], 2), ?_, ?_, nil 2⟩
      · simp (disch := omega) only [pz, e, v1, ZEE]
      · simp (disch := omega) only [pz, e, v2, ZDG]
  · have v1 := (Zpu hs).ne hg
    have v2 := (ZqT hs).ne hg
    refine ⟨(ZaT.mk 0 [], 1), ?_, ?_, nil 1⟩
    · simp (disch := omega) only [pz, e, v1]
    · simp (disch := omega) only [pz, e, v2]
end Go.Proofs.YtapkemdomnkccaaGreat
namespace Go.Proofs.YtapkemdomnkccaaGreat
set_option linter.unusedVariables false
open Go Go.Vc
set_option linter.unusedSimpArgs false
set_option linter.unusedVariables false
theorem ZHT {xs : List (List Int)} (h : Sz2 xs) : OkL (OkL fun _ => True) xs := ⟨by have := h.1; unfold M63; omega, fun x hx => ⟨by have := h.2 x hx; unfold M63; omega, fun _ _ => trivial⟩⟩
theorem ZH9 {a : ZDj} (h : ZGC a) : Sz2 (ZFg a).Elements := by
  have e : (ZFg a).Elements = a.Elements := by simp [ZFg]
  rw [e]
  exact ⟨by have := h.1; omega, fun b hb => by have := (h.2 b hb).1; omega⟩
theorem ZKR {p : Int} {xs : List (List Int)} (h : xs.length ≤ 4194304) (hr : ∀ r ∈ xs, r.length ≤ 4194304) : ZE6 (ZaB.mk p xs) 1 = some (1 + (total xs : Int), ZaB.mk p (marksR 1 xs)) := by
  unfold ZE6
  simp only
  rw [Zwj h hr (by omega) (by omega)]; rfl
theorem ZKC {a : ZDj} {t k lam B : Int} (ha : ZGm a) (_ : I64 t) (_ : I64 k) (_ : I64 lam) (_ : I64 B) : ZFX a t k lam B = some true := by
  unfold ZFX
  obtain ⟨r, hr, c⟩ := ZIn a 1048576 ha (by omega) (by omega)
  have e : ZDj.mk a.Degree a.Elements = a := rfl
  rcases c with rfl | ⟨r0, r1, sa⟩
  · simp (disch := omega) only [pz, hr]
  · have hsz := ZH9 sa
    obtain ⟨⟨d, c⟩, h1, h2, h3⟩ := ZIM hsz t k lam B
    replace h3 : Sz2 d.Blocks := h3
    have ht := ZKf sa
    generalize hx : ZFg a = x at *
    have hl : d.Blocks.length ≤ 4194304 := by have := h3.1; omega
    have hr2 : ∀ r ∈ d.Blocks, r.length ≤ 4194304 := fun r hr => by have := h3.2 r hr; omega
    have hl3 : x.Elements.length ≤ 4194304 := by have := hsz.1; omega
    have hr3 : ∀ r ∈ x.Elements, r.length ≤ 4194304 := fun r hr => by have := hsz.2 r hr; omega
    have hq := (ZH7 (ZHT h3)).eq (rfl : d = d)
    have hq2 := (ZKD (ZHT hsz)).eq (rfl : x = x)
    have e1 : ZaT.mk d.Points d.Blocks = d := rfl
    have e2 : ZaB.mk x.Degree x.Elements = x := rfl
    have hm := ZJ4 (p := d.Points) hl hr2
    have hh := ZIG (p := d.Points) hl hr2
    have hm2 := ZKR (p := x.Degree) hl3 hr3
    have hn : ¬ (1 + (total d.Blocks : Int) < 0) := by omega
    have hn2 : ¬ (1 + (total x.Elements : Int) < 0) := by omega
    have k3 : ZFr (d, c) (1 + (total d.Blocks : Int), ZaT.mk d.Points (marksR 1 d.Blocks)) = some true := by
      unfold ZFr
      simp (disch := omega) only [pz, hh]
    have k2 : ZFl a t k lam B (d, c) (d, c) = some true := by
      unfold ZFl
      simp (disch := omega) only [pz, hm, hh, e, ht, h2, e1, hq, k3]
    have k1 : ZEZ a t k lam B (d, c) x (d, c) = some true := by
      unfold ZEZ
      rw [e, ht]
      simp only [Option.bind_some]
      rw [e2, hq2]
      simp only [Option.bind_some, Bool.not_true, cond_false]
      rw [← e2, hm2]
      simp only [Option.bind_some]
      simp (disch := omega) only [pz, e1, hq, k2]
    rw [e, hr]
    simp (disch := omega) only [pz, ht, h1, e2, h2, e1, hq, k1]
end Go.Proofs.YtapkemdomnkccaaGreat
