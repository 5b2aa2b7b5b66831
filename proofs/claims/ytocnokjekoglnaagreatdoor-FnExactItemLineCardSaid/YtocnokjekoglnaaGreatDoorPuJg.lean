import Derived.Test.YtocnokjekoglnaaGreatDoorPuJf
import Derived.Test.YtocnokjekoglnaaGreatDoorPuJc
import Derived.Test.YtocnokjekoglnaaGreatDoorPuJb
import Derived.Test.YtocnokjekoglnaaGreatDoorPuJa
namespace Go.Proofs.YtocnokjekoglnaaGreatDoor
open Go Go.Vc
set_option linter.unusedSimpArgs false
set_option linter.unusedVariables false
structure VMat (q : Int) (m : List (List Int)) : Prop where
  n1 : 1 ≤ (m.length : Int)
  n2 : (m.length : Int) ≤ 32
  w1 : 1 ≤ ((ix m 0).length : Int)
  w2 : ((ix m 0).length : Int) ≤ 32
  row : ∀ i, 0 ≤ i → i < (m.length : Int) → ((ix m i).length : Int) = (ix m 0).length ∧ In q (ix m i)
theorem VMat.mat {q : Int} {m : List (List Int)} (h : VMat q m) : Mat q (ix m 0).length m := ⟨fun i a b => (h.row i a b).1, fun i a b => (h.row i a b).2, by have := h.n2; omega, by have := h.w2; omega⟩
theorem Zon {f : Zc} {q : Int} (hs : ZbY f = some q) (hq : 2 ≤ q) (hq64 : q ≤ 64) {v : List Int} (hv : (v.length : Int) ≤ 1048576) : IsQ (ZfR f v) (In q v) := by
  unfold ZfR
  rw [hs]
  obtain ⟨c, q1, q2⟩ := ZcJ (B := Zcd v q) (P := fun k => 0 ≤ ix v k ∧ ix v k ≤ q - 1) (t := true) (f := false) (i := 0) (n := v.length) (by omega)
    (fun k a b c => by simp (disch := omega) only [pz, Zcd, in_ok]) (fun k a b c => by simp (disch := omega) only [pz, Zcd, in_ok]) (by simp (disch := omega) only [pz, Zcd])
  refine ⟨c, ?_, q2.trans ⟨fun h i a b => ?_, fun h i a b => ?_⟩⟩
  · show loop (Zcd v q) 0 = some c
    rw [q1]; cases c <;> rfl
  · have := h i a b; omega
  · have := h i a b; omega
theorem ZnI {f : Zc} {q : Int} (hm : Made q f) (hq : 2 ≤ q) (hq64 : q ≤ 64) {m : List (List Int)} (hs : Sz2 m) : IsQ (Zf4 f m) (VMat q m) := by
  have hN := hs.1
  unfold Zf4 ZgI
  rw [hm.oks]
  by_cases h1 : (m.length : Int) = 0
  · simp (disch := omega) only [pz, ]; exact IsQ.f fun h => by have := h.n1; omega
  · by_cases h2 : (m.length : Int) ≤ 32
    · by_cases h3 : ((ix m 0).length : Int) = 0
      · simp (disch := omega) only [pz, ]; exact IsQ.f fun h => by have := h.w1; omega
      · by_cases h4 : ((ix m 0).length : Int) ≤ 32
        · simp (disch := omega) only [pz, ]
          refine (Zam (P := fun i => ((ix m i).length : Int) = (ix m 0).length ∧ In q (ix m i)) (n := m.length) (Q := True) (by omega) ?_ ?_ fun _ => ?_).congr ⟨fun g => ⟨by omega, h2, by omega, h4, g.1⟩, fun g => ⟨g.row, trivial⟩⟩
          · intro i g0 g1 g2
            have q1 := (Zon hm.szs hq hq64 (hs.row g0 g1)).eq g2.2
            have := g2.1
            simp (disch := omega) only [pz, Zec, q1]
          · intro i g0 g1 g2
            by_cases hl : ((ix m i).length : Int) = (ix m 0).length
            · have q1 := (Zon hm.szs hq hq64 (hs.row g0 g1)).ne fun h => g2 ⟨hl, h⟩
              simp (disch := omega) only [pz, Zec, q1]
            · simp (disch := omega) only [pz, Zec]
          · rw [Zd (r := true) (by simp (disch := omega) only [pz, Zec])]; exact IsQ.t trivial
        · simp (disch := omega) only [pz, ]; exact IsQ.f fun h => h4 h.w2
    · simp (disch := omega) only [pz, ]; exact IsQ.f fun h => h2 h.n2
theorem Zno {f : Zc} {q : Int} (hm : Made q f) (hq : 2 ≤ q) (hq64 : q ≤ 64) {m : List (List Int)} (hs : Sz2 m) : IsQ (Ze9 f m) (VMat q m) := by
  have hN := hs.1
  have e : Zc.mk f.Prime f.Degree f.Poly = f := rfl
  unfold Ze9 Zg0
  rw [e, hm.oki]
  by_cases h1 : (m.length : Int) = 0
  · simp (disch := omega) only [pz, Z2, ZI]; exact IsQ.f fun h => by have := h.n1; omega
  · by_cases h2 : (m.length : Int) ≤ 32
    · by_cases h3 : ((ix m 0).length : Int) = 0
      · simp (disch := omega) only [pz, Z2, ZJ, ZI]; exact IsQ.f fun h => by have := h.w1; omega
      · by_cases h4 : ((ix m 0).length : Int) ≤ 32
        · simp (disch := omega) only [pz, Z2, ZJ, ZI, hm.szi]
          have hc := containsLL (s := m) (fn := fun y0 => Zdk y0 m q) (q := fun r => ¬ ((r.length : Int) = (ix m 0).length ∧ In q r)) hN fun r hr => by
            show IsQ (Zdk r m q) _
            unfold Zdk Zht
            by_cases hl : (r.length : Int) = (ix m 0).length
            · have hi := (containsL (s := r) (fn := fun y0 => ZcG y0 q) (q := fun x => ¬ (0 ≤ x ∧ x ≤ q - 1)) (hs.2 r hr) fun x hx => by
                show IsQ (ZcG x q) _
                unfold ZcG
                by_cases hx : 0 ≤ x ∧ x ≤ q - 1
                · simp (disch := omega) only [pz, ZI]; exact IsQ.f fun h => h hx
                · simp (disch := omega) only [pz, ZI]; exact IsQ.t hx).not.not
              have hi2 : IsQ (((Zap r fun y0 => ZcG y0 q).bind fun r => some (!r)).bind fun r => some (!r)) (¬ ((r.length : Int) = (ix m 0).length ∧ In q r)) := by
                refine hi.congr ⟨fun h g => h fun ⟨x, hx, hn⟩ => ?_, fun h g => h ⟨hl, fun k a b => ?_⟩⟩
                · obtain ⟨k, a, b, rfl⟩ := Z1 hx
                  have := g.2 k a b
                  exact hn ⟨this.1, by omega⟩
                · have := Classical.byContradiction fun hh : ¬ (0 ≤ ix r k ∧ ix r k ≤ q - 1) => g ⟨ix r k, ZV a b, hh⟩
                  omega
              simp (disch := omega) only [pz, ]
              exact hi2
            · simp (disch := omega) only [pz, ]
              exact IsQ.t fun h => hl h.1
          refine hc.not.congr ⟨fun g => ⟨by omega, h2, by omega, h4, fun i a b => ?_⟩, fun g => ?_⟩
          · exact Classical.byContradiction fun hh => g ⟨ix m i, ZV a b, hh⟩
          · rintro ⟨x, hx, hn⟩
            obtain ⟨i, a, b, rfl⟩ := Z1 hx
            exact hn (g.row i a b)
        · simp (disch := omega) only [pz, Z2, ZJ, ZI]; exact IsQ.f fun h => h4 h.w2
    · simp (disch := omega) only [pz, Z2, ZI]; exact IsQ.f fun h => h2 h.n2
theorem Zl5 {q : Int} (hq : 2 ≤ q) (hq64 : q ≤ 64) : ∀ (e : Nat) (n : Int), e ≤ 64 → 1 ≤ n → n ≤ 4096 → ∃ cs ci : Int, loop (Zdm q) ((e : Int), n) = some cs ∧ loop (ZaK q 4096) ((e : Int), n) = some ci ∧ (cs = 0 ↔ 4096 < ci)
  | 0, n, _, h1, h2 => by
    refine ⟨n, n, Zd ?_, Zd ?_, by omega⟩
    · simp (disch := omega) only [pz, Zdm]
    · simp (disch := omega) only [pz, ZaK]
  | e + 1, n, he, h1, h2 => by
    have hm0 : 1 * 2 ≤ n * q := Int.mul_le_mul h1 hq (by omega) (by omega)
    have hm1 : n * q ≤ 4096 * 64 := Int.mul_le_mul h2 hq64 (by omega) (by omega)
    have ee : ((e + 1 : Nat) : Int) - 1 = (e : Int) := by omega
    have hgo : loop (ZaK q 4096) (((e + 1 : Nat) : Int), n) = loop (ZaK q 4096) ((e : Int), n * q) := by
      refine ZE ?_
      simp (disch := omega) only [pz, ZaK, Zdy, ee]
    by_cases h : n * q ≤ 4096
    · obtain ⟨cs, ci, g1, g2, g3⟩ := Zl5 hq hq64 e (n * q) (by omega) (by omega) h
      refine ⟨cs, ci, ?_, by rw [hgo, g2], g3⟩
      rw [← g1]
      refine ZE ?_
      simp (disch := omega) only [pz, Zdm, ee]
    · refine ⟨0, n * q, Zd ?_, ?_, by omega⟩
      · simp (disch := omega) only [pz, Zdm]
      · rw [hgo]
        refine Zd ?_
        cases e with
        | zero => simp (disch := omega) only [pz, ZaK]
        | succ e => simp (disch := omega) only [pz, ZaK]
theorem Zsf {a b : List (List Int)} (ha : (a.length : Int) ≤ 1048576) (hr : ∀ x ∈ a, (x.length : Int) ≤ 1048576) : IsQ (Zgy a b) (a = b) := by
  unfold Zgy
  refine IsQ.bind_id ?_
  unfold Zhb
  refine Zc8 (by unfold M63; omega) (fun k x y hx hy => ?_) (by simp (disch := omega) only [pz, Zfd])
  have h1 := ZW hx
  have h2 := ZW hy
  have hs := ZrK (a := x) (b := y) (hr x (List.mem_of_getElem? hx))
  by_cases h : x = y
  · exact Zbd (c := true) (by simp [h]) (by simp (disch := omega) only [pz, Zfd, ZM hx, ZM hy, hs.eq h])
  · exact Zbd (c := false) (by simp [h]) (by simp (disch := omega) only [pz, Zfd, ZM hx, ZM hy, hs.ne h])
theorem ZsO {o : Zz} (hs : Sz2 o.Rows) : ∃ cs ci b, Zgm o = some cs ∧ Zft o = some ci ∧ Zdp cs = some b ∧ Zeb ci = some b := by
  have hN := hs.1
  unfold Zgm Zft
  rw [ZfD hs]
  rcases ZvK o.Size with ⟨f, hm⟩ | ⟨h1, e, h2⟩
  · obtain ⟨inv, hF⟩ := ZrF hm.gf
    have hp := hF.fd.p2
    have hq := hF.q2
    have hq64 := hF.q64
    rw [hm.split, hm.mki, hm.mks]
    have e : Zc.mk f.Prime f.Degree f.Poly = f := rfl
    suffices hh : ∃ b, Zdp ⟨f, o.Rows⟩ = some b ∧ Zeb ⟨f, o.Rows⟩ = some b by
      obtain ⟨b, h1, h2⟩ := hh
      refine ⟨⟨f, o.Rows⟩, ⟨f, o.Rows⟩, b, ?_, ?_, h1, h2⟩
      · simp (disch := omega) only [pz, e]
      · simp (disch := omega) only [pz, e]
    unfold Zdp Zeb ZgN ZhY
    by_cases hV : VMat o.Size o.Rows
    · have q1 := (ZnI hm hq hq64 hs).eq hV
      have q2 := (Zno hm hq hq64 hs).eq hV
      have n1 := hV.n1; have w2 := hV.w2
      by_cases h8 : (o.Rows.length : Int) ≤ 8
      · obtain ⟨cs, ci, g1, g2, g3⟩ := Zl5 hq hq64 o.Rows.length 1 (by omega) (by omega) (by omega)
        have c1 : ZgM o.Size (o.Rows.length : Int) = some cs := g1
        have c2 : Zbt o.Size (o.Rows.length : Int) 4096 = some ci := g2
        by_cases hz : cs = 0
        · have hci := g3.1 hz
          refine ⟨false, ?_, ?_⟩
          · simp (disch := omega) only [pz, e, q1, hm.szs, c1]
          · simp (disch := omega) only [pz, e, q2, hm.szi, Z2, c2]
        · have hci : ¬ 4096 < ci := fun h => hz (g3.2 h)
          obtain ⟨R, piv, d, r1, r2, r3, r4⟩ := Zq7 hF hs hV.mat (by omega) n1
          have s1 := Zmi (a := R) (b := o.Rows) (by omega) r4
          have s2 := Zsf (a := R) (b := o.Rows) (by omega) r4
          have ht := Zv6 hF hm.szi
          obtain ⟨b, s1, s3⟩ := s1
          obtain ⟨b', s2, s4⟩ := s2
          have : b = b' := by rw [Bool.eq_iff_iff, s3, s4]
          subst this
          refine ⟨b, ?_, ?_⟩
          · simp (disch := omega) only [pz, e, q1, hm.szs, c1, r1, s1]
          · simp (disch := omega) only [pz, e, q2, hm.szi, Z2, c2, ht, r2, s2]
      · refine ⟨false, ?_, ?_⟩
        · simp (disch := omega) only [pz, e, q1]
        · simp (disch := omega) only [pz, e, q2]
    · have q1 := (ZnI hm hq hq64 hs).ne hV
      have q2 := (Zno hm hq hq64 hs).ne hV
      refine ⟨false, ?_, ?_⟩
      · simp (disch := omega) only [pz, e, q1]
      · simp (disch := omega) only [pz, e, q2]
  · rw [h1, h2]
    refine ⟨⟨⟨0, 0, []⟩, []⟩, ⟨⟨0, 0, []⟩, o.Rows⟩, false, ?_, ?_, ?_, ?_⟩
    · simp (disch := omega) only [pz, ]
    · simp (disch := omega) only [pz, ]
    · rfl
    · rfl
end Go.Proofs.YtocnokjekoglnaaGreatDoor
namespace Go.Proofs.YtocnokjekoglnaaGreatDoor
set_option linter.unusedVariables false
open Go Go.Vc
set_option linter.unusedSimpArgs false
theorem two_q {a b : Option Bool} {p : Prop} (ha : IsQ a p) (hb : IsQ b p) : ∃ c, a = some c ∧ b = some c := by
  obtain ⟨c, h1, h2⟩ := ha
  obtain ⟨d, h3, h4⟩ := hb
  have : c = d := by rw [Bool.eq_iff_iff, h2, h4]
  subst this
  exact ⟨c, h1, h3⟩
theorem ZpB {o : Zz} (hs : Sz2 o.Rows) : ∃ c, ZeN o = some c ∧ Zbi o = some c := by
  have hN := hs.1
  have e : Zz.mk o.Kind o.Size o.Rows = o := rfl
  unfold ZeN Zbi
  by_cases h1 : o.Kind = 1
  · obtain ⟨c, q1, q2⟩ := two_q (Zw7 hs) (ZqM hs)
    by_cases hl : (o.Rows.length : Int) = o.Size
    · refine ⟨c, ?_, ?_⟩
      · cases c <;> simp (disch := omega) only [pz, q1]
      · simp (disch := omega) only [pz, q2, Z2]
    · refine ⟨false, ?_, ?_⟩
      · cases c <;> simp (disch := omega) only [pz, q1]
      · simp (disch := omega) only [pz, q2, Z2]
  by_cases h2 : o.Kind = 2
  · obtain ⟨c, q1, q2⟩ := two_q (Zue (d := ⟨o.Size, o.Rows⟩) hs) (Zrg (d := ⟨o.Size, o.Rows⟩) hs)
    refine ⟨c, ?_, ?_⟩
    · simp (disch := omega) only [pz, q1]
    · simp (disch := omega) only [pz, e, ZhH, ZfD hs, q2]
  by_cases h3 : o.Kind = 3
  · obtain ⟨c, q1, q2⟩ := two_q (ZtP hs) (ZvM hs)
    by_cases hl : (o.Rows.length : Int) = o.Size
    · refine ⟨c, ?_, ?_⟩
      · cases c <;> simp (disch := omega) only [pz, q1]
      · simp (disch := omega) only [pz, q2, Z2]
    · refine ⟨false, ?_, ?_⟩
      · cases c <;> simp (disch := omega) only [pz, q1]
      · simp (disch := omega) only [pz, q2, Z2]
  by_cases h4 : o.Kind = 4
  · by_cases hl : 0 < (o.Rows.length : Int)
    · obtain ⟨c, q1, q2⟩ := two_q (ZsB (a := ⟨o.Size, (ix o.Rows 0).length, o.Rows⟩) hs) (ZuE (a := ⟨o.Size, (ix o.Rows 0).length, o.Rows⟩) hs)
      refine ⟨c, ?_, ?_⟩
      · simp (disch := omega) only [pz, ZeF, q1]
      · simp (disch := omega) only [pz, e, ZgE, ZJ, ZfD hs, q2]
    · refine ⟨false, ?_, ?_⟩
      · simp (disch := omega) only [pz, ZeF]
      · simp (disch := omega) only [pz, ]
  by_cases h5 : o.Kind = 5
  · obtain ⟨cs, ci, b, g1, g2, g3, g4⟩ := ZsO hs
    have e2 : ZaL.mk (Zc.mk cs.Field.Prime cs.Field.Degree cs.Field.Poly) cs.Rows = cs := rfl
    refine ⟨b, ?_, ?_⟩
    · simp (disch := omega) only [pz, g1, e2, g3]
    · simp (disch := omega) only [pz, e, g2, g4]
  by_cases h6 : o.Kind = 6
  · obtain ⟨r, g1, g2, _⟩ := ZrT hs
    refine ⟨r.2, ?_, ?_⟩
    · simp (disch := omega) only [pz, g1]
    · simp (disch := omega) only [pz, e, g2]
  by_cases h7 : o.Kind = 7
  · obtain ⟨c, q1, q2⟩ := two_q (ZvP (g := ⟨o.Size, o.Rows⟩) hs) (ZtC (g := ⟨o.Size, o.Rows⟩) hs)
    refine ⟨c, ?_, ?_⟩
    · simp (disch := omega) only [pz, q1]
    · simp (disch := omega) only [pz, e, Zg1, ZfD hs, q2]
  · refine ⟨false, ?_, ?_⟩
    · simp (disch := omega) only [pz, ]
    · simp (disch := omega) only [pz, ]
end Go.Proofs.YtocnokjekoglnaaGreatDoor
