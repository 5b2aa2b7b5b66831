import Derived.Test.YtapkemdomnkccaaGreatPuJf
import Derived.Test.YtapkemdomnkccaaGreatPuJc
import Derived.Test.YtapkemdomnkccaaGreatPuJb
import Derived.Test.YtapkemdomnkccaaGreatPuJa
namespace Go.Proofs.YtapkemdomnkccaaGreat
open Go Go.Vc
set_option linter.unusedSimpArgs false
set_option linter.unusedVariables false
structure VMat (q : Int) (m : List (List Int)) : Prop where
  n1 : 1 ≤ (m.length : Int)
  n2 : (m.length : Int) ≤ 32
  w1 : 1 ≤ ((ix m 0).length : Int)
  w2 : ((ix m 0).length : Int) ≤ 32
  row : ∀ i, 0 ≤ i → i < (m.length : Int) → ((ix m i).length : Int) = (ix m 0).length ∧ In q (ix m i)
theorem VMat.mat {q : Int} {m : List (List Int)} (h : VMat q m) : Mat q (ix m 0).length m := ⟨fun i a b => (h.row i a b).1, fun i a b => (h.row i a b).2, by have := h.n2; omega, by have := h.w2; omega⟩
theorem ZrD {f : Ze} {q : Int} (hs : Zck f = some q) (hq : 2 ≤ q) (hq64 : q ≤ 64) {v : List Int} (hv : (v.length : Int) ≤ 1048576) : IsQ (ZfS f v) (In q v) := by
  unfold ZfS
  rw [hs]
  obtain ⟨c, q1, q2⟩ := Zcw (B := ZdF v q) (P := fun k => 0 ≤ ix v k ∧ ix v k ≤ q - 1) (t := true) (f := false) (i := 0) (n := v.length) (by omega)
    (fun k a b c => by simp (disch := omega) only [pz, ZdF, in_ok]) (fun k a b c => by simp (disch := omega) only [pz, ZdF, in_ok]) (by simp (disch := omega) only [pz, ZdF])
  refine ⟨c, ?_, q2.trans ⟨fun h i a b => ?_, fun h i a b => ?_⟩⟩
  · show loop (ZdF v q) 0 = some c
    rw [q1]; cases c <;> rfl
  · have := h i a b; omega
  · have := h i a b; omega
theorem ZpO {f : Ze} {q : Int} (hm : Made q f) (hq : 2 ≤ q) (hq64 : q ≤ 64) {m : List (List Int)} (hs : Sz2 m) : IsQ (ZhG f m) (VMat q m) := by
  have hN := hs.1
  unfold ZhG Zjj
  rw [hm.oks]
  by_cases h1 : (m.length : Int) = 0
  · simp (disch := omega) only [pz, ]; exact IsQ.f fun h => by have := h.n1; omega
  · by_cases h2 : (m.length : Int) ≤ 32
    · by_cases h3 : ((ix m 0).length : Int) = 0
      · simp (disch := omega) only [pz, ]; exact IsQ.f fun h => by have := h.w1; omega
      · by_cases h4 : ((ix m 0).length : Int) ≤ 32
        · simp (disch := omega) only [pz, ]
          refine (Zaf (P := fun i => ((ix m i).length : Int) = (ix m 0).length ∧ In q (ix m i)) (n := m.length) (Q := True) (by omega) ?_ ?_ fun _ => ?_).congr ⟨fun g => ⟨by omega, h2, by omega, h4, g.1⟩, fun g => ⟨g.row, trivial⟩⟩
          · intro i g0 g1 g2
            have q1 := (ZrD hm.szs hq hq64 (hs.row g0 g1)).eq g2.2
            have := g2.1
            simp (disch := omega) only [pz, Ze8, q1]
          · intro i g0 g1 g2
            by_cases hl : ((ix m i).length : Int) = (ix m 0).length
            · have q1 := (ZrD hm.szs hq hq64 (hs.row g0 g1)).ne fun h => g2 ⟨hl, h⟩
              simp (disch := omega) only [pz, Ze8, q1]
            · simp (disch := omega) only [pz, Ze8]
          · rw [Zd (r := true) (by simp (disch := omega) only [pz, Ze8])]; exact IsQ.t trivial
        · simp (disch := omega) only [pz, ]; exact IsQ.f fun h => h4 h.w2
    · simp (disch := omega) only [pz, ]; exact IsQ.f fun h => h2 h.n2
theorem Zpg {f : Ze} {q : Int} (hm : Made q f) (hq : 2 ≤ q) (hq64 : q ≤ 64) {m : List (List Int)} (hs : Sz2 m) : IsQ (ZhW f m) (VMat q m) := by
  have hN := hs.1
  have e : Ze.mk f.Prime f.Degree f.Poly = f := rfl
  unfold ZhW Zjm
  rw [e, hm.oki]
  by_cases h1 : (m.length : Int) = 0
  · simp (disch := omega) only [pz, Zaa, ZT]; exact IsQ.f fun h => by have := h.n1; omega
  · by_cases h2 : (m.length : Int) ≤ 32
    · by_cases h3 : ((ix m 0).length : Int) = 0
      · simp (disch := omega) only [pz, Zaa, ZR, ZT]; exact IsQ.f fun h => by have := h.w1; omega
      · by_cases h4 : ((ix m 0).length : Int) ≤ 32
        · simp (disch := omega) only [pz, Zaa, ZR, ZT, hm.szi]
          have hc := containsLL (s := m) (fn := fun y0 => ZeO y0 m q) (q := fun r => ¬ ((r.length : Int) = (ix m 0).length ∧ In q r)) hN fun r hr => by
            show IsQ (ZeO r m q) _
            unfold ZeO Zh7
            by_cases hl : (r.length : Int) = (ix m 0).length
            · have hi := (containsL (s := r) (fn := fun y0 => Zdp y0 q) (q := fun x => ¬ (0 ≤ x ∧ x ≤ q - 1)) (hs.2 r hr) fun x hx => by
                show IsQ (Zdp x q) _
                unfold Zdp
                by_cases hx : 0 ≤ x ∧ x ≤ q - 1
                · simp (disch := omega) only [pz, ZT]; exact IsQ.f fun h => h hx
                · simp (disch := omega) only [pz, ZT]; exact IsQ.t hx).not.not
              have hi2 : IsQ (((ZaF r fun y0 => Zdp y0 q).bind fun r => some (!r)).bind fun r => some (!r)) (¬ ((r.length : Int) = (ix m 0).length ∧ In q r)) := by
                refine hi.congr ⟨fun h g => h fun ⟨x, hx, hn⟩ => ?_, fun h g => h ⟨hl, fun k a b => ?_⟩⟩
                · obtain ⟨k, a, b, rfl⟩ := Zae hx
                  have := g.2 k a b
                  exact hn ⟨this.1, by omega⟩
                · have := Classical.byContradiction fun hh : ¬ (0 ≤ ix r k ∧ ix r k ≤ q - 1) => g ⟨ix r k, ZL a b, hh⟩
                  omega
              simp (disch := omega) only [pz, ]
              exact hi2
            · simp (disch := omega) only [pz, ]
              exact IsQ.t fun h => hl h.1
          refine hc.not.congr ⟨fun g => ⟨by omega, h2, by omega, h4, fun i a b => ?_⟩, fun g => ?_⟩
          · exact Classical.byContradiction fun hh => g ⟨ix m i, ZL a b, hh⟩
          · rintro ⟨x, hx, hn⟩
            obtain ⟨i, a, b, rfl⟩ := Zae hx
            exact hn (g.row i a b)
        · simp (disch := omega) only [pz, Zaa, ZR, ZT]; exact IsQ.f fun h => h4 h.w2
    · simp (disch := omega) only [pz, Zaa, ZT]; exact IsQ.f fun h => h2 h.n2
theorem ZqI {q : Int} (hq : 2 ≤ q) (hq64 : q ≤ 64) : ∀ (e : Nat) (n : Int), e ≤ 64 → 1 ≤ n → n ≤ 4096 → ∃ cs ci : Int, loop (ZeI q) ((e : Int), n) = some cs ∧ loop (Za0 q 4096) ((e : Int), n) = some ci ∧ (cs = 0 ↔ 4096 < ci)
  | 0, n, _, h1, h2 => by
    refine ⟨n, n, Zd ?_, Zd ?_, by omega⟩
    · simp (disch := omega) only [pz, ZeI]
    · simp (disch := omega) only [pz, Za0]
  | e + 1, n, he, h1, h2 => by
    have hm0 : 1 * 2 ≤ n * q := Int.mul_le_mul h1 hq (by omega) (by omega)
    have hm1 : n * q ≤ 4096 * 64 := Int.mul_le_mul h2 hq64 (by omega) (by omega)
    have ee : ((e + 1 : Nat) : Int) - 1 = (e : Int) := by omega
    have hgo : loop (Za0 q 4096) (((e + 1 : Nat) : Int), n) = loop (Za0 q 4096) ((e : Int), n * q) := by
      refine ZF ?_
      simp (disch := omega) only [pz, Za0, Zfq, ee]
    by_cases h : n * q ≤ 4096
    · obtain ⟨cs, ci, g1, g2, g3⟩ := ZqI hq hq64 e (n * q) (by omega) (by omega) h
      refine ⟨cs, ci, ?_, by rw [hgo, g2], g3⟩
      rw [← g1]
      refine ZF ?_
      simp (disch := omega) only [pz, ZeI, ee]
    · refine ⟨0, n * q, Zd ?_, ?_, by omega⟩
      · simp (disch := omega) only [pz, ZeI]
      · rw [hgo]
        refine Zd ?_
        cases e with
        | zero => simp (disch := omega) only [pz, Za0]
        | succ e => simp (disch := omega) only [pz, Za0]
theorem ZAu {a b : List (List Int)} (ha : (a.length : Int) ≤ 1048576) (hr : ∀ x ∈ a, (x.length : Int) ≤ 1048576) : IsQ (Zha a b) (a = b) := by
  unfold Zha
  refine IsQ.bind_id ?_
  unfold Zjd
  refine Zb8 (by unfold M63; omega) (fun k x y hx hy => ?_) (by simp (disch := omega) only [pz, ZfR])
  have h1 := ZV hx
  have h2 := ZV hy
  have hs := ZtL (a := x) (b := y) (hr x (List.mem_of_getElem? hx))
  by_cases h : x = y
  · exact ZaS (c := true) (by simp [h]) (by simp (disch := omega) only [pz, ZfR, ZW hx, ZW hy, hs.eq h])
  · exact ZaS (c := false) (by simp [h]) (by simp (disch := omega) only [pz, ZfR, ZW hx, ZW hy, hs.ne h])
theorem ZzH {o : Zi} (hs : Sz2 o.Rows) : ∃ cs ci b, ZhL o = some cs ∧ ZgU o = some ci ∧ ZeF cs = some b ∧ Zd3 ci = some b := by
  have hN := hs.1
  unfold ZhL ZgU
  rw [Zei hs]
  rcases ZtG o.Size with ⟨f, hm⟩ | ⟨h1, e, h2⟩
  · obtain ⟨inv, hF⟩ := ZvN hm.gf
    have hp := hF.fd.p2
    have hq := hF.q2
    have hq64 := hF.q64
    rw [hm.split, hm.mki, hm.mks]
    have e : Ze.mk f.Prime f.Degree f.Poly = f := rfl
    suffices hh : ∃ b, ZeF ⟨f, o.Rows⟩ = some b ∧ Zd3 ⟨f, o.Rows⟩ = some b by
      obtain ⟨b, h1, h2⟩ := hh
      refine ⟨⟨f, o.Rows⟩, ⟨f, o.Rows⟩, b, ?_, ?_, h1, h2⟩
      · simp (disch := omega) only [pz, e]
      · simp (disch := omega) only [pz, e]
    unfold ZeF Zd3 Zi8 Zjb
    by_cases hV : VMat o.Size o.Rows
    · have q1 := (ZpO hm hq hq64 hs).eq hV
      have q2 := (Zpg hm hq hq64 hs).eq hV
      have n1 := hV.n1; have w2 := hV.w2
      by_cases h8 : (o.Rows.length : Int) ≤ 8
      · obtain ⟨cs, ci, g1, g2, g3⟩ := ZqI hq hq64 o.Rows.length 1 (by omega) (by omega) (by omega)
        have c1 : Zjg o.Size (o.Rows.length : Int) = some cs := g1
        have c2 : Zbz o.Size (o.Rows.length : Int) 4096 = some ci := g2
        by_cases hz : cs = 0
        · have hci := g3.1 hz
          refine ⟨false, ?_, ?_⟩
          · simp (disch := omega) only [pz, e, q1, hm.szs, c1]
          · simp (disch := omega) only [pz, e, q2, hm.szi, Zaa, c2]
        · have hci : ¬ 4096 < ci := fun h => hz (g3.2 h)
          obtain ⟨R, piv, d, r1, r2, r3, r4⟩ := Zsj hF hs hV.mat (by omega) n1
          have s1 := Zpf (a := R) (b := o.Rows) (by omega) r4
          have s2 := ZAu (a := R) (b := o.Rows) (by omega) r4
          have ht := Zxb hF hm.szi
          obtain ⟨b, s1, s3⟩ := s1
          obtain ⟨b', s2, s4⟩ := s2
          have : b = b' := by rw [Bool.eq_iff_iff, s3, s4]
          subst this
          refine ⟨b, ?_, ?_⟩
          · simp (disch := omega) only [pz, e, q1, hm.szs, c1, r1, s1]
          · simp (disch := omega) only [pz, e, q2, hm.szi, Zaa, c2, ht, r2, s2]
      · refine ⟨false, ?_, ?_⟩
        · simp (disch := omega) only [pz, e, q1]
        · simp (disch := omega) only [pz, e, q2]
    · have q1 := (ZpO hm hq hq64 hs).ne hV
      have q2 := (Zpg hm hq hq64 hs).ne hV
      refine ⟨false, ?_, ?_⟩
      · simp (disch := omega) only [pz, e, q1]
      · simp (disch := omega) only [pz, e, q2]
  · rw [h1, h2]
    refine ⟨⟨⟨0, 0, []⟩, []⟩, ⟨⟨0, 0, []⟩, o.Rows⟩, false, ?_, ?_, ?_, ?_⟩
    · simp (disch := omega) only [pz, ]
    · simp (disch := omega) only [pz, ]
    · rfl
    · rfl
end Go.Proofs.YtapkemdomnkccaaGreat
namespace Go.Proofs.YtapkemdomnkccaaGreat
set_option linter.unusedVariables false
open Go Go.Vc
set_option linter.unusedSimpArgs false
theorem two_q {a b : Option Bool} {p : Prop} (ha : IsQ a p) (hb : IsQ b p) : ∃ c, a = some c ∧ b = some c := by
  obtain ⟨c, h1, h2⟩ := ha
  obtain ⟨d, h3, h4⟩ := hb
  have : c = d := by rw [Bool.eq_iff_iff, h2, h4]
  subst this
  exact ⟨c, h1, h3⟩
theorem Zqq {o : Zi} (hs : Sz2 o.Rows) : ∃ c, Zdj o = some c ∧ Zes o = some c := by
  have hN := hs.1
  have e : Zi.mk o.Kind o.Size o.Rows = o := rfl
  unfold Zdj Zes
  by_cases h1 : o.Kind = 1
  · obtain ⟨c, q1, q2⟩ := two_q (Zyy hs) (ZAJ hs)
    by_cases hl : (o.Rows.length : Int) = o.Size
    · refine ⟨c, ?_, ?_⟩
      · cases c <;> simp (disch := omega) only [pz, q1]
      · simp (disch := omega) only [pz, q2, Zaa]
    · refine ⟨false, ?_, ?_⟩
      · cases c <;> simp (disch := omega) only [pz, q1]
      · simp (disch := omega) only [pz, q2, Zaa]
  by_cases h2 : o.Kind = 2
  · obtain ⟨c, q1, q2⟩ := two_q (Zvw (d := ⟨o.Size, o.Rows⟩) hs) (Zwm (d := ⟨o.Size, o.Rows⟩) hs)
    refine ⟨c, ?_, ?_⟩
    · simp (disch := omega) only [pz, q1]
    · simp (disch := omega) only [pz, e, ZiT, Zei hs, q2]
  by_cases h3 : o.Kind = 3
  · obtain ⟨c, q1, q2⟩ := two_q (Zwx hs) (Zsf hs)
    by_cases hl : (o.Rows.length : Int) = o.Size
    · refine ⟨c, ?_, ?_⟩
      · cases c <;> simp (disch := omega) only [pz, q1]
      · simp (disch := omega) only [pz, q2, Zaa]
    · refine ⟨false, ?_, ?_⟩
      · cases c <;> simp (disch := omega) only [pz, q1]
      · simp (disch := omega) only [pz, q2, Zaa]
  by_cases h4 : o.Kind = 4
  · by_cases hl : 0 < (o.Rows.length : Int)
    · obtain ⟨c, q1, q2⟩ := two_q (ZtR (a := ⟨o.Size, (ix o.Rows 0).length, o.Rows⟩) hs) (ZvV (a := ⟨o.Size, (ix o.Rows 0).length, o.Rows⟩) hs)
      refine ⟨c, ?_, ?_⟩
      · simp (disch := omega) only [pz, Zf8, q1]
      · simp (disch := omega) only [pz, e, Zh9, ZR, Zei hs, q2]
    · refine ⟨false, ?_, ?_⟩
      · simp (disch := omega) only [pz, Zf8]
      · simp (disch := omega) only [pz, ]
  by_cases h5 : o.Kind = 5
  · obtain ⟨cs, ci, b, g1, g2, g3, g4⟩ := ZzH hs
    have e2 : Za8.mk (Ze.mk cs.Field.Prime cs.Field.Degree cs.Field.Poly) cs.Rows = cs := rfl
    refine ⟨b, ?_, ?_⟩
    · simp (disch := omega) only [pz, g1, e2, g3]
    · simp (disch := omega) only [pz, e, g2, g4]
  by_cases h6 : o.Kind = 6
  · obtain ⟨r, g1, g2, _⟩ := Zxh hs
    refine ⟨r.2, ?_, ?_⟩
    · simp (disch := omega) only [pz, g1]
    · simp (disch := omega) only [pz, e, g2]
  by_cases h7 : o.Kind = 7
  · obtain ⟨c, q1, q2⟩ := two_q (ZAE (g := ⟨o.Size, o.Rows⟩) hs) (ZyU (g := ⟨o.Size, o.Rows⟩) hs)
    refine ⟨c, ?_, ?_⟩
    · simp (disch := omega) only [pz, q1]
    · simp (disch := omega) only [pz, e, Zi0, Zei hs, q2]
  · refine ⟨false, ?_, ?_⟩
    · simp (disch := omega) only [pz, ]
    · simp (disch := omega) only [pz, ]
theorem Zd8 (s : ByteArray) : (byts s).length = s.size := by
  unfold byts
  rw [List.length_map, Array.length_toList]; rfl
theorem ZnC {s : ByteArray} {i : Int} (h0 : 0 ≤ i) (h1 : i < (s.size : Int)) : ∃ c : UInt8, gSt s i = some c ∧ (c.toNat : Int) = ix (byts s) i := by
  have hl : i.toNat < s.size := by omega
  refine ⟨s[i.toNat], ?_, ?_⟩
  · unfold gSt
    rw [if_pos h0]
    exact getElem?_pos s i.toNat hl
  · have hl2 : i.toNat < (byts s).length := by rw [Zd8]; exact hl
    have : (byts s)[i.toNat]? = some ((s[i.toNat]).toNat : Int) := by
      rw [List.getElem?_eq_getElem hl2]
      simp [byts]
      rfl
    have h3 := ZaE (xs := byts s) h0 (by rw [Zd8]; exact h1)
    rw [this] at h3
    exact Option.some.inj h3
structure Nam (s : ByteArray) : Prop where
  s1 : 1 ≤ (s.size : Int)
  s2 : (s.size : Int) ≤ 10
  fst : 97 ≤ ix (byts s) 0 ∧ ix (byts s) 0 ≤ 122
  all : ∀ i, 0 ≤ i → i < (s.size : Int) → (97 ≤ ix (byts s) i ∧ ix (byts s) i ≤ 122) ∨ (48 ≤ ix (byts s) i ∧ ix (byts s) i ≤ 57)
theorem Zqg (s : ByteArray) : IsQ (Zg4 s) (Nam s) := by
  unfold Zg4 ZiV
  by_cases h0 : (s.size : Int) = 0
  · have e : s = ⟨#[]⟩ := by
      have : s.data = #[] := Array.eq_empty_of_size_eq_zero (by have : s.size = s.data.size := rfl; omega)
      cases s; simp at this; rw [this]
    rw [(Za5 s ⟨#[]⟩).2 e]
    exact IsQ.f fun h => by have := h.s1; omega
  · have ne : (s.toList == (⟨#[]⟩ : ByteArray).toList) = false := by
      cases hb : s.toList == (⟨#[]⟩ : ByteArray).toList with
      | false => rfl
      | true =>
        have := (Za5 s ⟨#[]⟩).1 hb
        rw [this] at h0
        exact absurd rfl h0
    rw [ne]
    by_cases h10 : (s.size : Int) ≤ 10
    · obtain ⟨c, hc, he⟩ := ZnC (s := s) (i := 0) (by omega) (by omega)
      by_cases hf : 97 ≤ ix (byts s) 0 ∧ ix (byts s) 0 ≤ 122
      · simp (disch := omega) only [pz, hc, ZaR, he]
        refine (Zaf (P := fun i => (97 ≤ ix (byts s) i ∧ ix (byts s) i ≤ 122) ∨ (48 ≤ ix (byts s) i ∧ ix (byts s) i ≤ 57)) (n := s.size) (Q := True) (by omega) ?_ ?_ fun _ => ?_).congr ⟨fun g => ⟨by omega, h10, hf, g.1⟩, fun g => ⟨g.all, trivial⟩⟩
        · intro i g0 g1 g2
          obtain ⟨c, hc, he⟩ := ZnC (s := s) g0 g1
          by_cases hl : 97 ≤ ix (byts s) i
          · by_cases hl2 : ix (byts s) i ≤ 122
            · simp (disch := omega) only [pz, Zcv, hc, ZaR, Zct, he]
            · omega
          · simp (disch := omega) only [pz, Zcv, hc, ZaR, Zct, he]
        · intro i g0 g1 g2
          obtain ⟨c, hc, he⟩ := ZnC (s := s) g0 g1
          by_cases hl : 97 ≤ ix (byts s) i
          · simp (disch := omega) only [pz, Zcv, hc, ZaR, Zct, he]
          · by_cases hd : 48 ≤ ix (byts s) i
            · simp (disch := omega) only [pz, Zcv, hc, ZaR, Zct, he]
            · simp (disch := omega) only [pz, Zcv, hc, ZaR, Zct, he]
        · rw [Zd (r := true) (by simp (disch := omega) only [pz, Zcv])]; exact IsQ.t trivial
      · have hn : IsQ (some false) (Nam s) := IsQ.f fun h => hf h.fst
        by_cases hl : 97 ≤ ix (byts s) 0
        · simp (disch := omega) only [pz, hc, ZaR, he]; exact hn
        · simp (disch := omega) only [pz, hc, ZaR, he]; exact hn
    · simp (disch := omega) only [pz, ]
      exact IsQ.f fun h => h10 h.s2
theorem Zqe (s : ByteArray) : IsQ (Zhw s) (Nam s) := by
  have hbl := Zd8 s
  unfold Zhw ZjR
  by_cases h0 : (s.size : Int) < 1
  · simp (disch := omega) only [pz, ]
    exact IsQ.f fun h => by have := h.s1; omega
  · by_cases h10 : (s.size : Int) ≤ 10
    · simp (disch := omega) only [pz, ]
      refine (Zaf (P := fun i => (97 ≤ ix (byts s) i ∧ ix (byts s) i ≤ 122) ∨ (¬ i = 0 ∧ 48 ≤ ix (byts s) i ∧ ix (byts s) i ≤ 57)) (n := s.size) (Q := True) (by omega) ?_ ?_ fun _ => ?_).congr ⟨fun g => ⟨by omega, h10, ?_, fun i a b => ?_⟩, fun g => ⟨fun i a b => ?_, trivial⟩⟩
      · intro i g0 g1 g2
        by_cases hl : 97 ≤ ix (byts s) i
        · by_cases hl2 : ix (byts s) i ≤ 122
          · simp (disch := omega) only [pz, Za1, ZaQ, ZaN]
          · omega
        · simp (disch := omega) only [pz, Za1, ZaQ, ZaN]
      · intro i g0 g1 g2
        by_cases hl : 97 ≤ ix (byts s) i
        · by_cases hz : i = 0
          · simp (disch := omega) only [pz, Za1, ZaQ, ZaN]
          · simp (disch := omega) only [pz, Za1, ZaQ, ZaN]
        · by_cases hz : i = 0
          · by_cases hd : 48 ≤ ix (byts s) i
            · simp (disch := omega) only [pz, Za1, ZaQ, ZaN]
            · simp (disch := omega) only [pz, Za1, ZaQ, ZaN]
          · by_cases hd : 48 ≤ ix (byts s) i
            · simp (disch := omega) only [pz, Za1, ZaQ, ZaN]
            · simp (disch := omega) only [pz, Za1, ZaQ, ZaN]
      · rw [Zd (r := true) (by simp (disch := omega) only [pz, Za1])]; exact IsQ.t trivial
      · have := g.1 0 (by omega) (by omega); omega
      · have := g.1 i a b; omega
      · have h1 := g.all i a b
        have h2 := g.fst
        by_cases hz : i = 0
        · subst hz; exact .inl h2
        · omega
    · simp (disch := omega) only [pz, ]
      exact IsQ.f fun h => h10 h.s2
end Go.Proofs.YtapkemdomnkccaaGreat
namespace Go.Proofs.YtapkemdomnkccaaGreat
set_option linter.unusedVariables false
open Go Go.Vc
set_option linter.unusedSimpArgs false
instance : Inhabited Zc := ⟨⟨⟨#[]⟩, ⟨0, 0, []⟩, ⟨#[]⟩⟩⟩
theorem Zhl : ∀ a b : List UInt8, (Op.bytesLess a b || a == b) = !Op.bytesLess b a
  | [], [] => rfl
  | [], b :: y => rfl
  | a :: x, [] => rfl
  | a :: x, b :: y => by
    have ih := Zhl x y
    show ((decide (a < b) || (a == b && Op.bytesLess x y)) || ((a :: x) == (b :: y))) = !(decide (b < a) || (b == a && Op.bytesLess y x))
    rw [show ((a :: x) == (b :: y)) = (a == b && x == y) from rfl]
    by_cases h : a = b
    · subst h
      have h1 : decide (a < a) = false := by simp
      rw [h1, beq_self_eq_true]
      simpa using ih
    · have h1 : (a == b) = false := by simpa using h
      have h2 : (b == a) = false := by simpa using fun e => h e.symm
      rw [h1, h2]
      simp only [Bool.false_and, Bool.or_false]
      have h3 : a < b ∨ b < a := by
        rcases Nat.lt_or_gt_of_ne (fun e => h (UInt8.toNat_inj.1 e)) with g | g
        · exact .inl (UInt8.lt_iff_toNat_lt.2 g)
        · exact .inr (UInt8.lt_iff_toNat_lt.2 g)
      rcases h3 with g | g
      · have : ¬ b < a := fun g' => by
          have g1 := UInt8.lt_iff_toNat_lt.1 g
          have g2 := UInt8.lt_iff_toNat_lt.1 g'
          omega
        simp [g, this]
      · have : ¬ a < b := fun g' => by
          have g1 := UInt8.lt_iff_toNat_lt.1 g
          have g2 := UInt8.lt_iff_toNat_lt.1 g'
          omega
        simp [g, this]
def ObjV (o : Zi) : Prop := Zdj o = some true
theorem ZqB {o : Zi} (hs : Sz2 o.Rows) : IsQ (Zdj o) (ObjV o) := by
  obtain ⟨c, h1, h2⟩ := Zqq hs
  refine ⟨c, h1, ?_⟩
  unfold ObjV
  rw [h1]
  exact ⟨fun h => by rw [h], fun h => Option.some.inj h⟩
theorem ZoH {o : Zi} (hs : Sz2 o.Rows) : IsQ (Zes o) (ObjV o) := by
  obtain ⟨c, h1, h2⟩ := Zqq hs
  refine ⟨c, h2, ?_⟩
  unfold ObjV
  rw [h1]
  exact ⟨fun h => by rw [h], fun h => Option.some.inj h⟩
structure ItemV (x : Zc) : Prop where
  nam : Nam x.Name
  obj : ObjV x.Object
  k1 : 1 ≤ (x.Key.size : Int)
  k2 : (x.Key.size : Int) ≤ 4000
theorem Znu {x : Zc} (hs : Sz2 x.Object.Rows) : IsQ (Zf1 x) (ItemV x) := by
  have e : Zi.mk x.Object.Kind x.Object.Size x.Object.Rows = x.Object := rfl
  unfold Zf1
  by_cases h1 : Nam x.Name
  · have q1 := (Zqg x.Name).eq h1
    by_cases h2 : ObjV x.Object
    · have q2 := (ZqB hs).eq h2
      by_cases h3 : 1 ≤ (x.Key.size : Int)
      · by_cases h4 : (x.Key.size : Int) ≤ 4000
        · simp (disch := omega) only [pz, q1, e, q2]; exact IsQ.t ⟨h1, h2, h3, h4⟩
        · simp (disch := omega) only [pz, q1, e, q2]; exact IsQ.f fun h => h4 h.k2
      · simp (disch := omega) only [pz, q1, e, q2]; exact IsQ.f fun h => h3 h.k1
    · have q2 := (ZqB hs).ne h2
      simp (disch := omega) only [pz, q1, e, q2]; exact IsQ.f fun h => h2 h.obj
  · have q1 := (Zqg x.Name).ne h1
    simp (disch := omega) only [pz, q1]; exact IsQ.f fun h => h1 h.nam
theorem ZkM {x : Zc} (hs : Sz2 x.Object.Rows) : IsQ (ZgX x) (ItemV x) := by
  have e : Zi.mk x.Object.Kind x.Object.Size x.Object.Rows = x.Object := rfl
  unfold ZgX
  by_cases h1 : Nam x.Name
  · have q1 := (Zqe x.Name).eq h1
    by_cases h2 : ObjV x.Object
    · have q2 := (ZoH hs).eq h2
      by_cases h3 : 1 ≤ (x.Key.size : Int)
      · by_cases h4 : (x.Key.size : Int) ≤ 4000
        · simp (disch := omega) only [pz, q1, e, q2]; exact IsQ.t ⟨h1, h2, h3, h4⟩
        · simp (disch := omega) only [pz, q1, e, q2]; exact IsQ.f fun h => h4 h.k2
      · simp (disch := omega) only [pz, q1, e, q2]; exact IsQ.f fun h => h3 h.k1
    · have q2 := (ZoH hs).ne h2
      simp (disch := omega) only [pz, q1, e, q2]; exact IsQ.f fun h => h2 h.obj
  · have q1 := (Zqe x.Name).ne h1
    simp (disch := omega) only [pz, q1]; exact IsQ.f fun h => h1 h.nam
def Like (a b : Zc) : Prop := a.Object.Kind = b.Object.Kind ∧ a.Key = b.Key
theorem ZjY (a b : Zc) : IsQ (ZcY a b) (Like a b) := by
  unfold ZcY Like
  by_cases h : a.Object.Kind = b.Object.Kind
  · simp (disch := omega) only [pz, ]
    exact ⟨_, rfl, by rw [Za5]; simp [h]⟩
  · simp (disch := omega) only [pz, ]
    exact IsQ.f fun g => h g.1
theorem ZuQ (a b : Zc) : IsQ (ZiZ a b) (Like a b) := ZjY a b
def Szc (c : List Zc) : Prop := (c.length : Int) ≤ 1048576 ∧ ∀ x ∈ c, Sz2 x.Object.Rows
structure At (c : List Zc) (i : Int) : Prop where
  item : ItemV (ix c i)
  ord : 0 < i → Op.bytesLess (ix c (i - 1)).Name.toList (ix c i).Name.toList = true
  new : ∀ j, 0 ≤ j → j < i → ¬ Like (ix c i) (ix c j)
structure CatV (c : List Zc) : Prop where
  at_ : ∀ i, 0 ≤ i → i < (c.length : Int) → At c i
  n : (c.length : Int) ≤ 24
theorem Zrs {c : Zg} {i : Int} (hs : Szc c.Items) (h0 : 0 ≤ i) (h1 : i < (c.Items.length : Int)) : ∃ b : Bool, Zet c i = some (bif b then .inl (i + 1) else .inr false) ∧ (b = true ↔ ∀ j, 0 ≤ j → j < i → ¬ Like (ix c.Items i) (ix c.Items j)) := by
  have hN := hs.1
  unfold Zet
  refine Zcw (B := Zfe c i) (P := fun j => ¬ Like (ix c.Items i) (ix c.Items j)) (t := .inl (i + 1)) (f := .inr false) (i := 0) (n := i) (by omega) (fun k a b g => ?_) (fun k a b g => ?_) ?_
  · have q := (ZjY (ix c.Items i) (ix c.Items k)).ne g
    simp (disch := omega) only [pz, Zfe, q]
  · have q := (ZjY (ix c.Items i) (ix c.Items k)).eq (Classical.byContradiction g)
    simp (disch := omega) only [pz, Zfe, q]
  · simp (disch := omega) only [pz, Zfe]
theorem ZgH {c : Zg} (hs : Szc c.Items) : IsQ (Zea c) (CatV c.Items) := by
  have hN := hs.1
  unfold Zea
  refine (Zaf (P := At c.Items) (n := c.Items.length) (Q := (c.Items.length : Int) ≤ 24) (by omega) ?_ ?_ fun _ => ?_).congr ⟨fun g => ⟨g.1, g.2⟩, fun g => ⟨g.at_, g.n⟩⟩
  · intro i g0 g1 g2
    have q1 := (Znu (hs.2 _ (ZL g0 g1))).eq g2.item
    obtain ⟨b, n1, n2⟩ := Zrs hs g0 g1
    rw [n2.2 g2.new] at n1
    by_cases hi : 0 < i
    · have ho := g2.ord hi
      simp (disch := omega) only [pz, Zbj, q1, ho, n1]
    · simp (disch := omega) only [pz, Zbj, q1, n1]
  · intro i g0 g1 g2
    by_cases h1 : ItemV (ix c.Items i)
    · have q1 := (Znu (hs.2 _ (ZL g0 g1))).eq h1
      obtain ⟨b, n1, n2⟩ := Zrs hs g0 g1
      by_cases hi : 0 < i
      · cases ho : Op.bytesLess (ix c.Items (i - 1)).Name.toList (ix c.Items i).Name.toList with
        | false => simp (disch := omega) only [pz, Zbj, q1, ho]
        | true =>
          have : b = false := by
            cases b with
            | false => rfl
            | true => exact absurd ⟨h1, fun _ => ho, n2.1 rfl⟩ g2
          rw [this] at n1
          simp (disch := omega) only [pz, Zbj, q1, ho, n1]
      · have : b = false := by
          cases b with
          | false => rfl
          | true => exact absurd ⟨h1, fun h => absurd h hi, n2.1 rfl⟩ g2
        rw [this] at n1
        simp (disch := omega) only [pz, Zbj, q1, n1]
    · have q1 := (Znu (hs.2 _ (ZL g0 g1))).ne h1
      simp (disch := omega) only [pz, Zbj, q1]
  · by_cases h : (c.Items.length : Int) ≤ 24
    · rw [Zd (r := true) (by simp (disch := omega) only [pz, Zbj])]; exact IsQ.t h
    · rw [Zd (r := false) (by simp (disch := omega) only [pz, Zbj])]; exact IsQ.f h
theorem ZlF {c : List Zc} {x : Zc} {i : Int} (hN : (c.length : Int) ≤ 1048576) (h0 : 0 ≤ i) (h1 : i ≤ (c.length : Int)) : ∃ r : Int, ZcR (c.take i.toNat) x = some r ∧ (r < 0 ↔ ∀ j, 0 ≤ j → j < i → ¬ Like x (ix c j)) := by
  unfold ZcR Zin
  have hl : (c.take i.toNat).length = i.toNat := by rw [List.length_take]; omega
  have hf : ∀ y ∈ c.take i.toNat, IsQ (Zdu y x) (Like x y) := fun y _ => (ZuQ x y).bind_id
  obtain ⟨r, h2, h3⟩ := ZrY (xs := c.take i.toNat) (B := Zek (c.take i.toNat) (fun y0 => Zdu y0 x)) (f := fun y0 => Zdu y0 x) (q := fun y => Like x y) (by unfold M63; omega) hf
    (fun k y hy => by
      have := ZV hy
      simp (disch := omega) only [pz, Zek]
      rw [ZW hy])
    (by simp (disch := omega) only [pz, Zek])
  refine ⟨r, ?_, ?_⟩
  · show (loop (Zek (c.take i.toNat) (fun y0 => Zdu y0 x)) 0).bind _ = _
    rw [h2]; rfl
  · rcases h3 with ⟨h4, h5⟩ | ⟨k, y, h4, h5, h6, _⟩
    · refine ⟨fun _ j j0 j1 => ?_, fun _ => by omega⟩
      have := h5 (ix c j) (by
        rw [← Zcg (i := i) j0 j1]
        exact ZL j0 (by omega))
      exact this
    · refine ⟨fun h => by omega, fun h => ?_⟩
      have hk := ZV h5
      have e := ZW h5
      rw [Zcg (i := i) (by omega) (by omega)] at e
      rw [← e] at h6
      exact absurd h6 (h k (by omega) (by omega))
theorem Zhk {c : Zg} (hs : Szc c.Items) : IsQ (Zex c) (CatV c.Items) := by
  have hN := hs.1
  have ei : ∀ x : Zc, Zc.mk x.Name (Zi.mk x.Object.Kind x.Object.Size x.Object.Rows) x.Key = x := fun x => rfl
  unfold Zex
  have tk : ∀ i : Int, 0 ≤ i → i < (c.Items.length : Int) → gSl c.Items 0 i = some (c.Items.take i.toNat) := fun i a b => by
    rw [Zbn (by omega) (by omega) (by omega)]; rfl
  refine (Zaf (P := At c.Items) (n := c.Items.length) (Q := (c.Items.length : Int) ≤ 24) (by omega) ?_ ?_ fun _ => ?_).congr ⟨fun g => ⟨g.1, g.2⟩, fun g => ⟨g.at_, g.n⟩⟩
  · intro i g0 g1 g2
    have q1 := (ZkM (hs.2 _ (ZL g0 g1))).eq g2.item
    obtain ⟨r, n1, n2⟩ := ZlF (x := ix c.Items i) hN g0 (Int.le_of_lt g1)
    have hr := n2.2 g2.new
    have ht := tk i g0 g1
    by_cases hi : 0 < i
    · have ho := g2.ord hi
      have hb := Zhl (ix c.Items i).Name.toList (ix c.Items (i - 1)).Name.toList
      rw [ho] at hb
      simp (disch := omega) only [pz, Zbt, ei, q1, hb, ht, n1]
    · simp (disch := omega) only [pz, Zbt, ei, q1, ht, n1]
  · intro i g0 g1 g2
    have ht := tk i g0 g1
    by_cases h1 : ItemV (ix c.Items i)
    · have q1 := (ZkM (hs.2 _ (ZL g0 g1))).eq h1
      obtain ⟨r, n1, n2⟩ := ZlF (x := ix c.Items i) hN g0 (Int.le_of_lt g1)
      by_cases hi : 0 < i
      · have hb := Zhl (ix c.Items i).Name.toList (ix c.Items (i - 1)).Name.toList
        cases ho : Op.bytesLess (ix c.Items (i - 1)).Name.toList (ix c.Items i).Name.toList with
        | false =>
          rw [ho] at hb
          simp (disch := omega) only [pz, Zbt, ei, q1, hb]
        | true =>
          rw [ho] at hb
          have : ¬ r < 0 := fun h => g2 ⟨h1, fun _ => ho, n2.1 h⟩
          simp (disch := omega) only [pz, Zbt, ei, q1, hb, ht, n1]
      · have : ¬ r < 0 := fun h => g2 ⟨h1, fun h => absurd h hi, n2.1 h⟩
        simp (disch := omega) only [pz, Zbt, ei, q1, ht, n1]
    · have q1 := (ZkM (hs.2 _ (ZL g0 g1))).ne h1
      simp (disch := omega) only [pz, Zbt, ei, q1]
  · by_cases h : (c.Items.length : Int) ≤ 24
    · rw [Zd (r := true) (by simp (disch := omega) only [pz, Zbt])]; exact IsQ.t h
    · rw [Zd (r := false) (by simp (disch := omega) only [pz, Zbt])]; exact IsQ.f h
theorem Ztd {r : List (List Int)} (h : SmL (SmL (fun _ => True)) r) : Sz2 (List.map (List.map fun x => x) r) := by
  have e : List.map (List.map fun x => x) r = r := by simp
  rw [e]
  exact ⟨by have := h.1; omega, fun b hb => by have := (h.2 b hb).1; omega⟩
theorem Zrj {a : ZU} (h : Zol a) : Szc (ZdZ a).Items := by
  refine ⟨?_, fun x hx => ?_⟩
  · have : (ZdZ a).Items.length = a.Items.length := by simp [ZdZ]
    have := h.1
    omega
  · obtain ⟨y, hy, rfl⟩ := List.mem_map.1 (show x ∈ a.Items.map Zh4 from hx)
    exact Ztd (h.2 y hy)
theorem Zod {c : Zg} (h : Szc c.Items) : Zp2 c := by
  refine ⟨by unfold M63; have := h.1; omega, fun x hx => ?_⟩
  have hr := h.2 x hx
  exact ⟨by unfold M63; have := hr.1; omega, fun y hy => ⟨by unfold M63; have := hr.2 y hy; omega, fun _ _ => trivial⟩⟩
end Go.Proofs.YtapkemdomnkccaaGreat
