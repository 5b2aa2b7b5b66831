import Derived.Test.YtocnokjekoglnaaGreatDoorPuJf
import Derived.Test.YtocnokjekoglnaaGreatDoorPuJc
import Derived.Test.YtocnokjekoglnaaGreatDoorPuJb
import Derived.Test.YtocnokjekoglnaaGreatDoorPuJa
import Derived.Test.YtocnokjekoglnaaGreatDoorPuTxt
namespace Go.Proofs.YtocnokjekoglnaaGreatDoor
open Go Go.Vc
set_option linter.unusedSimpArgs false
set_option linter.unusedVariables false
structure VMat (q : Int) (m : List (List Int)) : Prop where
  n1 : 1 ≤ (m.length : Int)
  n2 : (m.length : Int) ≤ 32
  w1 : 1 ≤ ((ix m 0).length : Int)
  w2 : ((ix m 0).length : Int) ≤ 32
  row : ∀ i, 0 ≤ i → i < (m.length : Int) → ((ix m i).length : Int) = (ix m 0).length ∧ In q (ix m i)
theorem VMat.mat {q : Int} {m : List (List Int)} (h : VMat q m) : Mat q (ix m 0).length m := ⟨fun i a b => (h.row i a b).1, fun i a b => (h.row i a b).2, by have := h.n2; omega, by have := h.w2; omega⟩
theorem Zon {f : Zc} {q : Int} (hs : ZbY f = some q) (hq : 2 ≤ q) (hq64 : q ≤ 64) {v : List Int} (hv : (v.length : Int) ≤ 1048576) : IsQ (ZfR f v) (In q v) := by
  unfold ZfR
  rw [hs]
  obtain ⟨c, q1, q2⟩ := ZcJ (B := Zcd v q) (P := fun k => 0 ≤ ix v k ∧ ix v k ≤ q - 1) (t := true) (f := false) (i := 0) (n := v.length) (by omega)
    (fun k a b c => by simp (disch := omega) only [pz, Zcd, in_ok]) (fun k a b c => by simp (disch := omega) only [pz, Zcd, in_ok]) (by simp (disch := omega) only [pz, Zcd])
  refine ⟨c, ?_, q2.trans ⟨fun h i a b => ?_, fun h i a b => ?_⟩⟩
  · show loop (Zcd v q) 0 = some c
    rw [q1]; cases c <;> rfl
  · have := h i a b; omega
  · have := h i a b; omega
theorem ZnI {f : Zc} {q : Int} (hm : Made q f) (hq : 2 ≤ q) (hq64 : q ≤ 64) {m : List (List Int)} (hs : Sz2 m) : IsQ (Zf4 f m) (VMat q m) := by
  have hN := hs.1
  unfold Zf4 ZgI
  rw [hm.oks]
  by_cases h1 : (m.length : Int) = 0
  · simp (disch := omega) only [pz, ]; exact IsQ.f fun h => by have := h.n1; omega
  · by_cases h2 : (m.length : Int) ≤ 32
    · by_cases h3 : ((ix m 0).length : Int) = 0
      · simp (disch := omega) only [pz, ]; exact IsQ.f fun h => by have := h.w1; omega
      · by_cases h4 : ((ix m 0).length : Int) ≤ 32
        · simp (disch := omega) only [pz, ]
          refine (Zam (P := fun i => ((ix m i).length : Int) = (ix m 0).length ∧ In q (ix m i)) (n := m.length) (Q := True) (by omega) ?_ ?_ fun _ => ?_).congr ⟨fun g => ⟨by omega, h2, by omega, h4, g.1⟩, fun g => ⟨g.row, trivial⟩⟩
          · intro i g0 g1 g2
            have q1 := (Zon hm.szs hq hq64 (hs.row g0 g1)).eq g2.2
            have := g2.1
            simp (disch := omega) only [pz, Zec, q1]
          · intro i g0 g1 g2
            by_cases hl : ((ix m i).length : Int) = (ix m 0).length
            · have q1 := (Zon hm.szs hq hq64 (hs.row g0 g1)).ne fun h => g2 ⟨hl, h⟩
              simp (disch := omega) only [pz, Zec, q1]
            · simp (disch := omega) only [pz, Zec]
          · rw [Zd (r := true) (by simp (disch := omega) only [pz, Zec])]; exact IsQ.t trivial
        · simp (disch := omega) only [pz, ]; exact IsQ.f fun h => h4 h.w2
    · simp (disch := omega) only [pz, ]; exact IsQ.f fun h => h2 h.n2
theorem Zno {f : Zc} {q : Int} (hm : Made q f) (hq : 2 ≤ q) (hq64 : q ≤ 64) {m : List (List Int)} (hs : Sz2 m) : IsQ (Ze9 f m) (VMat q m) := by
  have hN := hs.1
  have e : Zc.mk f.Prime f.Degree f.Poly = f := rfl
  unfold Ze9 Zg0
  rw [e, hm.oki]
  by_cases h1 : (m.length : Int) = 0
  · simp (disch := omega) only [pz, Z2, ZI]; exact IsQ.f fun h => by have := h.n1; omega
  · by_cases h2 : (m.length : Int) ≤ 32
    · by_cases h3 : ((ix m 0).length : Int) = 0
      · simp (disch := omega) only [pz, Z2, ZJ, ZI]; exact IsQ.f fun h => by have := h.w1; omega
      · by_cases h4 : ((ix m 0).length : Int) ≤ 32
        · simp (disch := omega) only [pz, Z2, ZJ, ZI, hm.szi]
          have hc := containsLL (s := m) (fn := fun y0 => Zdk y0 m q) (q := fun r => ¬ ((r.length : Int) = (ix m 0).length ∧ In q r)) hN fun r hr => by
            show IsQ (Zdk r m q) _
            unfold Zdk Zht
            by_cases hl : (r.length : Int) = (ix m 0).length
            · have hi := (containsL (s := r) (fn := fun y0 => ZcG y0 q) (q := fun x => ¬ (0 ≤ x ∧ x ≤ q - 1)) (hs.2 r hr) fun x hx => by
                show IsQ (ZcG x q) _
                unfold ZcG
                by_cases hx : 0 ≤ x ∧ x ≤ q - 1
                · simp (disch := omega) only [pz, ZI]; exact IsQ.f fun h => h hx
                · simp (disch := omega) only [pz, ZI]; exact IsQ.t hx).not.not
              have hi2 : IsQ (((Zap r fun y0 => ZcG y0 q).bind fun r => some (!r)).bind fun r => some (!r)) (¬ ((r.length : Int) = (ix m 0).length ∧ In q r)) := by
                refine hi.congr ⟨fun h g => h fun ⟨x, hx, hn⟩ => ?_, fun h g => h ⟨hl, fun k a b => ?_⟩⟩
                · obtain ⟨k, a, b, rfl⟩ := Z1 hx
                  have := g.2 k a b
                  exact hn ⟨this.1, by omega⟩
                · have := Classical.byContradiction fun hh : ¬ (0 ≤ ix r k ∧ ix r k ≤ q - 1) => g ⟨ix r k, ZV a b, hh⟩
                  omega
              simp (disch := omega) only [pz, ]
              exact hi2
            · simp (disch := omega) only [pz, ]
              exact IsQ.t fun h => hl h.1
          refine hc.not.congr ⟨fun g => ⟨by omega, h2, by omega, h4, fun i a b => ?_⟩, fun g => ?_⟩
          · exact Classical.byContradiction fun hh => g ⟨ix m i, ZV a b, hh⟩
          · rintro ⟨x, hx, hn⟩
            obtain ⟨i, a, b, rfl⟩ := Z1 hx
            exact hn (g.row i a b)
        · simp (disch := omega) only [pz, Z2, ZJ, ZI]; exact IsQ.f fun h => h4 h.w2
    · simp (disch := omega) only [pz, Z2, ZI]; exact IsQ.f fun h => h2 h.n2
theorem Zl5 {q : Int} (hq : 2 ≤ q) (hq64 : q ≤ 64) : ∀ (e : Nat) (n : Int), e ≤ 64 → 1 ≤ n → n ≤ 4096 → ∃ cs ci : Int, loop (Zdm q) ((e : Int), n) = some cs ∧ loop (ZaK q 4096) ((e : Int), n) = some ci ∧ (cs = 0 ↔ 4096 < ci)
  | 0, n, _, h1, h2 => by
    refine ⟨n, n, Zd ?_, Zd ?_, by omega⟩
    · simp (disch := omega) only [pz, Zdm]
    · simp (disch := omega) only [pz, ZaK]
  | e + 1, n, he, h1, h2 => by
    have hm0 : 1 * 2 ≤ n * q := Int.mul_le_mul h1 hq (by omega) (by omega)
    have hm1 : n * q ≤ 4096 * 64 := Int.mul_le_mul h2 hq64 (by omega) (by omega)
    have ee : ((e + 1 : Nat) : Int) - 1 = (e : Int) := by omega
    have hgo : loop (ZaK q 4096) (((e + 1 : Nat) : Int), n) = loop (ZaK q 4096) ((e : Int), n * q) := by
      refine ZE ?_
      simp (disch := omega) only [pz, ZaK, Zdy, ee]
    by_cases h : n * q ≤ 4096
    · obtain ⟨cs, ci, g1, g2, g3⟩ := Zl5 hq hq64 e (n * q) (by omega) (by omega) h
      refine ⟨cs, ci, ?_, by rw [hgo, g2], g3⟩
      rw [← g1]
      refine ZE ?_
      simp (disch := omega) only [pz, Zdm, ee]
    · refine ⟨0, n * q, Zd ?_, ?_, by omega⟩
      · simp (disch := omega) only [pz, Zdm]
      · rw [hgo]
        refine Zd ?_
        cases e with
        | zero => simp (disch := omega) only [pz, ZaK]
        | succ e => simp (disch := omega) only [pz, ZaK]
theorem Zsf {a b : List (List Int)} (ha : (a.length : Int) ≤ 1048576) (hr : ∀ x ∈ a, (x.length : Int) ≤ 1048576) : IsQ (Zgy a b) (a = b) := by
  unfold Zgy
  refine IsQ.bind_id ?_
  unfold Zhb
  refine Zc8 (by unfold M63; omega) (fun k x y hx hy => ?_) (by simp (disch := omega) only [pz, Zfd])
  have h1 := ZW hx
  have h2 := ZW hy
  have hs := ZrK (a := x) (b := y) (hr x (List.mem_of_getElem? hx))
  by_cases h : x = y
  · exact Zbd (c := true) (by simp [h]) (by simp (disch := omega) only [pz, Zfd, ZM hx, ZM hy, hs.eq h])
  · exact Zbd (c := false) (by simp [h]) (by simp (disch := omega) only [pz, Zfd, ZM hx, ZM hy, hs.ne h])
theorem ZsO {o : Zz} (hs : Sz2 o.Rows) : ∃ cs ci b, Zgm o = some cs ∧ Zft o = some ci ∧ Zdp cs = some b ∧ Zeb ci = some b := by
  have hN := hs.1
  unfold Zgm Zft
  rw [ZfD hs]
  rcases ZvK o.Size with ⟨f, hm⟩ | ⟨h1, e, h2⟩
  · obtain ⟨inv, hF⟩ := ZrF hm.gf
    have hp := hF.fd.p2
    have hq := hF.q2
    have hq64 := hF.q64
    rw [hm.split, hm.mki, hm.mks]
    have e : Zc.mk f.Prime f.Degree f.Poly = f := rfl
    suffices hh : ∃ b, Zdp ⟨f, o.Rows⟩ = some b ∧ Zeb ⟨f, o.Rows⟩ = some b by
      obtain ⟨b, h1, h2⟩ := hh
      refine ⟨⟨f, o.Rows⟩, ⟨f, o.Rows⟩, b, ?_, ?_, h1, h2⟩
      · simp (disch := omega) only [pz, e]
      · simp (disch := omega) only [pz, e]
    unfold Zdp Zeb ZgN ZhY
    by_cases hV : VMat o.Size o.Rows
    · have q1 := (ZnI hm hq hq64 hs).eq hV
      have q2 := (Zno hm hq hq64 hs).eq hV
      have n1 := hV.n1; have w2 := hV.w2
      by_cases h8 : (o.Rows.length : Int) ≤ 8
      · obtain ⟨cs, ci, g1, g2, g3⟩ := Zl5 hq hq64 o.Rows.length 1 (by omega) (by omega) (by omega)
        have c1 : ZgM o.Size (o.Rows.length : Int) = some cs := g1
        have c2 : Zbt o.Size (o.Rows.length : Int) 4096 = some ci := g2
        by_cases hz : cs = 0
        · have hci := g3.1 hz
          refine ⟨false, ?_, ?_⟩
          · simp (disch := omega) only [pz, e, q1, hm.szs, c1]
          · simp (disch := omega) only [pz, e, q2, hm.szi, Z2, c2]
        · have hci : ¬ 4096 < ci := fun h => hz (g3.2 h)
          obtain ⟨R, piv, d, r1, r2, r3, r4⟩ := Zq7 hF hs hV.mat (by omega) n1
          have s1 := Zmi (a := R) (b := o.Rows) (by omega) r4
          have s2 := Zsf (a := R) (b := o.Rows) (by omega) r4
          have ht := Zv6 hF hm.szi
          obtain ⟨b, s1, s3⟩ := s1
          obtain ⟨b', s2, s4⟩ := s2
          have : b = b' := by rw [Bool.eq_iff_iff, s3, s4]
          subst this
          refine ⟨b, ?_, ?_⟩
          · simp (disch := omega) only [pz, e, q1, hm.szs, c1, r1, s1]
          · simp (disch := omega) only [pz, e, q2, hm.szi, Z2, c2, ht, r2, s2]
      · refine ⟨false, ?_, ?_⟩
        · simp (disch := omega) only [pz, e, q1]
        · simp (disch := omega) only [pz, e, q2]
    · have q1 := (ZnI hm hq hq64 hs).ne hV
      have q2 := (Zno hm hq hq64 hs).ne hV
      refine ⟨false, ?_, ?_⟩
      · simp (disch := omega) only [pz, e, q1]
      · simp (disch := omega) only [pz, e, q2]
  · rw [h1, h2]
    refine ⟨⟨⟨0, 0, []⟩, []⟩, ⟨⟨0, 0, []⟩, o.Rows⟩, false, ?_, ?_, ?_, ?_⟩
    · simp (disch := omega) only [pz, ]
    · simp (disch := omega) only [pz, ]
    · rfl
    · rfl
end Go.Proofs.YtocnokjekoglnaaGreatDoor
namespace Go.Proofs.YtocnokjekoglnaaGreatDoor
set_option linter.unusedVariables false
open Go Go.Vc
set_option linter.unusedSimpArgs false
theorem two_q {a b : Option Bool} {p : Prop} (ha : IsQ a p) (hb : IsQ b p) : ∃ c, a = some c ∧ b = some c := by
  obtain ⟨c, h1, h2⟩ := ha
  obtain ⟨d, h3, h4⟩ := hb
  have : c = d := by rw [Bool.eq_iff_iff, h2, h4]
  subst this
  exact ⟨c, h1, h3⟩
theorem ZpB {o : Zz} (hs : Sz2 o.Rows) : ∃ c, ZeN o = some c ∧ Zbi o = some c := by
  have hN := hs.1
  have e : Zz.mk o.Kind o.Size o.Rows = o := rfl
  unfold ZeN Zbi
  by_cases h1 : o.Kind = 1
  · obtain ⟨c, q1, q2⟩ := two_q (Zw7 hs) (ZqM hs)
    by_cases hl : (o.Rows.length : Int) = o.Size
    · refine ⟨c, ?_, ?_⟩
      · cases c <;> simp (disch := omega) only [pz, q1]
      · simp (disch := omega) only [pz, q2, Z2]
    · refine ⟨false, ?_, ?_⟩
      · cases c <;> simp (disch := omega) only [pz, q1]
      · simp (disch := omega) only [pz, q2, Z2]
  by_cases h2 : o.Kind = 2
  · obtain ⟨c, q1, q2⟩ := two_q (Zue (d := ⟨o.Size, o.Rows⟩) hs) (Zrg (d := ⟨o.Size, o.Rows⟩) hs)
    refine ⟨c, ?_, ?_⟩
    · simp (disch := omega) only [pz, q1]
    · simp (disch := omega) only [pz, e, ZhH, ZfD hs, q2]
  by_cases h3 : o.Kind = 3
  · obtain ⟨c, q1, q2⟩ := two_q (ZtP hs) (ZvM hs)
    by_cases hl : (o.Rows.length : Int) = o.Size
    · refine ⟨c, ?_, ?_⟩
      · cases c <;> simp (disch := omega) only [pz, q1]
      · simp (disch := omega) only [pz, q2, Z2]
    · refine ⟨false, ?_, ?_⟩
      · cases c <;> simp (disch := omega) only [pz, q1]
      · simp (disch := omega) only [pz, q2, Z2]
  by_cases h4 : o.Kind = 4
  · by_cases hl : 0 < (o.Rows.length : Int)
    · obtain ⟨c, q1, q2⟩ := two_q (ZsB (a := ⟨o.Size, (ix o.Rows 0).length, o.Rows⟩) hs) (ZuE (a := ⟨o.Size, (ix o.Rows 0).length, o.Rows⟩) hs)
      refine ⟨c, ?_, ?_⟩
      · simp (disch := omega) only [pz, ZeF, q1]
      · simp (disch := omega) only [pz, e, ZgE, ZJ, ZfD hs, q2]
    · refine ⟨false, ?_, ?_⟩
      · simp (disch := omega) only [pz, ZeF]
      · simp (disch := omega) only [pz, ]
  by_cases h5 : o.Kind = 5
  · obtain ⟨cs, ci, b, g1, g2, g3, g4⟩ := ZsO hs
    have e2 : ZaL.mk (Zc.mk cs.Field.Prime cs.Field.Degree cs.Field.Poly) cs.Rows = cs := rfl
    refine ⟨b, ?_, ?_⟩
    · simp (disch := omega) only [pz, g1, e2, g3]
    · simp (disch := omega) only [pz, e, g2, g4]
  by_cases h6 : o.Kind = 6
  · obtain ⟨r, g1, g2, _⟩ := ZrT hs
    refine ⟨r.2, ?_, ?_⟩
    · simp (disch := omega) only [pz, g1]
    · simp (disch := omega) only [pz, e, g2]
  by_cases h7 : o.Kind = 7
  · obtain ⟨c, q1, q2⟩ := two_q (ZvP (g := ⟨o.Size, o.Rows⟩) hs) (ZtC (g := ⟨o.Size, o.Rows⟩) hs)
    refine ⟨c, ?_, ?_⟩
    · simp (disch := omega) only [pz, q1]
    · simp (disch := omega) only [pz, e, Zg1, ZfD hs, q2]
  · refine ⟨false, ?_, ?_⟩
    · simp (disch := omega) only [pz, ]
    · simp (disch := omega) only [pz, ]
end Go.Proofs.YtocnokjekoglnaaGreatDoor
namespace Go.Proofs.YtocnokjekoglnaaGreatDoor
set_option linter.unusedVariables false
open Go Go.Vc Go.Lib
set_option linter.unusedSimpArgs false
theorem gFitW {a b : ByteArray} (h : a.size + b.size ≤ 4000000000000000000) : gFit a b = some () := by
  unfold gFit
  rw [if_pos]
  have : IntKind.i64.max = 9223372036854775807 := rfl
  omega
def bl (l : List UInt8) : ByteArray := ⟨l.toArray⟩
theorem Zay (b : ByteArray) : bl b.data.toList = b := by cases b; rfl
theorem ZmT (l : List UInt8) : (bl l).size = l.length := by show l.toArray.size = _; simp
theorem Zbc (l r : List UInt8) : bl l ++ bl r = bl (l ++ r) := by
  apply ByteArray.ext
  rw [ByteArray.data_append]
  show l.toArray ++ r.toArray = (l ++ r).toArray
  simp
theorem ZaG (a b : ByteArray) : (a ++ b).size = a.size + b.size := by simp
theorem Zru (x s : ByteArray) : joinB [x] s = x := by
  unfold joinB
  rw [List.map_cons, List.map_nil, join_one]
theorem ZiQ (x : ByteArray) (r : List ByteArray) (s : ByteArray) : joinB (x :: r) s = bl (x.data.toList ++ joinTail s.data.toList (r.map (·.data.toList))) := by
  unfold joinB
  rw [List.map_cons, join_cons]; rfl
theorem ZqI {l : List ByteArray} (h : l ≠ []) (x s : ByteArray) : joinB (l ++ [x]) s = joinB l s ++ s ++ x := by
  cases l with
  | nil => exact absurd rfl h
  | cons a r =>
    rw [List.cons_append, ZiQ, ZiQ, List.map_append]
    conv => rhs; rw [← Zay s, ← Zay x, Zbc, Zbc]
    congr 1
    rw [Zay]
    simp [joinTail]
theorem Zoi {l : List ByteArray} {s : ByteArray} {m : Nat} (h : ∀ x ∈ l, x.size ≤ m) : (joinB l s).size ≤ (m + s.size) * l.length := by
  cases l with
  | nil => exact Nat.zero_le _
  | cons a r =>
    have hl : ∀ (r : List ByteArray), (∀ x ∈ r, x.size ≤ m) → lens (r.map (·.data.toList)) ≤ m * r.length := by
      intro r
      induction r with
      | nil => intro _; exact Nat.zero_le _
      | cons b t ih =>
        intro hb
        have h1 := ih fun x hx => hb x (List.mem_cons_of_mem _ hx)
        have h2 := hb b (List.mem_cons_self ..)
        have h3 : b.data.toList.length = b.size := by rw [Array.length_toList]; rfl
        simp only [lens, List.map_cons, List.sum_cons, List.length_cons] at h1 ⊢
        rw [Nat.mul_succ]
        omega
    have h1 := hl r fun x hx => h x (List.mem_cons_of_mem _ hx)
    have h2 := h a (List.mem_cons_self ..)
    have h3 : a.data.toList.length = a.size := by rw [Array.length_toList]; rfl
    have h4 : s.data.toList.length = s.size := by rw [Array.length_toList]; rfl
    rw [ZiQ, ZmT, List.length_append, joinTail_length, List.length_map, h3, h4, List.length_cons, Nat.add_mul, Nat.mul_succ, Nat.mul_succ]
    omega
theorem dgl : ∀ (m u : Nat), u < 10 ^ (m + 1) → (decDigits u).length ≤ m + 1 := by
  intro m
  induction m with
  | zero =>
    intro u h
    rw [decDigits, dif_pos (by simpa using h)]
    exact Nat.le_refl _
  | succ m ih =>
    intro u h
    rw [decDigits]
    split
    · simp
    · have e : 10 ^ (m + 1 + 1) = 10 ^ (m + 1) * 10 := Nat.pow_succ ..
      have := ih (u / 10) (by omega)
      rw [List.length_append, List.length_singleton]
      omega
theorem ZmC {n : Int} (m : Nat) (h1 : -10 ^ (m + 1) < n) (h2 : n < 10 ^ (m + 1)) : (itoaB n).size ≤ m + 2 := by
  have e : (10 : Int) ^ (m + 1) = ((10 ^ (m + 1) : Nat) : Int) := by simp
  rw [e] at h1 h2
  show (itoa n).toArray.size ≤ _
  unfold itoa
  split
  · have := dgl m n.natAbs (by omega)
    simp; omega
  · have := dgl m n.toNat (by omega)
    simp; omega
theorem tq (k : Int) : (0 ≤ k → Int.tmod k 10 = ((k.natAbs % 10 : Nat) : Int) ∧ Int.tdiv k 10 = ((k.natAbs / 10 : Nat) : Int)) ∧ (k < 0 → Int.tmod k 10 = -((k.natAbs % 10 : Nat) : Int) ∧ Int.tdiv k 10 = -((k.natAbs / 10 : Nat) : Int)) := by
  refine ⟨fun h => ?_, fun h => ?_⟩
  · rw [Int.tmod_eq_emod_of_nonneg h, Int.tdiv_eq_ediv_of_nonneg h]
    omega
  · obtain ⟨j, rfl⟩ : ∃ j, k = -j := ⟨-k, by omega⟩
    rw [Int.neg_tmod, Int.neg_tdiv, Int.tmod_eq_emod_of_nonneg (by omega), Int.tdiv_eq_ediv_of_nonneg (by omega)]
    omega
def nums (l : List UInt8) : List Int := l.map fun b => (b.toNat : Int)
theorem Zud (l : List UInt8) : gByt (nums l) = some (bl l) := by
  unfold gByt
  rw [if_pos]
  · congr 1
    unfold bstr nums bl
    congr 2
    rw [List.map_map]
    conv => rhs; rw [← List.map_id l]
    refine List.map_congr_left fun x _ => ?_
    simp
  · intro x hx
    obtain ⟨b, _, rfl⟩ := List.mem_map.1 hx
    have := b.toNat_lt
    omega
theorem Zu2 {n0 k : Int} {out : List Int} (hk : ¬ k = 0) (h1 : -9223372036854775808 ≤ k) (h2 : k ≤ 9223372036854775807) (ho : out.length ≤ 100) :
    Zav n0 (out, k) = some (.inl (((48 + k.natAbs % 10 : Nat) : Int) :: out, Int.tdiv k 10)) := by
  have hm : k.natAbs % 10 < 10 := Nat.mod_lt _ (by omega)
  have k1 : ∀ d : Int, d = ((k.natAbs % 10 : Nat) : Int) → Zda out k d = some (.inl (((48 + k.natAbs % 10 : Nat) : Int) :: out, Int.tdiv k 10)) := by
    intro d hd
    have w1 : IntKind.i64.wrap (48 + d) = 48 + d := Zax (by omega) (by omega)
    have w2 : IntKind.u8.wrap (48 + d) = 48 + d := u8_of (by omega) (by omega)
    have w3 : IntKind.i64.wrap (Int.tdiv k 10) = Int.tdiv k 10 := by
      by_cases hp : 0 ≤ k
      · have := ((tq k).1 hp).2; exact Zax (by omega) (by omega)
      · have := ((tq k).2 (by omega)).2; exact Zax (by omega) (by omega)
    have g : gApp 1 [48 + d] out = some ([48 + d] ++ out) := Zcw (by simp; omega) (by simp; omega)
    unfold Zda
    rw [w1, w2, g]
    simp (disch := omega) only [pz, w3]
    rw [hd]
    simp
  by_cases hp : 0 ≤ k
  · have hd := ((tq k).1 hp).1
    have hn : ¬ Int.tmod k 10 < 0 := by omega
    simp (disch := omega) only [pz, Zav, k1 _ hd]
  · have hd := ((tq k).2 (by omega)).1
    by_cases hz : Int.tmod k 10 < 0
    · have w : IntKind.i64.wrap (0 - Int.tmod k 10) = 0 - Int.tmod k 10 := Zax (by omega) (by omega)
      simp (disch := omega) only [pz, Zav, w, k1 (0 - Int.tmod k 10) (by omega)]
    · simp (disch := omega) only [pz, Zav, k1 (Int.tmod k 10) (by omega)]
theorem Zpc (n0 : Int) : ∀ (m : Nat) (k : Int) (out : List Int), ¬ k = 0 → k.natAbs < 10 ^ m → -9223372036854775808 ≤ k → k ≤ 9223372036854775807 → out.length + m ≤ 100 →
    loop (Zav n0) (out, k) = loop (Zav n0) (nums (decDigits k.natAbs) ++ out, 0) := by
  intro m
  induction m with
  | zero => intro k out hk h; exact absurd (by simp at h; omega) hk
  | succ m ih =>
    intro k out hk h h1 h2 ho
    rw [ZE (Zu2 hk h1 h2 (by omega))]
    have hm : k.natAbs % 10 < 10 := Nat.mod_lt _ (by omega)
    have hu : (Int.tdiv k 10).natAbs = k.natAbs / 10 := by
      by_cases hp : 0 ≤ k
      · have := ((tq k).1 hp).2; omega
      · have := ((tq k).2 (by omega)).2; omega
    have hx : ((UInt8.ofNat (48 + k.natAbs % 10)).toNat : Int) = ((48 + k.natAbs % 10 : Nat) : Int) := by
      rw [UInt8.toNat_ofNat']; omega
    by_cases hz : k.natAbs < 10
    · have e0 : Int.tdiv k 10 = 0 := by omega
      have hx2 : k.natAbs % 10 = k.natAbs := by omega
      rw [e0, decDigits, dif_pos hz]
      rw [hx2] at hx ⊢
      unfold nums
      rw [List.map_cons, List.map_nil, hx]; rfl
    · have e : 10 ^ (m + 1) = 10 ^ m * 10 := Nat.pow_succ ..
      rw [ih (Int.tdiv k 10) _ (by omega) (by rw [hu]; omega) (by
        by_cases hp : 0 ≤ k
        · have := ((tq k).1 hp).2; omega
        · have := ((tq k).2 (by omega)).2; omega) (by
        by_cases hp : 0 ≤ k
        · have := ((tq k).1 hp).2; omega
        · have := ((tq k).2 (by omega)).2; omega) (by rw [List.length_cons]; omega), hu]
      conv => rhs; rw [decDigits, dif_neg hz]
      unfold nums
      rw [List.map_append, List.map_cons, List.map_nil, hx]
      simp
theorem dgn (u : Nat) : 0 < (decDigits u).length := by
  rw [decDigits]; split <;> simp
theorem Zmj {n : Int} (h1 : -9223372036854775808 ≤ n) (h2 : n ≤ 9223372036854775807) : Zdd n = some (itoaB n) := by
  unfold Zdd
  by_cases h0 : n = 0
  · subst h0
    rw [Zd (r := ⟨#[48]⟩) (by simp (disch := omega) only [pz, Zav, List.length_nil])]
    congr 1
    unfold itoaB itoa
    rw [if_neg (by omega), decDigits, dif_pos (by decide)]
    rfl
  · rw [Zpc n 19 n [] h0 (by omega) h1 h2 (by decide), List.append_nil]
    have hl := dgn n.natAbs
    have hn : (nums (decDigits n.natAbs)).length = (decDigits n.natAbs).length := List.length_map ..
    have hs := Zud (decDigits n.natAbs)
    have hd := dgl 19 n.natAbs (by omega)
    have hz : ¬ ((nums (decDigits n.natAbs)).length : Int) = 0 := by omega
    by_cases hp : n < 0
    · have hf : gFit ⟨#[45]⟩ (bl (decDigits n.natAbs)) = some () := gFitW (by rw [ZmT]; show 1 + _ ≤ _; omega)
      rw [Zd (r := (⟨#[45]⟩ : ByteArray) ++ bl (decDigits n.natAbs)) (by simp (disch := omega) only [pz, Zav, hs, hf])]
      congr 1
      unfold itoaB itoa
      rw [if_pos hp]
      exact Zbc [45] _
    · rw [Zd (r := bl (decDigits n.natAbs)) (by simp (disch := omega) only [pz, Zav, hs])]
      congr 1
      unfold itoaB itoa
      rw [if_neg hp, show n.natAbs = n.toNat by omega]
      rfl
theorem Zof {n : Int} (h1 : -9223372036854775808 ≤ n) (h2 : n ≤ 9223372036854775807) : Zde n = some (itoaB n) := by
  unfold Zde Zh5
  rw [if_pos ⟨rfl, h1, h2⟩]; rfl
end Go.Proofs.YtocnokjekoglnaaGreatDoor
namespace Go.Proofs.YtocnokjekoglnaaGreatDoor
set_option linter.unusedVariables false
open Go Go.Vc Go.Lib
set_option linter.unusedSimpArgs false
theorem Zpw (b : ByteArray) : (⟨#[]⟩ : ByteArray) ++ b = b := by
  have := Zbc [] b.data.toList
  rw [Zay] at this
  rw [show (⟨#[]⟩ : ByteArray) = bl [] from rfl, this, List.nil_append, Zay]
theorem ZjL (a b c : ByteArray) : (a ++ b) ++ c = a ++ (b ++ c) := by
  rw [← Zay a, ← Zay b, ← Zay c, Zbc, Zbc, Zbc, Zbc, List.append_assoc]
theorem ZnJ {l : List ByteArray} {s : ByteArray} (h1 : l.length ≤ 140737488355328) (h2 : (joinB l s).size ≤ 140737488355328) : Zek l s = some (joinB l s) := by
  unfold Zek
  rw [if_pos ⟨h1, h2⟩]
theorem Zng {α : Type} [Inhabited α] {xs : List α} {f : α → ByteArray} {s : ByteArray} {k : Int} (h0 : 0 < k) (h1 : k < (xs.length : Int)) :
    joinB ((xs.take (k + 1).toNat).map f) s = joinB ((xs.take k.toNat).map f) s ++ s ++ f (ix xs k) := by
  rw [Zbh (by omega) h1, List.map_append, List.map_cons, List.map_nil, ZqI]
  intro e
  have := congrArg List.length e
  rw [List.length_map, List.length_take, List.length_nil] at this
  omega
theorem Znf {α : Type} [Inhabited α] {xs : List α} {f : α → ByteArray} {s : ByteArray} (h1 : 0 < (xs.length : Int)) :
    joinB ((xs.take ((0 : Int) + 1).toNat).map f) s = f (ix xs 0) := by
  rw [Zbh (by omega) h1]
  exact Zru _ _
theorem Zn6 {α β : Type} [Inhabited α] {xs : List α} {f : α → β} {k : Int} (h0 : 0 ≤ k) (h1 : k < (xs.length : Int)) : (xs.take (k + 1).toNat).map f = (xs.take k.toNat).map f ++ [f (ix xs k)] := by
  rw [Zbh h0 h1, List.map_append]; rfl
theorem jsize {α : Type} {xs : List α} {f : α → ByteArray} {s : ByteArray} {m N : Nat} (hf : ∀ x ∈ xs, (f x).size ≤ m) (hl : xs.length ≤ N) (i : Nat) : (joinB ((xs.take i).map f) s).size ≤ (m + s.size) * N := by
  refine Nat.le_trans (Zoi (m := m) fun y hy => ?_) (Nat.mul_le_mul_left _ ?_)
  · obtain ⟨x, hx, rfl⟩ := List.mem_map.1 hy
    exact hf x (List.mem_of_mem_take hx)
  · rw [List.length_map, List.length_take]; omega
def InR (x : Int) : Prop := -999999999 ≤ x ∧ x ≤ 999999999
theorem ZhW {x : Int} (h : InR x) : (itoaB x).size ≤ 10 := ZmC 8 (by have := h.1; omega) (by have := h.2; omega)
noncomputable def tL (xs : List Int) : ByteArray := @ite _ (xs.length ≤ 100 ∧ ∀ x ∈ xs, InR x) (Classical.propDecidable _) (if xs = [] then ⟨#[45]⟩ else joinB (xs.map itoaB) ⟨#[44]⟩) ⟨#[]⟩
theorem tL_t {xs : List Int} (h : xs.length ≤ 100 ∧ ∀ x ∈ xs, InR x) (hn : xs ≠ []) : tL xs = joinB (xs.map itoaB) ⟨#[44]⟩ := by unfold tL; rw [if_pos h, if_neg hn]
theorem tL_n {xs : List Int} (hn : xs = []) : tL xs = ⟨#[45]⟩ := by
  subst hn
  unfold tL
  rw [if_pos ⟨by decide, fun x hx => by cases hx⟩, if_pos rfl]
theorem tL_f {xs : List Int} (h : ¬ (xs.length ≤ 100 ∧ ∀ x ∈ xs, InR x)) : tL xs = ⟨#[]⟩ := by unfold tL; rw [if_neg h]
theorem ZkC (xs : List Int) : (tL xs).size ≤ 1100 := by
  by_cases hn : xs = []
  · rw [tL_n hn]; show 1 ≤ _; omega
  · by_cases h : xs.length ≤ 100 ∧ ∀ x ∈ xs, InR x
    · rw [tL_t h hn]
      have := jsize (xs := xs) (f := itoaB) (s := ⟨#[44]⟩) (m := 10) (N := 100) (fun x hx => ZhW (h.2 x hx)) h.1 xs.length
      rw [List.take_length] at this
      exact this
    · rw [tL_f h]; show 0 ≤ _; omega
theorem ZtO {n : Int} (hn : 0 ≤ n) (P : Int → Prop) : (∃ k, 0 ≤ k ∧ k < n ∧ P k ∧ ∀ j, 0 ≤ j → j < k → ¬ P j) ∨ ∀ j, 0 ≤ j → j < n → ¬ P j := by
  rcases ZbS (σ := Int) (ρ := Unit) (B := fun k => some (.inl (k + 1))) (fun k => k) P hn (fun k _ _ _ => rfl) with ⟨k, h1, h2, h3, h4, _⟩ | ⟨h, _⟩
  · exact .inl ⟨k, h1, h2, h3, h4⟩
  · exact .inr h
theorem Zvg {xs : List Int} {n : Int} (hn : n ≤ (xs.length : Int)) (h : ∀ j, 0 ≤ j → j < n → InR (ix xs j)) : ∀ x ∈ xs.take n.toNat, InR x := by
  intro x hx
  obtain ⟨i, h0, h1, rfl⟩ := Z1 hx
  rw [List.length_take] at h1
  rw [ZdL h0 (by omega)]
  exact h i h0 (by omega)
theorem Zoo {xs : List Int} {n : Int} (h0 : 0 ≤ n) (hn : n ≤ (xs.length : Int)) (hl : xs.length ≤ 100) (h : ∀ j, 0 ≤ j → j < n → InR (ix xs j)) :
    loop (Za8 xs) (⟨#[]⟩, 0) = loop (Za8 xs) (joinB ((xs.take n.toNat).map itoaB) ⟨#[44]⟩, n) := by
  refine ZD (fun k : Int => (joinB ((xs.take k.toNat).map itoaB) ⟨#[44]⟩, k)) h0 fun k k0 k1 => ?_
  have hk := h k k0 k1
  have hd := Zmj (n := ix xs k) (by have := hk.1; omega) (by have := hk.2; omega)
  have hz := ZhW hk
  have hlk : (xs.take k.toNat).length ≤ 100 := by rw [List.length_take]; omega
  have hj := Zoi (l := (xs.take k.toNat).map itoaB) (s := ⟨#[44]⟩) (m := 10) fun y hy => by
    obtain ⟨x, hx, rfl⟩ := List.mem_map.1 hy
    exact ZhW (Zvg (n := k) (by omega) (fun j a b => h j a (by omega)) x hx)
  rw [List.length_map] at hj
  have hj2 : (joinB ((xs.take k.toNat).map itoaB) ⟨#[44]⟩).size ≤ 1100 := Nat.le_trans hj (Nat.mul_le_mul_left 11 hlk)
  have hi : ZN (ix xs k) (-999999999) 999999999 = some true := by
    have := hk.1; have := hk.2
    simp (disch := omega) only [pz, ZN]
  by_cases hz0 : k = 0
  · subst hz0
    rw [Znf (by omega)]
    have f2 : gFit ⟨#[]⟩ (itoaB (ix xs 0)) = some () := gFitW (by show 0 + _ ≤ _; omega)
    have e0 : joinB ((xs.take (0 : Int).toNat).map itoaB) ⟨#[44]⟩ = ⟨#[]⟩ := rfl
    rw [e0]
    simp (disch := omega) only [pz, Za8, Zdc, hi, hd, f2, Zpw]
  · rw [Zng (by omega) (by omega)]
    generalize joinB ((xs.take k.toNat).map itoaB) ⟨#[44]⟩ = out at hj2
    have f1 : gFit out ⟨#[44]⟩ = some () := gFitW (by show out.size + 1 ≤ _; omega)
    have f2 : gFit (out ++ ⟨#[44]⟩) (itoaB (ix xs k)) = some () := gFitW (by rw [ZaG]; show out.size + 1 + _ ≤ _; omega)
    simp (disch := omega) only [pz, Za8, Zdc, hi, hd, f1, f2]
theorem ZoD {xs : List Int} : (∀ x ∈ xs, InR x) ↔ ∀ j, 0 ≤ j → j < (xs.length : Int) → InR (ix xs j) :=
  ⟨fun h j a b => h _ (ZV a b), fun h x hx => by obtain ⟨i, a, b, rfl⟩ := Z1 hx; exact h i a b⟩
theorem Zwn (xs : List Int) : Ze7 xs = some (tL xs) := by
  unfold Ze7
  by_cases hl : xs.length ≤ 100
  · by_cases hn : xs = []
    · rw [tL_n hn]; subst hn; simp (disch := omega) only [pz, List.length_nil]
    · have hp : 0 < (xs.length : Int) := by
        cases xs with
        | nil => exact absurd rfl hn
        | cons a t => simp
      rcases ZtO (n := xs.length) (by omega) (fun k => ¬ InR (ix xs k)) with ⟨k, k0, k1, hk, hb⟩ | hb
      · rw [tL_f fun h => hk (ZoD.1 h.2 k k0 k1)]
        have e := Zoo (xs := xs) (n := k) k0 (by omega) hl fun j a b => Classical.not_not.1 (hb j a b)
        have hi : ZN (ix xs k) (-999999999) 999999999 = some false := by
          by_cases h1 : -999999999 ≤ ix xs k
          · have : ¬ ix xs k ≤ 999999999 := fun h2 => hk ⟨h1, h2⟩
            simp (disch := omega) only [pz, ZN]
          · simp (disch := omega) only [pz, ZN]
        have e2 : loop (Za8 xs) (⟨#[]⟩, 0) = some ⟨#[]⟩ := by
          rw [e]
          exact Zd (by simp (disch := omega) only [pz, Za8, hi])
        simp (disch := omega) only [pz, e2]
      · have ha : ∀ j, 0 ≤ j → j < (xs.length : Int) → InR (ix xs j) := fun j a b => Classical.not_not.1 (hb j a b)
        rw [tL_t ⟨hl, ZoD.2 ha⟩ hn]
        have e := Zoo (xs := xs) (n := xs.length) (by omega) (by omega) hl ha
        rw [Int.toNat_natCast, List.take_length] at e
        have e2 : loop (Za8 xs) (⟨#[]⟩, 0) = some (joinB (xs.map itoaB) ⟨#[44]⟩) := by
          rw [e]
          exact Zd (by simp (disch := omega) only [pz, Za8])
        simp (disch := omega) only [pz, e2]
  · rw [tL_f fun h => hl h.1]
    simp (disch := omega) only [pz, ]
theorem Zqx (xs : List Int) : ZfY xs = some (tL xs) := by
  unfold ZfY
  by_cases hl : xs.length ≤ 100
  · have hc := containsL (s := xs) (fn := fun y0 => Zcg y0) (q := fun x => ¬ InR x) (by omega) fun x hx => by
      by_cases h1 : -999999999 ≤ x
      · by_cases h2 : x ≤ 999999999
        · simp (disch := omega) only [pz, Zcg, ZL]
          exact IsQ.f fun h => h ⟨h1, h2⟩
        · simp (disch := omega) only [pz, Zcg, ZL]
          exact IsQ.t fun h => h2 h.2
      · simp (disch := omega) only [pz, Zcg, ZL]
        exact IsQ.t fun h => h1 h.1
    by_cases ha : ∀ x ∈ xs, InR x
    · have hc2 := hc.ne fun ⟨x, hx, h⟩ => h (ha x hx)
      by_cases hn : xs = []
      · rw [tL_n hn]; subst hn; simp (disch := omega) only [pz, hc2, Zf1, List.length_nil]
      · rw [tL_t ⟨hl, ha⟩ hn]
        have hp : 0 < (xs.length : Int) := by
          cases xs with
          | nil => exact absurd rfl hn
          | cons a t => simp
        have e : loop (Zc6 xs) ([], 0) = some (joinB (xs.map itoaB) ⟨#[44]⟩) := by
          have e1 := ZD (B := Zc6 xs) (fun k : Int => ((xs.take k.toNat).map itoaB, k)) (i := 0) (n := xs.length) (by omega) fun k k0 k1 => by
            have hk := ha _ (ZV k0 k1)
            have hd := Zof (n := ix xs k) (by have := hk.1; omega) (by have := hk.2; omega)
            have hlk : ((xs.take k.toNat).map itoaB).length ≤ 100 := by rw [List.length_map, List.length_take]; omega
            rw [Zn6 k0 k1]
            have hg : gApp 16 ((xs.take k.toNat).map itoaB) [itoaB (ix xs k)] = some ((xs.take k.toNat).map itoaB ++ [itoaB (ix xs k)]) := gApp1 (by omega) (by omega)
            simp (disch := omega) only [pz, Zc6, hd, hg]
          rw [Int.toNat_natCast, List.take_length] at e1
          refine e1.trans (Zd ?_)
          have hj := jsize (xs := xs) (f := itoaB) (s := ⟨#[44]⟩) (m := 10) (N := 100) (fun x hx => ZhW (ha x hx)) hl xs.length
          rw [List.take_length] at hj
          have hq := ZnJ (l := xs.map itoaB) (s := ⟨#[44]⟩) (by rw [List.length_map]; omega) (Nat.le_trans hj (by decide))
          simp (disch := omega) only [pz, Zc6, hq]
        simp (disch := omega) only [pz, hc2, Zf1, e]
    · have hc2 := hc.eq (by
        refine Classical.byContradiction fun h => ha fun x hx => Classical.not_not.1 fun hh => h ⟨x, hx, hh⟩)
      rw [tL_f fun h => ha h.2]
      simp (disch := omega) only [pz, hc2]
  · rw [tL_f fun h => hl h.1]
    simp (disch := omega) only [pz, ]
theorem ZvR {k : Int} (h1 : 1 ≤ k) (h7 : k ≤ 7) : ∃ l s, ZfV = some l ∧ gIdx l k = some s ∧ Ze6 k = some s ∧ s.size ≤ 10 := by
  have hk : k = 1 ∨ k = 2 ∨ k = 3 ∨ k = 4 ∨ k = 5 ∨ k = 6 ∨ k = 7 := by omega
  have w : IntKind.i64.wrap (k - 1) = k - 1 := Zax (by omega) (by omega)
  have hw : ZL k 1 7 = some true := by simp (disch := omega) only [pz, ZL]
  have hi : ZfQ k = some true := by simp (disch := omega) only [pz, ZfQ, hw]
  unfold Ze6 ZfV Zhu
  rw [hi, w]
  rcases hk with rfl | rfl | rfl | rfl | rfl | rfl | rfl <;> exact ⟨_, _, rfl, rfl, rfl, by decide⟩
theorem ZrZ {o : Zz} (h : Zbi o = some true) : 1 ≤ o.Kind ∧ o.Kind ≤ 7 := by
  refine Classical.byContradiction fun hn => ?_
  have : Zbi o = some false := by
    unfold Zbi
    by_cases h1 : o.Kind < 1
    · simp (disch := omega) only [pz, ]
    · simp (disch := omega) only [pz, ]
  rw [this] at h
  cases h
noncomputable def tR (rows : List (List Int)) : ByteArray := if rows = [] then ⟨#[110, 111, 110, 101]⟩ else joinB (rows.map tL) ⟨#[47]⟩
theorem ZvW {rows : List (List Int)} (h : rows.length ≤ 1048576) : (tR rows).size ≤ 1154482176 := by
  unfold tR
  split
  · show 4 ≤ _; omega
  · have := jsize (xs := rows) (f := tL) (s := ⟨#[47]⟩) (m := 1100) (N := 1048576) (fun x _ => ZkC x) h rows.length
    rw [List.take_length] at this
    exact this
theorem Ztz {o : Zz} {pre : ByteArray} (hp : pre.size ≤ 100) (h : o.Rows.length ≤ 1048576) (hne : o.Rows ≠ []) :
    loop (ZaS o) (pre, 0) = some (pre ++ tR o.Rows) := by
  have e : tR o.Rows = joinB (o.Rows.map tL) ⟨#[47]⟩ := by unfold tR; rw [if_neg hne]
  rw [e]
  have e1 := ZD (B := ZaS o) (fun k : Int => (pre ++ joinB ((o.Rows.take k.toNat).map tL) ⟨#[47]⟩, k)) (i := 0) (n := o.Rows.length) (by omega) fun k k0 k1 => by
    have hj := jsize (xs := o.Rows) (f := tL) (s := ⟨#[47]⟩) (m := 1100) (N := 1048576) (fun x _ => ZkC x) h k.toNat
    have hs := ZkC (ix o.Rows k)
    have hl := Zwn (ix o.Rows k)
    have hj2 : (joinB ((o.Rows.take k.toNat).map tL) ⟨#[47]⟩).size ≤ 1154482176 := hj
    by_cases hz0 : k = 0
    · subst hz0
      rw [Znf (by omega)]
      have e0 : joinB ((o.Rows.take (0 : Int).toNat).map tL) ⟨#[47]⟩ = ⟨#[]⟩ := rfl
      have e00 : pre ++ (⟨#[]⟩ : ByteArray) = pre := by
        have := Zbc pre.data.toList []
        rw [Zay, List.append_nil, Zay] at this
        exact this
      rw [e0, e00]
      have f2 : gFit pre (tL (ix o.Rows 0)) = some () := gFitW (by omega)
      simp (disch := omega) only [pz, ZaS, ZbP, hl, f2]
    · rw [Zng (by omega) (by omega)]
      generalize joinB ((o.Rows.take k.toNat).map tL) ⟨#[47]⟩ = out at hj2
      have f1 : gFit (pre ++ out) ⟨#[47]⟩ = some () := gFitW (by rw [ZaG]; show _ + 1 ≤ _; omega)
      have f2 : gFit ((pre ++ out) ++ ⟨#[47]⟩) (tL (ix o.Rows k)) = some () := gFitW (by rw [ZaG, ZaG]; show _ + 1 + _ ≤ _; omega)
      have e3 : pre ++ (out ++ ⟨#[47]⟩ ++ tL (ix o.Rows k)) = pre ++ out ++ ⟨#[47]⟩ ++ tL (ix o.Rows k) := by rw [ZjL, ZjL, ZjL]
      rw [e3]
      simp (disch := omega) only [pz, ZaS, ZbP, hl, f1, f2]
  have e0 : pre ++ joinB ((o.Rows.take (0 : Int).toNat).map tL) ⟨#[47]⟩ = pre := by
    have := Zbc pre.data.toList []
    rw [Zay, List.append_nil, Zay] at this
    exact this
  rw [Int.toNat_natCast, List.take_length] at e1
  have e1' : loop (ZaS o) (pre, 0) = loop (ZaS o) (pre ++ joinB (o.Rows.map tL) ⟨#[47]⟩, (o.Rows.length : Int)) := by
    have e2 : loop (ZaS o) (pre ++ joinB ((o.Rows.take (0 : Int).toNat).map tL) ⟨#[47]⟩, 0) = _ := e1
    rwa [e0] at e2
  rw [e1']
  exact Zd (by simp (disch := omega) only [pz, ZaS])
theorem Zxd {o : Zz} (h1 : 1 ≤ o.Kind) (h7 : o.Kind ≤ 7) (hs : -9223372036854775808 ≤ o.Size ∧ o.Size ≤ 9223372036854775807) (h : o.Rows.length ≤ 1048576) :
    ∃ t, Zfo o = some t ∧ (Zbi o = some true → Zce o = some t) ∧ t.size ≤ 1154482300 := by
  obtain ⟨l, s, n1, n2, n3, n4⟩ := ZvR h1 h7
  have d1 := Zmj hs.1 hs.2
  have d2 := Zof hs.1 hs.2
  have dz := ZmC (n := o.Size) 18 (by omega) (by omega)
  have z32 : (⟨#[32]⟩ : ByteArray).size = 1 := rfl
  have f1 : gFit s ⟨#[32]⟩ = some () := gFitW (by omega)
  have f2 : gFit (s ++ ⟨#[32]⟩) (itoaB o.Size) = some () := gFitW (by rw [ZaG]; omega)
  have f3 : gFit ((s ++ ⟨#[32]⟩) ++ itoaB o.Size) ⟨#[32]⟩ = some () := gFitW (by rw [ZaG, ZaG]; omega)
  have hz := ZvW h
  have hp : (((s ++ ⟨#[32]⟩) ++ itoaB o.Size) ++ ⟨#[32]⟩).size ≤ 100 := by rw [ZaG, ZaG, ZaG]; omega
  have f4 : gFit (((s ++ ⟨#[32]⟩) ++ itoaB o.Size) ++ ⟨#[32]⟩) (tR o.Rows) = some () := gFitW (by omega)
  have k1 : Zeo o (tR o.Rows) = some ((((s ++ ⟨#[32]⟩) ++ itoaB o.Size) ++ ⟨#[32]⟩) ++ tR o.Rows) := by
    unfold Zeo
    simp (disch := omega) only [pz, n3, d2, f1, f2, f3, f4]
  have e : Zz.mk o.Kind o.Size o.Rows = o := rfl
  refine ⟨(((s ++ ⟨#[32]⟩) ++ itoaB o.Size) ++ ⟨#[32]⟩) ++ tR o.Rows, ?_, fun hv => ?_, by rw [ZaG]; omega⟩
  · unfold Zfo
    by_cases hn : o.Rows = []
    · have er : tR o.Rows = ⟨#[110, 111, 110, 101]⟩ := by unfold tR; rw [if_pos hn]
      rw [er] at f4 ⊢
      have hl0 : (o.Rows.length : Int) = 0 := by rw [hn]; rfl
      simp (disch := omega) only [pz, n1, n2, d1, f1, f2, f3, f4]
    · have hl0 : ¬ (o.Rows.length : Int) = 0 := by
        intro h0
        exact hn (List.eq_nil_of_length_eq_zero (by omega))
      have hr := Ztz (o := o) hp h hn
      simp (disch := omega) only [pz, n1, n2, d1, f1, f2, f3, hr]
  · unfold Zce
    by_cases hn : o.Rows = []
    · have er : tR o.Rows = ⟨#[110, 111, 110, 101]⟩ := by unfold tR; rw [if_pos hn]
      rw [er] at k1 ⊢
      have hl0 : (o.Rows.length : Int) = 0 := by rw [hn]; rfl
      simp (disch := omega) only [pz, e, hv, k1]
    · have hl0 : 0 < (o.Rows.length : Int) := by
        have : o.Rows.length ≠ 0 := fun h0 => hn (List.eq_nil_of_length_eq_zero h0)
        omega
      have er : tR o.Rows = joinB (o.Rows.map tL) ⟨#[47]⟩ := by unfold tR; rw [if_neg hn]
      have e1 := ZD (B := Zcz o) (fun k : Int => ((o.Rows.take k.toNat).map tL, k)) (i := 0) (n := o.Rows.length) (by omega) fun k a b => by
        have hlt := Zqx (ix o.Rows k)
        have hlk : ((o.Rows.take k.toNat).map tL).length ≤ 1048576 := by rw [List.length_map, List.length_take]; omega
        rw [Zn6 a b]
        have hg : gApp 16 ((o.Rows.take k.toNat).map tL) [tL (ix o.Rows k)] = some ((o.Rows.take k.toNat).map tL ++ [tL (ix o.Rows k)]) := gApp1 (by omega) (by omega)
        simp (disch := omega) only [pz, Zcz, hlt, hg]
      rw [Int.toNat_natCast, List.take_length] at e1
      have hq := ZnJ (l := o.Rows.map tL) (s := ⟨#[47]⟩) (by rw [List.length_map]; omega) (by rw [← er]; omega)
      rw [er] at k1
      have e2 : loop (Zcz o) ([], 0) = some ((((s ++ ⟨#[32]⟩) ++ itoaB o.Size) ++ ⟨#[32]⟩) ++ joinB (o.Rows.map tL) ⟨#[47]⟩) := by
        refine Eq.trans e1 (Zd ?_)
        simp (disch := omega) only [pz, Zcz, hq, k1]
      rw [er]
      simp (disch := omega) only [pz, e, hv, e2]
end Go.Proofs.YtocnokjekoglnaaGreatDoor
