import Derived.Test.YtmmbnjijjdakmaaGreatDoorPuJf
import Derived.Test.YtmmbnjijjdakmaaGreatDoorPuJc
import Derived.Test.YtmmbnjijjdakmaaGreatDoorPuJb
import Derived.Test.YtmmbnjijjdakmaaGreatDoorPuJa
import Derived.Test.YtmmbnjijjdakmaaGreatDoorPuTxt
namespace Go.Proofs.YtmmbnjijjdakmaaGreatDoor
open Go Go.Vc
set_option linter.unusedSimpArgs false
set_option linter.unusedVariables false
structure VMat (q : Int) (m : List (List Int)) : Prop where
  n1 : 1 ≤ (m.length : Int)
  n2 : (m.length : Int) ≤ 32
  w1 : 1 ≤ ((ix m 0).length : Int)
  w2 : ((ix m 0).length : Int) ≤ 32
  row : ∀ i, 0 ≤ i → i < (m.length : Int) → ((ix m i).length : Int) = (ix m 0).length ∧ In q (ix m i)
theorem VMat.mat {q : Int} {m : List (List Int)} (h : VMat q m) : Mat q (ix m 0).length m := ⟨fun i a b => (h.row i a b).1, fun i a b => (h.row i a b).2, by have := h.n2; omega, by have := h.w2; omega⟩
theorem Zpc {f : Zc} {q : Int} (hs : Zcl f = some q) (hq : 2 ≤ q) (hq64 : q ≤ 64) {v : List Int} (hv : (v.length : Int) ≤ 1048576) : IsQ (Zfp f v) (In q v) := by
  unfold Zfp
  rw [hs]
  obtain ⟨c, q1, q2⟩ := Zdj (B := Zcy v q) (P := fun k => 0 ≤ ix v k ∧ ix v k ≤ q - 1) (t := true) (f := false) (i := 0) (n := v.length) (by omega)
    (fun k a b c => by simp (disch := omega) only [pz, Zcy, in_ok]) (fun k a b c => by simp (disch := omega) only [pz, Zcy, in_ok]) (by simp (disch := omega) only [pz, Zcy])
  refine ⟨c, ?_, q2.trans ⟨fun h i a b => ?_, fun h i a b => ?_⟩⟩
  · show loop (Zcy v q) 0 = some c
    rw [q1]; cases c <;> rfl
  · have := h i a b; omega
  · have := h i a b; omega
theorem Zqr {f : Zc} {q : Int} (hm : Made q f) (hq : 2 ≤ q) (hq64 : q ≤ 64) {m : List (List Int)} (hs : Sz2 m) : IsQ (ZfT f m) (VMat q m) := by
  have hN := hs.1
  unfold ZfT ZiU
  rw [hm.oks]
  by_cases h1 : (m.length : Int) = 0
  · simp (disch := omega) only [pz, ]; exact IsQ.f fun h => by have := h.n1; omega
  · by_cases h2 : (m.length : Int) ≤ 32
    · by_cases h3 : ((ix m 0).length : Int) = 0
      · simp (disch := omega) only [pz, ]; exact IsQ.f fun h => by have := h.w1; omega
      · by_cases h4 : ((ix m 0).length : Int) ≤ 32
        · simp (disch := omega) only [pz, ]
          refine (Zan (P := fun i => ((ix m i).length : Int) = (ix m 0).length ∧ In q (ix m i)) (n := m.length) (Q := True) (by omega) ?_ ?_ fun _ => ?_).congr ⟨fun g => ⟨by omega, h2, by omega, h4, g.1⟩, fun g => ⟨g.row, trivial⟩⟩
          · intro i g0 g1 g2
            have q1 := (Zpc hm.szs hq hq64 (hs.row g0 g1)).eq g2.2
            have := g2.1
            simp (disch := omega) only [pz, ZdR, q1]
          · intro i g0 g1 g2
            by_cases hl : ((ix m i).length : Int) = (ix m 0).length
            · have q1 := (Zpc hm.szs hq hq64 (hs.row g0 g1)).ne fun h => g2 ⟨hl, h⟩
              simp (disch := omega) only [pz, ZdR, q1]
            · simp (disch := omega) only [pz, ZdR]
          · rw [Zd (r := true) (by simp (disch := omega) only [pz, ZdR])]; exact IsQ.t trivial
        · simp (disch := omega) only [pz, ]; exact IsQ.f fun h => h4 h.w2
    · simp (disch := omega) only [pz, ]; exact IsQ.f fun h => h2 h.n2
theorem Zo2 {f : Zc} {q : Int} (hm : Made q f) (hq : 2 ≤ q) (hq64 : q ≤ 64) {m : List (List Int)} (hs : Sz2 m) : IsQ (ZdP f m) (VMat q m) := by
  have hN := hs.1
  have e : Zc.mk f.Prime f.Degree f.Poly = f := rfl
  unfold ZdP Zin
  rw [e, hm.oki]
  by_cases h1 : (m.length : Int) = 0
  · simp (disch := omega) only [pz, ZY, ZL]; exact IsQ.f fun h => by have := h.n1; omega
  · by_cases h2 : (m.length : Int) ≤ 32
    · by_cases h3 : ((ix m 0).length : Int) = 0
      · simp (disch := omega) only [pz, ZY, ZK, ZL]; exact IsQ.f fun h => by have := h.w1; omega
      · by_cases h4 : ((ix m 0).length : Int) ≤ 32
        · simp (disch := omega) only [pz, ZY, ZK, ZL, hm.szi]
          have hc := containsLL (s := m) (fn := fun y0 => Zd0 y0 m q) (q := fun r => ¬ ((r.length : Int) = (ix m 0).length ∧ In q r)) hN fun r hr => by
            show IsQ (Zd0 r m q) _
            unfold Zd0 ZiW
            by_cases hl : (r.length : Int) = (ix m 0).length
            · have hi := (containsL (s := r) (fn := fun y0 => Zdd y0 q) (q := fun x => ¬ (0 ≤ x ∧ x ≤ q - 1)) (hs.2 r hr) fun x hx => by
                show IsQ (Zdd x q) _
                unfold Zdd
                by_cases hx : 0 ≤ x ∧ x ≤ q - 1
                · simp (disch := omega) only [pz, ZL]; exact IsQ.f fun h => h hx
                · simp (disch := omega) only [pz, ZL]; exact IsQ.t hx).not.not
              have hi2 : IsQ (((Zat r fun y0 => Zdd y0 q).bind fun r => some (!r)).bind fun r => some (!r)) (¬ ((r.length : Int) = (ix m 0).length ∧ In q r)) := by
                refine hi.congr ⟨fun h g => h fun ⟨x, hx, hn⟩ => ?_, fun h g => h ⟨hl, fun k a b => ?_⟩⟩
                · obtain ⟨k, a, b, rfl⟩ := Z1 hx
                  have := g.2 k a b
                  exact hn ⟨this.1, by omega⟩
                · have := Classical.byContradiction fun hh : ¬ (0 ≤ ix r k ∧ ix r k ≤ q - 1) => g ⟨ix r k, ZM a b, hh⟩
                  omega
              simp (disch := omega) only [pz, ]
              exact hi2
            · simp (disch := omega) only [pz, ]
              exact IsQ.t fun h => hl h.1
          refine hc.not.congr ⟨fun g => ⟨by omega, h2, by omega, h4, fun i a b => ?_⟩, fun g => ?_⟩
          · exact Classical.byContradiction fun hh => g ⟨ix m i, ZM a b, hh⟩
          · rintro ⟨x, hx, hn⟩
            obtain ⟨i, a, b, rfl⟩ := Z1 hx
            exact hn (g.row i a b)
        · simp (disch := omega) only [pz, ZY, ZK, ZL]; exact IsQ.f fun h => h4 h.w2
    · simp (disch := omega) only [pz, ZY, ZL]; exact IsQ.f fun h => h2 h.n2
theorem Zn1 {q : Int} (hq : 2 ≤ q) (hq64 : q ≤ 64) : ∀ (e : Nat) (n : Int), e ≤ 64 → 1 ≤ n → n ≤ 4096 → ∃ cs ci : Int, loop (ZdJ q) ((e : Int), n) = some cs ∧ loop (ZaK q 4096) ((e : Int), n) = some ci ∧ (cs = 0 ↔ 4096 < ci)
  | 0, n, _, h1, h2 => by
    refine ⟨n, n, Zd ?_, Zd ?_, by omega⟩
    · simp (disch := omega) only [pz, ZdJ]
    · simp (disch := omega) only [pz, ZaK]
  | e + 1, n, he, h1, h2 => by
    have hm0 : 1 * 2 ≤ n * q := Int.mul_le_mul h1 hq (by omega) (by omega)
    have hm1 : n * q ≤ 4096 * 64 := Int.mul_le_mul h2 hq64 (by omega) (by omega)
    have ee : ((e + 1 : Nat) : Int) - 1 = (e : Int) := by omega
    have hgo : loop (ZaK q 4096) (((e + 1 : Nat) : Int), n) = loop (ZaK q 4096) ((e : Int), n * q) := by
      refine ZF ?_
      simp (disch := omega) only [pz, ZaK, ZdX, ee]
    by_cases h : n * q ≤ 4096
    · obtain ⟨cs, ci, g1, g2, g3⟩ := Zn1 hq hq64 e (n * q) (by omega) (by omega) h
      refine ⟨cs, ci, ?_, by rw [hgo, g2], g3⟩
      rw [← g1]
      refine ZF ?_
      simp (disch := omega) only [pz, ZdJ, ee]
    · refine ⟨0, n * q, Zd ?_, ?_, by omega⟩
      · simp (disch := omega) only [pz, ZdJ]
      · rw [hgo]
        refine Zd ?_
        cases e with
        | zero => simp (disch := omega) only [pz, ZaK]
        | succ e => simp (disch := omega) only [pz, ZaK]
theorem Zx3 {a b : List (List Int)} (ha : (a.length : Int) ≤ 1048576) (hr : ∀ x ∈ a, (x.length : Int) ≤ 1048576) : IsQ (Zfd a b) (a = b) := by
  unfold Zfd
  refine IsQ.bind_id ?_
  unfold Zio
  refine ZdH (by unfold M63; omega) (fun k x y hx hy => ?_) (by simp (disch := omega) only [pz, Zfy])
  have h1 := Z2 hx
  have h2 := Z2 hy
  have hs := ZvX (a := x) (b := y) (hr x (List.mem_of_getElem? hx))
  by_cases h : x = y
  · exact Za4 (c := true) (by simp [h]) (by simp (disch := omega) only [pz, Zfy, ZN hx, ZN hy, hs.eq h])
  · exact Za4 (c := false) (by simp [h]) (by simp (disch := omega) only [pz, Zfy, ZN hx, ZN hy, hs.ne h])
theorem Zno {o : Zg} (hs : Sz2 o.Rows) : ∃ cs ci b, Zf6 o = some cs ∧ Zem o = some ci ∧ Zew cs = some b ∧ Zdh ci = some b := by
  have hN := hs.1
  unfold Zf6 Zem
  rw [Zbn hs]
  rcases ZrV o.Size with ⟨f, hm⟩ | ⟨h1, e, h2⟩
  · obtain ⟨inv, hF⟩ := Zsh hm.gf
    have hp := hF.fd.p2
    have hq := hF.q2
    have hq64 := hF.q64
    rw [hm.split, hm.mki, hm.mks]
    have e : Zc.mk f.Prime f.Degree f.Poly = f := rfl
    suffices hh : ∃ b, Zew ⟨f, o.Rows⟩ = some b ∧ Zdh ⟨f, o.Rows⟩ = some b by
      obtain ⟨b, h1, h2⟩ := hh
      refine ⟨⟨f, o.Rows⟩, ⟨f, o.Rows⟩, b, ?_, ?_, h1, h2⟩
      · simp (disch := omega) only [pz, e]
      · simp (disch := omega) only [pz, e]
    unfold Zew Zdh ZiV ZhQ
    by_cases hV : VMat o.Size o.Rows
    · have q1 := (Zqr hm hq hq64 hs).eq hV
      have q2 := (Zo2 hm hq hq64 hs).eq hV
      have n1 := hV.n1; have w2 := hV.w2
      by_cases h8 : (o.Rows.length : Int) ≤ 8
      · obtain ⟨cs, ci, g1, g2, g3⟩ := Zn1 hq hq64 o.Rows.length 1 (by omega) (by omega) (by omega)
        have c1 : Zir o.Size (o.Rows.length : Int) = some cs := g1
        have c2 : ZbD o.Size (o.Rows.length : Int) 4096 = some ci := g2
        by_cases hz : cs = 0
        · have hci := g3.1 hz
          refine ⟨false, ?_, ?_⟩
          · simp (disch := omega) only [pz, e, q1, hm.szs, c1]
          · simp (disch := omega) only [pz, e, q2, hm.szi, ZY, c2]
        · have hci : ¬ 4096 < ci := fun h => hz (g3.2 h)
          obtain ⟨R, piv, d, r1, r2, r3, r4⟩ := Zy9 hF hs hV.mat (by omega) n1
          have s1 := ZqE (a := R) (b := o.Rows) (by omega) r4
          have s2 := Zx3 (a := R) (b := o.Rows) (by omega) r4
          have ht := ZyY hF hm.szi
          obtain ⟨b, s1, s3⟩ := s1
          obtain ⟨b', s2, s4⟩ := s2
          have : b = b' := by rw [Bool.eq_iff_iff, s3, s4]
          subst this
          refine ⟨b, ?_, ?_⟩
          · simp (disch := omega) only [pz, e, q1, hm.szs, c1, r1, s1]
          · simp (disch := omega) only [pz, e, q2, hm.szi, ZY, c2, ht, r2, s2]
      · refine ⟨false, ?_, ?_⟩
        · simp (disch := omega) only [pz, e, q1]
        · simp (disch := omega) only [pz, e, q2]
    · have q1 := (Zqr hm hq hq64 hs).ne hV
      have q2 := (Zo2 hm hq hq64 hs).ne hV
      refine ⟨false, ?_, ?_⟩
      · simp (disch := omega) only [pz, e, q1]
      · simp (disch := omega) only [pz, e, q2]
  · rw [h1, h2]
    refine ⟨⟨⟨0, 0, []⟩, []⟩, ⟨⟨0, 0, []⟩, o.Rows⟩, false, ?_, ?_, ?_, ?_⟩
    · simp (disch := omega) only [pz, ]
    · simp (disch := omega) only [pz, ]
    · rfl
    · rfl
end Go.Proofs.YtmmbnjijjdakmaaGreatDoor
namespace Go.Proofs.YtmmbnjijjdakmaaGreatDoor
set_option linter.unusedVariables false
open Go Go.Vc
set_option linter.unusedSimpArgs false
theorem two_q {a b : Option Bool} {p : Prop} (ha : IsQ a p) (hb : IsQ b p) : ∃ c, a = some c ∧ b = some c := by
  obtain ⟨c, h1, h2⟩ := ha
  obtain ⟨d, h3, h4⟩ := hb
  have : c = d := by rw [Bool.eq_iff_iff, h2, h4]
  subst this
  exact ⟨c, h1, h3⟩
theorem ZxE {o : Zg} (hs : Sz2 o.Rows) : ∃ c, ZfY o = some c ∧ Zax o = some c := by
  have hN := hs.1
  have e : Zg.mk o.Kind o.Size o.Rows = o := rfl
  unfold ZfY Zax
  by_cases h1 : o.Kind = 1
  · obtain ⟨c, q1, q2⟩ := two_q (Zxt hs) (Zoz hs)
    by_cases hl : (o.Rows.length : Int) = o.Size
    · refine ⟨c, ?_, ?_⟩
      · cases c <;> simp (disch := omega) only [pz, q1]
      · simp (disch := omega) only [pz, q2, ZY]
    · refine ⟨false, ?_, ?_⟩
      · cases c <;> simp (disch := omega) only [pz, q1]
      · simp (disch := omega) only [pz, q2, ZY]
  by_cases h2 : o.Kind = 2
  · obtain ⟨c, q1, q2⟩ := two_q (Ztg (d := ⟨o.Size, o.Rows⟩) hs) (Zpy (d := ⟨o.Size, o.Rows⟩) hs)
    refine ⟨c, ?_, ?_⟩
    · simp (disch := omega) only [pz, q1]
    · simp (disch := omega) only [pz, e, ZgJ, Zbn hs, q2]
  by_cases h3 : o.Kind = 3
  · obtain ⟨c, q1, q2⟩ := two_q (Zxx hs) (ZnO hs)
    by_cases hl : (o.Rows.length : Int) = o.Size
    · refine ⟨c, ?_, ?_⟩
      · cases c <;> simp (disch := omega) only [pz, q1]
      · simp (disch := omega) only [pz, q2, ZY]
    · refine ⟨false, ?_, ?_⟩
      · cases c <;> simp (disch := omega) only [pz, q1]
      · simp (disch := omega) only [pz, q2, ZY]
  by_cases h4 : o.Kind = 4
  · by_cases hl : 0 < (o.Rows.length : Int)
    · obtain ⟨c, q1, q2⟩ := two_q (Zst (a := ⟨o.Size, (ix o.Rows 0).length, o.Rows⟩) hs) (Zqo (a := ⟨o.Size, (ix o.Rows 0).length, o.Rows⟩) hs)
      refine ⟨c, ?_, ?_⟩
      · simp (disch := omega) only [pz, ZgD, q1]
      · simp (disch := omega) only [pz, e, Zg7, ZK, Zbn hs, q2]
    · refine ⟨false, ?_, ?_⟩
      · simp (disch := omega) only [pz, ZgD]
      · simp (disch := omega) only [pz, ]
  by_cases h5 : o.Kind = 5
  · obtain ⟨cs, ci, b, g1, g2, g3, g4⟩ := Zno hs
    have e2 : ZaY.mk (Zc.mk cs.Field.Prime cs.Field.Degree cs.Field.Poly) cs.Rows = cs := rfl
    refine ⟨b, ?_, ?_⟩
    · simp (disch := omega) only [pz, g1, e2, g3]
    · simp (disch := omega) only [pz, e, g2, g4]
  by_cases h6 : o.Kind = 6
  · obtain ⟨r, g1, g2, _⟩ := ZpQ hs
    refine ⟨r.2, ?_, ?_⟩
    · simp (disch := omega) only [pz, g1]
    · simp (disch := omega) only [pz, e, g2]
  by_cases h7 : o.Kind = 7
  · obtain ⟨c, q1, q2⟩ := two_q (Zxz (g := ⟨o.Size, o.Rows⟩) hs) (Zpi (g := ⟨o.Size, o.Rows⟩) hs)
    refine ⟨c, ?_, ?_⟩
    · simp (disch := omega) only [pz, q1]
    · simp (disch := omega) only [pz, e, Zf4, Zbn hs, q2]
  · refine ⟨false, ?_, ?_⟩
    · simp (disch := omega) only [pz, ]
    · simp (disch := omega) only [pz, ]
end Go.Proofs.YtmmbnjijjdakmaaGreatDoor
namespace Go.Proofs.YtmmbnjijjdakmaaGreatDoor
set_option linter.unusedVariables false
open Go Go.Vc Go.Lib
set_option linter.unusedSimpArgs false
theorem gFitW {a b : ByteArray} (h : a.size + b.size ≤ 4000000000000000000) : gFit a b = some () := by
  unfold gFit
  rw [if_pos]
  have : IntKind.i64.max = 9223372036854775807 := rfl
  omega
def bl (l : List UInt8) : ByteArray := ⟨l.toArray⟩
theorem Zai (b : ByteArray) : bl b.data.toList = b := by cases b; rfl
theorem Zen (l : List UInt8) : (bl l).size = l.length := by show l.toArray.size = _; simp
theorem Zbh (l r : List UInt8) : bl l ++ bl r = bl (l ++ r) := by
  apply ByteArray.ext
  rw [ByteArray.data_append]
  show l.toArray ++ r.toArray = (l ++ r).toArray
  simp
theorem ZaF (a b : ByteArray) : (a ++ b).size = a.size + b.size := by simp
theorem ZpZ (x s : ByteArray) : joinB [x] s = x := by
  unfold joinB
  rw [List.map_cons, List.map_nil, join_one]
theorem Znb (x : ByteArray) (r : List ByteArray) (s : ByteArray) : joinB (x :: r) s = bl (x.data.toList ++ joinTail s.data.toList (r.map (·.data.toList))) := by
  unfold joinB
  rw [List.map_cons, join_cons]; rfl
theorem Zjp {l : List ByteArray} (h : l ≠ []) (x s : ByteArray) : joinB (l ++ [x]) s = joinB l s ++ s ++ x := by
  cases l with
  | nil => exact absurd rfl h
  | cons a r =>
    rw [List.cons_append, Znb, Znb, List.map_append]
    conv => rhs; rw [← Zai s, ← Zai x, Zbh, Zbh]
    congr 1
    rw [Zai]
    simp [joinTail]
theorem Zof {l : List ByteArray} {s : ByteArray} {m : Nat} (h : ∀ x ∈ l, x.size ≤ m) : (joinB l s).size ≤ (m + s.size) * l.length := by
  cases l with
  | nil => exact Nat.zero_le _
  | cons a r =>
    have hl : ∀ (r : List ByteArray), (∀ x ∈ r, x.size ≤ m) → lens (r.map (·.data.toList)) ≤ m * r.length := by
      intro r
      induction r with
      | nil => intro _; exact Nat.zero_le _
      | cons b t ih =>
        intro hb
        have h1 := ih fun x hx => hb x (List.mem_cons_of_mem _ hx)
        have h2 := hb b (List.mem_cons_self ..)
        have h3 : b.data.toList.length = b.size := by rw [Array.length_toList]; rfl
        simp only [lens, List.map_cons, List.sum_cons, List.length_cons] at h1 ⊢
        rw [Nat.mul_succ]
        omega
    have h1 := hl r fun x hx => h x (List.mem_cons_of_mem _ hx)
    have h2 := h a (List.mem_cons_self ..)
    have h3 : a.data.toList.length = a.size := by rw [Array.length_toList]; rfl
    have h4 : s.data.toList.length = s.size := by rw [Array.length_toList]; rfl
    rw [Znb, Zen, List.length_append, joinTail_length, List.length_map, h3, h4, List.length_cons, Nat.add_mul, Nat.mul_succ, Nat.mul_succ]
    omega
theorem dgl : ∀ (m u : Nat), u < 10 ^ (m + 1) → (decDigits u).length ≤ m + 1 := by
  intro m
  induction m with
  | zero =>
    intro u h
    rw [decDigits, dif_pos (by simpa using h)]
    exact Nat.le_refl _
  | succ m ih =>
    intro u h
    rw [decDigits]
    split
    · simp
    · have e : 10 ^ (m + 1 + 1) = 10 ^ (m + 1) * 10 := Nat.pow_succ ..
      have := ih (u / 10) (by omega)
      rw [List.length_append, List.length_singleton]
      omega
theorem Zng {n : Int} (m : Nat) (h1 : -10 ^ (m + 1) < n) (h2 : n < 10 ^ (m + 1)) : (itoaB n).size ≤ m + 2 := by
  have e : (10 : Int) ^ (m + 1) = ((10 ^ (m + 1) : Nat) : Int) := by simp
  rw [e] at h1 h2
  show (itoa n).toArray.size ≤ _
  unfold itoa
  split
  · have := dgl m n.natAbs (by omega)
    simp; omega
  · have := dgl m n.toNat (by omega)
    simp; omega
theorem tq (k : Int) : (0 ≤ k → Int.tmod k 10 = ((k.natAbs % 10 : Nat) : Int) ∧ Int.tdiv k 10 = ((k.natAbs / 10 : Nat) : Int)) ∧ (k < 0 → Int.tmod k 10 = -((k.natAbs % 10 : Nat) : Int) ∧ Int.tdiv k 10 = -((k.natAbs / 10 : Nat) : Int)) := by
  refine ⟨fun h => ?_, fun h => ?_⟩
  · rw [Int.tmod_eq_emod_of_nonneg h, Int.tdiv_eq_ediv_of_nonneg h]
    omega
  · obtain ⟨j, rfl⟩ : ∃ j, k = -j := ⟨-k, by omega⟩
    rw [Int.neg_tmod, Int.neg_tdiv, Int.tmod_eq_emod_of_nonneg (by omega), Int.tdiv_eq_ediv_of_nonneg (by omega)]
    omega
def nums (l : List UInt8) : List Int := l.map fun b => (b.toNat : Int)
theorem Zup (l : List UInt8) : gByt (nums l) = some (bl l) := by
  unfold gByt
  rw [if_pos]
  · congr 1
    unfold bstr nums bl
    congr 2
    rw [List.map_map]
    conv => rhs; rw [← List.map_id l]
    refine List.map_congr_left fun x _ => ?_
    simp
  · intro x hx
    obtain ⟨b, _, rfl⟩ := List.mem_map.1 hx
    have := b.toNat_lt
    omega
theorem Zu8 {n0 k : Int} {out : List Int} (hk : ¬ k = 0) (h1 : -9223372036854775808 ≤ k) (h2 : k ≤ 9223372036854775807) (ho : out.length ≤ 100) :
    ZaC n0 (out, k) = some (.inl (((48 + k.natAbs % 10 : Nat) : Int) :: out, Int.tdiv k 10)) := by
  have hm : k.natAbs % 10 < 10 := Nat.mod_lt _ (by omega)
  have k1 : ∀ d : Int, d = ((k.natAbs % 10 : Nat) : Int) → Zev out k d = some (.inl (((48 + k.natAbs % 10 : Nat) : Int) :: out, Int.tdiv k 10)) := by
    intro d hd
    have w1 : IntKind.i64.wrap (48 + d) = 48 + d := Zau (by omega) (by omega)
    have w2 : IntKind.u8.wrap (48 + d) = 48 + d := u8_of (by omega) (by omega)
    have w3 : IntKind.i64.wrap (Int.tdiv k 10) = Int.tdiv k 10 := by
      by_cases hp : 0 ≤ k
      · have := ((tq k).1 hp).2; exact Zau (by omega) (by omega)
      · have := ((tq k).2 (by omega)).2; exact Zau (by omega) (by omega)
    have g : gApp 1 [48 + d] out = some ([48 + d] ++ out) := ZcU (by simp; omega) (by simp; omega)
    unfold Zev
    rw [w1, w2, g]
    simp (disch := omega) only [pz, w3]
    rw [hd]
    simp
  by_cases hp : 0 ≤ k
  · have hd := ((tq k).1 hp).1
    have hn : ¬ Int.tmod k 10 < 0 := by omega
    simp (disch := omega) only [pz, ZaC, k1 _ hd]
  · have hd := ((tq k).2 (by omega)).1
    by_cases hz : Int.tmod k 10 < 0
    · have w : IntKind.i64.wrap (0 - Int.tmod k 10) = 0 - Int.tmod k 10 := Zau (by omega) (by omega)
      simp (disch := omega) only [pz, ZaC, w, k1 (0 - Int.tmod k 10) (by omega)]
    · simp (disch := omega) only [pz, ZaC, k1 (Int.tmod k 10) (by omega)]
theorem Zzp (n0 : Int) : ∀ (m : Nat) (k : Int) (out : List Int), ¬ k = 0 → k.natAbs < 10 ^ m → -9223372036854775808 ≤ k → k ≤ 9223372036854775807 → out.length + m ≤ 100 →
    loop (ZaC n0) (out, k) = loop (ZaC n0) (nums (decDigits k.natAbs) ++ out, 0) := by
  intro m
  induction m with
  | zero => intro k out hk h; exact absurd (by simp at h; omega) hk
  | succ m ih =>
    intro k out hk h h1 h2 ho
    rw [ZF (Zu8 hk h1 h2 (by omega))]
    have hm : k.natAbs % 10 < 10 := Nat.mod_lt _ (by omega)
    have hu : (Int.tdiv k 10).natAbs = k.natAbs / 10 := by
      by_cases hp : 0 ≤ k
      · have := ((tq k).1 hp).2; omega
      · have := ((tq k).2 (by omega)).2; omega
    have hx : ((UInt8.ofNat (48 + k.natAbs % 10)).toNat : Int) = ((48 + k.natAbs % 10 : Nat) : Int) := by
      rw [UInt8.toNat_ofNat']; omega
    by_cases hz : k.natAbs < 10
    · have e0 : Int.tdiv k 10 = 0 := by omega
      have hx2 : k.natAbs % 10 = k.natAbs := by omega
      rw [e0, decDigits, dif_pos hz]
      rw [hx2] at hx ⊢
      unfold nums
      rw [List.map_cons, List.map_nil, hx]; rfl
    · have e : 10 ^ (m + 1) = 10 ^ m * 10 := Nat.pow_succ ..
      rw [ih (Int.tdiv k 10) _ (by omega) (by rw [hu]; omega) (by
        by_cases hp : 0 ≤ k
        · have := ((tq k).1 hp).2; omega
        · have := ((tq k).2 (by omega)).2; omega) (by
        by_cases hp : 0 ≤ k
        · have := ((tq k).1 hp).2; omega
        · have := ((tq k).2 (by omega)).2; omega) (by rw [List.length_cons]; omega), hu]
      conv => rhs; rw [decDigits, dif_neg hz]
      unfold nums
      rw [List.map_append, List.map_cons, List.map_nil, hx]
      simp
theorem dgn (u : Nat) : 0 < (decDigits u).length := by
  rw [decDigits]; split <;> simp
theorem Zmm {n : Int} (h1 : -9223372036854775808 ≤ n) (h2 : n ≤ 9223372036854775807) : Zcv n = some (itoaB n) := by
  unfold Zcv
  by_cases h0 : n = 0
  · subst h0
    rw [Zd (r := ⟨#[48]⟩) (by simp (disch := omega) only [pz, ZaC, List.length_nil])]
    congr 1
    unfold itoaB itoa
    rw [if_neg (by omega), decDigits, dif_pos (by decide)]
    rfl
  · rw [Zzp n 19 n [] h0 (by omega) h1 h2 (by decide), List.append_nil]
    have hl := dgn n.natAbs
    have hn : (nums (decDigits n.natAbs)).length = (decDigits n.natAbs).length := List.length_map ..
    have hs := Zup (decDigits n.natAbs)
    have hd := dgl 19 n.natAbs (by omega)
    have hz : ¬ ((nums (decDigits n.natAbs)).length : Int) = 0 := by omega
    by_cases hp : n < 0
    · have hf : gFit ⟨#[45]⟩ (bl (decDigits n.natAbs)) = some () := gFitW (by rw [Zen]; show 1 + _ ≤ _; omega)
      rw [Zd (r := (⟨#[45]⟩ : ByteArray) ++ bl (decDigits n.natAbs)) (by simp (disch := omega) only [pz, ZaC, hs, hf])]
      congr 1
      unfold itoaB itoa
      rw [if_pos hp]
      exact Zbh [45] _
    · rw [Zd (r := bl (decDigits n.natAbs)) (by simp (disch := omega) only [pz, ZaC, hs])]
      congr 1
      unfold itoaB itoa
      rw [if_neg hp, show n.natAbs = n.toNat by omega]
      rfl
theorem Zli {n : Int} (h1 : -9223372036854775808 ≤ n) (h2 : n ≤ 9223372036854775807) : ZcZ n = some (itoaB n) := by
  unfold ZcZ Zi6
  rw [if_pos ⟨rfl, h1, h2⟩]; rfl
end Go.Proofs.YtmmbnjijjdakmaaGreatDoor
namespace Go.Proofs.YtmmbnjijjdakmaaGreatDoor
set_option linter.unusedVariables false
open Go Go.Vc Go.Lib
set_option linter.unusedSimpArgs false
theorem Zyu (b : ByteArray) : (⟨#[]⟩ : ByteArray) ++ b = b := by
  have := Zbh [] b.data.toList
  rw [Zai] at this
  rw [show (⟨#[]⟩ : ByteArray) = bl [] from rfl, this, List.nil_append, Zai]
theorem Zky (a b c : ByteArray) : (a ++ b) ++ c = a ++ (b ++ c) := by
  rw [← Zai a, ← Zai b, ← Zai c, Zbh, Zbh, Zbh, Zbh, List.append_assoc]
theorem ZoD {l : List ByteArray} {s : ByteArray} (h1 : l.length ≤ 140737488355328) (h2 : (joinB l s).size ≤ 140737488355328) : ZdA l s = some (joinB l s) := by
  unfold ZdA
  rw [if_pos ⟨h1, h2⟩]
theorem Zqp {α : Type} [Inhabited α] {xs : List α} {f : α → ByteArray} {s : ByteArray} {k : Int} (h0 : 0 < k) (h1 : k < (xs.length : Int)) :
    joinB ((xs.take (k + 1).toNat).map f) s = joinB ((xs.take k.toNat).map f) s ++ s ++ f (ix xs k) := by
  rw [Zbr (by omega) h1, List.map_append, List.map_cons, List.map_nil, Zjp]
  intro e
  have := congrArg List.length e
  rw [List.length_map, List.length_take, List.length_nil] at this
  omega
theorem Zqf {α : Type} [Inhabited α] {xs : List α} {f : α → ByteArray} {s : ByteArray} (h1 : 0 < (xs.length : Int)) :
    joinB ((xs.take ((0 : Int) + 1).toNat).map f) s = f (ix xs 0) := by
  rw [Zbr (by omega) h1]
  exact ZpZ _ _
theorem ZdU {α β : Type} [Inhabited α] {xs : List α} {f : α → β} {k : Int} (h0 : 0 ≤ k) (h1 : k < (xs.length : Int)) : (xs.take (k + 1).toNat).map f = (xs.take k.toNat).map f ++ [f (ix xs k)] := by
  rw [Zbr h0 h1, List.map_append]; rfl
theorem jsize {α : Type} {xs : List α} {f : α → ByteArray} {s : ByteArray} {m N : Nat} (hf : ∀ x ∈ xs, (f x).size ≤ m) (hl : xs.length ≤ N) (i : Nat) : (joinB ((xs.take i).map f) s).size ≤ (m + s.size) * N := by
  refine Nat.le_trans (Zof (m := m) fun y hy => ?_) (Nat.mul_le_mul_left _ ?_)
  · obtain ⟨x, hx, rfl⟩ := List.mem_map.1 hy
    exact hf x (List.mem_of_mem_take hx)
  · rw [List.length_map, List.length_take]; omega
def InR (x : Int) : Prop := -999999999 ≤ x ∧ x ≤ 999999999
theorem ZiH {x : Int} (h : InR x) : (itoaB x).size ≤ 10 := Zng 8 (by have := h.1; omega) (by have := h.2; omega)
noncomputable def tL (xs : List Int) : ByteArray := @ite _ (xs.length ≤ 100 ∧ ∀ x ∈ xs, InR x) (Classical.propDecidable _) (if xs = [] then ⟨#[45]⟩ else joinB (xs.map itoaB) ⟨#[44]⟩) ⟨#[]⟩
theorem tL_t {xs : List Int} (h : xs.length ≤ 100 ∧ ∀ x ∈ xs, InR x) (hn : xs ≠ []) : tL xs = joinB (xs.map itoaB) ⟨#[44]⟩ := by unfold tL; rw [if_pos h, if_neg hn]
theorem tL_n {xs : List Int} (hn : xs = []) : tL xs = ⟨#[45]⟩ := by
  subst hn
  unfold tL
  rw [if_pos ⟨by decide, fun x hx => by cases hx⟩, if_pos rfl]
theorem tL_f {xs : List Int} (h : ¬ (xs.length ≤ 100 ∧ ∀ x ∈ xs, InR x)) : tL xs = ⟨#[]⟩ := by unfold tL; rw [if_neg h]
theorem ZmM (xs : List Int) : (tL xs).size ≤ 1100 := by
  by_cases hn : xs = []
  · rw [tL_n hn]; show 1 ≤ _; omega
  · by_cases h : xs.length ≤ 100 ∧ ∀ x ∈ xs, InR x
    · rw [tL_t h hn]
      have := jsize (xs := xs) (f := itoaB) (s := ⟨#[44]⟩) (m := 10) (N := 100) (fun x hx => ZiH (h.2 x hx)) h.1 xs.length
      rw [List.take_length] at this
      exact this
    · rw [tL_f h]; show 0 ≤ _; omega
theorem ZiB {n : Int} (hn : 0 ≤ n) (P : Int → Prop) : (∃ k, 0 ≤ k ∧ k < n ∧ P k ∧ ∀ j, 0 ≤ j → j < k → ¬ P j) ∨ ∀ j, 0 ≤ j → j < n → ¬ P j := by
  rcases ZbL (σ := Int) (ρ := Unit) (B := fun k => some (.inl (k + 1))) (fun k => k) P hn (fun k _ _ _ => rfl) with ⟨k, h1, h2, h3, h4, _⟩ | ⟨h, _⟩
  · exact .inl ⟨k, h1, h2, h3, h4⟩
  · exact .inr h
theorem Zvm {xs : List Int} {n : Int} (hn : n ≤ (xs.length : Int)) (h : ∀ j, 0 ≤ j → j < n → InR (ix xs j)) : ∀ x ∈ xs.take n.toNat, InR x := by
  intro x hx
  obtain ⟨i, h0, h1, rfl⟩ := Z1 hx
  rw [List.length_take] at h1
  rw [ZcI h0 (by omega)]
  exact h i h0 (by omega)
theorem ZpA {xs : List Int} {n : Int} (h0 : 0 ≤ n) (hn : n ≤ (xs.length : Int)) (hl : xs.length ≤ 100) (h : ∀ j, 0 ≤ j → j < n → InR (ix xs j)) :
    loop (Zbg xs) (⟨#[]⟩, 0) = loop (Zbg xs) (joinB ((xs.take n.toNat).map itoaB) ⟨#[44]⟩, n) := by
  refine ZC (fun k : Int => (joinB ((xs.take k.toNat).map itoaB) ⟨#[44]⟩, k)) h0 fun k k0 k1 => ?_
  have hk := h k k0 k1
  have hd := Zmm (n := ix xs k) (by have := hk.1; omega) (by have := hk.2; omega)
  have hz := ZiH hk
  have hlk : (xs.take k.toNat).length ≤ 100 := by rw [List.length_take]; omega
  have hj := Zof (l := (xs.take k.toNat).map itoaB) (s := ⟨#[44]⟩) (m := 10) fun y hy => by
    obtain ⟨x, hx, rfl⟩ := List.mem_map.1 hy
    exact ZiH (Zvm (n := k) (by omega) (fun j a b => h j a (by omega)) x hx)
  rw [List.length_map] at hj
  have hj2 : (joinB ((xs.take k.toNat).map itoaB) ⟨#[44]⟩).size ≤ 1100 := Nat.le_trans hj (Nat.mul_le_mul_left 11 hlk)
  have hi : ZH (ix xs k) (-999999999) 999999999 = some true := by
    have := hk.1; have := hk.2
    simp (disch := omega) only [pz, ZH]
  by_cases hz0 : k = 0
  · subst hz0
    rw [Zqf (by omega)]
    have f2 : gFit ⟨#[]⟩ (itoaB (ix xs 0)) = some () := gFitW (by show 0 + _ ≤ _; omega)
    have e0 : joinB ((xs.take (0 : Int).toNat).map itoaB) ⟨#[44]⟩ = ⟨#[]⟩ := rfl
    rw [e0]
    simp (disch := omega) only [pz, Zbg, ZdI, hi, hd, f2, Zyu]
  · rw [Zqp (by omega) (by omega)]
    generalize joinB ((xs.take k.toNat).map itoaB) ⟨#[44]⟩ = out at hj2
    have f1 : gFit out ⟨#[44]⟩ = some () := gFitW (by show out.size + 1 ≤ _; omega)
    have f2 : gFit (out ++ ⟨#[44]⟩) (itoaB (ix xs k)) = some () := gFitW (by rw [ZaF]; show out.size + 1 + _ ≤ _; omega)
    simp (disch := omega) only [pz, Zbg, ZdI, hi, hd, f1, f2]
theorem Zp9 {xs : List Int} : (∀ x ∈ xs, InR x) ↔ ∀ j, 0 ≤ j → j < (xs.length : Int) → InR (ix xs j) :=
  ⟨fun h j a b => h _ (ZM a b), fun h x hx => by obtain ⟨i, a, b, rfl⟩ := Z1 hx; exact h i a b⟩
theorem Zx1 (xs : List Int) : ZgH xs = some (tL xs) := by
  unfold ZgH
  by_cases hl : xs.length ≤ 100
  · by_cases hn : xs = []
    · rw [tL_n hn]; subst hn; simp (disch := omega) only [pz, List.length_nil]
    · have hp : 0 < (xs.length : Int) := by
        cases xs with
        | nil => exact absurd rfl hn
        | cons a t => simp
      rcases ZiB (n := xs.length) (by omega) (fun k => ¬ InR (ix xs k)) with ⟨k, k0, k1, hk, hb⟩ | hb
      · rw [tL_f fun h => hk (Zp9.1 h.2 k k0 k1)]
        have e := ZpA (xs := xs) (n := k) k0 (by omega) hl fun j a b => Classical.not_not.1 (hb j a b)
        have hi : ZH (ix xs k) (-999999999) 999999999 = some false := by
          by_cases h1 : -999999999 ≤ ix xs k
          · have : ¬ ix xs k ≤ 999999999 := fun h2 => hk ⟨h1, h2⟩
            simp (disch := omega) only [pz, ZH]
          · simp (disch := omega) only [pz, ZH]
        have e2 : loop (Zbg xs) (⟨#[]⟩, 0) = some ⟨#[]⟩ := by
          rw [e]
          exact Zd (by simp (disch := omega) only [pz, Zbg, hi])
        simp (disch := omega) only [pz, e2]
      · have ha : ∀ j, 0 ≤ j → j < (xs.length : Int) → InR (ix xs j) := fun j a b => Classical.not_not.1 (hb j a b)
        rw [tL_t ⟨hl, Zp9.2 ha⟩ hn]
        have e := ZpA (xs := xs) (n := xs.length) (by omega) (by omega) hl ha
        rw [Int.toNat_natCast, List.take_length] at e
        have e2 : loop (Zbg xs) (⟨#[]⟩, 0) = some (joinB (xs.map itoaB) ⟨#[44]⟩) := by
          rw [e]
          exact Zd (by simp (disch := omega) only [pz, Zbg])
        simp (disch := omega) only [pz, e2]
  · rw [tL_f fun h => hl h.1]
    simp (disch := omega) only [pz, ]
theorem Zn4 (xs : List Int) : Zeu xs = some (tL xs) := by
  unfold Zeu
  by_cases hl : xs.length ≤ 100
  · have hc := containsL (s := xs) (fn := fun y0 => Zdl y0) (q := fun x => ¬ InR x) (by omega) fun x hx => by
      by_cases h1 : -999999999 ≤ x
      · by_cases h2 : x ≤ 999999999
        · simp (disch := omega) only [pz, Zdl, ZP]
          exact IsQ.f fun h => h ⟨h1, h2⟩
        · simp (disch := omega) only [pz, Zdl, ZP]
          exact IsQ.t fun h => h2 h.2
      · simp (disch := omega) only [pz, Zdl, ZP]
        exact IsQ.t fun h => h1 h.1
    by_cases ha : ∀ x ∈ xs, InR x
    · have hc2 := hc.ne fun ⟨x, hx, h⟩ => h (ha x hx)
      by_cases hn : xs = []
      · rw [tL_n hn]; subst hn; simp (disch := omega) only [pz, hc2, Zgp, List.length_nil]
      · rw [tL_t ⟨hl, ha⟩ hn]
        have hp : 0 < (xs.length : Int) := by
          cases xs with
          | nil => exact absurd rfl hn
          | cons a t => simp
        have e : loop (ZcP xs) ([], 0) = some (joinB (xs.map itoaB) ⟨#[44]⟩) := by
          have e1 := ZC (B := ZcP xs) (fun k : Int => ((xs.take k.toNat).map itoaB, k)) (i := 0) (n := xs.length) (by omega) fun k k0 k1 => by
            have hk := ha _ (ZM k0 k1)
            have hd := Zli (n := ix xs k) (by have := hk.1; omega) (by have := hk.2; omega)
            have hlk : ((xs.take k.toNat).map itoaB).length ≤ 100 := by rw [List.length_map, List.length_take]; omega
            rw [ZdU k0 k1]
            have hg : gApp 16 ((xs.take k.toNat).map itoaB) [itoaB (ix xs k)] = some ((xs.take k.toNat).map itoaB ++ [itoaB (ix xs k)]) := gApp1 (by omega) (by omega)
            simp (disch := omega) only [pz, ZcP, hd, hg]
          rw [Int.toNat_natCast, List.take_length] at e1
          refine e1.trans (Zd ?_)
          have hj := jsize (xs := xs) (f := itoaB) (s := ⟨#[44]⟩) (m := 10) (N := 100) (fun x hx => ZiH (ha x hx)) hl xs.length
          rw [List.take_length] at hj
          have hq := ZoD (l := xs.map itoaB) (s := ⟨#[44]⟩) (by rw [List.length_map]; omega) (Nat.le_trans hj (by decide))
          simp (disch := omega) only [pz, ZcP, hq]
        simp (disch := omega) only [pz, hc2, Zgp, e]
    · have hc2 := hc.eq (by
        refine Classical.byContradiction fun h => ha fun x hx => Classical.not_not.1 fun hh => h ⟨x, hx, hh⟩)
      rw [tL_f fun h => ha h.2]
      simp (disch := omega) only [pz, hc2]
  · rw [tL_f fun h => hl h.1]
    simp (disch := omega) only [pz, ]
theorem Zvi {k : Int} (h1 : 1 ≤ k) (h7 : k ≤ 7) : ∃ l s, Zct = some l ∧ gIdx l k = some s ∧ ZfW k = some s ∧ s.size ≤ 10 ∧ 32 ∉ s.data.toList := by
  have hk : k = 1 ∨ k = 2 ∨ k = 3 ∨ k = 4 ∨ k = 5 ∨ k = 6 ∨ k = 7 := by omega
  have w : IntKind.i64.wrap (k - 1) = k - 1 := Zau (by omega) (by omega)
  have hw : ZP k 1 7 = some true := by simp (disch := omega) only [pz, ZP]
  have hi : ZgZ k = some true := by simp (disch := omega) only [pz, ZgZ, hw]
  unfold ZfW Zct Zd7
  rw [hi, w]
  rcases hk with rfl | rfl | rfl | rfl | rfl | rfl | rfl <;> exact ⟨_, _, rfl, rfl, rfl, by decide, by decide⟩
theorem Zue {o : Zg} (h : Zax o = some true) : 1 ≤ o.Kind ∧ o.Kind ≤ 7 := by
  refine Classical.byContradiction fun hn => ?_
  have : Zax o = some false := by
    unfold Zax
    by_cases h1 : o.Kind < 1
    · simp (disch := omega) only [pz, ]
    · simp (disch := omega) only [pz, ]
  rw [this] at h
  cases h
noncomputable def tR (rows : List (List Int)) : ByteArray := if rows = [] then ⟨#[110, 111, 110, 101]⟩ else joinB (rows.map tL) ⟨#[47]⟩
theorem ZxP {rows : List (List Int)} (h : rows.length ≤ 1048576) : (tR rows).size ≤ 1154482176 := by
  unfold tR
  split
  · show 4 ≤ _; omega
  · have := jsize (xs := rows) (f := tL) (s := ⟨#[47]⟩) (m := 1100) (N := 1048576) (fun x _ => ZmM x) h rows.length
    rw [List.take_length] at this
    exact this
theorem Zr2 {o : Zg} {pre : ByteArray} (hp : pre.size ≤ 100) (h : o.Rows.length ≤ 1048576) (hne : o.Rows ≠ []) :
    loop (ZaN o) (pre, 0) = some (pre ++ tR o.Rows) := by
  have e : tR o.Rows = joinB (o.Rows.map tL) ⟨#[47]⟩ := by unfold tR; rw [if_neg hne]
  rw [e]
  have e1 := ZC (B := ZaN o) (fun k : Int => (pre ++ joinB ((o.Rows.take k.toNat).map tL) ⟨#[47]⟩, k)) (i := 0) (n := o.Rows.length) (by omega) fun k k0 k1 => by
    have hj := jsize (xs := o.Rows) (f := tL) (s := ⟨#[47]⟩) (m := 1100) (N := 1048576) (fun x _ => ZmM x) h k.toNat
    have hs := ZmM (ix o.Rows k)
    have hl := Zx1 (ix o.Rows k)
    have hj2 : (joinB ((o.Rows.take k.toNat).map tL) ⟨#[47]⟩).size ≤ 1154482176 := hj
    by_cases hz0 : k = 0
    · subst hz0
      rw [Zqf (by omega)]
      have e0 : joinB ((o.Rows.take (0 : Int).toNat).map tL) ⟨#[47]⟩ = ⟨#[]⟩ := rfl
      have e00 : pre ++ (⟨#[]⟩ : ByteArray) = pre := by
        have := Zbh pre.data.toList []
        rw [Zai, List.append_nil, Zai] at this
        exact this
      rw [e0, e00]
      have f2 : gFit pre (tL (ix o.Rows 0)) = some () := gFitW (by omega)
      simp (disch := omega) only [pz, ZaN, Zch, hl, f2]
    · rw [Zqp (by omega) (by omega)]
      generalize joinB ((o.Rows.take k.toNat).map tL) ⟨#[47]⟩ = out at hj2
      have f1 : gFit (pre ++ out) ⟨#[47]⟩ = some () := gFitW (by rw [ZaF]; show _ + 1 ≤ _; omega)
      have f2 : gFit ((pre ++ out) ++ ⟨#[47]⟩) (tL (ix o.Rows k)) = some () := gFitW (by rw [ZaF, ZaF]; show _ + 1 + _ ≤ _; omega)
      have e3 : pre ++ (out ++ ⟨#[47]⟩ ++ tL (ix o.Rows k)) = pre ++ out ++ ⟨#[47]⟩ ++ tL (ix o.Rows k) := by rw [Zky, Zky, Zky]
      rw [e3]
      simp (disch := omega) only [pz, ZaN, Zch, hl, f1, f2]
  have e0 : pre ++ joinB ((o.Rows.take (0 : Int).toNat).map tL) ⟨#[47]⟩ = pre := by
    have := Zbh pre.data.toList []
    rw [Zai, List.append_nil, Zai] at this
    exact this
  rw [Int.toNat_natCast, List.take_length] at e1
  have e1' : loop (ZaN o) (pre, 0) = loop (ZaN o) (pre ++ joinB (o.Rows.map tL) ⟨#[47]⟩, (o.Rows.length : Int)) := by
    have e2 : loop (ZaN o) (pre ++ joinB ((o.Rows.take (0 : Int).toNat).map tL) ⟨#[47]⟩, 0) = _ := e1
    rwa [e0] at e2
  rw [e1']
  exact Zd (by simp (disch := omega) only [pz, ZaN])
theorem Zuw {o : Zg} (h1 : 1 ≤ o.Kind) (h7 : o.Kind ≤ 7) (hs : -9223372036854775808 ≤ o.Size ∧ o.Size ≤ 9223372036854775807) (h : o.Rows.length ≤ 1048576) :
    ∃ t, Zgd o = some t ∧ (Zax o = some true → Zf7 o = some t) ∧ t.size ≤ 1154482300 ∧ ∃ s : ByteArray, 32 ∉ s.data.toList ∧ t = (((s ++ ⟨#[32]⟩) ++ itoaB o.Size) ++ ⟨#[32]⟩) ++ tR o.Rows := by
  obtain ⟨l, s, n1, n2, n3, n4, n5⟩ := Zvi h1 h7
  have d1 := Zmm hs.1 hs.2
  have d2 := Zli hs.1 hs.2
  have dz := Zng (n := o.Size) 18 (by omega) (by omega)
  have z32 : (⟨#[32]⟩ : ByteArray).size = 1 := rfl
  have f1 : gFit s ⟨#[32]⟩ = some () := gFitW (by omega)
  have f2 : gFit (s ++ ⟨#[32]⟩) (itoaB o.Size) = some () := gFitW (by rw [ZaF]; omega)
  have f3 : gFit ((s ++ ⟨#[32]⟩) ++ itoaB o.Size) ⟨#[32]⟩ = some () := gFitW (by rw [ZaF, ZaF]; omega)
  have hz := ZxP h
  have hp : (((s ++ ⟨#[32]⟩) ++ itoaB o.Size) ++ ⟨#[32]⟩).size ≤ 100 := by rw [ZaF, ZaF, ZaF]; omega
  have f4 : gFit (((s ++ ⟨#[32]⟩) ++ itoaB o.Size) ++ ⟨#[32]⟩) (tR o.Rows) = some () := gFitW (by omega)
  have k1 : Zeb o (tR o.Rows) = some ((((s ++ ⟨#[32]⟩) ++ itoaB o.Size) ++ ⟨#[32]⟩) ++ tR o.Rows) := by
    unfold Zeb
    simp (disch := omega) only [pz, n3, d2, f1, f2, f3, f4]
  have e : Zg.mk o.Kind o.Size o.Rows = o := rfl
  refine ⟨(((s ++ ⟨#[32]⟩) ++ itoaB o.Size) ++ ⟨#[32]⟩) ++ tR o.Rows, ?_, fun hv => ?_, by rw [ZaF]; omega, s, n5, rfl⟩
  · unfold Zgd
    by_cases hn : o.Rows = []
    · have er : tR o.Rows = ⟨#[110, 111, 110, 101]⟩ := by unfold tR; rw [if_pos hn]
      rw [er] at f4 ⊢
      have hl0 : (o.Rows.length : Int) = 0 := by rw [hn]; rfl
      simp (disch := omega) only [pz, n1, n2, d1, f1, f2, f3, f4]
    · have hl0 : ¬ (o.Rows.length : Int) = 0 := by
        intro h0
        exact hn (List.eq_nil_of_length_eq_zero (by omega))
      have hr := Zr2 (o := o) hp h hn
      simp (disch := omega) only [pz, n1, n2, d1, f1, f2, f3, hr]
  · unfold Zf7
    by_cases hn : o.Rows = []
    · have er : tR o.Rows = ⟨#[110, 111, 110, 101]⟩ := by unfold tR; rw [if_pos hn]
      rw [er] at k1 ⊢
      have hl0 : (o.Rows.length : Int) = 0 := by rw [hn]; rfl
      simp (disch := omega) only [pz, e, hv, k1]
    · have hl0 : 0 < (o.Rows.length : Int) := by
        have : o.Rows.length ≠ 0 := fun h0 => hn (List.eq_nil_of_length_eq_zero h0)
        omega
      have er : tR o.Rows = joinB (o.Rows.map tL) ⟨#[47]⟩ := by unfold tR; rw [if_neg hn]
      have e1 := ZC (B := ZcY o) (fun k : Int => ((o.Rows.take k.toNat).map tL, k)) (i := 0) (n := o.Rows.length) (by omega) fun k a b => by
        have hlt := Zn4 (ix o.Rows k)
        have hlk : ((o.Rows.take k.toNat).map tL).length ≤ 1048576 := by rw [List.length_map, List.length_take]; omega
        rw [ZdU a b]
        have hg : gApp 16 ((o.Rows.take k.toNat).map tL) [tL (ix o.Rows k)] = some ((o.Rows.take k.toNat).map tL ++ [tL (ix o.Rows k)]) := gApp1 (by omega) (by omega)
        simp (disch := omega) only [pz, ZcY, hlt, hg]
      rw [Int.toNat_natCast, List.take_length] at e1
      have hq := ZoD (l := o.Rows.map tL) (s := ⟨#[47]⟩) (by rw [List.length_map]; omega) (by rw [← er]; omega)
      rw [er] at k1
      have e2 : loop (ZcY o) ([], 0) = some ((((s ++ ⟨#[32]⟩) ++ itoaB o.Size) ++ ⟨#[32]⟩) ++ joinB (o.Rows.map tL) ⟨#[47]⟩) := by
        refine Eq.trans e1 (Zd ?_)
        simp (disch := omega) only [pz, ZcY, hq, k1]
      rw [er]
      simp (disch := omega) only [pz, e, hv, e2]
end Go.Proofs.YtmmbnjijjdakmaaGreatDoor
