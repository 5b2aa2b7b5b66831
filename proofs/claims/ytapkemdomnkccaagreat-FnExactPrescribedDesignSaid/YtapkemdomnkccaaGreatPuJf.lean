/- slices.Contains. -/
import Derived.Test.YtapkemdomnkccaaGreatPuJa
import Derived.Test.YtapkemdomnkccaaGreatPuJe
namespace Go.Proofs.YtapkemdomnkccaaGreat
open Go Go.Vc
set_option linter.unusedSimpArgs false
set_option linter.unusedVariables false
theorem containsI {s : List Int} {v : Int} (hN : (s.length : Int) ≤ 1048576) : IsQ (ZFO s v) (v ∈ s) := by
  have := Zmw (xs := s) (f := fun x => some (decide (v = x))) (q := fun x => v = x) (B := ZEB s v) (by unfold M63; omega) (fun x hx => ⟨_, rfl, by simp⟩) ?_ ?_
  · exact this.congr ⟨fun ⟨x, h, e⟩ => e ▸ h, fun h => ⟨v, h, rfl⟩⟩
  · intro k x hx
    have := ZV hx
    by_cases h : v = x
    · simp (disch := omega) only [pz, ZEB, ZM hx]
    · simp (disch := omega) only [pz, ZEB, ZM hx]
  · simp (disch := omega) only [pz, ZEB]
end Go.Proofs.YtapkemdomnkccaaGreat
namespace Go.Proofs.YtapkemdomnkccaaGreat
set_option linter.unusedVariables false
open Go Go.Vc
set_option linter.unusedSimpArgs false
set_option linter.unusedVariables false
def Sub (s z : List Int) : Prop := ∀ x ∈ s, x ∈ z
instance (s z : List Int) : Decidable (Sub s z) := inferInstanceAs (Decidable (∀ x ∈ s, x ∈ z))
theorem ZKj {s z : List Int} (hs : (s.length : Int) ≤ 1048576) (hz : (z.length : Int) ≤ 1048576) : ZFv z s = some (decide (Sub s z)) := by
  have hq := containsL (s := s) (fn := fun y0 => ZFC y0 z) (q := fun x => ¬ x ∈ z) hs fun x hx => (containsI hz).not
  unfold ZFv
  by_cases h : Sub s z
  · have := hq.ne (fun ⟨x, hx, h'⟩ => h' (h x hx))
    rw [decide_eq_true h]
    simp (disch := omega) only [pz, this]
  · have := hq.eq (by
      apply Classical.byContradiction
      intro g
      exact h fun x hx => Classical.byContradiction fun g' => g ⟨x, hx, g'⟩)
    rw [decide_eq_false h]
    simp (disch := omega) only [pz, this]
theorem ZKT {s z : List Int} (hs : (s.length : Int) ≤ 1048576) (hz : (z.length : Int) ≤ 1048576) : ZEf s z = some (decide (Sub s z)) := by
  have hq : IsQ (ZEf s z) (Sub s z) := by
    unfold ZEf
    refine (Zag (P := fun k => ix s k ∈ z) (n := s.length) (Q := True) (by omega) ?_ ?_ fun _ => ?_).congr ⟨fun g x hx => ?_, fun g => ⟨fun k k0 k1 => g _ (ZW k0 k1), trivial⟩⟩
    · intro k k0 k1 hk
      have := (Zmc hz).eq hk
      simp (disch := omega) only [pz, ZEY, this]
    · intro k k0 k1 hk
      have := (Zmc hz).ne hk
      simp (disch := omega) only [pz, ZEY, this]
    · rw [Zd (r := true) (by simp (disch := omega) only [pz, ZEY])]; exact IsQ.t trivial
    · obtain ⟨i, a, b, e⟩ := Z5 hx
      rw [← e]; exact g.1 i a b
  by_cases h : Sub s z
  · rw [decide_eq_true h]; exact hq.eq h
  · rw [decide_eq_false h]; exact hq.ne h
def cnt (small o : List (List Int)) : Int := ((o.countP fun z => decide (Sub (ix small 0) z) : Nat) : Int)
def kmRow (cols : List (List (List Int))) (small : List (List Int)) : List Int := cols.map (cnt small)
def km (rows cols : List (List (List Int))) : List (List Int) := rows.map (kmRow cols)
theorem ZGZ (small o : List (List Int)) : 0 ≤ cnt small o ∧ cnt small o ≤ (o.length : Int) := by
  unfold cnt
  have := List.countP_le_length (p := fun z => decide (Sub (ix small 0) z)) (l := o)
  omega
section
variable {n t k : Int} (n1 : n ≤ 32) (t0 : 0 ≤ t) (t1 : t ≤ n) (k0 : 0 ≤ k) (k1 : k ≤ n)
theorem ZHL {small o : List (List Int)} {i : Int} (i0 : 0 ≤ i) (i1 : i < (o.length : Int)) : cnt small (o.take (i + 1).toNat) = cnt small (o.take i.toNat) + (if Sub (ix small 0) (ix o i) then 1 else 0) := by
  unfold cnt
  rw [Zc3 i0 i1, List.countP_append]
  by_cases h : Sub (ix small 0) (ix o i)
  · simp [h]
  · simp [h]
include n1 t1 k1 in
theorem ZIl {small o : List (List Int)} (hs : OrbOk n t small) (ho : OrbOk n k o) {row : List Int} (hr : (row.length : Int) ≤ 4294967296) {j : Int} (j0 : 0 ≤ j) (j1 : j ≤ 4294967296) :
    loop (ZD6 small row j o) (0, 0) = some (.inl (row ++ [cnt small o], j + 1)) := by
  have hsn := hs.ne; have hol := ho.len
  have s0 := hs.set _ (ZW (xs := small) (i := 0) (Int.le_refl 0) (by omega))
  have w := ZH (B := ZD6 small row j o) (fun i => (cnt small (o.take i.toNat), i)) (i := 0) (n := o.length) (by omega) fun i i0 i1 => by
    have z0 := ho.set _ (ZW i0 i1)
    have hc := ZKj (s := ix small 0) (z := ix o i) (by omega) (by omega)
    have ht := ZHL (small := small) i0 i1
    have hb := ZGZ small (o.take i.toNat)
    have hl : (o.take i.toNat).length ≤ 720 := by rw [List.length_take]; omega
    by_cases h : Sub (ix small 0) (ix o i)
    · rw [decide_eq_true h] at hc
      rw [if_pos h] at ht
      simp (disch := omega) only [pz, ZD6, hc, ht]
    · rw [decide_eq_false h] at hc
      rw [if_neg h] at ht
      simp (disch := omega) only [pz, ZD6, hc, ht, Int.add_zero]
  have z0 : (cnt small (List.take (Int.toNat 0) o), (0 : Int)) = ((0 : Int), (0 : Int)) := rfl
  rw [z0] at w
  rw [w]
  refine Zd ?_
  have et : o.take (o.length : Int).toNat = o := by rw [Int.toNat_natCast, List.take_length]
  simp only [et]
  simp (disch := omega) only [pz, ZD6]
include n1 t1 k1 in
theorem ZJf {rows cols : List (List (List Int))} {small o : List (List Int)} (hs : OrbOk n t small) (ho : OrbOk n k o) {row : List Int} (hr : (row.length : Int) ≤ 4294967296) {a j : Int} (a0 : 0 ≤ a) (a1 : a < (rows.length : Int)) (ha : ix rows a = small) (j0 : 0 ≤ j) (j1 : j < (cols.length : Int)) (j2 : j ≤ 4294967296) (hj : ix cols j = o) :
    loop (ZDZ rows cols a row j) (0, 0) = some (.inl (row ++ [cnt small o], j + 1)) := by
  have hsn := hs.ne; have hol := ho.len
  have s0 := hs.set _ (ZW (xs := small) (i := 0) (Int.le_refl 0) (by omega))
  have w := ZH (B := ZDZ rows cols a row j) (fun i => (cnt small (o.take i.toNat), i)) (i := 0) (n := o.length) (by omega) fun i i0 i1 => by
    have z0 := ho.set _ (ZW i0 i1)
    have hc := ZKT (s := ix small 0) (z := ix o i) (by omega) (by omega)
    have ht := ZHL (small := small) i0 i1
    have hb := ZGZ small (o.take i.toNat)
    have hl : (o.take i.toNat).length ≤ 720 := by rw [List.length_take]; omega
    by_cases h : Sub (ix small 0) (ix o i)
    · rw [decide_eq_true h] at hc
      rw [if_pos h] at ht
      simp (disch := omega) only [pz, ZDZ, ha, hj, hc, ht]
    · rw [decide_eq_false h] at hc
      rw [if_neg h] at ht
      simp (disch := omega) only [pz, ZDZ, ha, hj, hc, ht, Int.add_zero]
  have z0 : (cnt small (List.take (Int.toNat 0) o), (0 : Int)) = ((0 : Int), (0 : Int)) := rfl
  rw [z0] at w
  rw [w]
  refine Zd ?_
  have et : o.take (o.length : Int).toNat = o := by rw [Int.toNat_natCast, List.take_length]
  simp only [et]
  simp (disch := omega) only [pz, ZDZ, hj]
theorem ZHD {cols : List (List (List Int))} {small : List (List Int)} {i : Int} (i0 : 0 ≤ i) (i1 : i < (cols.length : Int)) : kmRow (cols.take (i + 1).toNat) small = kmRow (cols.take i.toNat) small ++ [cnt small (ix cols i)] := by
  unfold kmRow
  rw [Zc3 i0 i1, List.map_append]; rfl
include n1 t1 k1 in
theorem ZIp {cols : List (List (List Int))} {small : List (List Int)} (hs : OrbOk n t small) (hc : ∀ o ∈ cols, OrbOk n k o) (hl : (cols.length : Int) ≤ 2000) {out : List (List Int)} (hr : (out.length : Int) ≤ 100000) {a : Int} (a0 : 0 ≤ a) (a1 : a ≤ 100000) :
    loop (ZD1 cols out a small) (([] : List Int), 0) = some (.inl (out ++ [kmRow cols small], a + 1)) := by
  have w := ZH (B := ZD1 cols out a small) (fun i => (kmRow (cols.take i.toNat) small, i)) (i := 0) (n := cols.length) (by omega) fun i i0 i1 => by
    have hlen : (kmRow (cols.take i.toNat) small).length ≤ 2000 := by unfold kmRow; rw [List.length_map, List.length_take]; omega
    have h3 := ZIl n1 t1 k1 hs (hc _ (ZW i0 i1)) (row := kmRow (cols.take i.toNat) small) (by omega) (j := i) i0 (by omega)
    have ht := ZHD (small := small) i0 i1
    rw [← ht] at h3
    simp (disch := omega) only [pz, ZD1, h3]
  have z0 : (kmRow (List.take (Int.toNat 0) cols) small, (0 : Int)) = (([] : List Int), (0 : Int)) := rfl
  rw [z0] at w
  rw [w]
  refine Zd ?_
  have et : cols.take (cols.length : Int).toNat = cols := by rw [Int.toNat_natCast, List.take_length]
  simp only [et]
  simp (disch := omega) only [pz, ZD1]
include n1 t1 k1 in
theorem ZIZ {rows cols : List (List (List Int))} {small : List (List Int)} (hs : OrbOk n t small) (hc : ∀ o ∈ cols, OrbOk n k o) (hl : (cols.length : Int) ≤ 2000) {out : List (List Int)} (hr : (out.length : Int) ≤ 100000) {a : Int} (a0 : 0 ≤ a) (a1 : a < (rows.length : Int)) (a2 : a ≤ 100000) (ha : ix rows a = small) :
    loop (ZD5 rows cols out a) (([] : List Int), 0) = some (.inl (out ++ [kmRow cols small], a + 1)) := by
  have w := ZH (B := ZD5 rows cols out a) (fun i => (kmRow (cols.take i.toNat) small, i)) (i := 0) (n := cols.length) (by omega) fun i i0 i1 => by
    have hlen : (kmRow (cols.take i.toNat) small).length ≤ 2000 := by unfold kmRow; rw [List.length_map, List.length_take]; omega
    have h3 := ZJf n1 t1 k1 hs (hc _ (ZW i0 i1)) (rows := rows) (cols := cols) (row := kmRow (cols.take i.toNat) small) (by omega) a0 a1 ha (j := i) i0 i1 (by omega) rfl
    have ht := ZHD (small := small) i0 i1
    rw [← ht] at h3
    simp (disch := omega) only [pz, ZD5, h3]
  have z0 : (kmRow (List.take (Int.toNat 0) cols) small, (0 : Int)) = (([] : List Int), (0 : Int)) := rfl
  rw [z0] at w
  rw [w]
  refine Zd ?_
  have et : cols.take (cols.length : Int).toNat = cols := by rw [Int.toNat_natCast, List.take_length]
  simp only [et]
  simp (disch := omega) only [pz, ZD5]
theorem ZH0 {rows cols : List (List (List Int))} {i : Int} (i0 : 0 ≤ i) (i1 : i < (rows.length : Int)) : km (rows.take (i + 1).toNat) cols = km (rows.take i.toNat) cols ++ [kmRow cols (ix rows i)] := by
  unfold km
  rw [Zc3 i0 i1, List.map_append]; rfl
include n1 t1 k1 in
theorem ZJ7 {rows cols : List (List (List Int))} (hs : ∀ o ∈ rows, OrbOk n t o) (hc : ∀ o ∈ cols, OrbOk n k o) (hl : (cols.length : Int) ≤ 2000) (hl2 : (rows.length : Int) ≤ 2000) :
    loop (ZDR cols rows) (([] : List (List Int)), 0) = some (km rows cols, 0) ∧ loop (ZDU rows cols) (([] : List (List Int)), 0) = some (km rows cols) := by
  have et : rows.take (rows.length : Int).toNat = rows := by rw [Int.toNat_natCast, List.take_length]
  have z0 : (km (List.take (Int.toNat 0) rows) cols, (0 : Int)) = (([] : List (List Int)), (0 : Int)) := rfl
  have hlen : ∀ i : Int, 0 ≤ i → i ≤ (rows.length : Int) → (km (rows.take i.toNat) cols).length ≤ 2000 := fun i _ _ => by unfold km; rw [List.length_map, List.length_take]; omega
  constructor
  · have w := ZH (B := ZDR cols rows) (fun i => (km (rows.take i.toNat) cols, i)) (i := 0) (n := rows.length) (by omega) fun i i0 i1 => by
      have hl' := hlen i i0 (by omega)
      have h2 := ZIp n1 t1 k1 (hs _ (ZW i0 i1)) hc hl (out := km (rows.take i.toNat) cols) (by omega) (a := i) i0 (by omega)
      rw [← ZH0 i0 i1] at h2
      simp (disch := omega) only [pz, ZDR, h2]
    rw [z0] at w
    rw [w]
    refine Zd ?_
    simp only [et]
    simp (disch := omega) only [pz, ZDR]
  · have w := ZH (B := ZDU rows cols) (fun i => (km (rows.take i.toNat) cols, i)) (i := 0) (n := rows.length) (by omega) fun i i0 i1 => by
      have hl' := hlen i i0 (by omega)
      have h2 := ZIZ n1 t1 k1 (hs _ (ZW i0 i1)) hc hl (rows := rows) (out := km (rows.take i.toNat) cols) (by omega) (a := i) i0 i1 (by omega) rfl
      rw [← ZH0 i0 i1] at h2
      simp (disch := omega) only [pz, ZDU, h2]
    rw [z0] at w
    rw [w]
    refine Zd ?_
    simp only [et]
    simp (disch := omega) only [pz, ZDU]
end
end Go.Proofs.YtapkemdomnkccaaGreat
