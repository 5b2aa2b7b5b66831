import Derived.Test.YtocnokjekoglnaaGreatPuJa
import Derived.Test.YtocnokjekoglnaaGreatPuJe
namespace Go.Proofs.YtocnokjekoglnaaGreat
open Go Go.Vc
set_option linter.unusedSimpArgs false
set_option linter.unusedVariables false
theorem containsI {s : List Int} {v : Int} (hN : (s.length : Int) ≤ 1048576) : IsQ (ZeE s v) (v ∈ s) := by
  have := Zec (xs := s) (f := fun x => some (decide (v = x))) (q := fun x => v = x) (B := Zcz s v) (by unfold M63; omega) (fun x hx => ⟨_, rfl, by simp⟩) ?_ ?_
  · exact this.congr ⟨fun ⟨x, h, e⟩ => e ▸ h, fun h => ⟨v, h, rfl⟩⟩
  · intro k x hx
    have := ZU hx
    by_cases h : v = x
    · simp (disch := omega) only [pz, Zcz, ZJ hx]
    · simp (disch := omega) only [pz, Zcz, ZJ hx]
  · simp (disch := omega) only [pz, Zcz]
end Go.Proofs.YtocnokjekoglnaaGreat
namespace Go.Proofs.YtocnokjekoglnaaGreat
set_option linter.unusedVariables false
open Go Go.Vc
set_option linter.unusedSimpArgs false
def Sub (s z : List Int) : Prop := ∀ x ∈ s, x ∈ z
instance (s z : List Int) : Decidable (Sub s z) := inferInstanceAs (Decidable (∀ x ∈ s, x ∈ z))
theorem Zjl {s z : List Int} (hs : (s.length : Int) ≤ 1048576) (hz : (z.length : Int) ≤ 1048576) : Zb5 z s = some (decide (Sub s z)) := by
  have hq := containsL (s := s) (fn := fun y0 => ZeR y0 z) (q := fun x => ¬ x ∈ z) hs fun x hx => (containsI hz).not
  unfold Zb5
  by_cases h : Sub s z
  · have := hq.ne (fun ⟨x, hx, h'⟩ => h' (h x hx))
    rw [decide_eq_true h]
    simp (disch := omega) only [pz, this]
  · have := hq.eq (by
      apply Classical.byContradiction
      intro g
      exact h fun x hx => Classical.byContradiction fun g' => g ⟨x, hx, g'⟩)
    rw [decide_eq_false h]
    simp (disch := omega) only [pz, this]
def cnt (small o : List (List Int)) : Int := ((o.countP fun z => decide (Sub (ix small 0) z) : Nat) : Int)
def kmRow (cols : List (List (List Int))) (small : List (List Int)) : List Int := cols.map (cnt small)
def km (rows cols : List (List (List Int))) : List (List Int) := rows.map (kmRow cols)
theorem Zio (small o : List (List Int)) : 0 ≤ cnt small o ∧ cnt small o ≤ (o.length : Int) := by
  unfold cnt
  have := List.countP_le_length (p := fun z => decide (Sub (ix small 0) z)) (l := o)
  omega
section
variable {n t k : Int} (n1 : n ≤ 32) (t0 : 0 ≤ t) (t1 : t ≤ n) (k0 : 0 ≤ k) (k1 : k ≤ n)
theorem Zpa {small o : List (List Int)} {i : Int} (i0 : 0 ≤ i) (i1 : i < (o.length : Int)) : cnt small (o.take (i + 1).toNat) = cnt small (o.take i.toNat) + (if Sub (ix small 0) (ix o i) then 1 else 0) := by
  unfold cnt
  rw [Z7 i0 i1, List.countP_append]
  by_cases h : Sub (ix small 0) (ix o i)
  · simp [h]
  · simp [h]
include n1 t1 k1 in
theorem Zqq {small o : List (List Int)} (hs : OrbOk n t small) (ho : OrbOk n k o) {row : List Int} (hr : (row.length : Int) ≤ 4294967296) {j : Int} (j0 : 0 ≤ j) (j1 : j ≤ 4294967296) :
    loop (ZbP small row j o) (0, 0) = some (.inl (row ++ [cnt small o], j + 1)) := by
  have hsn := hs.ne; have hol := ho.len
  have s0 := hs.set _ (Zl (xs := small) (i := 0) (Int.le_refl 0) (by omega))
  have w := ZN (B := ZbP small row j o) (fun i => (cnt small (o.take i.toNat), i)) (i := 0) (n := o.length) (by omega) fun i i0 i1 => by
    have z0 := ho.set _ (Zl i0 i1)
    have hc := Zjl (s := ix small 0) (z := ix o i) (by omega) (by omega)
    have ht := Zpa (small := small) i0 i1
    have hb := Zio small (o.take i.toNat)
    have hl : (o.take i.toNat).length ≤ 720 := by rw [List.length_take]; omega
    by_cases h : Sub (ix small 0) (ix o i)
    · rw [decide_eq_true h] at hc
      rw [if_pos h] at ht
      simp (disch := omega) only [pz, ZbP, hc, ht]
    · rw [decide_eq_false h] at hc
      rw [if_neg h] at ht
      simp (disch := omega) only [pz, ZbP, hc, ht, Int.add_zero]
  have z0 : (cnt small (List.take (Int.toNat 0) o), (0 : Int)) = ((0 : Int), (0 : Int)) := rfl
  rw [z0] at w
  rw [w]
  refine Ze ?_
  have et : o.take (o.length : Int).toNat = o := by rw [Int.toNat_natCast, List.take_length]
  simp only [et]
  simp (disch := omega) only [pz, ZbP]
theorem Zmd {cols : List (List (List Int))} {small : List (List Int)} {i : Int} (i0 : 0 ≤ i) (i1 : i < (cols.length : Int)) : kmRow (cols.take (i + 1).toNat) small = kmRow (cols.take i.toNat) small ++ [cnt small (ix cols i)] := by
  unfold kmRow
  rw [Z7 i0 i1, List.map_append]; rfl
include n1 t1 k1 in
theorem ZqI {cols : List (List (List Int))} {small : List (List Int)} (hs : OrbOk n t small) (hc : ∀ o ∈ cols, OrbOk n k o) (hl : (cols.length : Int) ≤ 2000) {out : List (List Int)} (hr : (out.length : Int) ≤ 100000) {a : Int} (a0 : 0 ≤ a) (a1 : a ≤ 100000) :
    loop (ZbI cols out a small) (([] : List Int), 0) = some (.inl (out ++ [kmRow cols small], a + 1)) := by
  have w := ZN (B := ZbI cols out a small) (fun i => (kmRow (cols.take i.toNat) small, i)) (i := 0) (n := cols.length) (by omega) fun i i0 i1 => by
    have hlen : (kmRow (cols.take i.toNat) small).length ≤ 2000 := by unfold kmRow; rw [List.length_map, List.length_take]; omega
    have h3 := Zqq n1 t1 k1 hs (hc _ (Zl i0 i1)) (row := kmRow (cols.take i.toNat) small) (by omega) (j := i) i0 (by omega)
    have ht := Zmd (small := small) i0 i1
    rw [← ht] at h3
    simp (disch := omega) only [pz, ZbI, h3]
  have z0 : (kmRow (List.take (Int.toNat 0) cols) small, (0 : Int)) = (([] : List Int), (0 : Int)) := rfl
  rw [z0] at w
  rw [w]
  refine Ze ?_
  have et : cols.take (cols.length : Int).toNat = cols := by rw [Int.toNat_natCast, List.take_length]
  simp only [et]
  simp (disch := omega) only [pz, ZbI]
theorem ZlY {rows cols : List (List (List Int))} {i : Int} (i0 : 0 ≤ i) (i1 : i < (rows.length : Int)) : km (rows.take (i + 1).toNat) cols = km (rows.take i.toNat) cols ++ [kmRow cols (ix rows i)] := by
  unfold km
  rw [Z7 i0 i1, List.map_append]; rfl
end
end Go.Proofs.YtocnokjekoglnaaGreat
