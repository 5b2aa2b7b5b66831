/- Marks on lists of integers, and on lists of such lists. -/
import Derived.Test.YtapkemdomnkccaaGreatPuFam
import Derived.Test.YtapkemdomnkccaaGreatPuJg
namespace Go.Proofs.YtapkemdomnkccaaGreat
open Go Go.Vc
set_option linter.unusedSimpArgs false
def marks (k : Int) (n : Nat) : List Int := (List.range n).map fun (j : Nat) => k + (j : Int)
theorem ZbK (k : Int) (n : Nat) : (marks k n).length = n := by unfold marks; simp
theorem ZqD {k : Int} {n j : Nat} (h : j < n) : (marks k n)[j]? = some (k + (j : Int)) := by
  unfold marks; rw [List.getElem?_map, List.getElem?_range h]; rfl
theorem ZnR {xs : List Int} {k : Int} (h : xs.length ≤ 4194304) (h0 : 0 ≤ k) (h1 : k ≤ 9100000000000000000) : ZcS xs k = some (k + (xs.length : Int), marks k xs.length) := by
  unfold ZcS
  let f : Nat → Int × Int × List Int := fun j => (k + (j : Int), (j : Int), marks k j ++ xs.drop j)
  have e0 : f 0 = (k, 0, xs) := by simp [f, marks]
  have e1 : f xs.length = (k + (xs.length : Int), (xs.length : Int), marks k xs.length) := by simp only [f]; rw [List.drop_length, List.append_nil]
  rw [← e0, Zd7 f xs.length fun j hj => ?_, e1]
  · refine Zd ?_
    rw [Zel]
    have : decide ((xs.length : Int) < ((marks k xs.length).length : Int)) = false := by rw [ZbK]; simp
    rw [this]; rfl
  · obtain ⟨x, hx⟩ := Za5 (xs := xs) (k := j) hj
    have hl : (marks k j ++ xs.drop j).length = xs.length := by rw [List.length_append, ZbK, List.length_drop]; omega
    have hc : (marks k j ++ xs.drop j)[j]? = some x := by
      rw [List.getElem?_append_right (by rw [ZbK]; omega), ZbK, Nat.sub_self, List.getElem?_drop]; simpa using hx
    simp only [f]
    rw [Zel]
    have : decide ((j : Int) < ((marks k j ++ xs.drop j).length : Int)) = true := by rw [hl]; simpa using hj
    rw [this, Zak hc]
    simp only [cond_true, Option.bind_some]
    rw [wrapN hj (by unfold M63; omega), Zbf (by omega) (by omega), Int.toNat_natCast]
    have hs : (marks k j ++ xs.drop j).set j (k + (j : Int)) = marks k (j + 1) ++ xs.drop (j + 1) := by
      rw [List.set_append, if_neg (by rw [ZbK]; omega), ZbK, Nat.sub_self]
      have hd : xs.drop j = x :: xs.drop (j + 1) := by
        rw [List.drop_eq_getElem_cons hj]
        congr 1
        have := List.getElem?_eq_getElem (l := xs) (i := j) hj
        rw [hx] at this; exact (Option.some.inj this).symm
      rw [hd]
      unfold marks
      rw [List.range_succ, List.map_append]; simp
    rw [hs, show k + (j : Int) + 1 = k + ((j + 1 : Nat) : Int) by omega]
theorem ZrG {n : Nat} {k : Int} (h : n ≤ 4194304) (h0 : 0 ≤ k) (h1 : k ≤ 9100000000000000000) : Ze0 (marks k n) k = some (k + (n : Int)) := by
  unfold Ze0
  let f : Nat → Int × Int := fun j => (k + (j : Int), (j : Int))
  have e0 : f 0 = (k, 0) := by simp [f]
  rw [← e0, Zd7 f n fun j hj => ?_]
  · refine Zd ?_
    simp only [f]
    rw [Zg2]
    have : decide ((n : Int) < ((marks k n).length : Int)) = false := by rw [ZbK]; simp
    rw [this]; rfl
  · simp only [f]
    rw [Zg2]
    have : decide ((j : Int) < ((marks k n).length : Int)) = true := by rw [ZbK]; simpa using hj
    rw [this, Zak (ZqD hj)]
    simp only [cond_true, Option.bind_some]
    have hb : ((k + (j : Int)) != (k + (j : Int))) = false := by simp
    rw [hb]
    simp only [cond_false]
    rw [wrapN hj (by unfold M63; omega), Zbf (by omega) (by omega), show k + (j : Int) + 1 = k + ((j + 1 : Nat) : Int) by omega]
def marksR : Int → List (List Int) → List (List Int)
  | _, [] => []
  | k, r :: rs => marks k r.length :: marksR (k + r.length) rs
def total : List (List Int) → Nat
  | [] => 0
  | r :: rs => r.length + total rs
theorem Zm6 : ∀ (xs : List (List Int)), (∀ r ∈ xs, r.length ≤ 4194304) → total xs ≤ xs.length * 4194304
  | [], _ => by simp [total]
  | r :: rs, h => by
    have h1 := h r (List.mem_cons_self ..)
    have h2 := Zm6 rs fun x hx => h x (List.mem_cons_of_mem _ hx)
    simp only [total, List.length_cons]; omega
theorem Zgy : ∀ (k : Int) (xs : List (List Int)), (marksR k xs).length = xs.length
  | _, [] => rfl
  | k, r :: rs => by simp [marksR, Zgy]
theorem Zvv {xs : List (List Int)} {j : Nat} {r : List Int} (h : xs[j]? = some r) : total (xs.take (j + 1)) = total (xs.take j) + r.length := by
  induction xs generalizing j with
  | nil => simp at h
  | cons x xs ih =>
    cases j with
    | zero => simp at h; subst h; simp [total]
    | succ j => simp only [List.take_succ_cons, total]; rw [ih (by simpa using h)]; omega
theorem Zr6 {xs : List (List Int)} {j : Nat} {r : List Int} (h : xs[j]? = some r) : ∀ k : Int, (marksR k xs)[j]? = some (marks (k + (total (xs.take j) : Int)) r.length) := by
  induction xs generalizing j with
  | nil => simp at h
  | cons x xs ih =>
    intro k
    cases j with
    | zero => simp at h; subst h; simp [marksR, total]
    | succ j =>
      simp only [marksR, List.getElem?_cons_succ, List.take_succ_cons, total]
      rw [ih (by simpa using h)]
      congr 2; omega
theorem Zo8 (xs : List (List Int)) (j : Nat) : total (xs.take j) ≤ total xs := by
  induction xs generalizing j with
  | nil => simp [total]
  | cons x xs ih =>
    cases j with
    | zero => simp [total]
    | succ j => simp only [List.take_succ_cons, total]; have := ih j; omega
theorem Zwj {xs : List (List Int)} {k : Int} (h : xs.length ≤ 4194304) (hr : ∀ r ∈ xs, r.length ≤ 4194304) (h0 : 0 ≤ k) (h1 : k ≤ 9000000000000000000) : Zek xs k = some (k + (total xs : Int), marksR k xs) := by
  have htot := Zm6 xs hr
  have htb : total xs ≤ 17592186044416 := Nat.le_trans htot (by omega)
  unfold Zek
  let f : Nat → Int × Int × List (List Int) := fun j => (k + (total (xs.take j) : Int), (j : Int), (marksR k xs).take j ++ xs.drop j)
  have e0 : f 0 = (k, 0, xs) := by simp [f, total]
  have e1 : f xs.length = (k + (total xs : Int), (xs.length : Int), marksR k xs) := by
    simp only [f]; rw [List.take_length, List.drop_length, List.append_nil, List.take_of_length_le (by rw [Zgy]; omega)]
  rw [← e0, Zd7 f xs.length fun j hj => ?_, e1]
  · refine Zd ?_
    rw [Zgr]
    have : decide ((xs.length : Int) < ((marksR k xs).length : Int)) = false := by rw [Zgy]; simp
    rw [this]; rfl
  · obtain ⟨r, hx⟩ := Za5 (xs := xs) (k := j) hj
    have htl : ((marksR k xs).take j).length = j := by rw [List.length_take, Zgy]; omega
    have hl : ((marksR k xs).take j ++ xs.drop j).length = xs.length := by rw [List.length_append, htl, List.length_drop]; omega
    have hc : ((marksR k xs).take j ++ xs.drop j)[j]? = some r := by
      rw [List.getElem?_append_right (by omega), htl, Nat.sub_self, List.getElem?_drop]; simpa using hx
    have htm := Zo8 xs j
    simp only [f]
    rw [Zgr]
    have : decide ((j : Int) < (((marksR k xs).take j ++ xs.drop j).length : Int)) = true := by rw [hl]; simpa using hj
    rw [this, Zak hc]
    simp only [cond_true, Option.bind_some]
    rw [ZnR (hr r (List.mem_of_getElem? hx)) (by omega) (by omega)]
    simp only [Option.bind_some]
    rw [wrapN hj (by unfold M63; omega), Int.toNat_natCast]
    have hs : ((marksR k xs).take j ++ xs.drop j).set j (marks (k + (total (xs.take j) : Int)) r.length) = (marksR k xs).take (j + 1) ++ xs.drop (j + 1) := by
      rw [List.set_append, if_neg (by omega), htl, Nat.sub_self, List.take_add_one, Zr6 hx]
      have hd : xs.drop j = r :: xs.drop (j + 1) := by
        rw [List.drop_eq_getElem_cons hj]
        congr 1
        have := List.getElem?_eq_getElem (l := xs) (i := j) hj
        rw [hx] at this; exact (Option.some.inj this).symm
      rw [hd]; simp
    rw [hs, Zvv hx, show k + (total (xs.take j) : Int) + (r.length : Int) = k + ((total (xs.take j) + r.length : Nat) : Int) by omega]
end Go.Proofs.YtapkemdomnkccaaGreat
namespace Go.Proofs.YtapkemdomnkccaaGreat
open Go Go.Vc
set_option linter.unusedSimpArgs false
set_option linter.unusedVariables false
theorem ZtU {o : Zx} (hs : Sz2 o.Rows) : ∃ r, Zeg o = some r ∧ ZdL o = some r ∧ (r.1.Edges.length : Int) ≤ 512 ∧ (r.1.Colors.length : Int) ≤ 64 := by
  have e : Zx.mk o.Kind o.Size o.Rows = o := rfl
  obtain ⟨c, h1, h2⟩ := Zo7 hs
  unfold Zeg ZdL Zh2 ZgP
  cases c with
  | false =>
    refine ⟨(⟨[], []⟩, 1), ?_, ?_, by simp, by simp⟩
    · simp (disch := omega) only [pz, e, h1]
    · simp (disch := omega) only [pz, e, h2]
  | true =>
    by_cases hk : o.Kind = 6
    · obtain ⟨r, g1, g2, g3⟩ := ZoC hs
      have hr : r.2 = true := by
        unfold ZdC at h1
        have hk1 : (o.Kind == 1) = false := by simp [hk]
        have hk2 : (o.Kind == 2) = false := by simp [hk]
        have hk3 : (o.Kind == 3) = false := by simp [hk]
        have hk4 : (o.Kind == 4) = false := by simp [hk]
        have hk5 : (o.Kind == 5) = false := by simp [hk]
        have hk6 : (o.Kind == 6) = true := by simp [hk]
        rw [hk1, hk2, hk3, hk4, hk5, hk6, g1] at h1
        exact Option.some.inj h1
      have e1 : Zt.mk r.1.Colors r.1.Edges = r.1 := rfl
      obtain ⟨g4, g5⟩ := g3 hr
      refine ⟨(r.1, 0), ?_, ?_, g4, g5⟩
      · simp (disch := omega) only [pz, e, h1, g1, e1]
      · simp (disch := omega) only [pz, e, h2, g2, e1]
    · refine ⟨(⟨[], []⟩, 6), ?_, ?_, by simp, by simp⟩
      · simp (disch := omega) only [pz, e, h1]
      · simp (disch := omega) only [pz, e, h2]
def marksE (k : Int) (n : Int) : List Zg := tabl n fun i => ⟨k + 2 * i, k + 2 * i + 1⟩
theorem Zox (k n : Int) : (marksE k n).length = n.toNat := ZF
theorem Zvq {xs : List Zg} {k : Int} (h : (xs.length : Int) ≤ 4194304) (h0 : 0 ≤ k) (h1 : k ≤ 9100000000000000000) : ZfY xs k = some (k + 2 * (xs.length : Int), marksE k xs.length) := by
  unfold ZfY
  have hgo := ZH (B := ZdH) (fun j => (k + 2 * j, j, tabl xs.length fun i => if i < j then Zg.mk (k + 2 * i) (k + 2 * i + 1) else ix xs i)) (i := 0) (n := xs.length) (by omega) fun j j0 j1 => by
    have hl : (tabl xs.length fun i => if i < j then Zg.mk (k + 2 * i) (k + 2 * i + 1) else ix xs i).length = xs.length := by rw [ZF]; omega
    have hs : (tabl xs.length fun i => if i < j then Zg.mk (k + 2 * i) (k + 2 * i + 1) else ix xs i).set j.toNat (Zg.mk (k + 2 * j) (k + 2 * j + 1)) = tabl xs.length fun i => if i < j + 1 then Zg.mk (k + 2 * i) (k + 2 * i + 1) else ix xs i := by
      apply Zbt j0 j1
      · intro i i0 i1 i2
        by_cases hi : i < j
        · rw [if_pos hi, if_pos (show i < j + 1 by omega)]
        · rw [if_neg hi, if_neg (show ¬ i < j + 1 by omega)]
      · rw [if_pos (by omega)]
    generalize (tabl xs.length fun i => if i < j then Zg.mk (k + 2 * i) (k + 2 * i + 1) else ix xs i) = A at hl hs ⊢
    have hl2 : (A.set j.toNat (Zg.mk (k + 2 * j) (ix A j).B)).length = A.length := List.length_set
    have hx2 : ix (A.set j.toNat (Zg.mk (k + 2 * j) (ix A j).B)) j = Zg.mk (k + 2 * j) (ix A j).B := Zbo j0 (by omega)
    have e : k + 2 * (j + 1) = k + 2 * j + 1 + 1 := by omega
    simp (disch := omega) only [pz, ZdH, hx2, List.set_set, hs, e]
  have e0 : (k, (0 : Int), xs) = (fun j : Int => (k + 2 * j, j, tabl xs.length fun i => if i < j then Zg.mk (k + 2 * i) (k + 2 * i + 1) else ix xs i)) 0 := by
    show _ = (k + 2 * 0, (0 : Int), _)
    congr 1
    · omega
    · congr 1
      refine (Zbs xs).symm.trans (ZQ fun i i0 i1 => ?_)
      rw [if_neg (by omega)]
  rw [e0, hgo]
  refine Zd ?_
  have e1 : (tabl xs.length fun i => if i < (xs.length : Int) then Zg.mk (k + 2 * i) (k + 2 * i + 1) else ix xs i) = marksE k xs.length := ZQ fun i i0 i1 => by rw [if_pos i1]
  have hl := Zox k xs.length
  simp only [e1]
  simp (disch := omega) only [pz, ZdH, hl]
theorem Zv0 {n k : Int} (hn : 0 ≤ n) (h : n ≤ 4194304) (h0 : 0 ≤ k) (h1 : k ≤ 9100000000000000000) : Zfb (marksE k n) k = some (k + 2 * n) := by
  unfold Zfb
  have hl := Zox k n
  have hgo := ZH (B := ZeR (marksE k n)) (fun j => (k + 2 * j, j)) (i := 0) (n := n) hn fun j j0 j1 => by
    have hx : ix (marksE k n) j = ⟨k + 2 * j, k + 2 * j + 1⟩ := ZX j0 j1
    have e : k + 2 * (j + 1) = k + 2 * j + 1 + 1 := by omega
    simp (disch := omega) only [pz, ZeR, hx, e]
  have e0 : (k, (0 : Int)) = (fun j : Int => (k + 2 * j, j)) 0 := by simp
  rw [e0, hgo]
  refine Zd ?_
  simp (disch := omega) only [pz, ZeR]
theorem ZuO {g : Zt} (h : (g.Colors.length : Int) ≤ 4194304) (h2 : (g.Edges.length : Int) ≤ 4194304) : Zfe g 1 = some (1 + (g.Colors.length : Int) + 2 * (g.Edges.length : Int), ⟨marks 1 g.Colors.length, marksE (1 + (g.Colors.length : Int)) g.Edges.length⟩) := by
  have q1 := ZnR (xs := g.Colors) (k := 1) (by omega) (by omega) (by omega)
  have q2 := Zvq (xs := g.Edges) (k := 1 + (g.Colors.length : Int)) (by omega) (by omega) (by omega)
  unfold Zfe
  simp (disch := omega) only [pz, q1, q2]
theorem Zsk {a b : Nat} (h : a ≤ 4194304) (h2 : b ≤ 4194304) : ZdK ⟨marks 1 a, marksE (1 + (a : Int)) (b : Int)⟩ 1 = some (1 + (a : Int) + 2 * (b : Int)) := by
  have q1 := ZrG (n := a) (k := 1) h (by omega) (by omega)
  have q2 := Zv0 (n := b) (k := 1 + (a : Int)) (by omega) (by omega) (by omega) (by omega)
  unfold ZdK
  simp (disch := omega) only [pz, q1, q2]
end Go.Proofs.YtapkemdomnkccaaGreat
namespace Go.Proofs.YtapkemdomnkccaaGreat
open Go Go.Vc
set_option linter.unusedSimpArgs false
set_option linter.unusedVariables false
theorem Zo6 {a : ZZ} (h : Zkc a) : Sz2 (Ze3 a).Rows := by
  have e : (Ze3 a).Rows = a.Rows := by simp [Ze3]
  rw [e]
  exact ⟨by have := h.1; omega, fun b hb => by have := (h.2 b hb).1; omega⟩
theorem Zrd {a : ZZ} (ha : ZlE a) : Zhf a = some true := by
  unfold Zhf
  obtain ⟨r, hr, c⟩ := Zro a 1048576 ha (by omega) (by omega)
  have e : ZZ.mk a.Kind a.Size a.Rows = a := rfl
  rcases c with rfl | ⟨r0, r1, sa⟩
  · simp (disch := omega) only [pz, e, hr]
  · have hz := Zo6 sa
    have ht := ZqZ sa
    generalize Ze3 a = x at hz ht
    have e2 : Zx.mk x.Kind x.Size x.Rows = x := rfl
    obtain ⟨⟨g, c⟩, h1, h2, h3, h4⟩ := ZtU hz
    dsimp only at h3 h4
    have e3 : Zt.mk g.Colors g.Edges = g := rfl
    have hq := (ZoM (a := g) (b := g) ⟨⟨by unfold M63; omega, fun _ _ => trivial⟩, ⟨by unfold M63; omega, fun _ _ => trivial⟩⟩).eq rfl
    have hq2 := (Zws (a := x) (b := x) ⟨by unfold M63; have := hz.1; omega, fun y hy => ⟨by unfold M63; have := hz.2 y hy; omega, fun _ _ => trivial⟩⟩).eq rfl
    have hn := hz.1
    have hm : Zgl x 1 = some (1 + (total x.Rows : Int), ⟨x.Kind, x.Size, marksR 1 x.Rows⟩) := by
      have := Zwj (xs := x.Rows) (k := 1) (by omega) (fun r hr => by have := hz.2 r hr; omega) (by omega) (by omega)
      unfold Zgl
      simp (disch := omega) only [pz, this]
    have hg := ZuO (g := g) (by omega) (by omega)
    have hh := Zsk (a := g.Colors.length) (b := g.Edges.length) (by omega) (by omega)
    have n0 : ¬ (1 + (total x.Rows : Int) < 0) := by omega
    have k3 : ZfX (1 + (g.Colors.length : Int) + 2 * (g.Edges.length : Int), ⟨marks 1 g.Colors.length, marksE (1 + (g.Colors.length : Int)) g.Edges.length⟩) = some true := by
      unfold ZfX
      simp (disch := omega) only [pz, hh]
    have k2 : ZeA a (g, c) (g, c) = some true := by
      unfold ZeA
      simp (disch := omega) only [pz, e3, hg, hh, e, ht, h2, hq, k3]
    have k1 : ZfH a (g, c) x (g, c) = some true := by
      unfold ZfH
      simp (disch := omega) only [pz, e, ht, e2, hq2, hm, e3, hq, k2]
    simp (disch := omega) only [pz, e, hr, ht, h1, e2, h2, e3, hq, k1]
end Go.Proofs.YtapkemdomnkccaaGreat
