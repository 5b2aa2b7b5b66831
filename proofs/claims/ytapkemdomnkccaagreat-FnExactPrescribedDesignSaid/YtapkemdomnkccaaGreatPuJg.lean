/- The choice of orbits: reference and program (printed by mkq.py from PuCho, PuCnt, PuChMain, PuChOr). -/
import Derived.Test.YtapkemdomnkccaaGreatPuFam
import Derived.Test.YtapkemdomnkccaaGreatVcLib
import Derived.Test.YtapkemdomnkccaaGreatPuJa
namespace Go.Proofs.YtapkemdomnkccaaGreat
open Go Go.Vc
set_option linter.unusedSimpArgs false
set_option linter.unusedVariables false
structure ChS where
  nodes : Int
  full : Bool
  count : Int
  first : List Int
def QcolOf (m : List (List Int)) (c : Nat) : List Int := m.map fun r => r.getD c 0
def tailsOf (m : List (List Int)) (c : Nat) : List Int := m.map fun r => (r.drop c).sum
def addL (a b : List Int) : List Int := List.zipWith (· + ·) a b
def lowB (lam : Int) (s t : List Int) : Bool := (addL s t).any (· < lam)
def highB (lam : Int) (s : List Int) : Bool := s.any (lam < ·)
def onCh (limit budget : Int) (low : Bool) (f : ChS → ChS) (s : ChS) : ChS :=
  bif low || s.full || s.count == limit then s else bif s.nodes == budget then { s with full := true } else f { s with nodes := s.nodes + 1 }
def goCh (m : List (List Int)) (lam limit budget : Int) (n : Nat) : Nat → List Int → List Int → ChS → ChS
  | 0, _, ch, s => { s with count := s.count + 1, first := bif s.count == 0 then ch else s.first }
  | r + 1, sums, ch, s =>
    let nx := addL sums (QcolOf m (n - (r + 1)))
    let s1 := bif highB lam nx then s else onCh limit budget (lowB lam nx (tailsOf m (n - r))) (goCh m lam limit budget n r nx (ch ++ [((n - (r + 1) : Nat) : Int)])) s
    onCh limit budget (lowB lam sums (tailsOf m (n - r))) (goCh m lam limit budget n r sums ch) s1
abbrev R2 := List (List Int)
def CountsN (m : R2) (n : Nat) : Prop := 1 ≤ m.length ∧ m.length ≤ 2000 ∧ n ≤ 2000 ∧ ∀ r ∈ m, r.length = n ∧ ∀ x ∈ r, 0 ≤ x ∧ x ≤ 2000
def tailRow (r : List Int) : List Int := (List.range (r.length + 1)).map fun c => (r.drop c).sum
structure ChIn (m : R2) (n : Nat) (lam limit budget : Int) : Prop where
  cnt : CountsN m n
  lam0 : 1 ≤ lam
  lam1 : lam ≤ 2000
  lim0 : 1 ≤ limit
  lim1 : limit ≤ 1000
  bud0 : 1 ≤ budget
  bud1 : budget ≤ 20000
structure ChInv (limit budget : Int) (s : ChS) : Prop where
  c0 : 0 ≤ s.count
  c1 : s.count ≤ limit
  n0 : 0 ≤ s.nodes
  n1 : s.nodes ≤ budget
theorem ZFx {limit budget : Int} {low : Bool} {f : ChS → ChS} {s : ChS} (hs : ChInv limit budget s) (hf : ∀ s, ChInv limit budget s → s.count < limit → ChInv limit budget (f s)) : ChInv limit budget (onCh limit budget low f s) := by
  unfold onCh
  cases h1 : (low || s.full || s.count == limit)
  · simp only [Bool.or_eq_false_iff, beq_eq_false_iff_ne, ne_eq] at h1
    have hc := hs.c1
    cases h2 : (s.nodes == budget)
    · simp only [beq_eq_false_iff_ne, ne_eq] at h2
      have hn := hs.n1
      have h0 := hs.n0
      exact hf _ ⟨hs.c0, hs.c1, by show 0 ≤ s.nodes + 1; omega, by show s.nodes + 1 ≤ budget; omega⟩ (by show s.count < limit; omega)
    · exact ⟨hs.c0, hs.c1, hs.n0, hs.n1⟩
  · exact hs
theorem ZED {m : R2} {lam limit budget : Int} {n : Nat} : ∀ (r : Nat) (sums ch : List Int) (s : ChS), ChInv limit budget s → s.count < limit → ChInv limit budget (goCh m lam limit budget n r sums ch s)
  | 0, _, _, s, hs, hc => ⟨by have := hs.c0; show 0 ≤ s.count + 1; omega, by show s.count + 1 ≤ limit; omega, hs.n0, hs.n1⟩
  | r + 1, sums, ch, s, hs, hc => by
    unfold goCh
    refine ZFx ?_ fun s hs hc => ZED r _ _ s hs hc
    cases highB lam (addL sums (QcolOf m (n - (r + 1))))
    · exact ZFx hs fun s hs hc => ZED r _ _ s hs hc
    · exact hs
theorem ZF7 : ∀ (l : List Int), (∀ x ∈ l, 0 ≤ x ∧ x ≤ 2000) → 0 ≤ l.sum ∧ l.sum ≤ 2000 * l.length
  | [], _ => by simp
  | x :: l, h => by
    have h1 := h x (List.mem_cons_self ..)
    have h2 := ZF7 l fun y hy => h y (List.mem_cons_of_mem _ hy)
    rw [List.sum_cons, List.length_cons]
    omega
theorem ZDn {a b : List Int} {k : Nat} {x y : Int} (hx : a[k]? = some x) (hy : b[k]? = some y) : (addL a b)[k]? = some (x + y) := by
  unfold addL
  rw [List.getElem?_zipWith, hx, hy]
theorem ZDm {a b : List Int} (h : a.length = b.length) : (addL a b).length = a.length := by unfold addL; rw [List.length_zipWith]; omega
theorem ZFz {lam : Int} {a b : List Int} {k : Nat} {x y : Int} (hx : a[k]? = some x) (hy : b[k]? = some y) (hl : x + y < lam) : lowB lam a b = true := by
  unfold lowB
  rw [List.any_eq_true]
  exact ⟨x + y, List.mem_of_getElem? (ZDn hx hy), by simpa using hl⟩
theorem ZHu {lam : Int} {a b : List Int} (h : ∀ (k : Nat) (x y : Int), a[k]? = some x → b[k]? = some y → lam ≤ x + y) : lowB lam a b = false := by
  unfold lowB
  rw [List.any_eq_false]
  intro z hz
  obtain ⟨k, hk⟩ := List.getElem?_of_mem hz
  have hlt := ZL hk
  unfold addL at hlt hk
  rw [List.length_zipWith] at hlt
  obtain ⟨x, hx⟩ := Za5 (xs := a) (k := k) (by omega)
  obtain ⟨y, hy⟩ := Za5 (xs := b) (k := k) (by omega)
  rw [List.getElem?_zipWith, hx, hy] at hk
  have := h k x y hx hy
  cases hk
  simp; omega
theorem ZJ6 {lam : Int} {a b : List Int} {k : Nat} {x y : Int} (h : lowB lam a b = false) (hx : a[k]? = some x) (hy : b[k]? = some y) : lam ≤ x + y := by
  rcases Int.lt_or_le (x + y) lam with h1 | h1
  · rw [ZFz hx hy h1] at h; cases h
  · exact h1
theorem ZEV {r : List Int} {c : Nat} (hc : c ≤ r.length) : (tailRow r)[c]? = some (r.drop c).sum := by
  unfold tailRow
  rw [List.getElem?_map, List.getElem?_range (by omega)]
  rfl
theorem ZDr {m : R2} {k c : Nat} {r : List Int} (hr : m[k]? = some r) : (tailsOf m c)[k]? = some (r.drop c).sum := by
  unfold tailsOf
  rw [List.getElem?_map, hr]; rfl
theorem ZDp (m : R2) (c : Nat) : (tailsOf m c).length = m.length := by unfold tailsOf; simp
theorem ZDs (m : R2) (c : Nat) : (QcolOf m c).length = m.length := by unfold QcolOf; simp
theorem ZDv {m : R2} {k c : Nat} {r : List Int} (hr : m[k]? = some r) : (QcolOf m c)[k]? = some (r.getD c 0) := by
  unfold QcolOf
  rw [List.getElem?_map, hr]; rfl
theorem ZD7 {r : List Int} {c : Nat} {x : Int} (h : r[c]? = some x) : r.getD c 0 = x := by rw [List.getD_eq_getElem?_getD, h]; rfl
theorem ZHo {lam : Int} {s : List Int} {k : Nat} {x : Int} (hx : s[k]? = some x) (h : lam < x) : highB lam s = true := by
  unfold highB; rw [List.any_eq_true]; exact ⟨x, List.mem_of_getElem? hx, by simpa using h⟩
theorem ZGe {lam : Int} {s : List Int} (h : ∀ x ∈ s, x ≤ lam) : highB lam s = false := by
  unfold highB; rw [List.any_eq_false]; intro x hx; have := h x hx; simp; omega
theorem ZHn {lam : Int} {s : List Int} (h : highB lam s = false) : ∀ x ∈ s, x ≤ lam := by
  intro x hx
  rcases Int.lt_or_le lam x with h1 | h1
  · obtain ⟨k, hk⟩ := List.getElem?_of_mem hx; rw [ZHo hk h1] at h; cases h
  · exact h1
theorem wr {x : Int} (h1 : -9223372036854775808 ≤ x) (h2 : x ≤ 9223372036854775807) : IntKind.i64.wrap x = x := Zbf h1 h2
section
variable {m : R2} {n : Nat} {lam limit budget : Int}
theorem ZDo (hin : ChIn m n lam limit budget) {k : Nat} (hk : k < m.length) : ∃ r, m[k]? = some r ∧ r.length = n ∧ ∀ x ∈ r, 0 ≤ x ∧ x ≤ 2000 := by
  obtain ⟨r, hr⟩ := Za5 hk
  exact ⟨r, hr, hin.cnt.2.2.2 r (List.mem_of_getElem? hr)⟩
theorem ZGO (hin : ChIn m n lam limit budget) {r : List Int} (hl : r.length = n) (hb : ∀ x ∈ r, 0 ≤ x ∧ x ≤ 2000) (c : Nat) : 0 ≤ (r.drop c).sum ∧ (r.drop c).sum ≤ 4000000 := by
  have h1 := ZF7 (r.drop c) fun y hy => hb y (List.mem_of_mem_drop hy)
  have h2 : (r.drop c).length ≤ 2000 := by rw [List.length_drop]; have := hin.cnt.2.2.1; omega
  omega
def toF (m : R2) (lam limit budget : Int) (ch : List Int) (s : ChS) : ZDg := ZDg.mk m (m.map tailRow) lam ch s.first s.count limit s.nodes budget s.full
structure SPre (m : R2) (n : Nat) (lam limit budget : Int) (sums ch : List Int) (s : ChS) (r : Nat) : Prop where
  len : sums.length = m.length
  sm : ∀ x ∈ sums, 0 ≤ x ∧ x ≤ lam
  cl : ch.length + r ≤ n
  rn : r ≤ n
  inv : ChInv limit budget s
theorem ZKP (hin : ChIn m n lam limit budget) {N r : Nat} {rf1 rf2 : ZDg → List Int → Int → Option ZDg}
    (hrun : ∀ sums ch s, SPre m n lam limit budget sums ch s r → s.count < limit → rf2 (toF m lam limit budget ch s) sums ((n - r : Nat) : Int) = some (toF m lam limit budget ch (goCh m lam limit budget n r sums ch s)))
    {sums ch : List Int} {s : ChS} (pre : SPre m n lam limit budget sums ch s r) :
    q_spec_l26Find_on rf1 rf2 (toF m lam limit budget ch s) sums ((n - r : Nat) : Int) = some (toF m lam limit budget ch (onCh limit budget (lowB lam sums (tailsOf m (n - r))) (goCh m lam limit budget n r sums ch) s)) := by
  have hl2 := hin.lam1
  have hrn := pre.rn
  have hN : sums.length ≤ M63 := by have := pre.len; have := hin.cnt.2.1; unfold M63; omega
  unfold q_spec_l26Find_on
  have key : ∀ (d k : Nat), k + d = sums.length → (∀ (j : Nat) x y, j < k → sums[j]? = some x → (tailsOf m (n - r))[j]? = some y → lam ≤ x + y) →
      loop (ZDE rf2 (toF m lam limit budget ch s) sums ((n - r : Nat) : Int)) (k : Int) = some (toF m lam limit budget ch (onCh limit budget (lowB lam sums (tailsOf m (n - r))) (goCh m lam limit budget n r sums ch) s)) := by
    intro d
    induction d with
    | zero =>
      intro k hk ha
      obtain rfl : k = sums.length := by omega
      have hlow : lowB lam sums (tailsOf m (n - r)) = false := ZHu fun k x y hx hy => ha k x y (ZL hx) hx hy
      rw [hlow]
      refine Zd ?_
      rw [ZDE, lt_f]
      simp only [cond_false]
      unfold onCh toF
      cases hf : s.full
      · simp only [cond_false, Bool.false_or, Bool.or_self]
        cases hc : (s.count == limit)
        · simp only [cond_false]
          unfold ZF2
          simp only []
          cases hb : (s.nodes == budget)
          · simp only [cond_false]
            have i1 := pre.inv.n0
            have i2 := pre.inv.n1
            have i3 := hin.bud1
            have hnb : s.nodes ≠ budget := by simpa using hb
            have hcl : s.count ≠ limit := by simpa using hc
            have i4 := pre.inv.c1
            rw [wr (by omega) (by omega)]
            have := hrun sums ch { s with nodes := s.nodes + 1 } ⟨pre.len, pre.sm, pre.cl, pre.rn, ⟨pre.inv.c0, pre.inv.c1, by show 0 ≤ s.nodes + 1; omega, by show s.nodes + 1 ≤ budget; omega⟩⟩ (by show s.count < limit; omega)
            unfold toF at this
            simp only [hf] at this
            rw [this]
            rfl
          · simp only [cond_true]
        · simp only [cond_true]
          cases s; simp_all
      · simp only [cond_true, Bool.false_or, Bool.true_or]
        cases s; simp_all
    | succ d ih =>
      intro k hk ha
      obtain ⟨x, hx⟩ := Za5 (xs := sums) (k := k) (by omega)
      obtain ⟨row, er, hrl, hrb⟩ := ZDo hin (k := k) (by have := pre.len; omega)
      have hb := ZGO hin hrl hrb (n - r)
      have hxb := pre.sm x (List.mem_of_getElem? hx)
      have hB : ZDE rf2 (toF m lam limit budget ch s) sums ((n - r : Nat) : Int) (k : Int) = bif decide (x + (row.drop (n - r)).sum < lam) then some (.inr (toF m lam limit budget ch s)) else some (.inl (IntKind.i64.wrap ((k : Int) + 1))) := by
        rw [ZDE, lt_t (ZL hx), Zak hx]
        simp only [cond_true, Option.bind_some]
        rw [show gIdx (toF m lam limit budget ch s).qlater (k : Int) = some (tailRow row) from Zak (by show (m.map tailRow)[k]? = _; rw [List.getElem?_map, er]; rfl)]
        simp only [Option.bind_some]
        rw [Zak (ZEV (by omega))]
        simp only [Option.bind_some]
        rw [wr (by omega) (by omega)]
        rfl
      cases hd : decide (x + (row.drop (n - r)).sum < lam)
      · rw [hd] at hB
        have hB' : ZDE rf2 (toF m lam limit budget ch s) sums ((n - r : Nat) : Int) (k : Int) = some (.inl ((k + 1 : Nat) : Int)) := by rw [hB, ← wrapN (n := sums.length) (by omega) hN]; rfl
        rw [ZG hB']
        refine ih (k + 1) (by omega) fun j x' y' hj hx' hy' => ?_
        by_cases hjk : j = k
        · subst hjk
          rw [hx] at hx'; rw [ZDr er] at hy'
          cases hx'; cases hy'
          have := of_decide_eq_false hd
          omega
        · exact ha j x' y' (by omega) hx' hy'
      · rw [hd] at hB
        have hlow := ZFz hx (ZDr (c := n - r) er) (of_decide_eq_true hd)
        rw [hlow, Zd hB]
        unfold onCh
        simp
  exact key sums.length 0 (by omega) fun j x y hj => by omega
theorem ZEp {α : Type} {b : Nat} {xs ys : List α} (h : (xs.length + ys.length) * b ≤ 140737488355328) (h2 : xs.length + ys.length ≤ 4611686018427387904) : gApp b xs ys = some (xs ++ ys) := by
  unfold gApp; rw [if_pos ⟨h, h2⟩]
theorem ZIQ {l : List Int} (h : l.length ≤ 4000) : ZaO l = some l := by
  unfold ZaO
  rw [ZEp (by simp; omega) (by simp; omega)]
  simp
theorem ZJT {l : List Int} (h : l.length ≤ 4000) : Zbu l = some l := by
  unfold Zbu
  rw [ZEp (by simp; omega) (by simp; omega)]
  simp
theorem ZI2 (hin : ChIn m n lam limit budget) {c : Nat} (hc : c < n) {rf1 : ZDg → List Int → Int → Option ZDg} {y0 : ZDg} (hy : y0.qm = m) (hl : y0.qlambda = lam) {sums : List Int} (hlen : sums.length = m.length) (hsm : ∀ x ∈ sums, 0 ≤ x ∧ x ≤ lam) :
    loop (ZD9 rf1 y0 sums (c : Int)) (true, [], 0) = loop (ZD9 rf1 y0 sums (c : Int)) (!highB lam (addL sums (QcolOf m c)), addL sums (QcolOf m c), (sums.length : Int)) := by
  have hl2 := hin.lam1
  have hm2 := hin.cnt.2.1
  have hal : (addL sums (QcolOf m c)).length = sums.length := ZDm (by rw [ZDs, hlen])
  let f : Nat → Bool × List Int × Int := fun k => (!highB lam ((addL sums (QcolOf m c)).take k), (addL sums (QcolOf m c)).take k, (k : Int))
  have h0 : f 0 = (true, [], 0) := by simp [f, highB]
  have h1 : f sums.length = (!highB lam (addL sums (QcolOf m c)), addL sums (QcolOf m c), (sums.length : Int)) := by
    simp only [f]; rw [List.take_of_length_le (by omega)]
  rw [← h0, ← h1]
  refine Zd7 f sums.length fun k hk => ?_
  obtain ⟨x, hx⟩ := Za5 (xs := sums) (k := k) hk
  obtain ⟨row, er, hrl, hrb⟩ := ZDo hin (k := k) (by omega)
  obtain ⟨y, ey⟩ := Za5 (xs := row) (k := c) (by omega)
  have hyb := hrb y (List.mem_of_getElem? ey)
  have hxb := hsm x (List.mem_of_getElem? hx)
  have hg : (addL sums (QcolOf m c))[k]? = some (x + y) := ZDn hx (by rw [ZDv er, ZD7 ey])
  have htk : (addL sums (QcolOf m c)).take (k + 1) = (addL sums (QcolOf m c)).take k ++ [x + y] := by rw [List.take_add_one, hg]; rfl
  have hlk : ((addL sums (QcolOf m c)).take k).length = k := by rw [List.length_take]; omega
  simp only [f]
  rw [ZD9, lt_t hk, Zak hx]
  simp only [cond_true, Option.bind_some]
  rw [hy, Zak er]
  simp only [Option.bind_some]
  rw [Zak ey]
  simp only [Option.bind_some]
  rw [wr (by omega) (by omega), ZEp (by simp only [List.length_singleton]; omega) (by simp only [List.length_singleton]; omega)]
  simp only [Option.bind_some]
  rw [← htk]
  rw [Zak (k := k) (x := x + y) (by rw [htk, List.getElem?_append_right (by omega), hlk]; simp)]
  simp only [Option.bind_some]
  rw [hl, wrapN hk (by unfold M63; omega)]
  have hh : highB lam ((addL sums (QcolOf m c)).take (k + 1)) = (highB lam ((addL sums (QcolOf m c)).take k) || decide (lam < x + y)) := by
    rw [htk]; unfold highB; rw [List.any_append]; simp
  rw [hh]
  cases hd : decide (x + y > lam) <;> simp
theorem ZJh (hin : ChIn m n lam limit budget) {c : Nat} (hc : c < n) {sums : List Int} (hlen : sums.length = m.length) (hsm : ∀ x ∈ sums, 0 ≤ x ∧ x ≤ lam) (hh : highB lam (addL sums (QcolOf m c)) = false) : ∀ x ∈ addL sums (QcolOf m c), 0 ≤ x ∧ x ≤ lam := by
  intro z hz
  refine ⟨?_, ZHn hh z hz⟩
  obtain ⟨k, hk⟩ := List.getElem?_of_mem hz
  have hlt := ZL hk
  rw [ZDm (by rw [ZDs, hlen])] at hlt
  obtain ⟨x, hx⟩ := Za5 (xs := sums) (k := k) hlt
  obtain ⟨row, er, hrl, hrb⟩ := ZDo hin (k := k) (by omega)
  obtain ⟨y, ey⟩ := Za5 (xs := row) (k := c) (by omega)
  rw [ZDn hx (by rw [ZDv er, ZD7 ey])] at hk
  cases hk
  have := hrb y (List.mem_of_getElem? ey)
  have := hsm x (List.mem_of_getElem? hx)
  omega
theorem ZHN (hin : ChIn m n lam limit budget) : ∀ (r N : Nat), 2 * r < N → ∀ sums ch s, SPre m n lam limit budget sums ch s r → s.count < limit →
    (pn_spec_l26Find_on N).2 (toF m lam limit budget ch s) sums ((n - r : Nat) : Int) = some (toF m lam limit budget ch (goCh m lam limit budget n r sums ch s))
  | r, 0, hN, _, _, _, _, _ => by omega
  | r, N + 1, hN, sums, ch, s, pre, hct => by
    obtain ⟨row0, e0, hr0, _⟩ := ZDo hin (k := 0) (by have := hin.cnt.1; omega)
    have hcl := pre.cl
    have hrn := pre.rn
    have hn2 := hin.cnt.2.2.1
    show q_spec_l26Find_run (pn_spec_l26Find_on N).1 (pn_spec_l26Find_on N).2 _ _ _ = _
    unfold q_spec_l26Find_run
    rw [show gIdx (toF m lam limit budget ch s).qm 0 = some row0 from Zak (k := 0) e0]
    simp only [Option.bind_some]
    cases r with
    | zero =>
      have hc : (((n - 0 : Nat) : Int) == (row0.length : Int)) = true := by rw [hr0]; simp
      rw [hc]
      simp only [cond_true]
      have hb := pre.inv.c0
      have hb1 := hin.lim1
      unfold goCh toF
      simp only []
      cases hz : (s.count == 0)
      · simp only [cond_false]
        unfold ZEr
        simp only []
        rw [wr (by omega) (by omega)]
      · simp only [cond_true]
        rw [ZIQ (by omega)]
        simp only [Option.bind_some]
        unfold ZEr
        simp only []
        rw [wr (by omega) (by omega)]
    | succ r =>
      have hc : (((n - (r + 1) : Nat) : Int) == (row0.length : Int)) = false := by rw [hr0]; simp; omega
      rw [hc]
      simp only [cond_false]
      have hlt : n - (r + 1) < n := by omega
      have hcol : IntKind.i64.wrap (((n - (r + 1) : Nat) : Int) + 1) = ((n - r : Nat) : Int) := by rw [wr (by omega) (by omega)]; omega
      rw [ZI2 hin hlt rfl rfl pre.len pre.sm]
      have hon : ∀ sums' ch' s', SPre m n lam limit budget sums' ch' s' r → (pn_spec_l26Find_on N).1 (toF m lam limit budget ch' s') sums' ((n - r : Nat) : Int) = some (toF m lam limit budget ch' (onCh limit budget (lowB lam sums' (tailsOf m (n - r))) (goCh m lam limit budget n r sums' ch') s')) := by
        intro sums' ch' s' pre'
        cases N with
        | zero => omega
        | succ N =>
          exact ZKP (N := N) (rf1 := (pn_spec_l26Find_on N).1) hin (fun sums2 ch2 s2 p2 c2 => ZHN hin r N (by omega) sums2 ch2 s2 p2 c2) pre'
      -- what is left behind the first half
      have hk2 : ∀ s1 : ChS, ChInv limit budget s1 → ZEj (pn_spec_l26Find_on N).1 (toF m lam limit budget ch s) sums ((n - (r + 1) : Nat) : Int) lam s1.count limit s1.nodes budget s1.full (m.map tailRow) ch s1.first =
          some (.inr (toF m lam limit budget ch (onCh limit budget (lowB lam sums (tailsOf m (n - r))) (goCh m lam limit budget n r sums ch) s1))) := by
        intro s1 hi
        unfold ZEj
        rw [hcol]
        have := hon sums ch s1 ⟨pre.len, pre.sm, by omega, by omega, hi⟩
        unfold toF at this ⊢
        rw [this]
        rfl
      refine Zd ?_
      rw [ZD9, lt_f]
      simp only [cond_false]
      unfold goCh
      simp only []
      cases hh : highB lam (addL sums (QcolOf m (n - (r + 1))))
      · simp only [Bool.not_false, cond_true, cond_false]
        rw [show gApp 8 (toF m lam limit budget ch s).qchosen [((n - (r + 1) : Nat) : Int)] = some (ch ++ [((n - (r + 1) : Nat) : Int)]) from ZEp (by show (ch.length + 1) * 8 ≤ _; omega) (by show ch.length + 1 ≤ _; omega)]
        simp only [Option.bind_some]
        rw [hcol]
        have h1 := hon (addL sums (QcolOf m (n - (r + 1)))) (ch ++ [((n - (r + 1) : Nat) : Int)]) s ⟨by rw [ZDm (by rw [ZDs, pre.len]), pre.len], ZJh hin hlt pre.len pre.sm hh, by rw [List.length_append, List.length_singleton]; omega, by omega, pre.inv⟩
        rw [show (pn_spec_l26Find_on N).1 (ZDg.mk (toF m lam limit budget ch s).qm (toF m lam limit budget ch s).qlater (toF m lam limit budget ch s).qlambda (ch ++ [((n - (r + 1) : Nat) : Int)]) (toF m lam limit budget ch s).qfirst (toF m lam limit budget ch s).qcount (toF m lam limit budget ch s).qlimit (toF m lam limit budget ch s).qnodes (toF m lam limit budget ch s).qbudget (toF m lam limit budget ch s).qfull) _ _ = _ from h1]
        simp only [Option.bind_some]
        have hcut : gSl (ch ++ [((n - (r + 1) : Nat) : Int)]) 0 (ch.length : Int) = some ch := by
          unfold gSl
          rw [if_pos ⟨by omega, by omega, by rw [List.length_append]; omega⟩]
          simp
        rw [show gSl (toF m lam limit budget (ch ++ [((n - (r + 1) : Nat) : Int)]) _).qchosen 0 (((toF m lam limit budget ch s).qchosen.length : Nat) : Int) = some ch from hcut]
        simp only [Option.bind_some]
        have hi : ChInv limit budget (onCh limit budget (lowB lam (addL sums (QcolOf m (n - (r + 1)))) (tailsOf m (n - r))) (goCh m lam limit budget n r (addL sums (QcolOf m (n - (r + 1)))) (ch ++ [((n - (r + 1) : Nat) : Int)])) s) := ZFx pre.inv fun s hs hc => ZED r _ _ s hs hc
        exact hk2 _ hi
      · simp only [Bool.not_true, cond_false, cond_true]
        exact hk2 s pre.inv
def toC (m : R2) (lam limit budget : Int) (sums later ch : List Int) (s : ChS) : ZDh := ZDh.mk (ZDi.mk (budget - s.nodes) s.full) m lam limit sums later ch s.count s.first
theorem ZEQ (hin : ChIn m n lam limit budget) {c : Nat} (hc : c < n) {f : Int} {c0 : ZDh} (hm : c0.qmatrix = m) (hf : f = 1 ∨ f = -1) {xs : List Int} (hl : xs.length = m.length) (hb : ∀ x ∈ xs, -10000000 ≤ x ∧ x ≤ 10000000) :
    ZDB c0 xs (c : Int) f = some (addL xs ((QcolOf m c).map (f * ·))) := by
  have hm2 := hin.cnt.2.1
  unfold ZDB
  have hal : (addL xs ((QcolOf m c).map (f * ·))).length = xs.length := ZDm (by rw [List.length_map, ZDs, hl])
  let g : Nat → Int × List Int := fun k => ((k : Int), (addL xs ((QcolOf m c).map (f * ·))).take k ++ xs.drop k)
  have h0 : g 0 = (0, xs) := by simp [g]
  have h1 : g m.length = ((m.length : Int), addL xs ((QcolOf m c).map (f * ·))) := by
    simp only [g]; rw [List.take_of_length_le (by omega), List.drop_of_length_le (by omega), List.append_nil]
  rw [← h0, Zd7 g m.length fun k hk => ?_, h1]
  · refine Zd ?_
    rw [ZEJ, hm, lt_f]; rfl
  · obtain ⟨row, er, hrl, hrb⟩ := ZDo hin hk
    obtain ⟨y, ey⟩ := Za5 (xs := row) (k := c) (by omega)
    obtain ⟨x, hx⟩ := Za5 (xs := xs) (k := k) (by omega)
    have hyb := hrb y (List.mem_of_getElem? ey)
    have hxb := hb x (List.mem_of_getElem? hx)
    have hg : (addL xs ((QcolOf m c).map (f * ·)))[k]? = some (x + f * y) := ZDn hx (by rw [List.getElem?_map, ZDv er, ZD7 ey]; rfl)
    have hlk : ((addL xs ((QcolOf m c).map (f * ·))).take k).length = k := by rw [List.length_take]; omega
    have hcur : ((addL xs ((QcolOf m c).map (f * ·))).take k ++ xs.drop k)[k]? = some x := by
      rw [List.getElem?_append_right (by omega), hlk, Nat.sub_self, List.getElem?_drop]; simpa using hx
    simp only [g]
    rw [ZEJ, hm, lt_t hk, Zak er]
    simp only [cond_true, Option.bind_some]
    rw [Zak hcur]
    simp only [Option.bind_some]
    rw [Zak ey]
    simp only [Option.bind_some]
    have hfy : IntKind.i64.wrap (f * y) = f * y := by rcases hf with rfl | rfl <;> exact wr (by omega) (by omega)
    have hxy : IntKind.i64.wrap (x + f * y) = x + f * y := by rcases hf with rfl | rfl <;> exact wr (by omega) (by omega)
    rw [hfy, hxy, wrapN hk (by unfold M63; omega), Int.toNat_natCast]
    have : ((addL xs ((QcolOf m c).map (f * ·))).take k ++ xs.drop k).set k (x + f * y) = (addL xs ((QcolOf m c).map (f * ·))).take (k + 1) ++ xs.drop (k + 1) := by
      rw [List.set_append, if_neg (by omega), hlk, Nat.sub_self, List.take_add_one, hg]
      have hd : xs.drop k = x :: xs.drop (k + 1) := by
        rw [List.drop_eq_getElem_cons (by omega)]
        congr 1
        have := List.getElem?_eq_getElem (l := xs) (i := k) (by omega)
        rw [hx] at this; exact (Option.some.inj this).symm
      rw [hd]; simp
    rw [this]
theorem ZGx (hin : ChIn m n lam limit budget) {c0 : ZDh} {sums later : List Int} (h1 : c0.qsums = sums) (h2 : c0.qlater = later) (h3 : c0.qlambda = lam) (hl : sums.length = m.length) (hl2 : later.length = m.length) (hb : ∀ x ∈ sums, 0 ≤ x ∧ x ≤ 5000) (hb2 : ∀ x ∈ later, 0 ≤ x ∧ x ≤ 4000000) :
    ZEI c0 = some (!(highB lam sums || lowB lam sums later)) := by
  have hm2 := hin.cnt.2.1
  unfold ZEI
  have hN : sums.length ≤ M63 := by unfold M63; omega
  have key : ∀ (d k : Nat), k + d = sums.length → (∀ (j : Nat) x y, j < k → sums[j]? = some x → later[j]? = some y → x ≤ lam ∧ lam ≤ x + y) →
      loop (ZEe c0) (k : Int) = some (!(highB lam sums || lowB lam sums later)) := by
    intro d
    induction d with
    | zero =>
      intro k hk ha
      obtain rfl : k = sums.length := by omega
      have e1 : highB lam sums = false := ZGe fun x hx => by
        obtain ⟨j, hj⟩ := List.getElem?_of_mem hx
        obtain ⟨y, hy⟩ := Za5 (xs := later) (k := j) (by have := ZL hj; omega)
        exact (ha j x y (ZL hj) hj hy).1
      have e2 : lowB lam sums later = false := ZHu fun j x y hx hy => (ha j x y (ZL hx) hx hy).2
      rw [e1, e2]
      refine Zd ?_
      rw [ZEe, h1, lt_f]; rfl
    | succ d ih =>
      intro k hk ha
      obtain ⟨x, hx⟩ := Za5 (xs := sums) (k := k) (by omega)
      obtain ⟨y, hy⟩ := Za5 (xs := later) (k := k) (by omega)
      have hxb := hb x (List.mem_of_getElem? hx)
      have hyb := hb2 y (List.mem_of_getElem? hy)
      have hB : ZEe c0 (k : Int) = bif decide (x > lam) then some (.inr false) else bif decide (x + y < lam) then some (.inr false) else some (.inl (IntKind.i64.wrap ((k : Int) + 1))) := by
        rw [ZEe, h1, h2, h3, lt_t (ZL hx), Zak hx, Zak hy]
        simp only [cond_true, Option.bind_some]
        rw [wr (by omega) (by omega)]
      cases hd : decide (x > lam)
      · rw [hd] at hB
        cases he : decide (x + y < lam)
        · rw [he] at hB
          have hB' : ZEe c0 (k : Int) = some (.inl ((k + 1 : Nat) : Int)) := by rw [hB, ← wrapN (n := sums.length) (by omega) hN]; rfl
          rw [ZG hB']
          refine ih (k + 1) (by omega) fun j x' y' hj hx' hy' => ?_
          by_cases hjk : j = k
          · subst hjk
            rw [hx] at hx'; rw [hy] at hy'; cases hx'; cases hy'
            have g1 := of_decide_eq_false hd
            have g2 := of_decide_eq_false he
            omega
          · exact ha j x' y' (by omega) hx' hy'
        · rw [he] at hB
          rw [ZFz hx hy (of_decide_eq_true he), Zd hB]; simp
      · rw [hd] at hB
        rw [ZHo hx (of_decide_eq_true hd), Zd hB]; simp
  exact key sums.length 0 (by omega) fun j x y hj => by omega
theorem ZKu {xs ys : List Int} (h : xs.length = ys.length) : addL (addL xs (ys.map (1 * ·))) (ys.map (-1 * ·)) = xs := by
  apply List.ext_getElem?
  intro k
  by_cases hk : k < xs.length
  · obtain ⟨x, hx⟩ := Za5 (xs := xs) (k := k) hk
    obtain ⟨y, hy⟩ := Za5 (xs := ys) (k := k) (by omega)
    rw [ZDn (ZDn hx (show (ys.map (1 * ·))[k]? = some (1 * y) by rw [List.getElem?_map, hy]; rfl)) (show (ys.map (-1 * ·))[k]? = some (-1 * y) by rw [List.getElem?_map, hy]; rfl), hx]
    congr 1; omega
  · have h1 : (addL xs (ys.map (1 * ·))).length = xs.length := ZDm (by rw [List.length_map]; exact h)
    have h2 : (addL (addL xs (ys.map (1 * ·))) (ys.map (-1 * ·))).length = xs.length := by rw [ZDm (by rw [h1, List.length_map]; exact h), h1]
    rw [List.getElem?_eq_none (by omega), List.getElem?_eq_none (by omega)]
theorem ZHc (xs ys : List Int) : addL xs (ys.map (1 * ·)) = addL xs ys := by
  have : ys.map (1 * ·) = ys := by simp
  rw [this]
theorem ZHR {c : Nat} (hc : c < n) (hin : ChIn m n lam limit budget) : addL (tailsOf m c) ((QcolOf m c).map (-1 * ·)) = tailsOf m (c + 1) := by
  apply List.ext_getElem?
  intro k
  by_cases hk : k < m.length
  · obtain ⟨row, er, hrl, _⟩ := ZDo hin hk
    obtain ⟨y, ey⟩ := Za5 (xs := row) (k := c) (by omega)
    rw [ZDn (ZDr er) (show ((QcolOf m c).map (-1 * ·))[k]? = some (-1 * y) by rw [List.getElem?_map, ZDv er, ZD7 ey]; rfl), ZDr er]
    congr 1
    have : row.drop c = y :: row.drop (c + 1) := by
      rw [List.drop_eq_getElem_cons (by omega)]
      congr 1
      have := List.getElem?_eq_getElem (l := row) (i := c) (by omega)
      rw [ey] at this; exact (Option.some.inj this).symm
    rw [this, List.sum_cons]; omega
  · have h2 : (addL (tailsOf m c) ((QcolOf m c).map (-1 * ·))).length = m.length := by rw [ZDm (by rw [List.length_map, ZDs, ZDp]), ZDp]
    rw [List.getElem?_eq_none (by omega), List.getElem?_eq_none (by rw [ZDp]; omega)]
theorem ZKM {c : Nat} (hc : c < n) (hin : ChIn m n lam limit budget) : addL (tailsOf m (c + 1)) ((QcolOf m c).map (1 * ·)) = tailsOf m c := by
  rw [← ZHR hc hin]
  apply List.ext_getElem?
  intro k
  by_cases hk : k < m.length
  · obtain ⟨row, er, hrl, _⟩ := ZDo hin hk
    have g1 : ((QcolOf m c).map (-1 * ·))[k]? = some (-1 * row.getD c 0) := by rw [List.getElem?_map, ZDv er]; rfl
    have g2 : ((QcolOf m c).map (1 * ·))[k]? = some (1 * row.getD c 0) := by rw [List.getElem?_map, ZDv er]; rfl
    rw [ZDn (ZDn (ZDr er) g1) g2, ZDr er]
    congr 1; omega
  · have h1 : (addL (tailsOf m c) ((QcolOf m c).map (-1 * ·))).length = m.length := by rw [ZDm (by rw [List.length_map, ZDs, ZDp]), ZDp]
    rw [List.getElem?_eq_none (by rw [ZDm (by rw [h1, List.length_map, ZDs]), h1]; omega), List.getElem?_eq_none (by rw [ZDp]; omega)]
theorem ZEM (hin : ChIn m n lam limit budget) (c : Nat) : ∀ x ∈ tailsOf m c, 0 ≤ x ∧ x ≤ 4000000 := by
  intro x hx
  obtain ⟨k, hk⟩ := List.getElem?_of_mem hx
  have hlt := ZL hk
  rw [ZDp] at hlt
  obtain ⟨row, er, hrl, hrb⟩ := ZDo hin hlt
  rw [ZDr er] at hk; cases hk
  exact ZGO hin hrl hrb c
theorem ZJ1 (hin : ChIn m n lam limit budget) {c : Nat} (hc : c < n) {sums : List Int} (hlen : sums.length = m.length) (hsm : ∀ x ∈ sums, 0 ≤ x ∧ x ≤ lam) : ∀ x ∈ addL sums (QcolOf m c), 0 ≤ x ∧ x ≤ 5000 := by
  intro z hz
  have hl := hin.lam1
  obtain ⟨k, hk⟩ := List.getElem?_of_mem hz
  have hlt := ZL hk
  rw [ZDm (by rw [ZDs, hlen])] at hlt
  obtain ⟨x, hx⟩ := Za5 (xs := sums) (k := k) hlt
  obtain ⟨row, er, hrl, hrb⟩ := ZDo hin (k := k) (by omega)
  obtain ⟨y, ey⟩ := Za5 (xs := row) (k := c) (by omega)
  rw [ZDn hx (by rw [ZDv er, ZD7 ey])] at hk
  cases hk
  have := hrb y (List.mem_of_getElem? ey)
  have := hsm x (List.mem_of_getElem? hx)
  omega
theorem ZHI (hin : ChIn m n lam limit budget) {r c : Nat} (hcn : c + 1 = n - r) (hcl : c < n) {rf : ZDh → Int → Option ZDh} {y0 : ZDh} (hy : y0.qmatrix = m)
    (hrec : ∀ sums ch s, SPre m n lam limit budget sums ch s r → s.count < limit → lowB lam sums (tailsOf m (n - r)) = false → rf (toC m lam limit budget sums (tailsOf m (n - r)) ch s) ((n - r : Nat) : Int) = some (toC m lam limit budget sums (tailsOf m (n - r)) ch (goCh m lam limit budget n r sums ch s)))
    {sums ch : List Int} {s : ChS} {e : Bool} {i : Int} (hlen : sums.length = m.length) (hb : ∀ x ∈ sums, 0 ≤ x ∧ x ≤ 5000) (hch : ch.length + r ≤ n) (hrn : r ≤ n) (hinv : ChInv limit budget s) :
    ZEG rf y0 (c : Int) i (budget - s.nodes) s.full lam limit s.count (tailsOf m (n - r)) s.first e sums ch =
      (let s' := bif highB lam sums then s else onCh limit budget (lowB lam sums (tailsOf m (n - r))) (goCh m lam limit budget n r sums ch) s
       ZDt y0 (c : Int) i e (budget - s'.nodes) s'.full lam limit s'.count (tailsOf m (n - r)) sums ch s'.first) := by
  have hl2 := hin.lam1
  have hb1 := hin.bud1
  have i1 := hinv.n0
  have i2 := hinv.n1
  have i3 := hinv.c0
  have i4 := hinv.c1
  have i5 := hin.lim1
  have hn2 := hin.cnt.2.2.1
  unfold ZEG
  rw [ZGx hin rfl rfl rfl hlen (ZDp m _) hb (ZEM hin _)]
  simp only [Option.bind_some]
  cases hh : highB lam sums
  · cases hlo : lowB lam sums (tailsOf m (n - r))
    · simp only [Bool.or_false, Bool.not_false, cond_true, cond_false, Bool.or_self]
      unfold onCh
      simp only [Bool.false_or]
      cases hct : decide (s.count < limit)
      · have hce : (s.count == limit) = true := by have := of_decide_eq_false hct; simp; omega
        rw [hce]
        simp
      · have hcl' := of_decide_eq_true hct
        have hce : (s.count == limit) = false := by simp; omega
        rw [hce]
        simp only [cond_true]
        cases hf : s.full
        · simp only [Bool.not_false, cond_true, Bool.or_self, cond_false]
          unfold ZFS
          simp only []
          cases hnb : (s.nodes == budget)
          · have hnb' : s.nodes ≠ budget := by simpa using hnb
            have hz : ((budget - s.nodes : Int) == 0) = false := by simp; omega
            rw [hz]
            simp only [cond_false, Option.bind_some, cond_true]
            rw [wr (by omega) (by omega)]
            have hcol : IntKind.i64.wrap ((c : Int) + 1) = ((n - r : Nat) : Int) := by rw [wr (by omega) (by omega)]; omega
            rw [hcol]
            have := hrec sums ch { s with nodes := s.nodes + 1 } ⟨hlen, fun x hx => ⟨(hb x hx).1, ZHn hh x hx⟩, hch, hrn, ⟨hinv.c0, hinv.c1, by show 0 ≤ s.nodes + 1; omega, by show s.nodes + 1 ≤ budget; omega⟩⟩ hcl' hlo
            unfold toC at this
            simp only [hf] at this
            rw [hy, show budget - s.nodes - 1 = budget - (s.nodes + 1) by omega, this]
            rfl
          · have hnb' : s.nodes = budget := by simpa using hnb
            have hz : ((budget - s.nodes : Int) == 0) = true := by simp; omega
            rw [hz]
            simp
        · simp [hf]
    · simp only [Bool.or_true, Bool.not_true, cond_false]
      unfold onCh
      simp
  · simp
theorem ZHG (hin : ChIn m n lam limit budget) : ∀ (r N : Nat), r < N → ∀ sums ch s, SPre m n lam limit budget sums ch s r → s.count < limit → (r = 0 → lowB lam sums (tailsOf m (n - r)) = false) →
    (pn_impl_chooser_search N) (toC m lam limit budget sums (tailsOf m (n - r)) ch s) ((n - r : Nat) : Int) = some (toC m lam limit budget sums (tailsOf m (n - r)) ch (goCh m lam limit budget n r sums ch s))
  | r, 0, hN, _, _, _, _, _, _ => by omega
  | r, N + 1, hN, sums, ch, s, pre, hct, hpos => by
    obtain ⟨row0, e0, hr0, _⟩ := ZDo hin (k := 0) (by have := hin.cnt.1; omega)
    have hcl := pre.cl
    have hrn := pre.rn
    have hn2 := hin.cnt.2.2.1
    have hl2 := hin.lam1
    show q_impl_chooser_search (pn_impl_chooser_search N) _ _ = _
    unfold q_impl_chooser_search
    rw [show gIdx (toC m lam limit budget sums (tailsOf m (n - r)) ch s).qmatrix 0 = some row0 from Zak (k := 0) e0]
    simp only [Option.bind_some]
    cases r with
    | zero =>
      have hc : (((n - 0 : Nat) : Int) == (row0.length : Int)) = true := by rw [hr0]; simp
      rw [hc]
      simp only [cond_true]
      have hb := pre.inv.c0
      have hb1 := hin.lim1
      rw [ZGx hin (sums := sums) (later := tailsOf m (n - 0)) rfl rfl rfl pre.len (ZDp m _) (fun x hx => by have := pre.sm x hx; omega) (ZEM hin _), ZGe fun x hx => (pre.sm x hx).2, hpos rfl]
      simp only [Option.bind_some, Bool.or_self, Bool.not_false, cond_true]
      unfold goCh toC
      simp only []
      cases hz : (s.count == 0)
      · simp only [cond_false]
        unfold ZEm
        simp only []
        rw [wr (by omega) (by omega)]
      · simp only [cond_true]
        rw [ZJT (by omega)]
        simp only [Option.bind_some]
        unfold ZEm
        simp only []
        rw [wr (by omega) (by omega)]
    | succ r =>
      have hc : (((n - (r + 1) : Nat) : Int) == (row0.length : Int)) = false := by rw [hr0]; simp; omega
      rw [hc]
      simp only [cond_false]
      have hlt : n - (r + 1) < n := by omega
      have hcn : n - (r + 1) + 1 = n - r := by omega
      rw [ZEQ hin hlt (f := -1) (xs := (toC m lam limit budget sums (tailsOf m (n - (r + 1))) ch s).qlater) rfl (.inr rfl) (ZDp m _) (fun x hx => by have := ZEM hin _ x hx; omega)]
      simp only [Option.bind_some]
      rw [show (toC m lam limit budget sums (tailsOf m (n - (r + 1))) ch s).qlater = tailsOf m (n - (r + 1)) from rfl, ZHR hlt hin, hcn]
      have hrec : ∀ sums' ch' s', SPre m n lam limit budget sums' ch' s' r → s'.count < limit → lowB lam sums' (tailsOf m (n - r)) = false → (pn_impl_chooser_search N) (toC m lam limit budget sums' (tailsOf m (n - r)) ch' s') ((n - r : Nat) : Int) = some (toC m lam limit budget sums' (tailsOf m (n - r)) ch' (goCh m lam limit budget n r sums' ch' s')) :=
        fun sums' ch' s' p' c' l' => ZHG hin r N (by omega) sums' ch' s' p' c' fun _ => l'
      generalize hnx : addL sums (QcolOf m (n - (r + 1))) = nx
      have hnxl : nx.length = m.length := by rw [← hnx, ZDm (by rw [ZDs, pre.len]), pre.len]
      have hnxb : ∀ x ∈ nx, 0 ≤ x ∧ x ≤ 5000 := by rw [← hnx]; exact ZJ1 hin hlt pre.len pre.sm
      generalize hs1 : (bif highB lam nx then s else onCh limit budget (lowB lam nx (tailsOf m (n - r))) (goCh m lam limit budget n r nx (ch ++ [((n - (r + 1) : Nat) : Int)])) s) = s1
      have hi1 : ChInv limit budget s1 := by
        rw [← hs1]
        cases highB lam nx
        · exact ZFx pre.inv fun s hs hc => ZED r _ _ s hs hc
        · exact pre.inv
      generalize hs2 : onCh limit budget (lowB lam sums (tailsOf m (n - r))) (goCh m lam limit budget n r sums ch) s1 = s2
      have hgo : goCh m lam limit budget n (r + 1) sums ch s = s2 := by
        unfold goCh
        simp only []
        rw [hnx, hs1, hs2]
      rw [hgo]
      -- the first round
      have r0 : ZDz (pn_impl_chooser_search N) (toC m lam limit budget sums (tailsOf m (n - (r + 1))) ch s) ((n - (r + 1) : Nat) : Int) (0, budget - s.nodes, s.full, lam, limit, s.count, tailsOf m (n - r), sums, ch, s.first) =
          some (.inl (1, budget - s1.nodes, s1.full, lam, limit, s1.count, tailsOf m (n - r), sums, ch, s1.first)) := by
        rw [ZDz]
        have h0 : decide ((0 : Int) < (([true, false] : List Bool).length : Int)) = true := by decide
        rw [h0, show gIdx ([true, false] : List Bool) 0 = some true from rfl]
        simp only [cond_true, Option.bind_some]
        rw [ZEQ hin hlt (f := 1) rfl (.inl rfl) pre.len (fun x hx => by have := pre.sm x hx; omega)]
        simp only [Option.bind_some]
        rw [ZHc, hnx, ZEp (by simp only [List.length_singleton]; omega) (by simp only [List.length_singleton]; omega)]
        simp only [Option.bind_some]
        rw [ZHI hin hcn hlt rfl hrec hnxl hnxb (by rw [List.length_append, List.length_singleton]; omega) (by omega) pre.inv]
        rw [hs1]
        simp only []
        unfold ZDt
        simp only [cond_true]
        rw [ZEQ hin hlt (f := -1) rfl (.inr rfl) hnxl (fun x hx => by have := hnxb x hx; omega)]
        simp only [Option.bind_some]
        have hcut : gSl (ch ++ [((n - (r + 1) : Nat) : Int)]) 0 (IntKind.i64.wrap (((ch ++ [((n - (r + 1) : Nat) : Int)]).length : Int) - 1)) = some ch := by
          have hlc : ((ch ++ [((n - (r + 1) : Nat) : Int)]).length : Int) = (ch.length : Int) + 1 := by rw [List.length_append, List.length_singleton]; omega
          rw [hlc, wr (by omega) (by omega)]
          unfold gSl
          rw [if_pos ⟨by omega, by omega, by rw [hlc]; omega⟩, show ((ch.length : Int) + 1 - 1).toNat = ch.length by omega]
          simp
        rw [hcut]
        simp only [Option.bind_some]
        rw [← hnx, ← ZHc sums, ZKu (by rw [ZDs, pre.len])]
        rfl
      -- the second
      have r1 : ZDz (pn_impl_chooser_search N) (toC m lam limit budget sums (tailsOf m (n - (r + 1))) ch s) ((n - (r + 1) : Nat) : Int) (1, budget - s1.nodes, s1.full, lam, limit, s1.count, tailsOf m (n - r), sums, ch, s1.first) =
          some (.inl (2, budget - s2.nodes, s2.full, lam, limit, s2.count, tailsOf m (n - r), sums, ch, s2.first)) := by
        rw [ZDz]
        have h0 : decide ((1 : Int) < (([true, false] : List Bool).length : Int)) = true := by decide
        rw [h0, show gIdx ([true, false] : List Bool) 1 = some false from rfl]
        simp only [cond_true, cond_false, Option.bind_some]
        rw [ZHI hin hcn hlt rfl hrec pre.len (fun x hx => by have := pre.sm x hx; omega) (by omega) (by omega) hi1]
        rw [ZGe fun x hx => (pre.sm x hx).2]
        simp only [cond_false]
        rw [hs2]
        unfold ZDt
        simp only [cond_false]
        rfl
      have r2 : ZDz (pn_impl_chooser_search N) (toC m lam limit budget sums (tailsOf m (n - (r + 1))) ch s) ((n - (r + 1) : Nat) : Int) (2, budget - s2.nodes, s2.full, lam, limit, s2.count, tailsOf m (n - r), sums, ch, s2.first) =
          some (.inr (toC m lam limit budget sums (tailsOf m (n - (r + 1))) ch s2)) := by
        rw [ZDz]
        have h0 : decide ((2 : Int) < (([true, false] : List Bool).length : Int)) = false := by decide
        rw [h0]
        simp only [cond_false]
        rw [← hcn, ZEQ hin hlt (f := 1) rfl (.inl rfl) (ZDp m _) (fun x hx => by have := ZEM hin _ x hx; omega)]
        simp only [Option.bind_some]
        rw [ZKM hlt hin]
        rfl
      show loop _ (0, budget - s.nodes, s.full, lam, limit, s.count, tailsOf m (n - r), sums, ch, s.first) = _
      rw [ZG r0, ZG r1, Zd r2]
end
theorem ZHy {x a b : Int} : ZY x a b = some (decide (a ≤ x ∧ x ≤ b)) := by
  unfold ZY
  by_cases h1 : x ≥ a
  · rw [bif_t h1]; by_cases h2 : x ≤ b <;> simp [h1, h2] <;> omega
  · rw [bif_f h1]; simp; omega
theorem ZFF {x a b : Int} : Z0 x a b = some (decide (a ≤ x ∧ x ≤ b)) := by
  unfold Z0
  by_cases h1 : x ≥ a
  · rw [bif_t h1]; by_cases h2 : x ≤ b <;> simp [h1, h2] <;> omega
  · rw [bif_f h1]; simp; omega
theorem ZEE {x : Int} : ZEL x = some (decide (1 ≤ x ∧ x ≤ 20000)) := by unfold ZEL; rw [ZHy]; rfl
theorem ZDG {x : Int} : ZEs x = some (decide (1 ≤ x ∧ x ≤ 20000)) := by unfold ZEs; rw [ZFF]; rfl
theorem ZGz {x : Int} : ZE5 x = some (decide (1 ≤ x ∧ x ≤ 2000)) := by unfold ZE5; rw [ZHy]; rfl
theorem ZH1 {x : Int} : ZE3 x = some (decide (1 ≤ x ∧ x ≤ 2000)) := by unfold ZE3; rw [ZFF]; rfl
def Counts (m : R2) : Prop := ∃ n, CountsN m n
theorem ZIb {n : Int} {l : List Int} (h : OkL I64 l) (h1 : 1 ≤ n) (h2 : n ≤ 100000) : IsQ (Zg4 n l) (∀ x ∈ l, 0 ≤ x ∧ x ≤ n - 1) := by
  unfold Zg4 Zap
  unfold ZeW
  have hc := Zmw (xs := l) (B := Zcr l (fun y0 => Zcd y0 n)) (f := fun y0 => Zcd y0 n) (q := fun x => ¬ (0 ≤ x ∧ x ≤ n - 1)) h.1 (fun x hx => by
    unfold Zcd
    rw [ZFF, wr (by omega) (by omega)]
    exact IsQ.not ⟨_, rfl, by simp⟩) (fun k x ex => by
    rw [Zcr, lt_t (ZL ex), Zak ex]
    simp only [cond_true, Option.bind_some]) (by rw [Zcr, lt_f]; rfl)
  exact hc.not.congr ⟨fun hn x hx => Classical.byContradiction fun hh => hn ⟨x, hx, hh⟩, fun ha ⟨x, hx, hh⟩ => hh (ha x hx)⟩
theorem ZHj {m : R2} (h : OkL (OkL I64) m) : IsQ (ZFh m) (Counts m) := by
  unfold ZFh
  rw [show Z2 m = some (m.length : Int) from rfl]
  simp only [Option.bind_some]
  rw [ZFF]
  simp only [Option.bind_some]
  by_cases h1 : 1 ≤ (m.length : Int) ∧ (m.length : Int) ≤ 2000
  · rw [decide_eq_true h1]
    simp only [Bool.not_true, cond_false]
    obtain ⟨r0, e0⟩ := Za5 (xs := m) (k := 0) (by omega)
    rw [show gIdx m 0 = some r0 from Zak (k := 0) e0]
    simp only [Option.bind_some]
    by_cases h2 : (r0.length : Int) > 2000
    · rw [bif_t h2]; exact IsQ.f fun ⟨n, hn⟩ => by have := hn.2.2.1; have := (hn.2.2.2 r0 (List.mem_of_getElem? e0)).1; omega
    rw [bif_f h2]
    unfold ZFT Zdi ZdU
    have hc := Zmw (xs := m) (B := Zbh m (fun y0 => ZEt y0 m)) (f := fun y0 => ZEt y0 m) (q := fun r => ¬ (r.length = r0.length ∧ ∀ x ∈ r, 0 ≤ x ∧ x ≤ 2000)) h.1 (fun r hr => by
      unfold ZEt
      rw [show gIdx m 0 = some r0 from Zak (k := 0) e0]
      simp only [Option.bind_some]
      by_cases g1 : r.length = r0.length
      · have : (((r.length : Int) : Int) != (r0.length : Int)) = false := by simp [g1]
        rw [this]
        simp only [cond_false]
        exact (ZIb (h.2 r hr) (by omega) (by omega)).not.congr ⟨fun hn ha => hn ha.2, fun hn ha => hn ⟨g1, ha⟩⟩
      · have : (((r.length : Int) : Int) != (r0.length : Int)) = true := by simp; omega
        rw [this]
        exact IsQ.t fun ha => g1 ha.1) (fun k x ex => by
      rw [Zbh, lt_t (ZL ex), Zak ex]
      simp only [cond_true, Option.bind_some]) (by rw [Zbh, lt_f]; rfl)
    refine hc.not.congr ⟨fun hn => ?_, fun ⟨n, hn⟩ ⟨r, hr, hh⟩ => hh ?_⟩
    · have ha : ∀ r ∈ m, r.length = r0.length ∧ ∀ x ∈ r, 0 ≤ x ∧ x ≤ 2000 := fun r hr => Classical.byContradiction fun hh => hn ⟨r, hr, hh⟩
      exact ⟨r0.length, by omega, by omega, by omega, ha⟩
    · have a1 := hn.2.2.2 r hr
      have a2 := hn.2.2.2 r0 (List.mem_of_getElem? e0)
      exact ⟨by omega, a1.2⟩
  · rw [decide_eq_false h1]
    exact IsQ.f fun ⟨n, hn⟩ => h1 ⟨by have := hn.1; omega, by have := hn.2.1; omega⟩
theorem ZHU {m : R2} {lam limit budget : Int} {n : Nat} : ∀ (r : Nat) (sums ch : List Int) (s : ChS), ChInv limit budget s → s.count < limit → s.full = false → ((goCh m lam limit budget n r sums ch s).full = true → (goCh m lam limit budget n r sums ch s).count < limit)
  | 0, _, _, s, _, _, hf => fun h => by
    unfold goCh at h
    simp only [] at h
    rw [hf] at h; cases h
  | r + 1, sums, ch, s, hs, hc, hf => by
    have on : ∀ (low : Bool) (sums' ch' : List Int) (s' : ChS), ChInv limit budget s' → (s'.full = true → s'.count < limit) → ((onCh limit budget low (goCh m lam limit budget n r sums' ch') s').full = true → (onCh limit budget low (goCh m lam limit budget n r sums' ch') s').count < limit) := by
      intro low sums' ch' s' hi hfl
      unfold onCh
      cases h1 : (low || s'.full || s'.count == limit)
      · simp only [Bool.or_eq_false_iff, beq_eq_false_iff_ne, ne_eq] at h1
        have hc1 := hi.c1
        cases h2 : (s'.nodes == budget)
        · simp only [beq_eq_false_iff_ne, ne_eq] at h2
          have a := hi.n0
          have b := hi.n1
          exact ZHU r sums' ch' _ ⟨hi.c0, hi.c1, by show 0 ≤ s'.nodes + 1; omega, by show s'.nodes + 1 ≤ budget; omega⟩ (by show s'.count < limit; omega) h1.1.2
        · intro _; show s'.count < limit; omega
      · exact hfl
    unfold goCh
    simp only []
    refine on _ _ _ _ ?_ ?_
    · cases highB lam (addL sums (QcolOf m (n - (r + 1))))
      · exact ZFx hs fun s hs hc => ZED r _ _ s hs hc
      · exact hs
    · cases highB lam (addL sums (QcolOf m (n - (r + 1))))
      · exact on _ _ _ _ hs fun h => by rw [hf] at h; cases h
      · exact fun h => by simp only [cond_true] at h; rw [hf] at h; cases h
section
variable {m : R2} {n : Nat} {lam limit budget : Int}
def s0 : ChS := ⟨0, false, 0, []⟩
def zeros (m : R2) : List Int := List.replicate m.length 0
def reach (m : R2) (lam : Int) : Bool := !lowB lam (zeros m) (tailsOf m 0)
def sEnd (m : R2) (n : Nat) (lam limit budget : Int) : ChS := bif reach m lam then goCh m lam limit budget n n (zeros m) [] s0 else s0
theorem ZEU {m : R2} {k : Nat} (h : k < m.length) : (zeros m)[k]? = some 0 := by unfold zeros; rw [List.getElem?_replicate, if_pos h]
theorem ZKc (r : List Int) : (tailRow r).length = r.length + 1 := by unfold tailRow; simp
theorem ZJE (hin : ChIn m n lam limit budget) {y10 : Bool} {xs : R2} {i : Nat} {row : List Int} (er : m[i]? = some row) (hrl : row.length = n) (hrb : ∀ x ∈ row, 0 ≤ x ∧ x ≤ 2000) :
    loop (ZDP m lam y10 (i : Int) xs) (((n : Int) - 1), List.replicate (n + 1) 0) = loop (ZDP m lam y10 (i : Int) xs) (-1, tailRow row) := by
  have hn2 := hin.cnt.2.2.1
  have htl := ZKc row
  let f : Nat → Int × List Int := fun k => ((n : Int) - 1 - k, List.replicate (n - k) 0 ++ (tailRow row).drop (n - k))
  have h0 : f 0 = ((n : Int) - 1, List.replicate (n + 1) 0) := by
    simp only [f, Nat.sub_zero]
    have hlast : (tailRow row).drop n = [0] := by
      rw [List.drop_eq_getElem_cons (by omega), List.drop_of_length_le (by omega)]
      have h1 := List.getElem?_eq_getElem (l := tailRow row) (i := n) (by omega)
      rw [ZEV (by omega), List.drop_of_length_le (by omega)] at h1
      rw [← Option.some.inj h1]; rfl
    rw [hlast, show n + 1 = n + 1 from rfl, List.replicate_succ']
    simp
  have h1 : f n = (-1, tailRow row) := by simp only [f, Nat.sub_self, List.replicate_zero, List.drop_zero, List.nil_append]; congr 1; omega
  rw [← h0, ← h1]
  refine Zd7 f n fun k hk => ?_
  simp only [f]
  have hj : ((n : Int) - 1 - k) = ((n - 1 - k : Nat) : Int) := by omega
  rw [hj]
  obtain ⟨y, ey⟩ := Za5 (xs := row) (k := n - 1 - k) (by omega)
  have hyb := hrb y (List.mem_of_getElem? ey)
  have hdb := ZGO hin hrl hrb (n - k)
  have hg1 : (List.replicate (n - k) (0 : Int) ++ (tailRow row).drop (n - k))[n - k]? = some (row.drop (n - k)).sum := by
    rw [List.getElem?_append_right (by simp), List.length_replicate, Nat.sub_self, List.getElem?_drop, Nat.add_zero, ZEV (by omega)]
  have hg2 : (List.replicate (n - k) (0 : Int) ++ (tailRow row).drop (n - k))[n - 1 - k]? = some 0 := by
    rw [List.getElem?_append_left (by rw [List.length_replicate]; omega), List.getElem?_replicate, if_pos (by omega)]
  rw [ZDP]
  have hge : decide (((n - 1 - k : Nat) : Int) ≥ 0) = true := by simp
  rw [hge, show IntKind.i64.wrap (((n - 1 - k : Nat) : Int) + 1) = ((n - k : Nat) : Int) by rw [wr (by omega) (by omega)]; omega, Zak hg1, Zak er]
  simp only [cond_true, Option.bind_some]
  rw [Zak ey, Zak hg2]
  simp only [Option.bind_some]
  rw [wr (by omega) (by omega), wr (by omega) (by omega), Int.toNat_natCast]
  have hd : row.drop (n - 1 - k) = y :: row.drop (n - k) := by
    rw [List.drop_eq_getElem_cons (by omega), show n - 1 - k + 1 = n - k by omega]
    congr 1
    have := List.getElem?_eq_getElem (l := row) (i := n - 1 - k) (by omega)
    rw [ey] at this; exact (Option.some.inj this).symm
  have hset : (List.replicate (n - k) (0 : Int) ++ (tailRow row).drop (n - k)).set (n - 1 - k) ((row.drop (n - k)).sum + y) = List.replicate (n - (k + 1)) 0 ++ (tailRow row).drop (n - (k + 1)) := by
    rw [show n - k = (n - (k + 1)) + 1 by omega, List.replicate_succ', List.append_assoc, List.set_append, if_neg (by rw [List.length_replicate]; omega), List.length_replicate, show n - 1 - k - (n - (k + 1)) = 0 by omega]
    rw [show n - (k + 1) + 1 = n - k by omega]
    have ht : (tailRow row).drop (n - (k + 1)) = (row.drop (n - (k + 1))).sum :: (tailRow row).drop (n - k) := by
      rw [List.drop_eq_getElem_cons (by omega), show n - (k + 1) + 1 = n - k by omega]
      congr 1
      have h1 := List.getElem?_eq_getElem (l := tailRow row) (i := n - (k + 1)) (by omega)
      rw [ZEV (by omega)] at h1
      exact (Option.some.inj h1).symm
    rw [ht, show n - (k + 1) = n - 1 - k by omega, hd, List.sum_cons]
    simp; omega
  rw [hset]
  congr 3
  omega
theorem ZKJ (hin : ChIn m n lam limit budget) : ∃ ch later, ZFc m lam limit budget = some (ZDg.mk m later lam ch (sEnd m n lam limit budget).first (sEnd m n lam limit budget).count limit (sEnd m n lam limit budget).nodes budget (sEnd m n lam limit budget).full) := by
  have hm2 := hin.cnt.2.1
  have hn2 := hin.cnt.2.2.1
  have hl1 := hin.lam0
  unfold ZFc
  let f : Nat → Bool × Int × R2 := fun k => (!((m.take k).any fun r => decide (r.sum < lam)), (k : Int), (m.take k).map tailRow)
  have h0 : f 0 = (true, 0, []) := by simp [f]
  have h1 : f m.length = (!(m.any fun r => decide (r.sum < lam)), (m.length : Int), m.map tailRow) := by simp only [f]; rw [List.take_length]
  rw [← h0, Zd7 f m.length fun k hk => ?_, h1]
  · have hre : (!(m.any fun r => decide (r.sum < lam))) = reach m lam := by
      unfold reach
      congr 1
      cases hb : lowB lam (zeros m) (tailsOf m 0)
      · rw [List.any_eq_false]
        intro r hr
        obtain ⟨k, hk⟩ := List.getElem?_of_mem hr
        have := ZJ6 hb (ZEU (ZL hk)) (ZDr (c := 0) hk)
        rw [List.drop_zero] at this
        simp; omega
      · rw [List.any_eq_true]
        unfold lowB at hb
        rw [List.any_eq_true] at hb
        obtain ⟨z, hz, hzl⟩ := hb
        obtain ⟨k, hk⟩ := List.getElem?_of_mem hz
        have hlt := ZL hk
        rw [ZDm (by rw [ZDp]; unfold zeros; simp)] at hlt
        unfold zeros at hlt
        rw [List.length_replicate] at hlt
        obtain ⟨r, hr⟩ := Za5 hlt
        rw [ZDn (ZEU hlt) (ZDr (c := 0) hr), List.drop_zero] at hk
        cases hk
        exact ⟨r, List.mem_of_getElem? hr, by simpa using hzl⟩
    rw [hre]
    unfold sEnd
    cases hr : reach m lam
    · refine ⟨[], m.map tailRow, Zd ?_⟩
      rw [ZEy, lt_f]; rfl
    · refine ⟨[], m.map tailRow, Zd ?_⟩
      rw [ZEy, lt_f]
      simp only [cond_false, cond_true]
      rw [Zgh (by omega) (by omega)]
      simp only [Option.bind_some]
      have hrun := ZHN hin n fuel (by unfold fuel; omega) (zeros m) [] s0 ⟨by unfold zeros; simp, fun x hx => by unfold zeros at hx; rw [List.mem_replicate] at hx; omega, by simp, Nat.le_refl _, ⟨by show (0 : Int) ≤ 0; omega, by show (0 : Int) ≤ limit; have := hin.lim0; omega, by show (0 : Int) ≤ 0; omega, by show (0 : Int) ≤ budget; have := hin.bud0; omega⟩⟩ (by show (0 : Int) < limit; have := hin.lim0; omega)
      rw [Nat.sub_self] at hrun
      have hrun' : ZGu (ZDg.mk m (m.map tailRow) lam [] [] 0 limit 0 budget false) (List.replicate m.length 0) 0 = _ := hrun
      rw [hrun']
      rfl
  · obtain ⟨row, er, hrl, hrb⟩ := ZDo hin hk
    simp only [f]
    rw [ZEy, lt_t hk, Zak er]
    simp only [cond_true, Option.bind_some]
    rw [hrl, show IntKind.i64.wrap ((n : Int) + 1) = ((n + 1 : Nat) : Int) by rw [wr (by omega) (by omega)]; omega, Zgh (by omega) (by omega)]
    simp only [Option.bind_some]
    rw [show IntKind.i64.wrap ((n : Int) - 1) = (n : Int) - 1 from wr (by omega) (by omega), ZJE hin er hrl hrb]
    refine Zd ?_
    rw [ZDP]
    have hge : decide ((-1 : Int) ≥ 0) = false := by decide
    rw [hge]
    simp only [cond_false]
    have hlk : ((m.take k).map tailRow).length ≤ 2000 := by rw [List.length_map, List.length_take]; omega
    rw [ZEp (by simp only [List.length_singleton]; omega) (by simp only [List.length_singleton]; omega)]
    simp only [Option.bind_some]
    rw [show gIdx (tailRow row) 0 = some row.sum from Zak (k := 0) (by rw [ZEV (by omega)]; rfl)]
    simp only [Option.bind_some]
    have htk : m.take (k + 1) = m.take k ++ [row] := by rw [List.take_add_one, er]; rfl
    rw [htk, List.map_append, List.any_append, wrapN hk (by unfold M63; omega)]
    cases hd : decide (row.sum < lam) <;> simp [hd]
theorem ZKk (hin : ChIn m n lam limit budget) : ∃ sums later ch, ZE9 m lam limit budget = some (ZDh.mk (ZDi.mk (budget - (sEnd m n lam limit budget).nodes) (sEnd m n lam limit budget).full) m lam limit sums later ch (sEnd m n lam limit budget).count (sEnd m n lam limit budget).first) := by
  have hm2 := hin.cnt.2.1
  have hn2 := hin.cnt.2.2.1
  have hl0 := hin.lam0
  have hl1 := hin.lam1
  obtain ⟨row0, e0, hr0, _⟩ := ZDo hin (k := 0) (by have := hin.cnt.1; omega)
  unfold ZE9
  rw [Zgh (by omega) (by omega)]
  simp only [Option.bind_some]
  rw [show gIdx m 0 = some row0 from Zak (k := 0) e0]
  simp only [Option.bind_some]
  let f : Nat → Int × List Int := fun k => ((k : Int), m.map fun r => (r.take k).sum)
  have h0 : f 0 = (0, List.replicate m.length 0) := by
    simp only [f, List.take_zero, List.sum_nil]
    rw [List.map_const']; rfl
  have hend : (m.map fun r => (r.take n).sum) = tailsOf m 0 := by
    unfold tailsOf
    refine List.map_congr_left fun r hr => ?_
    rw [List.take_of_length_le (by have := (hin.cnt.2.2.2 r hr).1; omega), List.drop_zero]
  have h1 : f n = ((row0.length : Int), tailsOf m 0) := by simp only [f]; rw [hend, hr0]
  rw [← h0, Zd7 f n fun k hk => ?_, h1]
  · have hz : (List.replicate m.length (0 : Int)) = zeros m := rfl
    have inv0 : ChInv limit budget s0 := ⟨by show (0 : Int) ≤ 0; omega, by show (0 : Int) ≤ limit; have := hin.lim0; omega, by show (0 : Int) ≤ 0; omega, by show (0 : Int) ≤ budget; have := hin.bud0; omega⟩
    have pre0 : SPre m n lam limit budget (zeros m) [] s0 n := ⟨by unfold zeros; simp, fun x hx => by unfold zeros at hx; rw [List.mem_replicate] at hx; omega, by simp, Nat.le_refl _, inv0⟩
    have hsearch : ZEK (toC m lam limit budget (zeros m) (tailsOf m 0) [] s0) 0 = some (toC m lam limit budget (zeros m) (tailsOf m 0) [] (sEnd m n lam limit budget)) := by
      by_cases hcase : n = 0 ∧ lowB lam (zeros m) (tailsOf m 0) = true
      · -- no columns: nothing is found
        obtain ⟨hn, hlow⟩ := hcase
        have hr : reach m lam = false := by unfold reach; rw [hlow]; rfl
        unfold sEnd
        rw [hr]
        simp only [cond_false]
        show q_impl_chooser_search (pn_impl_chooser_search 999999) _ _ = _
        unfold q_impl_chooser_search
        rw [show gIdx (toC m lam limit budget (zeros m) (tailsOf m 0) [] s0).qmatrix 0 = some row0 from Zak (k := 0) e0]
        simp only [Option.bind_some]
        have hc : ((0 : Int) == (row0.length : Int)) = true := by rw [hr0, hn]; rfl
        rw [hc]
        simp only [cond_true]
        rw [ZGx hin (sums := zeros m) (later := tailsOf m 0) rfl rfl rfl pre0.len (ZDp m _) (fun x hx => by have := pre0.sm x hx; omega) (ZEM hin _), hlow]
        simp only [Option.bind_some, Bool.or_true, Bool.not_true, cond_false]
        first | rfl | done
      · have hsr := ZHG hin n fuel (by unfold fuel; omega) (zeros m) [] s0 pre0 (by show (0 : Int) < limit; have := hin.lim0; omega) (fun hn => by
          rw [Nat.sub_self]
          cases hb : lowB lam (zeros m) (tailsOf m 0)
          · rfl
          · exact absurd ⟨hn, hb⟩ hcase)
        rw [Nat.sub_self] at hsr
        rw [show ZEK _ (0 : Int) = _ from hsr]
        unfold sEnd
        cases hr : reach m lam
        · -- out of reach: neither half is visited
          have hlow : lowB lam (zeros m) (tailsOf m 0) = true := by
            unfold reach at hr; simpa using hr
          have hgo : goCh m lam limit budget n n (zeros m) [] s0 = s0 := by
            cases n with
            | zero => exact absurd ⟨rfl, hlow⟩ hcase
            | succ r =>
              have hlt : 0 < r + 1 := by omega
              unfold goCh
              simp only [Nat.sub_self, Nat.add_sub_cancel_left]
              obtain ⟨z, hz', hzl⟩ := List.any_eq_true.1 hlow
              obtain ⟨k, hk⟩ := List.getElem?_of_mem hz'
              have hlt2 := ZL hk
              rw [ZDm (by rw [ZDp]; unfold zeros; simp)] at hlt2
              unfold zeros at hlt2
              rw [List.length_replicate] at hlt2
              obtain ⟨row, er, hrl, hrb⟩ := ZDo hin hlt2
              rw [ZDn (ZEU hlt2) (ZDr (c := 0) er)] at hk
              cases hk
              have hzl' : 0 + (row.drop 0).sum < lam := by simpa using hzl
              obtain ⟨y, ey⟩ := Za5 (xs := row) (k := 0) (by omega)
              have hyb := hrb y (List.mem_of_getElem? ey)
              have hd : row.drop 0 = y :: row.drop 1 := by
                rw [List.drop_eq_getElem_cons (by omega)]
                congr 1
                have := List.getElem?_eq_getElem (l := row) (i := 0) (by omega)
                rw [ey] at this; exact (Option.some.inj this).symm
              rw [hd, List.sum_cons] at hzl'
              have l1 : lowB lam (zeros m) (tailsOf m 1) = true := by
                exact ZFz (ZEU hlt2) (ZDr (c := 1) er) (by omega)
              have l2 : lowB lam (addL (zeros m) (QcolOf m 0)) (tailsOf m 1) = true := by
                exact ZFz (ZDn (ZEU hlt2) (by rw [ZDv er, ZD7 ey])) (ZDr (c := 1) er) (by omega)
              rw [l1, l2]
              have hon : ∀ f s, onCh limit budget true f s = s := fun f s => by unfold onCh; simp
              rw [hon, hon]
              cases highB lam (addL (zeros m) (QcolOf m 0)) <;> rfl
          rw [hgo]; rfl
        · rfl
    refine ⟨zeros m, tailsOf m 0, [], Zd ?_⟩
    rw [ZEc, lt_f]
    simp only [cond_false]
    rw [hz]
    have : budget - s0.nodes = budget := by show budget - 0 = budget; omega
    unfold toC at hsearch
    rw [this] at hsearch
    rw [show ZEK (ZDh.mk (ZDi.mk budget false) m lam limit (zeros m) (tailsOf m 0) [] 0 []) 0 = _ from hsearch]
    rfl
  · simp only [f]
    rw [ZEc, show decide ((k : Int) < (row0.length : Int)) = true by simp; omega]
    simp only [cond_true]
    rw [ZEQ hin hk (f := 1) rfl (.inl rfl) (by simp) (fun x hx => by
      obtain ⟨r, hr, rfl⟩ := List.mem_map.1 hx
      have hb := hin.cnt.2.2.2 r hr
      have h1 := ZF7 (r.take k) fun y hy => hb.2 y (List.mem_of_mem_take hy)
      have h2 : (r.take k).length ≤ 2000 := by rw [List.length_take]; omega
      omega)]
    simp only [Option.bind_some]
    rw [ZHc, wrapN hk (by unfold M63; omega)]
    have : addL (m.map fun r => (r.take k).sum) (QcolOf m k) = m.map fun r => (r.take (k + 1)).sum := by
      apply List.ext_getElem?
      intro i
      by_cases hi : i < m.length
      · obtain ⟨row, er, hrl, _⟩ := ZDo hin hi
        obtain ⟨y, ey⟩ := Za5 (xs := row) (k := k) (by omega)
        rw [ZDn (show (m.map fun r => (r.take k).sum)[i]? = some (row.take k).sum by rw [List.getElem?_map, er]; rfl) (by rw [ZDv er, ZD7 ey]), List.getElem?_map, er]
        simp only [Option.map_some]
        rw [List.take_add_one, ey, List.sum_append]; simp
      · rw [List.getElem?_eq_none (by rw [ZDm (by rw [ZDs, List.length_map]), List.length_map]; omega), List.getElem?_eq_none (by rw [List.length_map]; omega)]
    rw [this]
end
theorem ZHz {m : R2} {lam limit budget : Int} {n : Nat} : ∀ (r : Nat) (sums ch : List Int) (s : ChS), r ≤ n → ch.length + r ≤ n → s.first.length ≤ n → (goCh m lam limit budget n r sums ch s).first.length ≤ n
  | 0, _, ch, s, _, hc, hf => by
    unfold goCh
    simp only []
    cases (s.count == 0)
    · exact hf
    · simp only [cond_true]; omega
  | r + 1, sums, ch, s, hr, hc, hf => by
    have on : ∀ (low : Bool) (sums' ch' : List Int) (s' : ChS), ch'.length + r ≤ n → s'.first.length ≤ n → (onCh limit budget low (goCh m lam limit budget n r sums' ch') s').first.length ≤ n := by
      intro low sums' ch' s' hc' hf'
      unfold onCh
      cases (low || s'.full || s'.count == limit)
      · cases (s'.nodes == budget)
        · exact ZHz r sums' ch' _ (by omega) hc' hf'
        · exact hf'
      · exact hf'
    unfold goCh
    simp only []
    refine on _ _ _ _ (by omega) ?_
    cases highB lam (addL sums (QcolOf m (n - (r + 1))))
    · exact on _ _ _ _ (by rw [List.length_append, List.length_singleton]; omega) hf
    · exact hf
theorem ZIx {m : R2} {lam budget : Int} (h : OkL (OkL I64) m) (hc : Counts m) (h1 : 1 ≤ budget ∧ budget ≤ 20000) (h2 : 1 ≤ lam ∧ lam ≤ 2000) : ∃ r, ZEX m lam budget = some r ∧ ZDY m lam budget = some r ∧ r.1.length ≤ 2000 := by
  obtain ⟨n, hn⟩ := id hc
  have hin : ChIn m n lam 1 budget := ⟨hn, h2.1, h2.2, by omega, by omega, h1.1, h1.2⟩
  obtain ⟨ch, later, e1⟩ := ZKJ hin
  obtain ⟨sums, later', ch', e2⟩ := ZKk hin
  unfold ZEX ZDY ZF0
  rw [(ZHj h).eq hc, ZDG, ZH1, decide_eq_true h1, decide_eq_true h2]
  simp only [Option.bind_some, Bool.not_true, cond_false]
  rw [e1, e2]
  simp only [Option.bind_some]
  have inv0 : ChInv 1 budget s0 := ⟨by show (0 : Int) ≤ 0; omega, by show (0 : Int) ≤ 1; omega, by show (0 : Int) ≤ 0; omega, by show (0 : Int) ≤ budget; omega⟩
  have hfl : (sEnd m n lam 1 budget).full = true → (sEnd m n lam 1 budget).count < 1 := by
    unfold sEnd
    cases reach m lam
    · intro hh; cases hh
    · exact ZHU n _ _ s0 inv0 (by show (0 : Int) < 1; omega) rfl
  have hinv : ChInv 1 budget (sEnd m n lam 1 budget) := by
    unfold sEnd
    cases reach m lam
    · exact inv0
    · exact ZED n _ _ s0 inv0 (by show (0 : Int) < 1; omega)
  have hlen : (sEnd m n lam 1 budget).first.length ≤ n := by
    unfold sEnd
    cases reach m lam
    · exact Nat.zero_le _
    · exact ZHz n _ _ s0 (Nat.le_refl _) (by simp) (Nat.zero_le _)
  have hn2 := hn.2.2.1
  have c0 := hinv.c0
  cases hf : (sEnd m n lam 1 budget).full
  · by_cases hz : (sEnd m n lam 1 budget).count = 0
    · refine ⟨([], 3), ?_, ?_, by simp⟩
      · rw [hz]; rfl
      · have : ((sEnd m n lam 1 budget).count == 0) = true := by simpa using hz
        simp only [cond_false]
        rw [this]; rfl
    · refine ⟨((sEnd m n lam 1 budget).first, 0), ?_, ?_, by show (sEnd m n lam 1 budget).first.length ≤ 2000; omega⟩
      · rw [decide_eq_true (show (sEnd m n lam 1 budget).count > 0 by omega)]; rfl
      · have : ((sEnd m n lam 1 budget).count == 0) = false := by simpa using hz
        simp only [cond_false]
        rw [this]; rfl
  · have hlt := hfl hf
    refine ⟨([], 5), ?_, rfl, by simp⟩
    rw [decide_eq_false (show ¬ (sEnd m n lam 1 budget).count > 0 by omega)]; rfl
end Go.Proofs.YtapkemdomnkccaaGreat
