/- The search for choices of columns: the reference's and the program's search in plain terms. -/
import Derived.Test.YtieehpcgmjbceaaPuFam
import Derived.Test.YtieehpcgmjbceaaPuChoice
namespace Go.Proofs.Ytieehpcgmjbceaa
open Go Go.Vc
set_option linter.unusedSimpArgs false
set_option linter.unusedVariables false

abbrev R2 := List (List Int)
def CountsN (m : R2) (n : Nat) : Prop := 1 ≤ m.length ∧ m.length ≤ 2000 ∧ n ≤ 2000 ∧ ∀ r ∈ m, r.length = n ∧ ∀ x ∈ r, 0 ≤ x ∧ x ≤ 2000
def tailRow (r : List Int) : List Int := (List.range (r.length + 1)).map fun c => (r.drop c).sum
structure ChIn (m : R2) (n : Nat) (lam limit budget : Int) : Prop where
  cnt : CountsN m n
  lam0 : 1 ≤ lam
  lam1 : lam ≤ 2000
  lim0 : 1 ≤ limit
  lim1 : limit ≤ 1000
  bud0 : 1 ≤ budget
  bud1 : budget ≤ 20000
structure ChInv (limit budget : Int) (s : ChS) : Prop where
  c0 : 0 ≤ s.count
  c1 : s.count ≤ limit
  n0 : 0 ≤ s.nodes
  n1 : s.nodes ≤ budget

theorem onCh_inv {limit budget : Int} {low : Bool} {f : ChS → ChS} {s : ChS} (hs : ChInv limit budget s) (hf : ∀ s, ChInv limit budget s → s.count < limit → ChInv limit budget (f s)) : ChInv limit budget (onCh limit budget low f s) := by
  unfold onCh
  cases h1 : (low || s.full || s.count == limit)
  · simp only [Bool.or_eq_false_iff, beq_eq_false_iff_ne, ne_eq] at h1
    have hc := hs.c1
    cases h2 : (s.nodes == budget)
    · simp only [beq_eq_false_iff_ne, ne_eq] at h2
      have hn := hs.n1
      have h0 := hs.n0
      exact hf _ ⟨hs.c0, hs.c1, by show 0 ≤ s.nodes + 1; omega, by show s.nodes + 1 ≤ budget; omega⟩ (by show s.count < limit; omega)
    · exact ⟨hs.c0, hs.c1, hs.n0, hs.n1⟩
  · exact hs
theorem goCh_inv {m : R2} {lam limit budget : Int} {n : Nat} : ∀ (r : Nat) (sums ch : List Int) (s : ChS), ChInv limit budget s → s.count < limit → ChInv limit budget (goCh m lam limit budget n r sums ch s)
  | 0, _, _, s, hs, hc => ⟨by have := hs.c0; show 0 ≤ s.count + 1; omega, by show s.count + 1 ≤ limit; omega, hs.n0, hs.n1⟩
  | r + 1, sums, ch, s, hs, hc => by
    unfold goCh
    refine onCh_inv ?_ fun s hs hc => goCh_inv r _ _ s hs hc
    cases highB lam (addL sums (colOf m (n - (r + 1))))
    · exact onCh_inv hs fun s hs hc => goCh_inv r _ _ s hs hc
    · exact hs
theorem sum_bound : ∀ (l : List Int), (∀ x ∈ l, 0 ≤ x ∧ x ≤ 2000) → 0 ≤ l.sum ∧ l.sum ≤ 2000 * l.length
  | [], _ => by simp
  | x :: l, h => by
    have h1 := h x (List.mem_cons_self ..)
    have h2 := sum_bound l fun y hy => h y (List.mem_cons_of_mem _ hy)
    rw [List.sum_cons, List.length_cons]
    omega
theorem add_get {a b : List Int} {k : Nat} {x y : Int} (hx : a[k]? = some x) (hy : b[k]? = some y) : (addL a b)[k]? = some (x + y) := by
  unfold addL
  rw [List.getElem?_zipWith, hx, hy]
theorem add_len {a b : List Int} (h : a.length = b.length) : (addL a b).length = a.length := by unfold addL; rw [List.length_zipWith]; omega
theorem lowB_t {lam : Int} {a b : List Int} {k : Nat} {x y : Int} (hx : a[k]? = some x) (hy : b[k]? = some y) (hl : x + y < lam) : lowB lam a b = true := by
  unfold lowB
  rw [List.any_eq_true]
  exact ⟨x + y, List.mem_of_getElem? (add_get hx hy), by simpa using hl⟩
theorem lowB_f {lam : Int} {a b : List Int} (h : ∀ (k : Nat) (x y : Int), a[k]? = some x → b[k]? = some y → lam ≤ x + y) : lowB lam a b = false := by
  unfold lowB
  rw [List.any_eq_false]
  intro z hz
  obtain ⟨k, hk⟩ := List.getElem?_of_mem hz
  have hlt := get_lt hk
  unfold addL at hlt hk
  rw [List.length_zipWith] at hlt
  obtain ⟨x, hx⟩ := get_some (xs := a) (k := k) (by omega)
  obtain ⟨y, hy⟩ := get_some (xs := b) (k := k) (by omega)
  rw [List.getElem?_zipWith, hx, hy] at hk
  have := h k x y hx hy
  cases hk
  simp; omega
theorem lowB_ff {lam : Int} {a b : List Int} {k : Nat} {x y : Int} (h : lowB lam a b = false) (hx : a[k]? = some x) (hy : b[k]? = some y) : lam ≤ x + y := by
  rcases Int.lt_or_le (x + y) lam with h1 | h1
  · rw [lowB_t hx hy h1] at h; cases h
  · exact h1
theorem tail_get {r : List Int} {c : Nat} (hc : c ≤ r.length) : (tailRow r)[c]? = some (r.drop c).sum := by
  unfold tailRow
  rw [List.getElem?_map, List.getElem?_range (by omega)]
  rfl
theorem tails_get {m : R2} {k c : Nat} {r : List Int} (hr : m[k]? = some r) : (tailsOf m c)[k]? = some (r.drop c).sum := by
  unfold tailsOf
  rw [List.getElem?_map, hr]; rfl
theorem tails_len (m : R2) (c : Nat) : (tailsOf m c).length = m.length := by unfold tailsOf; simp
theorem col_len (m : R2) (c : Nat) : (colOf m c).length = m.length := by unfold colOf; simp
theorem col_get {m : R2} {k c : Nat} {r : List Int} (hr : m[k]? = some r) : (colOf m c)[k]? = some (r.getD c 0) := by
  unfold colOf
  rw [List.getElem?_map, hr]; rfl
theorem getD_of {r : List Int} {c : Nat} {x : Int} (h : r[c]? = some x) : r.getD c 0 = x := by rw [List.getD_eq_getElem?_getD, h]; rfl
theorem highB_t {lam : Int} {s : List Int} {k : Nat} {x : Int} (hx : s[k]? = some x) (h : lam < x) : highB lam s = true := by
  unfold highB; rw [List.any_eq_true]; exact ⟨x, List.mem_of_getElem? hx, by simpa using h⟩
theorem highB_f {lam : Int} {s : List Int} (h : ∀ x ∈ s, x ≤ lam) : highB lam s = false := by
  unfold highB; rw [List.any_eq_false]; intro x hx; have := h x hx; simp; omega
theorem highB_ff {lam : Int} {s : List Int} (h : highB lam s = false) : ∀ x ∈ s, x ≤ lam := by
  intro x hx
  rcases Int.lt_or_le lam x with h1 | h1
  · obtain ⟨k, hk⟩ := List.getElem?_of_mem hx; rw [highB_t hk h1] at h; cases h
  · exact h1
theorem wr {x : Int} (h1 : -9223372036854775808 ≤ x) (h2 : x ≤ 9223372036854775807) : IntKind.i64.wrap x = x := wrap64_of h1 h2

section
variable {m : R2} {n : Nat} {lam limit budget : Int}
theorem row_at (hin : ChIn m n lam limit budget) {k : Nat} (hk : k < m.length) : ∃ r, m[k]? = some r ∧ r.length = n ∧ ∀ x ∈ r, 0 ≤ x ∧ x ≤ 2000 := by
  obtain ⟨r, hr⟩ := get_some hk
  exact ⟨r, hr, hin.cnt.2.2.2 r (List.mem_of_getElem? hr)⟩
theorem drop_b (hin : ChIn m n lam limit budget) {r : List Int} (hl : r.length = n) (hb : ∀ x ∈ r, 0 ≤ x ∧ x ≤ 2000) (c : Nat) : 0 ≤ (r.drop c).sum ∧ (r.drop c).sum ≤ 4000000 := by
  have h1 := sum_bound (r.drop c) fun y hy => hb y (List.mem_of_mem_drop hy)
  have h2 : (r.drop c).length ≤ 2000 := by rw [List.length_drop]; have := hin.cnt.2.2.1; omega
  omega

/-! The reference. -/
def toF (m : R2) (lam limit budget : Int) (ch : List Int) (s : ChS) : T_spec_l26Find := T_spec_l26Find.mk m (m.map tailRow) lam ch s.first s.count limit s.nodes budget s.full
structure SPre (m : R2) (n : Nat) (lam limit budget : Int) (sums ch : List Int) (s : ChS) (r : Nat) : Prop where
  len : sums.length = m.length
  sm : ∀ x ∈ sums, 0 ≤ x ∧ x ≤ lam
  cl : ch.length + r ≤ n
  rn : r ≤ n
  inv : ChInv limit budget s

theorem spec_on (hin : ChIn m n lam limit budget) {N r : Nat} {rf1 rf2 : T_spec_l26Find → List Int → Int → Option T_spec_l26Find}
    (hrun : ∀ sums ch s, SPre m n lam limit budget sums ch s r → s.count < limit → rf2 (toF m lam limit budget ch s) sums ((n - r : Nat) : Int) = some (toF m lam limit budget ch (goCh m lam limit budget n r sums ch s)))
    {sums ch : List Int} {s : ChS} (pre : SPre m n lam limit budget sums ch s r) :
    q_spec_l26Find_on rf1 rf2 (toF m lam limit budget ch s) sums ((n - r : Nat) : Int) = some (toF m lam limit budget ch (onCh limit budget (lowB lam sums (tailsOf m (n - r))) (goCh m lam limit budget n r sums ch) s)) := by
  have hl2 := hin.lam1
  have hrn := pre.rn
  have hN : sums.length ≤ M63 := by have := pre.len; have := hin.cnt.2.1; unfold M63; omega
  unfold q_spec_l26Find_on
  have key : ∀ (d k : Nat), k + d = sums.length → (∀ (j : Nat) x y, j < k → sums[j]? = some x → (tailsOf m (n - r))[j]? = some y → lam ≤ x + y) →
      loop (p_spec_l26Find_on_b1 rf2 (toF m lam limit budget ch s) sums ((n - r : Nat) : Int)) (k : Int) = some (toF m lam limit budget ch (onCh limit budget (lowB lam sums (tailsOf m (n - r))) (goCh m lam limit budget n r sums ch) s)) := by
    intro d
    induction d with
    | zero =>
      intro k hk ha
      obtain rfl : k = sums.length := by omega
      have hlow : lowB lam sums (tailsOf m (n - r)) = false := lowB_f fun k x y hx hy => ha k x y (get_lt hx) hx hy
      rw [hlow]
      refine loop_end ?_
      rw [p_spec_l26Find_on_b1, lt_f]
      simp only [cond_false]
      unfold onCh toF
      cases hf : s.full
      · simp only [cond_false, Bool.false_or, Bool.or_self]
        cases hc : (s.count == limit)
        · simp only [cond_false]
          unfold p_spec_l26Find_on_k1
          simp only []
          cases hb : (s.nodes == budget)
          · simp only [cond_false]
            have i1 := pre.inv.n0
            have i2 := pre.inv.n1
            have i3 := hin.bud1
            have hnb : s.nodes ≠ budget := by simpa using hb
            have hcl : s.count ≠ limit := by simpa using hc
            have i4 := pre.inv.c1
            rw [wr (by omega) (by omega)]
            have := hrun sums ch { s with nodes := s.nodes + 1 } ⟨pre.len, pre.sm, pre.cl, pre.rn, ⟨pre.inv.c0, pre.inv.c1, by show 0 ≤ s.nodes + 1; omega, by show s.nodes + 1 ≤ budget; omega⟩⟩ (by show s.count < limit; omega)
            unfold toF at this
            simp only [hf] at this
            rw [this]
            rfl
          · simp only [cond_true]
        · simp only [cond_true]
          cases s; simp_all
      · simp only [cond_true, Bool.false_or, Bool.true_or]
        cases s; simp_all
    | succ d ih =>
      intro k hk ha
      obtain ⟨x, hx⟩ := get_some (xs := sums) (k := k) (by omega)
      obtain ⟨row, er, hrl, hrb⟩ := row_at hin (k := k) (by have := pre.len; omega)
      have hb := drop_b hin hrl hrb (n - r)
      have hxb := pre.sm x (List.mem_of_getElem? hx)
      have hB : p_spec_l26Find_on_b1 rf2 (toF m lam limit budget ch s) sums ((n - r : Nat) : Int) (k : Int) = bif decide (x + (row.drop (n - r)).sum < lam) then some (.inr (toF m lam limit budget ch s)) else some (.inl (IntKind.i64.wrap ((k : Int) + 1))) := by
        rw [p_spec_l26Find_on_b1, lt_t (get_lt hx), gIdx_of hx]
        simp only [cond_true, Option.bind_some]
        rw [show gIdx (toF m lam limit budget ch s).qlater (k : Int) = some (tailRow row) from gIdx_of (by show (m.map tailRow)[k]? = _; rw [List.getElem?_map, er]; rfl)]
        simp only [Option.bind_some]
        rw [gIdx_of (tail_get (by omega))]
        simp only [Option.bind_some]
        rw [wr (by omega) (by omega)]
        rfl
      cases hd : decide (x + (row.drop (n - r)).sum < lam)
      · rw [hd] at hB
        have hB' : p_spec_l26Find_on_b1 rf2 (toF m lam limit budget ch s) sums ((n - r : Nat) : Int) (k : Int) = some (.inl ((k + 1 : Nat) : Int)) := by rw [hB, ← wrapN (n := sums.length) (by omega) hN]; rfl
        rw [loop_go hB']
        refine ih (k + 1) (by omega) fun j x' y' hj hx' hy' => ?_
        by_cases hjk : j = k
        · subst hjk
          rw [hx] at hx'; rw [tails_get er] at hy'
          cases hx'; cases hy'
          have := of_decide_eq_false hd
          omega
        · exact ha j x' y' (by omega) hx' hy'
      · rw [hd] at hB
        have hlow := lowB_t hx (tails_get (c := n - r) er) (of_decide_eq_true hd)
        rw [hlow, loop_end hB]
        unfold onCh
        simp
  exact key sums.length 0 (by omega) fun j x y hj => by omega

theorem gApp_of {α : Type} {b : Nat} {xs ys : List α} (h : (xs.length + ys.length) * b ≤ 140737488355328) (h2 : xs.length + ys.length ≤ 4611686018427387904) : gApp b xs ys = some (xs ++ ys) := by
  unfold gApp; rw [if_pos ⟨h, h2⟩]
theorem own_ok {l : List Int} (h : l.length ≤ 4000) : p_spec_l00Own l = some l := by
  unfold p_spec_l00Own
  rw [gApp_of (by simp; omega) (by simp; omega)]
  simp
theorem clone_ok {l : List Int} (h : l.length ≤ 4000) : p_slices_Clone_Lint64_int64 l = some l := by
  unfold p_slices_Clone_Lint64_int64
  rw [gApp_of (by simp; omega) (by simp; omega)]
  simp
/-- The sums with a column, and whether they fit. -/
theorem spec_next (hin : ChIn m n lam limit budget) {c : Nat} (hc : c < n) {rf1 : T_spec_l26Find → List Int → Int → Option T_spec_l26Find} {y0 : T_spec_l26Find} (hy : y0.qm = m) (hl : y0.qlambda = lam) {sums : List Int} (hlen : sums.length = m.length) (hsm : ∀ x ∈ sums, 0 ≤ x ∧ x ≤ lam) :
    loop (p_spec_l26Find_run_b1 rf1 y0 sums (c : Int)) (true, [], 0) = loop (p_spec_l26Find_run_b1 rf1 y0 sums (c : Int)) (!highB lam (addL sums (colOf m c)), addL sums (colOf m c), (sums.length : Int)) := by
  have hl2 := hin.lam1
  have hm2 := hin.cnt.2.1
  have hal : (addL sums (colOf m c)).length = sums.length := add_len (by rw [col_len, hlen])
  let f : Nat → Bool × List Int × Int := fun k => (!highB lam ((addL sums (colOf m c)).take k), (addL sums (colOf m c)).take k, (k : Int))
  have h0 : f 0 = (true, [], 0) := by simp [f, highB]
  have h1 : f sums.length = (!highB lam (addL sums (colOf m c)), addL sums (colOf m c), (sums.length : Int)) := by
    simp only [f]; rw [List.take_of_length_le (by omega)]
  rw [← h0, ← h1]
  refine loop_to f sums.length fun k hk => ?_
  obtain ⟨x, hx⟩ := get_some (xs := sums) (k := k) hk
  obtain ⟨row, er, hrl, hrb⟩ := row_at hin (k := k) (by omega)
  obtain ⟨y, ey⟩ := get_some (xs := row) (k := c) (by omega)
  have hyb := hrb y (List.mem_of_getElem? ey)
  have hxb := hsm x (List.mem_of_getElem? hx)
  have hg : (addL sums (colOf m c))[k]? = some (x + y) := add_get hx (by rw [col_get er, getD_of ey])
  have htk : (addL sums (colOf m c)).take (k + 1) = (addL sums (colOf m c)).take k ++ [x + y] := by rw [List.take_add_one, hg]; rfl
  have hlk : ((addL sums (colOf m c)).take k).length = k := by rw [List.length_take]; omega
  simp only [f]
  rw [p_spec_l26Find_run_b1, lt_t hk, gIdx_of hx]
  simp only [cond_true, Option.bind_some]
  rw [hy, gIdx_of er]
  simp only [Option.bind_some]
  rw [gIdx_of ey]
  simp only [Option.bind_some]
  rw [wr (by omega) (by omega), gApp_of (by simp only [List.length_singleton]; omega) (by simp only [List.length_singleton]; omega)]
  simp only [Option.bind_some]
  rw [← htk]
  rw [gIdx_of (k := k) (x := x + y) (by rw [htk, List.getElem?_append_right (by omega), hlk]; simp)]
  simp only [Option.bind_some]
  rw [hl, wrapN hk (by unfold M63; omega)]
  have hh : highB lam ((addL sums (colOf m c)).take (k + 1)) = (highB lam ((addL sums (colOf m c)).take k) || decide (lam < x + y)) := by
    rw [htk]; unfold highB; rw [List.any_append]; simp
  rw [hh]
  cases hd : decide (x + y > lam) <;> simp

theorem addL_sm (hin : ChIn m n lam limit budget) {c : Nat} (hc : c < n) {sums : List Int} (hlen : sums.length = m.length) (hsm : ∀ x ∈ sums, 0 ≤ x ∧ x ≤ lam) (hh : highB lam (addL sums (colOf m c)) = false) : ∀ x ∈ addL sums (colOf m c), 0 ≤ x ∧ x ≤ lam := by
  intro z hz
  refine ⟨?_, highB_ff hh z hz⟩
  obtain ⟨k, hk⟩ := List.getElem?_of_mem hz
  have hlt := get_lt hk
  rw [add_len (by rw [col_len, hlen])] at hlt
  obtain ⟨x, hx⟩ := get_some (xs := sums) (k := k) hlt
  obtain ⟨row, er, hrl, hrb⟩ := row_at hin (k := k) (by omega)
  obtain ⟨y, ey⟩ := get_some (xs := row) (k := c) (by omega)
  rw [add_get hx (by rw [col_get er, getD_of ey])] at hk
  cases hk
  have := hrb y (List.mem_of_getElem? ey)
  have := hsm x (List.mem_of_getElem? hx)
  omega
/-- The reference's search, with fuel enough. -/
theorem spec_run (hin : ChIn m n lam limit budget) : ∀ (r N : Nat), 2 * r < N → ∀ sums ch s, SPre m n lam limit budget sums ch s r → s.count < limit →
    (pn_spec_l26Find_on N).2 (toF m lam limit budget ch s) sums ((n - r : Nat) : Int) = some (toF m lam limit budget ch (goCh m lam limit budget n r sums ch s))
  | r, 0, hN, _, _, _, _, _ => by omega
  | r, N + 1, hN, sums, ch, s, pre, hct => by
    obtain ⟨row0, e0, hr0, _⟩ := row_at hin (k := 0) (by have := hin.cnt.1; omega)
    have hcl := pre.cl
    have hrn := pre.rn
    have hn2 := hin.cnt.2.2.1
    show q_spec_l26Find_run (pn_spec_l26Find_on N).1 (pn_spec_l26Find_on N).2 _ _ _ = _
    unfold q_spec_l26Find_run
    rw [show gIdx (toF m lam limit budget ch s).qm 0 = some row0 from gIdx_of (k := 0) e0]
    simp only [Option.bind_some]
    cases r with
    | zero =>
      have hc : (((n - 0 : Nat) : Int) == (row0.length : Int)) = true := by rw [hr0]; simp
      rw [hc]
      simp only [cond_true]
      have hb := pre.inv.c0
      have hb1 := hin.lim1
      unfold goCh toF
      simp only []
      cases hz : (s.count == 0)
      · simp only [cond_false]
        unfold p_spec_l26Find_run_k1
        simp only []
        rw [wr (by omega) (by omega)]
      · simp only [cond_true]
        rw [own_ok (by omega)]
        simp only [Option.bind_some]
        unfold p_spec_l26Find_run_k1
        simp only []
        rw [wr (by omega) (by omega)]
    | succ r =>
      have hc : (((n - (r + 1) : Nat) : Int) == (row0.length : Int)) = false := by rw [hr0]; simp; omega
      rw [hc]
      simp only [cond_false]
      have hlt : n - (r + 1) < n := by omega
      have hcol : IntKind.i64.wrap (((n - (r + 1) : Nat) : Int) + 1) = ((n - r : Nat) : Int) := by rw [wr (by omega) (by omega)]; omega
      rw [spec_next hin hlt rfl rfl pre.len pre.sm]
      have hon : ∀ sums' ch' s', SPre m n lam limit budget sums' ch' s' r → (pn_spec_l26Find_on N).1 (toF m lam limit budget ch' s') sums' ((n - r : Nat) : Int) = some (toF m lam limit budget ch' (onCh limit budget (lowB lam sums' (tailsOf m (n - r))) (goCh m lam limit budget n r sums' ch') s')) := by
        intro sums' ch' s' pre'
        cases N with
        | zero => omega
        | succ N =>
          exact spec_on (N := N) (rf1 := (pn_spec_l26Find_on N).1) hin (fun sums2 ch2 s2 p2 c2 => spec_run hin r N (by omega) sums2 ch2 s2 p2 c2) pre'
      -- what is left behind the first half
      have hk2 : ∀ s1 : ChS, ChInv limit budget s1 → p_spec_l26Find_run_k2 (pn_spec_l26Find_on N).1 (toF m lam limit budget ch s) sums ((n - (r + 1) : Nat) : Int) lam s1.count limit s1.nodes budget s1.full (m.map tailRow) ch s1.first =
          some (.inr (toF m lam limit budget ch (onCh limit budget (lowB lam sums (tailsOf m (n - r))) (goCh m lam limit budget n r sums ch) s1))) := by
        intro s1 hi
        unfold p_spec_l26Find_run_k2
        rw [hcol]
        have := hon sums ch s1 ⟨pre.len, pre.sm, by omega, by omega, hi⟩
        unfold toF at this ⊢
        rw [this]
        rfl
      refine loop_end ?_
      rw [p_spec_l26Find_run_b1, lt_f]
      simp only [cond_false]
      unfold goCh
      simp only []
      cases hh : highB lam (addL sums (colOf m (n - (r + 1))))
      · simp only [Bool.not_false, cond_true, cond_false]
        rw [show gApp 8 (toF m lam limit budget ch s).qchosen [((n - (r + 1) : Nat) : Int)] = some (ch ++ [((n - (r + 1) : Nat) : Int)]) from gApp_of (by show (ch.length + 1) * 8 ≤ _; omega) (by show ch.length + 1 ≤ _; omega)]
        simp only [Option.bind_some]
        rw [hcol]
        have h1 := hon (addL sums (colOf m (n - (r + 1)))) (ch ++ [((n - (r + 1) : Nat) : Int)]) s ⟨by rw [add_len (by rw [col_len, pre.len]), pre.len], addL_sm hin hlt pre.len pre.sm hh, by rw [List.length_append, List.length_singleton]; omega, by omega, pre.inv⟩
        rw [show (pn_spec_l26Find_on N).1 (T_spec_l26Find.mk (toF m lam limit budget ch s).qm (toF m lam limit budget ch s).qlater (toF m lam limit budget ch s).qlambda (ch ++ [((n - (r + 1) : Nat) : Int)]) (toF m lam limit budget ch s).qfirst (toF m lam limit budget ch s).qcount (toF m lam limit budget ch s).qlimit (toF m lam limit budget ch s).qnodes (toF m lam limit budget ch s).qbudget (toF m lam limit budget ch s).qfull) _ _ = _ from h1]
        simp only [Option.bind_some]
        have hcut : gSl (ch ++ [((n - (r + 1) : Nat) : Int)]) 0 (ch.length : Int) = some ch := by
          unfold gSl
          rw [if_pos ⟨by omega, by omega, by rw [List.length_append]; omega⟩]
          simp
        rw [show gSl (toF m lam limit budget (ch ++ [((n - (r + 1) : Nat) : Int)]) _).qchosen 0 (((toF m lam limit budget ch s).qchosen.length : Nat) : Int) = some ch from hcut]
        simp only [Option.bind_some]
        have hi : ChInv limit budget (onCh limit budget (lowB lam (addL sums (colOf m (n - (r + 1)))) (tailsOf m (n - r))) (goCh m lam limit budget n r (addL sums (colOf m (n - (r + 1)))) (ch ++ [((n - (r + 1) : Nat) : Int)])) s) := onCh_inv pre.inv fun s hs hc => goCh_inv r _ _ s hs hc
        exact hk2 _ hi
      · simp only [Bool.not_true, cond_false, cond_true]
        exact hk2 s pre.inv

/-! The program. -/
def toC (m : R2) (lam limit budget : Int) (sums later ch : List Int) (s : ChS) : T_impl_chooser := T_impl_chooser.mk (T_impl_counter.mk (budget - s.nodes) s.full) m lam limit sums later ch s.count s.first
theorem change_ok (hin : ChIn m n lam limit budget) {c : Nat} (hc : c < n) {f : Int} {c0 : T_impl_chooser} (hm : c0.qmatrix = m) (hf : f = 1 ∨ f = -1) {xs : List Int} (hl : xs.length = m.length) (hb : ∀ x ∈ xs, -10000000 ≤ x ∧ x ≤ 10000000) :
    p_impl_chooser_change c0 xs (c : Int) f = some (addL xs ((colOf m c).map (f * ·))) := by
  have hm2 := hin.cnt.2.1
  unfold p_impl_chooser_change
  have hal : (addL xs ((colOf m c).map (f * ·))).length = xs.length := add_len (by rw [List.length_map, col_len, hl])
  let g : Nat → Int × List Int := fun k => ((k : Int), (addL xs ((colOf m c).map (f * ·))).take k ++ xs.drop k)
  have h0 : g 0 = (0, xs) := by simp [g]
  have h1 : g m.length = ((m.length : Int), addL xs ((colOf m c).map (f * ·))) := by
    simp only [g]; rw [List.take_of_length_le (by omega), List.drop_of_length_le (by omega), List.append_nil]
  rw [← h0, loop_to g m.length fun k hk => ?_, h1]
  · refine loop_end ?_
    rw [p_impl_chooser_change_b1, hm, lt_f]; rfl
  · obtain ⟨row, er, hrl, hrb⟩ := row_at hin hk
    obtain ⟨y, ey⟩ := get_some (xs := row) (k := c) (by omega)
    obtain ⟨x, hx⟩ := get_some (xs := xs) (k := k) (by omega)
    have hyb := hrb y (List.mem_of_getElem? ey)
    have hxb := hb x (List.mem_of_getElem? hx)
    have hg : (addL xs ((colOf m c).map (f * ·)))[k]? = some (x + f * y) := add_get hx (by rw [List.getElem?_map, col_get er, getD_of ey]; rfl)
    have hlk : ((addL xs ((colOf m c).map (f * ·))).take k).length = k := by rw [List.length_take]; omega
    have hcur : ((addL xs ((colOf m c).map (f * ·))).take k ++ xs.drop k)[k]? = some x := by
      rw [List.getElem?_append_right (by omega), hlk, Nat.sub_self, List.getElem?_drop]; simpa using hx
    simp only [g]
    rw [p_impl_chooser_change_b1, hm, lt_t hk, gIdx_of er]
    simp only [cond_true, Option.bind_some]
    rw [gIdx_of hcur]
    simp only [Option.bind_some]
    rw [gIdx_of ey]
    simp only [Option.bind_some]
    have hfy : IntKind.i64.wrap (f * y) = f * y := by rcases hf with rfl | rfl <;> exact wr (by omega) (by omega)
    have hxy : IntKind.i64.wrap (x + f * y) = x + f * y := by rcases hf with rfl | rfl <;> exact wr (by omega) (by omega)
    rw [hfy, hxy, wrapN hk (by unfold M63; omega), Int.toNat_natCast]
    have : ((addL xs ((colOf m c).map (f * ·))).take k ++ xs.drop k).set k (x + f * y) = (addL xs ((colOf m c).map (f * ·))).take (k + 1) ++ xs.drop (k + 1) := by
      rw [List.set_append, if_neg (by omega), hlk, Nat.sub_self, List.take_add_one, hg]
      have hd : xs.drop k = x :: xs.drop (k + 1) := by
        rw [List.drop_eq_getElem_cons (by omega)]
        congr 1
        have := List.getElem?_eq_getElem (l := xs) (i := k) (by omega)
        rw [hx] at this; exact (Option.some.inj this).symm
      rw [hd]; simp
    rw [this]
theorem possible_ok (hin : ChIn m n lam limit budget) {c0 : T_impl_chooser} {sums later : List Int} (h1 : c0.qsums = sums) (h2 : c0.qlater = later) (h3 : c0.qlambda = lam) (hl : sums.length = m.length) (hl2 : later.length = m.length) (hb : ∀ x ∈ sums, 0 ≤ x ∧ x ≤ 5000) (hb2 : ∀ x ∈ later, 0 ≤ x ∧ x ≤ 4000000) :
    p_impl_chooser_possible c0 = some (!(highB lam sums || lowB lam sums later)) := by
  have hm2 := hin.cnt.2.1
  unfold p_impl_chooser_possible
  have hN : sums.length ≤ M63 := by unfold M63; omega
  have key : ∀ (d k : Nat), k + d = sums.length → (∀ (j : Nat) x y, j < k → sums[j]? = some x → later[j]? = some y → x ≤ lam ∧ lam ≤ x + y) →
      loop (p_impl_chooser_possible_b1 c0) (k : Int) = some (!(highB lam sums || lowB lam sums later)) := by
    intro d
    induction d with
    | zero =>
      intro k hk ha
      obtain rfl : k = sums.length := by omega
      have e1 : highB lam sums = false := highB_f fun x hx => by
        obtain ⟨j, hj⟩ := List.getElem?_of_mem hx
        obtain ⟨y, hy⟩ := get_some (xs := later) (k := j) (by have := get_lt hj; omega)
        exact (ha j x y (get_lt hj) hj hy).1
      have e2 : lowB lam sums later = false := lowB_f fun j x y hx hy => (ha j x y (get_lt hx) hx hy).2
      rw [e1, e2]
      refine loop_end ?_
      rw [p_impl_chooser_possible_b1, h1, lt_f]; rfl
    | succ d ih =>
      intro k hk ha
      obtain ⟨x, hx⟩ := get_some (xs := sums) (k := k) (by omega)
      obtain ⟨y, hy⟩ := get_some (xs := later) (k := k) (by omega)
      have hxb := hb x (List.mem_of_getElem? hx)
      have hyb := hb2 y (List.mem_of_getElem? hy)
      have hB : p_impl_chooser_possible_b1 c0 (k : Int) = bif decide (x > lam) then some (.inr false) else bif decide (x + y < lam) then some (.inr false) else some (.inl (IntKind.i64.wrap ((k : Int) + 1))) := by
        rw [p_impl_chooser_possible_b1, h1, h2, h3, lt_t (get_lt hx), gIdx_of hx, gIdx_of hy]
        simp only [cond_true, Option.bind_some]
        rw [wr (by omega) (by omega)]
      cases hd : decide (x > lam)
      · rw [hd] at hB
        cases he : decide (x + y < lam)
        · rw [he] at hB
          have hB' : p_impl_chooser_possible_b1 c0 (k : Int) = some (.inl ((k + 1 : Nat) : Int)) := by rw [hB, ← wrapN (n := sums.length) (by omega) hN]; rfl
          rw [loop_go hB']
          refine ih (k + 1) (by omega) fun j x' y' hj hx' hy' => ?_
          by_cases hjk : j = k
          · subst hjk
            rw [hx] at hx'; rw [hy] at hy'; cases hx'; cases hy'
            have g1 := of_decide_eq_false hd
            have g2 := of_decide_eq_false he
            omega
          · exact ha j x' y' (by omega) hx' hy'
        · rw [he] at hB
          rw [lowB_t hx hy (of_decide_eq_true he), loop_end hB]; simp
      · rw [hd] at hB
        rw [highB_t hx (of_decide_eq_true hd), loop_end hB]; simp
  exact key sums.length 0 (by omega) fun j x y hj => by omega
/-- Adding and taking away. -/
theorem addL_back {xs ys : List Int} (h : xs.length = ys.length) : addL (addL xs (ys.map (1 * ·))) (ys.map (-1 * ·)) = xs := by
  apply List.ext_getElem?
  intro k
  by_cases hk : k < xs.length
  · obtain ⟨x, hx⟩ := get_some (xs := xs) (k := k) hk
    obtain ⟨y, hy⟩ := get_some (xs := ys) (k := k) (by omega)
    rw [add_get (add_get hx (show (ys.map (1 * ·))[k]? = some (1 * y) by rw [List.getElem?_map, hy]; rfl)) (show (ys.map (-1 * ·))[k]? = some (-1 * y) by rw [List.getElem?_map, hy]; rfl), hx]
    congr 1; omega
  · have h1 : (addL xs (ys.map (1 * ·))).length = xs.length := add_len (by rw [List.length_map]; exact h)
    have h2 : (addL (addL xs (ys.map (1 * ·))) (ys.map (-1 * ·))).length = xs.length := by rw [add_len (by rw [h1, List.length_map]; exact h), h1]
    rw [List.getElem?_eq_none (by omega), List.getElem?_eq_none (by omega)]
theorem addL_one (xs ys : List Int) : addL xs (ys.map (1 * ·)) = addL xs ys := by
  have : ys.map (1 * ·) = ys := by simp
  rw [this]
theorem tails_step {c : Nat} (hc : c < n) (hin : ChIn m n lam limit budget) : addL (tailsOf m c) ((colOf m c).map (-1 * ·)) = tailsOf m (c + 1) := by
  apply List.ext_getElem?
  intro k
  by_cases hk : k < m.length
  · obtain ⟨row, er, hrl, _⟩ := row_at hin hk
    obtain ⟨y, ey⟩ := get_some (xs := row) (k := c) (by omega)
    rw [add_get (tails_get er) (show ((colOf m c).map (-1 * ·))[k]? = some (-1 * y) by rw [List.getElem?_map, col_get er, getD_of ey]; rfl), tails_get er]
    congr 1
    have : row.drop c = y :: row.drop (c + 1) := by
      rw [List.drop_eq_getElem_cons (by omega)]
      congr 1
      have := List.getElem?_eq_getElem (l := row) (i := c) (by omega)
      rw [ey] at this; exact (Option.some.inj this).symm
    rw [this, List.sum_cons]; omega
  · have h2 : (addL (tailsOf m c) ((colOf m c).map (-1 * ·))).length = m.length := by rw [add_len (by rw [List.length_map, col_len, tails_len]), tails_len]
    rw [List.getElem?_eq_none (by omega), List.getElem?_eq_none (by rw [tails_len]; omega)]
theorem tails_back {c : Nat} (hc : c < n) (hin : ChIn m n lam limit budget) : addL (tailsOf m (c + 1)) ((colOf m c).map (1 * ·)) = tailsOf m c := by
  rw [← tails_step hc hin]
  apply List.ext_getElem?
  intro k
  by_cases hk : k < m.length
  · obtain ⟨row, er, hrl, _⟩ := row_at hin hk
    have g1 : ((colOf m c).map (-1 * ·))[k]? = some (-1 * row.getD c 0) := by rw [List.getElem?_map, col_get er]; rfl
    have g2 : ((colOf m c).map (1 * ·))[k]? = some (1 * row.getD c 0) := by rw [List.getElem?_map, col_get er]; rfl
    rw [add_get (add_get (tails_get er) g1) g2, tails_get er]
    congr 1; omega
  · have h1 : (addL (tailsOf m c) ((colOf m c).map (-1 * ·))).length = m.length := by rw [add_len (by rw [List.length_map, col_len, tails_len]), tails_len]
    rw [List.getElem?_eq_none (by rw [add_len (by rw [h1, List.length_map, col_len]), h1]; omega), List.getElem?_eq_none (by rw [tails_len]; omega)]
theorem tails_b (hin : ChIn m n lam limit budget) (c : Nat) : ∀ x ∈ tailsOf m c, 0 ≤ x ∧ x ≤ 4000000 := by
  intro x hx
  obtain ⟨k, hk⟩ := List.getElem?_of_mem hx
  have hlt := get_lt hk
  rw [tails_len] at hlt
  obtain ⟨row, er, hrl, hrb⟩ := row_at hin hlt
  rw [tails_get er] at hk; cases hk
  exact drop_b hin hrl hrb c
theorem addL_b (hin : ChIn m n lam limit budget) {c : Nat} (hc : c < n) {sums : List Int} (hlen : sums.length = m.length) (hsm : ∀ x ∈ sums, 0 ≤ x ∧ x ≤ lam) : ∀ x ∈ addL sums (colOf m c), 0 ≤ x ∧ x ≤ 5000 := by
  intro z hz
  have hl := hin.lam1
  obtain ⟨k, hk⟩ := List.getElem?_of_mem hz
  have hlt := get_lt hk
  rw [add_len (by rw [col_len, hlen])] at hlt
  obtain ⟨x, hx⟩ := get_some (xs := sums) (k := k) hlt
  obtain ⟨row, er, hrl, hrb⟩ := row_at hin (k := k) (by omega)
  obtain ⟨y, ey⟩ := get_some (xs := row) (k := c) (by omega)
  rw [add_get hx (by rw [col_get er, getD_of ey])] at hk
  cases hk
  have := hrb y (List.mem_of_getElem? ey)
  have := hsm x (List.mem_of_getElem? hx)
  omega

/-- A node of the program, if it may be visited. -/
theorem impl_k2 (hin : ChIn m n lam limit budget) {r c : Nat} (hcn : c + 1 = n - r) (hcl : c < n) {rf : T_impl_chooser → Int → Option T_impl_chooser} {y0 : T_impl_chooser} (hy : y0.qmatrix = m)
    (hrec : ∀ sums ch s, SPre m n lam limit budget sums ch s r → s.count < limit → lowB lam sums (tailsOf m (n - r)) = false → rf (toC m lam limit budget sums (tailsOf m (n - r)) ch s) ((n - r : Nat) : Int) = some (toC m lam limit budget sums (tailsOf m (n - r)) ch (goCh m lam limit budget n r sums ch s)))
    {sums ch : List Int} {s : ChS} {e : Bool} {i : Int} (hlen : sums.length = m.length) (hb : ∀ x ∈ sums, 0 ≤ x ∧ x ≤ 5000) (hch : ch.length + r ≤ n) (hrn : r ≤ n) (hinv : ChInv limit budget s) :
    p_impl_chooser_search_k2 rf y0 (c : Int) i (budget - s.nodes) s.full lam limit s.count (tailsOf m (n - r)) s.first e sums ch =
      (let s' := bif highB lam sums then s else onCh limit budget (lowB lam sums (tailsOf m (n - r))) (goCh m lam limit budget n r sums ch) s
       p_impl_chooser_search_k3 y0 (c : Int) i e (budget - s'.nodes) s'.full lam limit s'.count (tailsOf m (n - r)) sums ch s'.first) := by
  have hl2 := hin.lam1
  have hb1 := hin.bud1
  have i1 := hinv.n0
  have i2 := hinv.n1
  have i3 := hinv.c0
  have i4 := hinv.c1
  have i5 := hin.lim1
  have hn2 := hin.cnt.2.2.1
  unfold p_impl_chooser_search_k2
  rw [possible_ok hin rfl rfl rfl hlen (tails_len m _) hb (tails_b hin _)]
  simp only [Option.bind_some]
  cases hh : highB lam sums
  · cases hlo : lowB lam sums (tailsOf m (n - r))
    · simp only [Bool.or_false, Bool.not_false, cond_true, cond_false, Bool.or_self]
      unfold onCh
      simp only [Bool.false_or]
      cases hct : decide (s.count < limit)
      · have hce : (s.count == limit) = true := by have := of_decide_eq_false hct; simp; omega
        rw [hce]
        simp
      · have hcl' := of_decide_eq_true hct
        have hce : (s.count == limit) = false := by simp; omega
        rw [hce]
        simp only [cond_true]
        cases hf : s.full
        · simp only [Bool.not_false, cond_true, Bool.or_self, cond_false]
          unfold p_impl_counter_node
          simp only []
          cases hnb : (s.nodes == budget)
          · have hnb' : s.nodes ≠ budget := by simpa using hnb
            have hz : ((budget - s.nodes : Int) == 0) = false := by simp; omega
            rw [hz]
            simp only [cond_false, Option.bind_some, cond_true]
            rw [wr (by omega) (by omega)]
            have hcol : IntKind.i64.wrap ((c : Int) + 1) = ((n - r : Nat) : Int) := by rw [wr (by omega) (by omega)]; omega
            rw [hcol]
            have := hrec sums ch { s with nodes := s.nodes + 1 } ⟨hlen, fun x hx => ⟨(hb x hx).1, highB_ff hh x hx⟩, hch, hrn, ⟨hinv.c0, hinv.c1, by show 0 ≤ s.nodes + 1; omega, by show s.nodes + 1 ≤ budget; omega⟩⟩ hcl' hlo
            unfold toC at this
            simp only [hf] at this
            rw [hy, show budget - s.nodes - 1 = budget - (s.nodes + 1) by omega, this]
            rfl
          · have hnb' : s.nodes = budget := by simpa using hnb
            have hz : ((budget - s.nodes : Int) == 0) = true := by simp; omega
            rw [hz]
            simp
        · simp [hf]
    · simp only [Bool.or_true, Bool.not_true, cond_false]
      unfold onCh
      simp
  · simp

theorem impl_search (hin : ChIn m n lam limit budget) : ∀ (r N : Nat), r < N → ∀ sums ch s, SPre m n lam limit budget sums ch s r → s.count < limit → (r = 0 → lowB lam sums (tailsOf m (n - r)) = false) →
    (pn_impl_chooser_search N) (toC m lam limit budget sums (tailsOf m (n - r)) ch s) ((n - r : Nat) : Int) = some (toC m lam limit budget sums (tailsOf m (n - r)) ch (goCh m lam limit budget n r sums ch s))
  | r, 0, hN, _, _, _, _, _, _ => by omega
  | r, N + 1, hN, sums, ch, s, pre, hct, hpos => by
    obtain ⟨row0, e0, hr0, _⟩ := row_at hin (k := 0) (by have := hin.cnt.1; omega)
    have hcl := pre.cl
    have hrn := pre.rn
    have hn2 := hin.cnt.2.2.1
    have hl2 := hin.lam1
    show q_impl_chooser_search (pn_impl_chooser_search N) _ _ = _
    unfold q_impl_chooser_search
    rw [show gIdx (toC m lam limit budget sums (tailsOf m (n - r)) ch s).qmatrix 0 = some row0 from gIdx_of (k := 0) e0]
    simp only [Option.bind_some]
    cases r with
    | zero =>
      have hc : (((n - 0 : Nat) : Int) == (row0.length : Int)) = true := by rw [hr0]; simp
      rw [hc]
      simp only [cond_true]
      have hb := pre.inv.c0
      have hb1 := hin.lim1
      rw [possible_ok hin (sums := sums) (later := tailsOf m (n - 0)) rfl rfl rfl pre.len (tails_len m _) (fun x hx => by have := pre.sm x hx; omega) (tails_b hin _), highB_f fun x hx => (pre.sm x hx).2, hpos rfl]
      simp only [Option.bind_some, Bool.or_self, Bool.not_false, cond_true]
      unfold goCh toC
      simp only []
      cases hz : (s.count == 0)
      · simp only [cond_false]
        unfold p_impl_chooser_search_k1
        simp only []
        rw [wr (by omega) (by omega)]
      · simp only [cond_true]
        rw [clone_ok (by omega)]
        simp only [Option.bind_some]
        unfold p_impl_chooser_search_k1
        simp only []
        rw [wr (by omega) (by omega)]
    | succ r =>
      have hc : (((n - (r + 1) : Nat) : Int) == (row0.length : Int)) = false := by rw [hr0]; simp; omega
      rw [hc]
      simp only [cond_false]
      have hlt : n - (r + 1) < n := by omega
      have hcn : n - (r + 1) + 1 = n - r := by omega
      rw [change_ok hin hlt (f := -1) (xs := (toC m lam limit budget sums (tailsOf m (n - (r + 1))) ch s).qlater) rfl (.inr rfl) (tails_len m _) (fun x hx => by have := tails_b hin _ x hx; omega)]
      simp only [Option.bind_some]
      rw [show (toC m lam limit budget sums (tailsOf m (n - (r + 1))) ch s).qlater = tailsOf m (n - (r + 1)) from rfl, tails_step hlt hin, hcn]
      have hrec : ∀ sums' ch' s', SPre m n lam limit budget sums' ch' s' r → s'.count < limit → lowB lam sums' (tailsOf m (n - r)) = false → (pn_impl_chooser_search N) (toC m lam limit budget sums' (tailsOf m (n - r)) ch' s') ((n - r : Nat) : Int) = some (toC m lam limit budget sums' (tailsOf m (n - r)) ch' (goCh m lam limit budget n r sums' ch' s')) :=
        fun sums' ch' s' p' c' l' => impl_search hin r N (by omega) sums' ch' s' p' c' fun _ => l'
      generalize hnx : addL sums (colOf m (n - (r + 1))) = nx
      have hnxl : nx.length = m.length := by rw [← hnx, add_len (by rw [col_len, pre.len]), pre.len]
      have hnxb : ∀ x ∈ nx, 0 ≤ x ∧ x ≤ 5000 := by rw [← hnx]; exact addL_b hin hlt pre.len pre.sm
      generalize hs1 : (bif highB lam nx then s else onCh limit budget (lowB lam nx (tailsOf m (n - r))) (goCh m lam limit budget n r nx (ch ++ [((n - (r + 1) : Nat) : Int)])) s) = s1
      have hi1 : ChInv limit budget s1 := by
        rw [← hs1]
        cases highB lam nx
        · exact onCh_inv pre.inv fun s hs hc => goCh_inv r _ _ s hs hc
        · exact pre.inv
      generalize hs2 : onCh limit budget (lowB lam sums (tailsOf m (n - r))) (goCh m lam limit budget n r sums ch) s1 = s2
      have hgo : goCh m lam limit budget n (r + 1) sums ch s = s2 := by
        unfold goCh
        simp only []
        rw [hnx, hs1, hs2]
      rw [hgo]
      -- the first round
      have r0 : p_impl_chooser_search_b1 (pn_impl_chooser_search N) (toC m lam limit budget sums (tailsOf m (n - (r + 1))) ch s) ((n - (r + 1) : Nat) : Int) (0, budget - s.nodes, s.full, lam, limit, s.count, tailsOf m (n - r), sums, ch, s.first) =
          some (.inl (1, budget - s1.nodes, s1.full, lam, limit, s1.count, tailsOf m (n - r), sums, ch, s1.first)) := by
        rw [p_impl_chooser_search_b1]
        have h0 : decide ((0 : Int) < (([true, false] : List Bool).length : Int)) = true := by decide
        rw [h0, show gIdx ([true, false] : List Bool) 0 = some true from rfl]
        simp only [cond_true, Option.bind_some]
        rw [change_ok hin hlt (f := 1) rfl (.inl rfl) pre.len (fun x hx => by have := pre.sm x hx; omega)]
        simp only [Option.bind_some]
        rw [addL_one, hnx, gApp_of (by simp only [List.length_singleton]; omega) (by simp only [List.length_singleton]; omega)]
        simp only [Option.bind_some]
        rw [impl_k2 hin hcn hlt rfl hrec hnxl hnxb (by rw [List.length_append, List.length_singleton]; omega) (by omega) pre.inv]
        rw [hs1]
        simp only []
        unfold p_impl_chooser_search_k3
        simp only [cond_true]
        rw [change_ok hin hlt (f := -1) rfl (.inr rfl) hnxl (fun x hx => by have := hnxb x hx; omega)]
        simp only [Option.bind_some]
        have hcut : gSl (ch ++ [((n - (r + 1) : Nat) : Int)]) 0 (IntKind.i64.wrap (((ch ++ [((n - (r + 1) : Nat) : Int)]).length : Int) - 1)) = some ch := by
          have hlc : ((ch ++ [((n - (r + 1) : Nat) : Int)]).length : Int) = (ch.length : Int) + 1 := by rw [List.length_append, List.length_singleton]; omega
          rw [hlc, wr (by omega) (by omega)]
          unfold gSl
          rw [if_pos ⟨by omega, by omega, by rw [hlc]; omega⟩, show ((ch.length : Int) + 1 - 1).toNat = ch.length by omega]
          simp
        rw [hcut]
        simp only [Option.bind_some]
        rw [← hnx, ← addL_one sums, addL_back (by rw [col_len, pre.len])]
        rfl
      -- the second
      have r1 : p_impl_chooser_search_b1 (pn_impl_chooser_search N) (toC m lam limit budget sums (tailsOf m (n - (r + 1))) ch s) ((n - (r + 1) : Nat) : Int) (1, budget - s1.nodes, s1.full, lam, limit, s1.count, tailsOf m (n - r), sums, ch, s1.first) =
          some (.inl (2, budget - s2.nodes, s2.full, lam, limit, s2.count, tailsOf m (n - r), sums, ch, s2.first)) := by
        rw [p_impl_chooser_search_b1]
        have h0 : decide ((1 : Int) < (([true, false] : List Bool).length : Int)) = true := by decide
        rw [h0, show gIdx ([true, false] : List Bool) 1 = some false from rfl]
        simp only [cond_true, cond_false, Option.bind_some]
        rw [impl_k2 hin hcn hlt rfl hrec pre.len (fun x hx => by have := pre.sm x hx; omega) (by omega) (by omega) hi1]
        rw [highB_f fun x hx => (pre.sm x hx).2]
        simp only [cond_false]
        rw [hs2]
        unfold p_impl_chooser_search_k3
        simp only [cond_false]
        rfl
      have r2 : p_impl_chooser_search_b1 (pn_impl_chooser_search N) (toC m lam limit budget sums (tailsOf m (n - (r + 1))) ch s) ((n - (r + 1) : Nat) : Int) (2, budget - s2.nodes, s2.full, lam, limit, s2.count, tailsOf m (n - r), sums, ch, s2.first) =
          some (.inr (toC m lam limit budget sums (tailsOf m (n - (r + 1))) ch s2)) := by
        rw [p_impl_chooser_search_b1]
        have h0 : decide ((2 : Int) < (([true, false] : List Bool).length : Int)) = false := by decide
        rw [h0]
        simp only [cond_false]
        rw [← hcn, change_ok hin hlt (f := 1) rfl (.inl rfl) (tails_len m _) (fun x hx => by have := tails_b hin _ x hx; omega)]
        simp only [Option.bind_some]
        rw [tails_back hlt hin]
        rfl
      show loop _ (0, budget - s.nodes, s.full, lam, limit, s.count, tailsOf m (n - r), sums, ch, s.first) = _
      rw [loop_go r0, loop_go r1, loop_end r2]
end
end Go.Proofs.Ytieehpcgmjbceaa
