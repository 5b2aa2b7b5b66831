import Derived.Test.YtocnokjekoglnaaGreatPuFam
import Derived.Test.YtocnokjekoglnaaGreatVcLib
import Derived.Test.YtocnokjekoglnaaGreatPuJa
namespace Go.Proofs.YtocnokjekoglnaaGreat
open Go Go.Vc
set_option linter.unusedSimpArgs false
set_option linter.unusedVariables false
structure ChS where
  nodes : Int
  full : Bool
  count : Int
  first : List Int
def QcolOf (m : List (List Int)) (c : Nat) : List Int := m.map fun r => r.getD c 0
def tailsOf (m : List (List Int)) (c : Nat) : List Int := m.map fun r => (r.drop c).sum
def addL (a b : List Int) : List Int := List.zipWith (· + ·) a b
def lowB (lam : Int) (s t : List Int) : Bool := (addL s t).any (· < lam)
def highB (lam : Int) (s : List Int) : Bool := s.any (lam < ·)
def onCh (limit budget : Int) (low : Bool) (f : ChS → ChS) (s : ChS) : ChS :=
  bif low || s.full || s.count == limit then s else bif s.nodes == budget then { s with full := true } else f { s with nodes := s.nodes + 1 }
def goCh (m : List (List Int)) (lam limit budget : Int) (n : Nat) : Nat → List Int → List Int → ChS → ChS
  | 0, _, ch, s => { s with count := s.count + 1, first := bif s.count == 0 then ch else s.first }
  | r + 1, sums, ch, s =>
    let nx := addL sums (QcolOf m (n - (r + 1)))
    let s1 := bif highB lam nx then s else onCh limit budget (lowB lam nx (tailsOf m (n - r))) (goCh m lam limit budget n r nx (ch ++ [((n - (r + 1) : Nat) : Int)])) s
    onCh limit budget (lowB lam sums (tailsOf m (n - r))) (goCh m lam limit budget n r sums ch) s1
abbrev R2 := List (List Int)
def CountsN (m : R2) (n : Nat) : Prop := 1 ≤ m.length ∧ m.length ≤ 2000 ∧ n ≤ 2000 ∧ ∀ r ∈ m, r.length = n ∧ ∀ x ∈ r, 0 ≤ x ∧ x ≤ 2000
structure ChIn (m : R2) (n : Nat) (lam limit budget : Int) : Prop where
  cnt : CountsN m n
  lam0 : 1 ≤ lam
  lam1 : lam ≤ 2000
  lim0 : 1 ≤ limit
  lim1 : limit ≤ 1000
  bud0 : 1 ≤ budget
  bud1 : budget ≤ 20000
structure ChInv (limit budget : Int) (s : ChS) : Prop where
  c0 : 0 ≤ s.count
  c1 : s.count ≤ limit
  n0 : 0 ≤ s.nodes
  n1 : s.nodes ≤ budget
theorem Zgp {limit budget : Int} {low : Bool} {f : ChS → ChS} {s : ChS} (hs : ChInv limit budget s) (hf : ∀ s, ChInv limit budget s → s.count < limit → ChInv limit budget (f s)) : ChInv limit budget (onCh limit budget low f s) := by
  unfold onCh
  cases h1 : (low || s.full || s.count == limit)
  · simp only [Bool.or_eq_false_iff, beq_eq_false_iff_ne, ne_eq] at h1
    have hc := hs.c1
    cases h2 : (s.nodes == budget)
    · simp only [beq_eq_false_iff_ne, ne_eq] at h2
      have hn := hs.n1
      have h0 := hs.n0
      exact hf _ ⟨hs.c0, hs.c1, by show 0 ≤ s.nodes + 1; omega, by show s.nodes + 1 ≤ budget; omega⟩ (by show s.count < limit; omega)
    · exact ⟨hs.c0, hs.c1, hs.n0, hs.n1⟩
  · exact hs
theorem Zh3 {m : R2} {lam limit budget : Int} {n : Nat} : ∀ (r : Nat) (sums ch : List Int) (s : ChS), ChInv limit budget s → s.count < limit → ChInv limit budget (goCh m lam limit budget n r sums ch s)
  | 0, _, _, s, hs, hc => ⟨by have := hs.c0; show 0 ≤ s.count + 1; omega, by show s.count + 1 ≤ limit; omega, hs.n0, hs.n1⟩
  | r + 1, sums, ch, s, hs, hc => by
    unfold goCh
    refine Zgp ?_ fun s hs hc => Zh3 r _ _ s hs hc
    cases highB lam (addL sums (QcolOf m (n - (r + 1))))
    · exact Zgp hs fun s hs hc => Zh3 r _ _ s hs hc
    · exact hs
theorem ZhZ : ∀ (l : List Int), (∀ x ∈ l, 0 ≤ x ∧ x ≤ 2000) → 0 ≤ l.sum ∧ l.sum ≤ 2000 * l.length
  | [], _ => by simp
  | x :: l, h => by
    have h1 := h x (List.mem_cons_self ..)
    have h2 := ZhZ l fun y hy => h y (List.mem_cons_of_mem _ hy)
    rw [List.sum_cons, List.length_cons]
    omega
theorem Zal {a b : List Int} {k : Nat} {x y : Int} (hx : a[k]? = some x) (hy : b[k]? = some y) : (addL a b)[k]? = some (x + y) := by
  unfold addL
  rw [List.getElem?_zipWith, hx, hy]
theorem Zaq {a b : List Int} (h : a.length = b.length) : (addL a b).length = a.length := by unfold addL; rw [List.length_zipWith]; omega
theorem Zfx {lam : Int} {a b : List Int} {k : Nat} {x y : Int} (hx : a[k]? = some x) (hy : b[k]? = some y) (hl : x + y < lam) : lowB lam a b = true := by
  unfold lowB
  rw [List.any_eq_true]
  exact ⟨x + y, List.mem_of_getElem? (Zal hx hy), by simpa using hl⟩
theorem ZmH {lam : Int} {a b : List Int} (h : ∀ (k : Nat) (x y : Int), a[k]? = some x → b[k]? = some y → lam ≤ x + y) : lowB lam a b = false := by
  unfold lowB
  rw [List.any_eq_false]
  intro z hz
  obtain ⟨k, hk⟩ := List.getElem?_of_mem hz
  have hlt := ZC hk
  unfold addL at hlt hk
  rw [List.length_zipWith] at hlt
  obtain ⟨x, hx⟩ := ZH (xs := a) (k := k) (by omega)
  obtain ⟨y, hy⟩ := ZH (xs := b) (k := k) (by omega)
  rw [List.getElem?_zipWith, hx, hy] at hk
  have := h k x y hx hy
  cases hk
  simp; omega
theorem Zk4 {lam : Int} {a b : List Int} {k : Nat} {x y : Int} (h : lowB lam a b = false) (hx : a[k]? = some x) (hy : b[k]? = some y) : lam ≤ x + y := by
  rcases Int.lt_or_le (x + y) lam with h1 | h1
  · rw [Zfx hx hy h1] at h; cases h
  · exact h1
theorem ZaS {m : R2} {k c : Nat} {r : List Int} (hr : m[k]? = some r) : (tailsOf m c)[k]? = some (r.drop c).sum := by
  unfold tailsOf
  rw [List.getElem?_map, hr]; rfl
theorem Zaa (m : R2) (c : Nat) : (tailsOf m c).length = m.length := by unfold tailsOf; simp
theorem Zbj (m : R2) (c : Nat) : (QcolOf m c).length = m.length := by unfold QcolOf; simp
theorem Zbr {m : R2} {k c : Nat} {r : List Int} (hr : m[k]? = some r) : (QcolOf m c)[k]? = some (r.getD c 0) := by
  unfold QcolOf
  rw [List.getElem?_map, hr]; rfl
theorem Zdk {r : List Int} {c : Nat} {x : Int} (h : r[c]? = some x) : r.getD c 0 = x := by rw [List.getD_eq_getElem?_getD, h]; rfl
theorem ZjF {lam : Int} {s : List Int} {k : Nat} {x : Int} (hx : s[k]? = some x) (h : lam < x) : highB lam s = true := by
  unfold highB; rw [List.any_eq_true]; exact ⟨x, List.mem_of_getElem? hx, by simpa using h⟩
theorem Zey {lam : Int} {s : List Int} (h : ∀ x ∈ s, x ≤ lam) : highB lam s = false := by
  unfold highB; rw [List.any_eq_false]; intro x hx; have := h x hx; simp; omega
theorem Ziz {lam : Int} {s : List Int} (h : highB lam s = false) : ∀ x ∈ s, x ≤ lam := by
  intro x hx
  rcases Int.lt_or_le lam x with h1 | h1
  · obtain ⟨k, hk⟩ := List.getElem?_of_mem hx; rw [ZjF hk h1] at h; cases h
  · exact h1
theorem wr {x : Int} (h1 : -9223372036854775808 ≤ x) (h2 : x ≤ 9223372036854775807) : IntKind.i64.wrap x = x := ZaJ h1 h2
section
variable {m : R2} {n : Nat} {lam limit budget : Int}
theorem ZaQ (hin : ChIn m n lam limit budget) {k : Nat} (hk : k < m.length) : ∃ r, m[k]? = some r ∧ r.length = n ∧ ∀ x ∈ r, 0 ≤ x ∧ x ≤ 2000 := by
  obtain ⟨r, hr⟩ := ZH hk
  exact ⟨r, hr, hin.cnt.2.2.2 r (List.mem_of_getElem? hr)⟩
theorem Znz (hin : ChIn m n lam limit budget) {r : List Int} (hl : r.length = n) (hb : ∀ x ∈ r, 0 ≤ x ∧ x ≤ 2000) (c : Nat) : 0 ≤ (r.drop c).sum ∧ (r.drop c).sum ≤ 4000000 := by
  have h1 := ZhZ (r.drop c) fun y hy => hb y (List.mem_of_mem_drop hy)
  have h2 : (r.drop c).length ≤ 2000 := by rw [List.length_drop]; have := hin.cnt.2.2.1; omega
  omega
structure SPre (m : R2) (n : Nat) (lam limit budget : Int) (sums ch : List Int) (s : ChS) (r : Nat) : Prop where
  len : sums.length = m.length
  sm : ∀ x ∈ sums, 0 ≤ x ∧ x ≤ lam
  cl : ch.length + r ≤ n
  rn : r ≤ n
  inv : ChInv limit budget s
theorem Zkc {α : Type} {b : Nat} {xs ys : List α} (h : (xs.length + ys.length) * b ≤ 140737488355328) (h2 : xs.length + ys.length ≤ 4611686018427387904) : gApp b xs ys = some (xs ++ ys) := by
  unfold gApp; rw [if_pos ⟨h, h2⟩]
theorem ZoU {l : List Int} (h : l.length ≤ 4000) : Zae l = some l := by
  unfold Zae
  rw [Zkc (by simp; omega) (by simp; omega)]
  simp
def toC (m : R2) (lam limit budget : Int) (sums later ch : List Int) (s : ChS) : Zg := Zg.mk (ZI.mk (budget - s.nodes) s.full) m lam limit sums later ch s.count s.first
theorem Zek (hin : ChIn m n lam limit budget) {c : Nat} (hc : c < n) {f : Int} {c0 : Zg} (hm : c0.qmatrix = m) (hf : f = 1 ∨ f = -1) {xs : List Int} (hl : xs.length = m.length) (hb : ∀ x ∈ xs, -10000000 ≤ x ∧ x ≤ 10000000) :
    ZaV c0 xs (c : Int) f = some (addL xs ((QcolOf m c).map (f * ·))) := by
  have hm2 := hin.cnt.2.1
  unfold ZaV
  have hal : (addL xs ((QcolOf m c).map (f * ·))).length = xs.length := Zaq (by rw [List.length_map, Zbj, hl])
  let g : Nat → Int × List Int := fun k => ((k : Int), (addL xs ((QcolOf m c).map (f * ·))).take k ++ xs.drop k)
  have h0 : g 0 = (0, xs) := by simp [g]
  have h1 : g m.length = ((m.length : Int), addL xs ((QcolOf m c).map (f * ·))) := by
    simp only [g]; rw [List.take_of_length_le (by omega), List.drop_of_length_le (by omega), List.append_nil]
  rw [← h0, Ze2 g m.length fun k hk => ?_, h1]
  · refine Ze ?_
    rw [Zdp, hm, lt_f]; rfl
  · obtain ⟨row, er, hrl, hrb⟩ := ZaQ hin hk
    obtain ⟨y, ey⟩ := ZH (xs := row) (k := c) (by omega)
    obtain ⟨x, hx⟩ := ZH (xs := xs) (k := k) (by omega)
    have hyb := hrb y (List.mem_of_getElem? ey)
    have hxb := hb x (List.mem_of_getElem? hx)
    have hg : (addL xs ((QcolOf m c).map (f * ·)))[k]? = some (x + f * y) := Zal hx (by rw [List.getElem?_map, Zbr er, Zdk ey]; rfl)
    have hlk : ((addL xs ((QcolOf m c).map (f * ·))).take k).length = k := by rw [List.length_take]; omega
    have hcur : ((addL xs ((QcolOf m c).map (f * ·))).take k ++ xs.drop k)[k]? = some x := by
      rw [List.getElem?_append_right (by omega), hlk, Nat.sub_self, List.getElem?_drop]; simpa using hx
    simp only [g]
    rw [Zdp, hm, lt_t hk, Zag er]
    simp only [cond_true, Option.bind_some]
    rw [Zag hcur]
    simp only [Option.bind_some]
    rw [Zag ey]
    simp only [Option.bind_some]
    have hfy : IntKind.i64.wrap (f * y) = f * y := by rcases hf with rfl | rfl <;> exact wr (by omega) (by omega)
    have hxy : IntKind.i64.wrap (x + f * y) = x + f * y := by rcases hf with rfl | rfl <;> exact wr (by omega) (by omega)
    rw [hfy, hxy, wrapN hk (by unfold M63; omega), Int.toNat_natCast]
    have : ((addL xs ((QcolOf m c).map (f * ·))).take k ++ xs.drop k).set k (x + f * y) = (addL xs ((QcolOf m c).map (f * ·))).take (k + 1) ++ xs.drop (k + 1) := by
      rw [List.set_append, if_neg (by omega), hlk, Nat.sub_self, List.take_add_one, hg]
      have hd : xs.drop k = x :: xs.drop (k + 1) := by
        rw [List.drop_eq_getElem_cons (by omega)]
        congr 1
        have := List.getElem?_eq_getElem (l := xs) (i := k) (by omega)
        rw [hx] at this; exact (Option.some.inj this).symm
      rw [hd]; simp
    rw [this]
theorem ZgZ (hin : ChIn m n lam limit budget) {c0 : Zg} {sums later : List Int} (h1 : c0.qsums = sums) (h2 : c0.qlater = later) (h3 : c0.qlambda = lam) (hl : sums.length = m.length) (hl2 : later.length = m.length) (hb : ∀ x ∈ sums, 0 ≤ x ∧ x ≤ 5000) (hb2 : ∀ x ∈ later, 0 ≤ x ∧ x ≤ 4000000) :
    Zcb c0 = some (!(highB lam sums || lowB lam sums later)) := by
  have hm2 := hin.cnt.2.1
  unfold Zcb
  have hN : sums.length ≤ M63 := by unfold M63; omega
  have key : ∀ (d k : Nat), k + d = sums.length → (∀ (j : Nat) x y, j < k → sums[j]? = some x → later[j]? = some y → x ≤ lam ∧ lam ≤ x + y) →
      loop (Zbo c0) (k : Int) = some (!(highB lam sums || lowB lam sums later)) := by
    intro d
    induction d with
    | zero =>
      intro k hk ha
      obtain rfl : k = sums.length := by omega
      have e1 : highB lam sums = false := Zey fun x hx => by
        obtain ⟨j, hj⟩ := List.getElem?_of_mem hx
        obtain ⟨y, hy⟩ := ZH (xs := later) (k := j) (by have := ZC hj; omega)
        exact (ha j x y (ZC hj) hj hy).1
      have e2 : lowB lam sums later = false := ZmH fun j x y hx hy => (ha j x y (ZC hx) hx hy).2
      rw [e1, e2]
      refine Ze ?_
      rw [Zbo, h1, lt_f]; rfl
    | succ d ih =>
      intro k hk ha
      obtain ⟨x, hx⟩ := ZH (xs := sums) (k := k) (by omega)
      obtain ⟨y, hy⟩ := ZH (xs := later) (k := k) (by omega)
      have hxb := hb x (List.mem_of_getElem? hx)
      have hyb := hb2 y (List.mem_of_getElem? hy)
      have hB : Zbo c0 (k : Int) = bif decide (x > lam) then some (.inr false) else bif decide (x + y < lam) then some (.inr false) else some (.inl (IntKind.i64.wrap ((k : Int) + 1))) := by
        rw [Zbo, h1, h2, h3, lt_t (ZC hx), Zag hx, Zag hy]
        simp only [cond_true, Option.bind_some]
        rw [wr (by omega) (by omega)]
      cases hd : decide (x > lam)
      · rw [hd] at hB
        cases he : decide (x + y < lam)
        · rw [he] at hB
          have hB' : Zbo c0 (k : Int) = some (.inl ((k + 1 : Nat) : Int)) := by rw [hB, ← wrapN (n := sums.length) (by omega) hN]; rfl
          rw [ZE hB']
          refine ih (k + 1) (by omega) fun j x' y' hj hx' hy' => ?_
          by_cases hjk : j = k
          · subst hjk
            rw [hx] at hx'; rw [hy] at hy'; cases hx'; cases hy'
            have g1 := of_decide_eq_false hd
            have g2 := of_decide_eq_false he
            omega
          · exact ha j x' y' (by omega) hx' hy'
        · rw [he] at hB
          rw [Zfx hx hy (of_decide_eq_true he), Ze hB]; simp
      · rw [hd] at hB
        rw [ZjF hx (of_decide_eq_true hd), Ze hB]; simp
  exact key sums.length 0 (by omega) fun j x y hj => by omega
theorem ZnF {xs ys : List Int} (h : xs.length = ys.length) : addL (addL xs (ys.map (1 * ·))) (ys.map (-1 * ·)) = xs := by
  apply List.ext_getElem?
  intro k
  by_cases hk : k < xs.length
  · obtain ⟨x, hx⟩ := ZH (xs := xs) (k := k) hk
    obtain ⟨y, hy⟩ := ZH (xs := ys) (k := k) (by omega)
    rw [Zal (Zal hx (show (ys.map (1 * ·))[k]? = some (1 * y) by rw [List.getElem?_map, hy]; rfl)) (show (ys.map (-1 * ·))[k]? = some (-1 * y) by rw [List.getElem?_map, hy]; rfl), hx]
    congr 1; omega
  · have h1 : (addL xs (ys.map (1 * ·))).length = xs.length := Zaq (by rw [List.length_map]; exact h)
    have h2 : (addL (addL xs (ys.map (1 * ·))) (ys.map (-1 * ·))).length = xs.length := by rw [Zaq (by rw [h1, List.length_map]; exact h), h1]
    rw [List.getElem?_eq_none (by omega), List.getElem?_eq_none (by omega)]
theorem Zg3 (xs ys : List Int) : addL xs (ys.map (1 * ·)) = addL xs ys := by
  have : ys.map (1 * ·) = ys := by simp
  rw [this]
theorem Zi1 {c : Nat} (hc : c < n) (hin : ChIn m n lam limit budget) : addL (tailsOf m c) ((QcolOf m c).map (-1 * ·)) = tailsOf m (c + 1) := by
  apply List.ext_getElem?
  intro k
  by_cases hk : k < m.length
  · obtain ⟨row, er, hrl, _⟩ := ZaQ hin hk
    obtain ⟨y, ey⟩ := ZH (xs := row) (k := c) (by omega)
    rw [Zal (ZaS er) (show ((QcolOf m c).map (-1 * ·))[k]? = some (-1 * y) by rw [List.getElem?_map, Zbr er, Zdk ey]; rfl), ZaS er]
    congr 1
    have : row.drop c = y :: row.drop (c + 1) := by
      rw [List.drop_eq_getElem_cons (by omega)]
      congr 1
      have := List.getElem?_eq_getElem (l := row) (i := c) (by omega)
      rw [ey] at this; exact (Option.some.inj this).symm
    rw [this, List.sum_cons]; omega
  · have h2 : (addL (tailsOf m c) ((QcolOf m c).map (-1 * ·))).length = m.length := by rw [Zaq (by rw [List.length_map, Zbj, Zaa]), Zaa]
    rw [List.getElem?_eq_none (by omega), List.getElem?_eq_none (by rw [Zaa]; omega)]
theorem Zp8 {c : Nat} (hc : c < n) (hin : ChIn m n lam limit budget) : addL (tailsOf m (c + 1)) ((QcolOf m c).map (1 * ·)) = tailsOf m c := by
  rw [← Zi1 hc hin]
  apply List.ext_getElem?
  intro k
  by_cases hk : k < m.length
  · obtain ⟨row, er, hrl, _⟩ := ZaQ hin hk
    have g1 : ((QcolOf m c).map (-1 * ·))[k]? = some (-1 * row.getD c 0) := by rw [List.getElem?_map, Zbr er]; rfl
    have g2 : ((QcolOf m c).map (1 * ·))[k]? = some (1 * row.getD c 0) := by rw [List.getElem?_map, Zbr er]; rfl
    rw [Zal (Zal (ZaS er) g1) g2, ZaS er]
    congr 1; omega
  · have h1 : (addL (tailsOf m c) ((QcolOf m c).map (-1 * ·))).length = m.length := by rw [Zaq (by rw [List.length_map, Zbj, Zaa]), Zaa]
    rw [List.getElem?_eq_none (by rw [Zaq (by rw [h1, List.length_map, Zbj]), h1]; omega), List.getElem?_eq_none (by rw [Zaa]; omega)]
theorem ZdB (hin : ChIn m n lam limit budget) (c : Nat) : ∀ x ∈ tailsOf m c, 0 ≤ x ∧ x ≤ 4000000 := by
  intro x hx
  obtain ⟨k, hk⟩ := List.getElem?_of_mem hx
  have hlt := ZC hk
  rw [Zaa] at hlt
  obtain ⟨row, er, hrl, hrb⟩ := ZaQ hin hlt
  rw [ZaS er] at hk; cases hk
  exact Znz hin hrl hrb c
theorem ZlB (hin : ChIn m n lam limit budget) {c : Nat} (hc : c < n) {sums : List Int} (hlen : sums.length = m.length) (hsm : ∀ x ∈ sums, 0 ≤ x ∧ x ≤ lam) : ∀ x ∈ addL sums (QcolOf m c), 0 ≤ x ∧ x ≤ 5000 := by
  intro z hz
  have hl := hin.lam1
  obtain ⟨k, hk⟩ := List.getElem?_of_mem hz
  have hlt := ZC hk
  rw [Zaq (by rw [Zbj, hlen])] at hlt
  obtain ⟨x, hx⟩ := ZH (xs := sums) (k := k) hlt
  obtain ⟨row, er, hrl, hrb⟩ := ZaQ hin (k := k) (by omega)
  obtain ⟨y, ey⟩ := ZH (xs := row) (k := c) (by omega)
  rw [Zal hx (by rw [Zbr er, Zdk ey])] at hk
  cases hk
  have := hrb y (List.mem_of_getElem? ey)
  have := hsm x (List.mem_of_getElem? hx)
  omega
theorem Zki (hin : ChIn m n lam limit budget) {r c : Nat} (hcn : c + 1 = n - r) (hcl : c < n) {rf : Zg → Int → Option Zg} {y0 : Zg} (hy : y0.qmatrix = m)
    (hrec : ∀ sums ch s, SPre m n lam limit budget sums ch s r → s.count < limit → lowB lam sums (tailsOf m (n - r)) = false → rf (toC m lam limit budget sums (tailsOf m (n - r)) ch s) ((n - r : Nat) : Int) = some (toC m lam limit budget sums (tailsOf m (n - r)) ch (goCh m lam limit budget n r sums ch s)))
    {sums ch : List Int} {s : ChS} {e : Bool} {i : Int} (hlen : sums.length = m.length) (hb : ∀ x ∈ sums, 0 ≤ x ∧ x ≤ 5000) (hch : ch.length + r ≤ n) (hrn : r ≤ n) (hinv : ChInv limit budget s) :
    ZbT rf y0 (c : Int) i (budget - s.nodes) s.full lam limit s.count (tailsOf m (n - r)) s.first e sums ch =
      (let s' := bif highB lam sums then s else onCh limit budget (lowB lam sums (tailsOf m (n - r))) (goCh m lam limit budget n r sums ch) s
       Zay y0 (c : Int) i e (budget - s'.nodes) s'.full lam limit s'.count (tailsOf m (n - r)) sums ch s'.first) := by
  have hl2 := hin.lam1
  have hb1 := hin.bud1
  have i1 := hinv.n0
  have i2 := hinv.n1
  have i3 := hinv.c0
  have i4 := hinv.c1
  have i5 := hin.lim1
  have hn2 := hin.cnt.2.2.1
  unfold ZbT
  rw [ZgZ hin rfl rfl rfl hlen (Zaa m _) hb (ZdB hin _)]
  simp only [Option.bind_some]
  cases hh : highB lam sums
  · cases hlo : lowB lam sums (tailsOf m (n - r))
    · simp only [Bool.or_false, Bool.not_false, cond_true, cond_false, Bool.or_self]
      unfold onCh
      simp only [Bool.false_or]
      cases hct : decide (s.count < limit)
      · have hce : (s.count == limit) = true := by have := of_decide_eq_false hct; simp; omega
        rw [hce]
        simp
      · have hcl' := of_decide_eq_true hct
        have hce : (s.count == limit) = false := by simp; omega
        rw [hce]
        simp only [cond_true]
        cases hf : s.full
        · simp only [Bool.not_false, cond_true, Bool.or_self, cond_false]
          unfold ZeK
          simp only []
          cases hnb : (s.nodes == budget)
          · have hnb' : s.nodes ≠ budget := by simpa using hnb
            have hz : ((budget - s.nodes : Int) == 0) = false := by simp; omega
            rw [hz]
            simp only [cond_false, Option.bind_some, cond_true]
            rw [wr (by omega) (by omega)]
            have hcol : IntKind.i64.wrap ((c : Int) + 1) = ((n - r : Nat) : Int) := by rw [wr (by omega) (by omega)]; omega
            rw [hcol]
            have := hrec sums ch { s with nodes := s.nodes + 1 } ⟨hlen, fun x hx => ⟨(hb x hx).1, Ziz hh x hx⟩, hch, hrn, ⟨hinv.c0, hinv.c1, by show 0 ≤ s.nodes + 1; omega, by show s.nodes + 1 ≤ budget; omega⟩⟩ hcl' hlo
            unfold toC at this
            simp only [hf] at this
            rw [hy, show budget - s.nodes - 1 = budget - (s.nodes + 1) by omega, this]
            rfl
          · have hnb' : s.nodes = budget := by simpa using hnb
            have hz : ((budget - s.nodes : Int) == 0) = true := by simp; omega
            rw [hz]
            simp
        · simp [hf]
    · simp only [Bool.or_true, Bool.not_true, cond_false]
      unfold onCh
      simp
  · simp
theorem Zjo (hin : ChIn m n lam limit budget) : ∀ (r N : Nat), r < N → ∀ sums ch s, SPre m n lam limit budget sums ch s r → s.count < limit → (r = 0 → lowB lam sums (tailsOf m (n - r)) = false) →
    (pn_impl_chooser_search N) (toC m lam limit budget sums (tailsOf m (n - r)) ch s) ((n - r : Nat) : Int) = some (toC m lam limit budget sums (tailsOf m (n - r)) ch (goCh m lam limit budget n r sums ch s))
  | r, 0, hN, _, _, _, _, _, _ => by omega
  | r, N + 1, hN, sums, ch, s, pre, hct, hpos => by
    obtain ⟨row0, e0, hr0, _⟩ := ZaQ hin (k := 0) (by have := hin.cnt.1; omega)
    have hcl := pre.cl
    have hrn := pre.rn
    have hn2 := hin.cnt.2.2.1
    have hl2 := hin.lam1
    show q_impl_chooser_search (pn_impl_chooser_search N) _ _ = _
    unfold q_impl_chooser_search
    rw [show gIdx (toC m lam limit budget sums (tailsOf m (n - r)) ch s).qmatrix 0 = some row0 from Zag (k := 0) e0]
    simp only [Option.bind_some]
    cases r with
    | zero =>
      have hc : (((n - 0 : Nat) : Int) == (row0.length : Int)) = true := by rw [hr0]; simp
      rw [hc]
      simp only [cond_true]
      have hb := pre.inv.c0
      have hb1 := hin.lim1
      rw [ZgZ hin (sums := sums) (later := tailsOf m (n - 0)) rfl rfl rfl pre.len (Zaa m _) (fun x hx => by have := pre.sm x hx; omega) (ZdB hin _), Zey fun x hx => (pre.sm x hx).2, hpos rfl]
      simp only [Option.bind_some, Bool.or_self, Bool.not_false, cond_true]
      unfold goCh toC
      simp only []
      cases hz : (s.count == 0)
      · simp only [cond_false]
        unfold ZcP
        simp only []
        rw [wr (by omega) (by omega)]
      · simp only [cond_true]
        rw [ZoU (by omega)]
        simp only [Option.bind_some]
        unfold ZcP
        simp only []
        rw [wr (by omega) (by omega)]
    | succ r =>
      have hc : (((n - (r + 1) : Nat) : Int) == (row0.length : Int)) = false := by rw [hr0]; simp; omega
      rw [hc]
      simp only [cond_false]
      have hlt : n - (r + 1) < n := by omega
      have hcn : n - (r + 1) + 1 = n - r := by omega
      rw [Zek hin hlt (f := -1) (xs := (toC m lam limit budget sums (tailsOf m (n - (r + 1))) ch s).qlater) rfl (.inr rfl) (Zaa m _) (fun x hx => by have := ZdB hin _ x hx; omega)]
      simp only [Option.bind_some]
      rw [show (toC m lam limit budget sums (tailsOf m (n - (r + 1))) ch s).qlater = tailsOf m (n - (r + 1)) from rfl, Zi1 hlt hin, hcn]
      have hrec : ∀ sums' ch' s', SPre m n lam limit budget sums' ch' s' r → s'.count < limit → lowB lam sums' (tailsOf m (n - r)) = false → (pn_impl_chooser_search N) (toC m lam limit budget sums' (tailsOf m (n - r)) ch' s') ((n - r : Nat) : Int) = some (toC m lam limit budget sums' (tailsOf m (n - r)) ch' (goCh m lam limit budget n r sums' ch' s')) :=
        fun sums' ch' s' p' c' l' => Zjo hin r N (by omega) sums' ch' s' p' c' fun _ => l'
      generalize hnx : addL sums (QcolOf m (n - (r + 1))) = nx
      have hnxl : nx.length = m.length := by rw [← hnx, Zaq (by rw [Zbj, pre.len]), pre.len]
      have hnxb : ∀ x ∈ nx, 0 ≤ x ∧ x ≤ 5000 := by rw [← hnx]; exact ZlB hin hlt pre.len pre.sm
      generalize hs1 : (bif highB lam nx then s else onCh limit budget (lowB lam nx (tailsOf m (n - r))) (goCh m lam limit budget n r nx (ch ++ [((n - (r + 1) : Nat) : Int)])) s) = s1
      have hi1 : ChInv limit budget s1 := by
        rw [← hs1]
        cases highB lam nx
        · exact Zgp pre.inv fun s hs hc => Zh3 r _ _ s hs hc
        · exact pre.inv
      generalize hs2 : onCh limit budget (lowB lam sums (tailsOf m (n - r))) (goCh m lam limit budget n r sums ch) s1 = s2
      have hgo : goCh m lam limit budget n (r + 1) sums ch s = s2 := by
        unfold goCh
        simp only []
        rw [hnx, hs1, hs2]
      rw [hgo]
      -- the first round
      have r0 : ZaT (pn_impl_chooser_search N) (toC m lam limit budget sums (tailsOf m (n - (r + 1))) ch s) ((n - (r + 1) : Nat) : Int) (0, budget - s.nodes, s.full, lam, limit, s.count, tailsOf m (n - r), sums, ch, s.first) =
          some (.inl (1, budget - s1.nodes, s1.full, lam, limit, s1.count, tailsOf m (n - r), sums, ch, s1.first)) := by
        rw [ZaT]
        have h0 : decide ((0 : Int) < (([true, false] : List Bool).length : Int)) = true := by decide
        rw [h0, show gIdx ([true, false] : List Bool) 0 = some true from rfl]
        simp only [cond_true, Option.bind_some]
        rw [Zek hin hlt (f := 1) rfl (.inl rfl) pre.len (fun x hx => by have := pre.sm x hx; omega)]
        simp only [Option.bind_some]
        rw [Zg3, hnx, Zkc (by simp only [List.length_singleton]; omega) (by simp only [List.length_singleton]; omega)]
        simp only [Option.bind_some]
        rw [Zki hin hcn hlt rfl hrec hnxl hnxb (by rw [List.length_append, List.length_singleton]; omega) (by omega) pre.inv]
        rw [hs1]
        simp only []
        unfold Zay
        simp only [cond_true]
        rw [Zek hin hlt (f := -1) rfl (.inr rfl) hnxl (fun x hx => by have := hnxb x hx; omega)]
        simp only [Option.bind_some]
        have hcut : gSl (ch ++ [((n - (r + 1) : Nat) : Int)]) 0 (IntKind.i64.wrap (((ch ++ [((n - (r + 1) : Nat) : Int)]).length : Int) - 1)) = some ch := by
          have hlc : ((ch ++ [((n - (r + 1) : Nat) : Int)]).length : Int) = (ch.length : Int) + 1 := by rw [List.length_append, List.length_singleton]; omega
          rw [hlc, wr (by omega) (by omega)]
          unfold gSl
          rw [if_pos ⟨by omega, by omega, by rw [hlc]; omega⟩, show ((ch.length : Int) + 1 - 1).toNat = ch.length by omega]
          simp
        rw [hcut]
        simp only [Option.bind_some]
        rw [← hnx, ← Zg3 sums, ZnF (by rw [Zbj, pre.len])]
        rfl
      -- the second
      have r1 : ZaT (pn_impl_chooser_search N) (toC m lam limit budget sums (tailsOf m (n - (r + 1))) ch s) ((n - (r + 1) : Nat) : Int) (1, budget - s1.nodes, s1.full, lam, limit, s1.count, tailsOf m (n - r), sums, ch, s1.first) =
          some (.inl (2, budget - s2.nodes, s2.full, lam, limit, s2.count, tailsOf m (n - r), sums, ch, s2.first)) := by
        rw [ZaT]
        have h0 : decide ((1 : Int) < (([true, false] : List Bool).length : Int)) = true := by decide
        rw [h0, show gIdx ([true, false] : List Bool) 1 = some false from rfl]
        simp only [cond_true, cond_false, Option.bind_some]
        rw [Zki hin hcn hlt rfl hrec pre.len (fun x hx => by have := pre.sm x hx; omega) (by omega) (by omega) hi1]
        rw [Zey fun x hx => (pre.sm x hx).2]
        simp only [cond_false]
        rw [hs2]
        unfold Zay
        simp only [cond_false]
        rfl
      have r2 : ZaT (pn_impl_chooser_search N) (toC m lam limit budget sums (tailsOf m (n - (r + 1))) ch s) ((n - (r + 1) : Nat) : Int) (2, budget - s2.nodes, s2.full, lam, limit, s2.count, tailsOf m (n - r), sums, ch, s2.first) =
          some (.inr (toC m lam limit budget sums (tailsOf m (n - (r + 1))) ch s2)) := by
        rw [ZaT]
        have h0 : decide ((2 : Int) < (([true, false] : List Bool).length : Int)) = false := by decide
        rw [h0]
        simp only [cond_false]
        rw [← hcn, Zek hin hlt (f := 1) rfl (.inl rfl) (Zaa m _) (fun x hx => by have := ZdB hin _ x hx; omega)]
        simp only [Option.bind_some]
        rw [Zp8 hlt hin]
        rfl
      show loop _ (0, budget - s.nodes, s.full, lam, limit, s.count, tailsOf m (n - r), sums, ch, s.first) = _
      rw [ZE r0, ZE r1, Ze r2]
end
theorem Zfa {x a b : Int} : ZL x a b = some (decide (a ≤ x ∧ x ≤ b)) := by
  unfold ZL
  by_cases h1 : x ≥ a
  · rw [bif_t h1]; by_cases h2 : x ≤ b <;> simp [h1, h2] <;> omega
  · rw [bif_f h1]; simp; omega
theorem ZcB {x : Int} : Zcw x = some (decide (1 ≤ x ∧ x ≤ 20000)) := by unfold Zcw; rw [Zfa]; rfl
theorem ZoO {x : Int} : Zed x = some (decide (1 ≤ x ∧ x ≤ 2000)) := by unfold Zed; rw [Zfa]; rfl
def Counts (m : R2) : Prop := ∃ n, CountsN m n
theorem ZoT {n : Int} {l : List Int} (h : OkL I64 l) (h1 : 1 ≤ n) (h2 : n ≤ 100000) : IsQ (Zc7 n l) (∀ x ∈ l, 0 ≤ x ∧ x ≤ n - 1) := by
  unfold Zc7 ZcV
  unfold ZeV
  have hc := Zec (xs := l) (B := ZaY l (fun y0 => ZcG y0 n)) (f := fun y0 => ZcG y0 n) (q := fun x => ¬ (0 ≤ x ∧ x ≤ n - 1)) h.1 (fun x hx => by
    unfold ZcG
    rw [Zfa, wr (by omega) (by omega)]
    exact IsQ.not ⟨_, rfl, by simp⟩) (fun k x ex => by
    rw [ZaY, lt_t (ZC ex), Zag ex]
    simp only [cond_true, Option.bind_some]) (by rw [ZaY, lt_f]; rfl)
  exact hc.not.congr ⟨fun hn x hx => Classical.byContradiction fun hh => hn ⟨x, hx, hh⟩, fun ha ⟨x, hx, hh⟩ => hh (ha x hx)⟩
theorem Zp9 {m : R2} (h : OkL (OkL I64) m) : IsQ (Zel m) (Counts m) := by
  unfold Zel
  rw [show ZeI m = some (m.length : Int) from rfl]
  simp only [Option.bind_some]
  rw [Zfa]
  simp only [Option.bind_some]
  by_cases h1 : 1 ≤ (m.length : Int) ∧ (m.length : Int) ≤ 2000
  · rw [decide_eq_true h1]
    simp only [Bool.not_true, cond_false]
    obtain ⟨r0, e0⟩ := ZH (xs := m) (k := 0) (by omega)
    rw [show gIdx m 0 = some r0 from Zag (k := 0) e0]
    simp only [Option.bind_some]
    by_cases h2 : (r0.length : Int) > 2000
    · rw [bif_t h2]; exact IsQ.f fun ⟨n, hn⟩ => by have := hn.2.2.1; have := (hn.2.2.2 r0 (List.mem_of_getElem? e0)).1; omega
    rw [bif_f h2]
    unfold Zew Za8 Zfe
    have hc := Zec (xs := m) (B := Za1 m (fun y0 => Zct y0 m)) (f := fun y0 => Zct y0 m) (q := fun r => ¬ (r.length = r0.length ∧ ∀ x ∈ r, 0 ≤ x ∧ x ≤ 2000)) h.1 (fun r hr => by
      unfold Zct
      rw [show gIdx m 0 = some r0 from Zag (k := 0) e0]
      simp only [Option.bind_some]
      by_cases g1 : r.length = r0.length
      · have : (((r.length : Int) : Int) != (r0.length : Int)) = false := by simp [g1]
        rw [this]
        simp only [cond_false]
        exact (ZoT (h.2 r hr) (by omega) (by omega)).not.congr ⟨fun hn ha => hn ha.2, fun hn ha => hn ⟨g1, ha⟩⟩
      · have : (((r.length : Int) : Int) != (r0.length : Int)) = true := by simp; omega
        rw [this]
        exact IsQ.t fun ha => g1 ha.1) (fun k x ex => by
      rw [Za1, lt_t (ZC ex), Zag ex]
      simp only [cond_true, Option.bind_some]) (by rw [Za1, lt_f]; rfl)
    refine hc.not.congr ⟨fun hn => ?_, fun ⟨n, hn⟩ ⟨r, hr, hh⟩ => hh ?_⟩
    · have ha : ∀ r ∈ m, r.length = r0.length ∧ ∀ x ∈ r, 0 ≤ x ∧ x ≤ 2000 := fun r hr => Classical.byContradiction fun hh => hn ⟨r, hr, hh⟩
      exact ⟨r0.length, by omega, by omega, by omega, ha⟩
    · have a1 := hn.2.2.2 r hr
      have a2 := hn.2.2.2 r0 (List.mem_of_getElem? e0)
      exact ⟨by omega, a1.2⟩
  · rw [decide_eq_false h1]
    exact IsQ.f fun ⟨n, hn⟩ => h1 ⟨by have := hn.1; omega, by have := hn.2.1; omega⟩
section
variable {m : R2} {n : Nat} {lam limit budget : Int}
def s0 : ChS := ⟨0, false, 0, []⟩
def zeros (m : R2) : List Int := List.replicate m.length 0
def reach (m : R2) (lam : Int) : Bool := !lowB lam (zeros m) (tailsOf m 0)
def sEnd (m : R2) (n : Nat) (lam limit budget : Int) : ChS := bif reach m lam then goCh m lam limit budget n n (zeros m) [] s0 else s0
theorem Zf8 {m : R2} {k : Nat} (h : k < m.length) : (zeros m)[k]? = some 0 := by unfold zeros; rw [List.getElem?_replicate, if_pos h]
theorem Zoz (hin : ChIn m n lam limit budget) : ∃ sums later ch, Zdf m lam limit budget = some (Zg.mk (ZI.mk (budget - (sEnd m n lam limit budget).nodes) (sEnd m n lam limit budget).full) m lam limit sums later ch (sEnd m n lam limit budget).count (sEnd m n lam limit budget).first) := by
  have hm2 := hin.cnt.2.1
  have hn2 := hin.cnt.2.2.1
  have hl0 := hin.lam0
  have hl1 := hin.lam1
  obtain ⟨row0, e0, hr0, _⟩ := ZaQ hin (k := 0) (by have := hin.cnt.1; omega)
  unfold Zdf
  rw [Zeo (by omega) (by omega)]
  simp only [Option.bind_some]
  rw [show gIdx m 0 = some row0 from Zag (k := 0) e0]
  simp only [Option.bind_some]
  let f : Nat → Int × List Int := fun k => ((k : Int), m.map fun r => (r.take k).sum)
  have h0 : f 0 = (0, List.replicate m.length 0) := by
    simp only [f, List.take_zero, List.sum_nil]
    rw [List.map_const']; rfl
  have hend : (m.map fun r => (r.take n).sum) = tailsOf m 0 := by
    unfold tailsOf
    refine List.map_congr_left fun r hr => ?_
    rw [List.take_of_length_le (by have := (hin.cnt.2.2.2 r hr).1; omega), List.drop_zero]
  have h1 : f n = ((row0.length : Int), tailsOf m 0) := by simp only [f]; rw [hend, hr0]
  rw [← h0, Ze2 f n fun k hk => ?_, h1]
  · have hz : (List.replicate m.length (0 : Int)) = zeros m := rfl
    have inv0 : ChInv limit budget s0 := ⟨by show (0 : Int) ≤ 0; omega, by show (0 : Int) ≤ limit; have := hin.lim0; omega, by show (0 : Int) ≤ 0; omega, by show (0 : Int) ≤ budget; have := hin.bud0; omega⟩
    have pre0 : SPre m n lam limit budget (zeros m) [] s0 n := ⟨by unfold zeros; simp, fun x hx => by unfold zeros at hx; rw [List.mem_replicate] at hx; omega, by simp, Nat.le_refl _, inv0⟩
    have hsearch : Zc2 (toC m lam limit budget (zeros m) (tailsOf m 0) [] s0) 0 = some (toC m lam limit budget (zeros m) (tailsOf m 0) [] (sEnd m n lam limit budget)) := by
      by_cases hcase : n = 0 ∧ lowB lam (zeros m) (tailsOf m 0) = true
      · -- no columns: nothing is found
        obtain ⟨hn, hlow⟩ := hcase
        have hr : reach m lam = false := by unfold reach; rw [hlow]; rfl
        unfold sEnd
        rw [hr]
        simp only [cond_false]
        show q_impl_chooser_search (pn_impl_chooser_search 999999) _ _ = _
        unfold q_impl_chooser_search
        rw [show gIdx (toC m lam limit budget (zeros m) (tailsOf m 0) [] s0).qmatrix 0 = some row0 from Zag (k := 0) e0]
        simp only [Option.bind_some]
        have hc : ((0 : Int) == (row0.length : Int)) = true := by rw [hr0, hn]; rfl
        rw [hc]
        simp only [cond_true]
        rw [ZgZ hin (sums := zeros m) (later := tailsOf m 0) rfl rfl rfl pre0.len (Zaa m _) (fun x hx => by have := pre0.sm x hx; omega) (ZdB hin _), hlow]
        simp only [Option.bind_some, Bool.or_true, Bool.not_true, cond_false]
        first | rfl | done
      · have hsr := Zjo hin n fuel (by unfold fuel; omega) (zeros m) [] s0 pre0 (by show (0 : Int) < limit; have := hin.lim0; omega) (fun hn => by
          rw [Nat.sub_self]
          cases hb : lowB lam (zeros m) (tailsOf m 0)
          · rfl
          · exact absurd ⟨hn, hb⟩ hcase)
        rw [Nat.sub_self] at hsr
        rw [show Zc2 _ (0 : Int) = _ from hsr]
        unfold sEnd
        cases hr : reach m lam
        · -- out of reach: neither half is visited
          have hlow : lowB lam (zeros m) (tailsOf m 0) = true := by
            unfold reach at hr; simpa using hr
          have hgo : goCh m lam limit budget n n (zeros m) [] s0 = s0 := by
            cases n with
            | zero => exact absurd ⟨rfl, hlow⟩ hcase
            | succ r =>
              have hlt : 0 < r + 1 := by omega
              unfold goCh
              simp only [Nat.sub_self, Nat.add_sub_cancel_left]
              obtain ⟨z, hz', hzl⟩ := List.any_eq_true.1 hlow
              obtain ⟨k, hk⟩ := List.getElem?_of_mem hz'
              have hlt2 := ZC hk
              rw [Zaq (by rw [Zaa]; unfold zeros; simp)] at hlt2
              unfold zeros at hlt2
              rw [List.length_replicate] at hlt2
              obtain ⟨row, er, hrl, hrb⟩ := ZaQ hin hlt2
              rw [Zal (Zf8 hlt2) (ZaS (c := 0) er)] at hk
              cases hk
              have hzl' : 0 + (row.drop 0).sum < lam := by simpa using hzl
              obtain ⟨y, ey⟩ := ZH (xs := row) (k := 0) (by omega)
              have hyb := hrb y (List.mem_of_getElem? ey)
              have hd : row.drop 0 = y :: row.drop 1 := by
                rw [List.drop_eq_getElem_cons (by omega)]
                congr 1
                have := List.getElem?_eq_getElem (l := row) (i := 0) (by omega)
                rw [ey] at this; exact (Option.some.inj this).symm
              rw [hd, List.sum_cons] at hzl'
              have l1 : lowB lam (zeros m) (tailsOf m 1) = true := by
                exact Zfx (Zf8 hlt2) (ZaS (c := 1) er) (by omega)
              have l2 : lowB lam (addL (zeros m) (QcolOf m 0)) (tailsOf m 1) = true := by
                exact Zfx (Zal (Zf8 hlt2) (by rw [Zbr er, Zdk ey])) (ZaS (c := 1) er) (by omega)
              rw [l1, l2]
              have hon : ∀ f s, onCh limit budget true f s = s := fun f s => by unfold onCh; simp
              rw [hon, hon]
              cases highB lam (addL (zeros m) (QcolOf m 0)) <;> rfl
          rw [hgo]; rfl
        · rfl
    refine ⟨zeros m, tailsOf m 0, [], Ze ?_⟩
    rw [ZbN, lt_f]
    simp only [cond_false]
    rw [hz]
    have : budget - s0.nodes = budget := by show budget - 0 = budget; omega
    unfold toC at hsearch
    rw [this] at hsearch
    rw [show Zc2 (Zg.mk (ZI.mk budget false) m lam limit (zeros m) (tailsOf m 0) [] 0 []) 0 = _ from hsearch]
    rfl
  · simp only [f]
    rw [ZbN, show decide ((k : Int) < (row0.length : Int)) = true by simp; omega]
    simp only [cond_true]
    rw [Zek hin hk (f := 1) rfl (.inl rfl) (by simp) (fun x hx => by
      obtain ⟨r, hr, rfl⟩ := List.mem_map.1 hx
      have hb := hin.cnt.2.2.2 r hr
      have h1 := ZhZ (r.take k) fun y hy => hb.2 y (List.mem_of_mem_take hy)
      have h2 : (r.take k).length ≤ 2000 := by rw [List.length_take]; omega
      omega)]
    simp only [Option.bind_some]
    rw [Zg3, wrapN hk (by unfold M63; omega)]
    have : addL (m.map fun r => (r.take k).sum) (QcolOf m k) = m.map fun r => (r.take (k + 1)).sum := by
      apply List.ext_getElem?
      intro i
      by_cases hi : i < m.length
      · obtain ⟨row, er, hrl, _⟩ := ZaQ hin hi
        obtain ⟨y, ey⟩ := ZH (xs := row) (k := k) (by omega)
        rw [Zal (show (m.map fun r => (r.take k).sum)[i]? = some (row.take k).sum by rw [List.getElem?_map, er]; rfl) (by rw [Zbr er, Zdk ey]), List.getElem?_map, er]
        simp only [Option.map_some]
        rw [List.take_add_one, ey, List.sum_append]; simp
      · rw [List.getElem?_eq_none (by rw [Zaq (by rw [Zbj, List.length_map]), List.length_map]; omega), List.getElem?_eq_none (by rw [List.length_map]; omega)]
    rw [this]
end
end Go.Proofs.YtocnokjekoglnaaGreat
