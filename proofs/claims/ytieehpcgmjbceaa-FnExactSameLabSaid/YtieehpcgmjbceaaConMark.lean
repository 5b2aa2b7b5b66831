/- Contracts: marks on slices of strings and of integers. -/
import Derived.Test.YtieehpcgmjbceaaConBase
import Derived.Test.YtieehpcgmjbceaaVcOwn
namespace Go.Proofs.Ytieehpcgmjbceaa
open Go Go.Vc

theorem str_beq (x y : ByteArray) : (x.toList == y.toList) = decide (x = y) := by
  rw [ByteArray.toList_eq, ByteArray.toList_eq]
  by_cases h : x = y
  · subst h; simp
  · rw [decide_eq_false h]
    rw [beq_eq_false_iff_ne]
    exact fun e => h (WideShapes.bytes_inj e)
theorem bif_strne {x y : ByteArray} {A B : Prop} (ha : x ≠ y → A) (hb : x = y → B) : bif !(x.toList == y.toList) then A else B := by
  rw [str_beq]
  exact bif_of (fun h => ha (by simpa using h)) (fun h => hb (by simpa using h))

theorem eqStringS_ok {h : Heap} {v u : Value} {xs ys : List ByteArray} (hv : SlAt 1 eStr h v xs) (hu : SlAt 1 eStr h u ys) (hl : xs.length ≤ 4611686018427387904) :
    CallsH P id_laws_eqStringS #[v, u] h fun r h' => r = .bool (decide (xs = ys)) ∧ h' = h := by
  apply w_laws_eqStringS
  unfold F_laws_eqStringS
  refine vLen_sl hv (vLen_sl hu (bif_ne (fun hne => ?_) fun heq => ?_))
  · rw [decide_eq_false (ne_of_len (by omega))]; exact ⟨rfl, rfl⟩
  refine ⟨fun n i h' => ∃ k : Nat, i = k ∧ k ≤ xs.length ∧ n = xs.length - k ∧ h' = h ∧ Agr xs ys k, ⟨_, 0, rfl, by omega, rfl, rfl, Agr.zero _ _⟩, ?_⟩
  rintro n _ i h' ⟨k, rfl, hk, rfl, rfl, htk⟩
  refine vLen_sl hv (bif_lt (fun hlt => ?_) fun hge => ?_)
  · obtain ⟨x, hx⟩ := get_some (xs := xs) (k := k) (by omega)
    obtain ⟨y, hy⟩ := get_some (xs := ys) (k := k) (by omega)
    refine rdS hv hx (rdS hu hy (bif_strne (fun hne => ?_) fun he => ?_))
    · rw [decide_eq_false (ne_of_get hx hy hne)]; exact ⟨rfl, rfl⟩
    · subst he
      exact ⟨_, by omega, k + 1, wrapS (by omega) hl, by omega, rfl, rfl, htk.succ (by rw [hx, hy])⟩
  · rw [decide_eq_true (htk.all (by omega) (by omega))]; exact ⟨rfl, rfl⟩

/-! The text of a mark. -/
def digB (x : Nat) : UInt8 := UInt8.ofNat (48 + x % 10)
def dig : Nat → Nat → ByteArray → ByteArray
  | 0, _, s => s
  | f + 1, x, s => if x = 0 then s else dig f (x / 10) (⟨#[digB x]⟩ ++ s)
theorem dig_fuel : ∀ (f x : Nat) (s : ByteArray), x ≤ f → dig f x s = dig x x s
  | 0, x, s, h => by
    obtain rfl : x = 0 := by omega
    rfl
  | f + 1, x, s, h => by
    cases x with
    | zero => rfl
    | succ x =>
      simp only [dig, Nat.add_eq_zero_iff, Nat.succ_ne_self, and_false, if_false]
      rw [dig_fuel f _ _ (by omega), dig_fuel x _ _ (by omega)]
def mt (k : Nat) : ByteArray := ⟨#[109]⟩ ++ dig k k ⟨#[]⟩

theorem bsize_append (a b : ByteArray) : (a ++ b).size = a.size + b.size := by simp

theorem markText_ok {h : Heap} {k : Nat} (h1 : 1 ≤ k) (h2 : k ≤ 4611686018427387904) :
    CallsH P id_laws_markText #[.int .i64 k] h fun r h' => r = .string (mt k) ∧ ExtH h h' := by
  apply w_laws_markText
  unfold F_laws_markText
  refine bif_neg (decide_eq_false (by omega)) ?_
  refine ⟨fun n x s h' => ∃ j : Nat, x = j ∧ n = j ∧ dig j j s = dig k k ⟨#[]⟩ ∧ ExtH h h' ∧ s.size + j ≤ k, ⟨k, k, rfl, rfl, rfl, ExtH.refl _, by simp [ByteArray.size]⟩, ?_⟩
  rintro n _ x s h' ⟨j, rfl, rfl, hd, hx, hs⟩
  refine bif_of (fun hpos => ?_) fun hz => ?_
  · have hpos : 0 < n := by simpa using hpos
    refine ⟨by decide, ?_⟩
    have hb : IntKind.u8.wrap (IntKind.i64.wrap (48 + Int.tmod (n : Int) 10)) = ((digB n).toNat : Int) := by
      rw [Int.tmod_eq_emod_of_nonneg (by omega), wrap64_of (by omega) (by omega), IntWalk.u8_in _ (by omega)]
      unfold digB
      rw [UInt8.toNat_ofNat']
      omega
    rw [hb]
    refine vNewS_own (cs := [.int .u8 ((digB n).toNat : Int)]) rfl fun v h2' hown hx2 _ => ?_
    obtain ⟨off, c, rfl, _, hrow, _⟩ := hown
    refine ⟨[digB n], rfl, fun i b hi => ⟨_, rfl, ?_⟩, ?_⟩
    · cases i with
      | zero => simp at hi; subst hi; rw [addr_add]; exact hrow.cell rfl
      | succ i => simp at hi
    have hsz : (⟨#[digB n]⟩ : ByteArray).size = 1 := rfl
    refine ⟨?_, by decide, n / 10, by omega, n / 10, ?_, rfl, ?_, hx.trans hx2, ?_⟩
    · have : IntKind.i64.max = 9223372036854775807 := rfl
      rw [this, hsz]; omega
    · rw [Int.tdiv_eq_ediv_of_nonneg (by omega), wrap64_of (by omega) (by omega)]; omega
    · rw [← hd]
      obtain ⟨m, rfl⟩ : ∃ m, n = m + 1 := ⟨n - 1, by omega⟩
      conv => rhs; unfold dig
      rw [if_neg (by omega), dig_fuel m _ _ (by omega)]
    · rw [bsize_append, hsz]; omega
  · have hz : n = 0 := by have : ¬ (n : Int) > 0 := by simpa using hz
                          omega
    subst hz
    have hd' : s = dig k k ⟨#[]⟩ := hd
    refine ⟨?_, ?_, hx⟩
    · have : IntKind.i64.max = 9223372036854775807 := rfl
      have hsz : (⟨#[109]⟩ : ByteArray).size = 1 := rfl
      rw [this, hsz]; omega
    · rw [hd']; rfl

theorem wrapK {k n m : Nat} (h : k + n ≤ m) (hm : m ≤ 4611686018427387904) : IntKind.i64.wrap (((k + n : Nat) : Int) + 1) = ((k + (n + 1) : Nat) : Int) := by
  rw [wrap64_of (by omega) (by omega)]; omega

/-- The marks that a row of n bears from k on. -/
def marksS (k n : Nat) : List Value := (List.range n).map fun i => .string (mt (k + i))
def marksI (k n : Nat) : List Value := (List.range n).map fun i => .int .i64 ((k + i : Nat) : Int)

theorem set_first {f : Nat → Value} {cs : List Value} {i n : Nat} (hl : cs.length = n) (hi : i < n) (hp : ∀ j, j < i → cs[j]? = some (f j)) :
    (cs.set i (f i)).length = n ∧ ∀ j, j < i + 1 → (cs.set i (f i))[j]? = some (f j) := by
  refine ⟨by simpa using hl, fun j hj => ?_⟩
  rw [List.getElem?_set]
  by_cases hij : i = j
  · subst hij; rw [if_pos rfl, if_pos (by omega)]
  · rw [if_neg hij]; exact hp j (by omega)
theorem all_first {f : Nat → Value} {cs : List Value} {n : Nat} (hl : cs.length = n) (hp : ∀ j, j < n → cs[j]? = some (f j)) : cs = (List.range n).map f := by
  apply List.ext_getElem?
  intro j
  rw [List.getElem?_map]
  by_cases hj : j < n
  · rw [hp j hj, List.getElem?_range hj]; rfl
  · rw [List.getElem?_eq_none (by omega), List.getElem?_eq_none (by simp; omega)]; rfl

theorem markStringS_ok {h : Heap} {v : Value} {b : Nat} {cs : List Value} {k : Nat} (hv : OwnSl h v b cs) (h1 : 1 ≤ k) (hk : k + cs.length ≤ 4611686018427387903) :
    CallsH P id_laws_markStringS #[v, .int .i64 k] h fun r h' => r = .int .i64 ((k + cs.length : Nat) : Int) ∧ OwnSl h' v b (marksS k cs.length) ∧ ExtBut (· = b) h h' := by
  apply w_laws_markStringS
  unfold F_laws_markStringS
  refine ⟨fun n x i h' => ∃ j : Nat, i = j ∧ x = ((k + j : Nat) : Int) ∧ j ≤ cs.length ∧ n = cs.length - j ∧ ExtBut (· = b) h h' ∧
    ∃ cs', cs'.length = cs.length ∧ OwnSl h' v b cs' ∧ ∀ q, q < j → cs'[q]? = some (.string (mt (k + q))), ⟨_, 0, rfl, rfl, by omega, rfl, ExtBut.refl _ _, cs, rfl, hv, fun q hq => by omega⟩, ?_⟩
  rintro n _ x i h' ⟨j, rfl, rfl, hj, rfl, hx, cs', hl, ho, hp⟩
  refine ho.vLen (bif_lt (fun hlt => ?_) fun hge => ?_)
  · refine (markText_ok (by omega) (by omega)).mono ?_
    rintro _ h2 ⟨rfl, hx2⟩
    refine ⟨_, rfl, (ho.ext hx2).idx (by omega) fun off hrow ⟨c, hc1, hc2, hc3⟩ => ?_⟩
    refine vStore1_wr (hrow.wr (by omega)) rfl ?_
    obtain ⟨g1, g2⟩ := set_first (f := fun q => .string (mt (k + q))) hl (by omega) hp
    exact ⟨_, by omega, j + 1, wrapS (by omega) (by omega : cs.length ≤ _), wrapK (by omega) (by omega : k + cs.length ≤ _), by omega, rfl,
      (hx.trans (ExtBut.of_ext hx2)).trans (ExtBut.hset _ _ _), _, g1, ⟨off, c, by rw [hc1]; simp, by simpa using hc2, hrow.set (by omega) _, hc3.hset _ _⟩, g2⟩
  · obtain rfl : j = cs.length := by omega
    refine ⟨rfl, ?_, hx⟩
    rw [all_first hl hp] at ho
    exact ho

theorem heldStringS_ok {h : Heap} {v : Value} {b n k : Nat} (hv : OwnSl h v b (marksS k n)) (h1 : 1 ≤ k) (hk : k + n ≤ 4611686018427387903) :
    CallsH P id_laws_heldStringS #[v, .int .i64 k] h fun r h' => r = .int .i64 ((k + n : Nat) : Int) ∧ ExtH h h' := by
  have hlen : (marksS k n).length = n := by simp [marksS]
  apply w_laws_heldStringS
  unfold F_laws_heldStringS
  refine ⟨fun m x i h' => ∃ j : Nat, i = j ∧ x = ((k + j : Nat) : Int) ∧ j ≤ n ∧ m = n - j ∧ ExtH h h', ⟨_, 0, rfl, rfl, by omega, rfl, ExtH.refl _⟩, ?_⟩
  rintro m _ x i h' ⟨j, rfl, rfl, hj, rfl, hx⟩
  refine hv.vLen (bif_lt (fun hlt => ?_) fun hge => ?_)
  · rw [hlen] at hlt
    refine (markText_ok (by omega) (by omega)).mono ?_
    rintro _ h2 ⟨rfl, hx2⟩
    refine ⟨_, rfl, hx2, (hv.ext hx).idx (by omega) fun off hrow _ => ?_⟩
    refine ldS_of (hrow.cell (j := j) (u := .string (mt (k + j))) (by unfold marksS; rw [List.getElem?_map, List.getElem?_range (by omega)]; rfl)) ?_
    refine bif_strne (fun hne => absurd rfl hne) fun _ => ?_
    exact ⟨_, by omega, j + 1, wrapS (by omega) (by omega : n ≤ _), wrapK (by omega) (by omega : k + n ≤ _), by omega, rfl, hx.trans hx2⟩
  · rw [hlen] at hge
    obtain rfl : j = n := by omega
    exact ⟨rfl, hx⟩

theorem markInt64S_ok {h : Heap} {v : Value} {b : Nat} {cs : List Value} {k : Nat} (hv : OwnSl h v b cs) (hk : k + cs.length ≤ 4611686018427387903) :
    CallsH P id_laws_markInt64S #[v, .int .i64 k] h fun r h' => r = .int .i64 ((k + cs.length : Nat) : Int) ∧ OwnSl h' v b (marksI k cs.length) ∧ ExtBut (· = b) h h' ∧ h'.size = h.size := by
  apply w_laws_markInt64S
  unfold F_laws_markInt64S
  refine ⟨fun n x i h' => ∃ j : Nat, i = j ∧ x = ((k + j : Nat) : Int) ∧ j ≤ cs.length ∧ n = cs.length - j ∧ ExtBut (· = b) h h' ∧ h'.size = h.size ∧
    ∃ cs', cs'.length = cs.length ∧ OwnSl h' v b cs' ∧ ∀ q, q < j → cs'[q]? = some (.int .i64 ((k + q : Nat) : Int)), ⟨_, 0, rfl, rfl, by omega, rfl, ExtBut.refl _ _, rfl, cs, rfl, hv, fun q hq => by omega⟩, ?_⟩
  rintro n _ x i h' ⟨j, rfl, rfl, hj, rfl, hx, hsz, cs', hl, ho, hp⟩
  refine ho.vLen (bif_lt (fun hlt => ?_) fun hge => ?_)
  · refine ho.idx (by omega) fun off hrow ⟨c, hc1, hc2, hc3⟩ => ?_
    refine vStore1_wr (hrow.wr (by omega)) rfl ?_
    obtain ⟨g1, g2⟩ := set_first (f := fun q => .int .i64 ((k + q : Nat) : Int)) hl (by omega) hp
    exact ⟨_, by omega, j + 1, wrapS (by omega) (by omega : cs.length ≤ _), wrapK (by omega) (by omega : k + cs.length ≤ _), by omega, rfl,
      hx.trans (ExtBut.hset _ _ _), by rw [hset_size]; exact hsz, _, g1, ⟨off, c, by rw [hc1]; simp, by simpa using hc2, hrow.set (by omega) _, hc3.hset _ _⟩, g2⟩
  · obtain rfl : j = cs.length := by omega
    refine ⟨rfl, ?_, hx, hsz⟩
    rw [all_first hl hp] at ho
    exact ho

theorem heldInt64S_ok {h : Heap} {v : Value} {b n k : Nat} (hv : OwnSl h v b (marksI k n)) (hk : k + n ≤ 4611686018427387903) :
    CallsH P id_laws_heldInt64S #[v, .int .i64 k] h fun r h' => r = .int .i64 ((k + n : Nat) : Int) ∧ h' = h := by
  have hlen : (marksI k n).length = n := by simp [marksI]
  apply w_laws_heldInt64S
  unfold F_laws_heldInt64S
  refine ⟨fun m x i h' => ∃ j : Nat, i = j ∧ x = ((k + j : Nat) : Int) ∧ j ≤ n ∧ m = n - j ∧ h' = h, ⟨_, 0, rfl, rfl, by omega, rfl, rfl⟩, ?_⟩
  rintro m _ x i h' ⟨j, rfl, rfl, hj, rfl, rfl⟩
  refine hv.vLen (bif_lt (fun hlt => ?_) fun hge => ?_)
  · rw [hlen] at hlt
    refine hv.idx (by omega) fun off hrow _ => ?_
    refine ldI_of (hrow.cell (j := j) (u := .int .i64 ((k + j : Nat) : Int)) (by unfold marksI; rw [List.getElem?_map, List.getElem?_range (by omega)]; rfl)) ?_
    refine bif_ne (fun hne => absurd rfl hne) fun _ => ?_
    exact ⟨_, by omega, j + 1, wrapS (by omega) (by omega : n ≤ _), wrapK (by omega) (by omega : k + n ≤ _), by omega, rfl, rfl⟩
  · rw [hlen] at hge
    obtain rfl : j = n := by omega
    exact ⟨rfl, rfl⟩

/-- The same where the slice may be nil. -/
theorem markInt64O_ok {h : Heap} {v : Value} {ob : Option Nat} {cs : List Value} {k : Nat} (hv : OwnO h v ob cs) (hk : k + cs.length ≤ 4611686018427387903) :
    CallsH P id_laws_markInt64S #[v, .int .i64 k] h fun r h' => r = .int .i64 ((k + cs.length : Nat) : Int) ∧ OwnO h' v ob (marksI k cs.length) ∧ ExtBut (fun b => ob = some b) h h' ∧ h'.size = h.size := by
  cases ob with
  | some b =>
    refine (markInt64S_ok hv hk).mono fun r h' ⟨h1, h2, h3, h4⟩ => ⟨h1, h2, h3.mono fun x hx => by rw [hx], h4⟩
  | none =>
    obtain ⟨rfl, rfl⟩ := hv
    apply w_laws_markInt64S
    unfold F_laws_markInt64S
    refine ⟨fun _ x i h' => i = 0 ∧ x = k ∧ h' = h, ⟨0, rfl, rfl, rfl⟩, ?_⟩
    rintro n _ x i h' ⟨rfl, rfl, rfl⟩
    exact ⟨rfl, ⟨rfl, rfl⟩, ExtBut.refl _ _, rfl⟩
theorem heldInt64O_ok {h : Heap} {v : Value} {ob : Option Nat} {n k : Nat} (hv : OwnO h v ob (marksI k n)) (hk : k + n ≤ 4611686018427387903) :
    CallsH P id_laws_heldInt64S #[v, .int .i64 k] h fun r h' => r = .int .i64 ((k + n : Nat) : Int) ∧ h' = h := by
  cases ob with
  | some b => exact heldInt64S_ok hv hk
  | none =>
    obtain ⟨rfl, h2⟩ := hv
    obtain rfl : n = 0 := by simpa [marksI] using h2
    apply w_laws_heldInt64S
    unfold F_laws_heldInt64S
    refine ⟨fun _ x i h' => i = 0 ∧ x = k ∧ h' = h, ⟨0, rfl, rfl, rfl⟩, ?_⟩
    rintro n _ x i h' ⟨rfl, rfl, rfl⟩
    exact ⟨rfl, rfl⟩

end Go.Proofs.Ytieehpcgmjbceaa
