/- All pairs counted; the first state of the search. -/
import Derived.Test.YtkgeocffngdeoaaGreatPuBtB
namespace Go.Proofs.YtkgeocffngdeoaaGreat
open Go Go.Vc
set_option linter.unusedSimpArgs false
set_option linter.unusedVariables false
set_option linter.unusedSectionVars false

section
variable {v : Int} {blk : List Int} (hv : v ≤ 32) (hb : Rising blk 0 (v - 1)) (hl : (blk.length : Int) ≤ 64)
include hv hb hl
theorem pc_addR {i : Int} (h0 : 0 ≤ i) (h1 : i < (blk.length : Int)) : ∀ (d : Nat) (k : Int) (ps : List (List Int)) (M : PM) (c : Int), i + 1 + k + d = blk.length → 0 ≤ k → Mat v ps M → BdN v M c → c ≤ 1000000000 - d →
    ∃ ps', loop (p_impl_pairCounts_b3 i (ix blk i) (blk.drop (i + 1).toNat)) (k, ps) = some (.inl (i + 1, ps')) ∧ Mat v ps' (addR 1 (ix blk i) (blk.drop (i + 1 + k).toNat) M) := by
  have hdl : ((blk.drop (i + 1).toNat).length : Int) = blk.length - (i + 1) := by rw [List.length_drop]; omega
  intro d
  induction d with
  | zero =>
    intro k ps M c hk hik hf _ _
    refine ⟨ps, loop_end (by simp (disch := omega) only [wr64, dec_t, dec_f, beq_t, beq_f, bne_t, bne_f, gIdx_ix, gNz_ok, gSl_from, gApp1, Option.bind_some, Option.map_some, cond_true, cond_false, Bool.not_true, Bool.not_false, List.length_set, Int.toNat_natCast, List.take_length, p_impl_pairCounts_b3]), ?_⟩
    rw [List.drop_of_length_le (by omega)]; exact hf
  | succ d ih =>
    intro k ps M c hk hik hf hB hc
    have e1 := (hb i h0 h1).1
    have e2 := (hb (i + 1 + k) (by omega) (by omega)).1
    have e3 := hb.lt (i := i) (j := i + 1 + k) h0 (by omega) (by omega)
    have hln := hf.len
    have hrw := hf.row (ix blk i) e1.1 (by omega)
    have hg := hf.get _ _ e1.1 e3 (by omega)
    have hbd := hB _ _ e1.1 e3 (by omega)
    have hx : ix (blk.drop (i + 1).toNat) k = ix blk (i + 1 + k) := ix_drop (by omega) hik
    obtain ⟨ps', h2, h3⟩ := ih (k + 1) _ _ (c + 1) (by omega) (by omega) (hf.set e1.1 e3 (by omega)) (hB.upd e1.1 e3 (by omega) (.inl rfl)) (by omega)
    refine ⟨ps', ?_, ?_⟩
    · rw [loop_go (s' := (k + 1, ps.set (ix blk i).toNat ((ix ps (ix blk i)).set (ix blk (i + 1 + k)).toNat (M (ix blk i) (ix blk (i + 1 + k)) + 1)))) ?_]
      · exact h2
      · simp (disch := omega) only [wr64, dec_t, dec_f, beq_t, beq_f, bne_t, bne_f, gIdx_ix, gNz_ok, gSl_from, gApp1, Option.bind_some, Option.map_some, cond_true, cond_false, Bool.not_true, Bool.not_false, List.length_set, Int.toNat_natCast, List.take_length, p_impl_pairCounts_b3, hx, hg]
    · rw [drop_ix (i := i + 1 + k) (by omega) (by omega), addR]
      rw [show i + 1 + (k + 1) = i + 1 + k + 1 by omega] at h3
      exact h3
theorem pc_addB {m : Int} (hm0 : 0 ≤ m) (hm1 : m ≤ 1000000) : ∀ (d : Nat) (i : Int) (ps : List (List Int)) (M : PM) (c : Int), i + d = blk.length → 0 ≤ i → Mat v ps M → BdN v M c → c ≤ 1000000000 - 100 * d →
    ∃ ps', loop (p_impl_pairCounts_b2 m blk) (i, ps) = some (.inl (m + 1, ps')) ∧ Mat v ps' (addB 1 (blk.drop i.toNat) M) := by
  intro d
  induction d with
  | zero =>
    intro i ps M c hk hi hf _ _
    refine ⟨ps, loop_end (by simp (disch := omega) only [wr64, dec_t, dec_f, beq_t, beq_f, bne_t, bne_f, gIdx_ix, gNz_ok, gSl_from, gApp1, Option.bind_some, Option.map_some, cond_true, cond_false, Bool.not_true, Bool.not_false, List.length_set, Int.toNat_natCast, List.take_length, p_impl_pairCounts_b2]), ?_⟩
    rw [List.drop_of_length_le (by omega)]; exact hf
  | succ d ih =>
    intro i ps M c hk hi hf hB hc
    obtain ⟨ps1, h1, h2⟩ := pc_addR hv hb hl hi (by omega) (blk.length - (i + 1)).toNat 0 ps M c (by omega) (by omega) hf hB (by omega)
    rw [show i + 1 + 0 = i + 1 by omega] at h2
    have hd : ((blk.drop (i + 1).toNat).length : Int) ≤ 64 := by rw [List.length_drop]; omega
    have hB2 := BdN.addR (ys := blk.drop (i + 1).toNat) (.inl rfl) (hb i hi (by omega)).1.1 (after_lt hv hb hl (.inl rfl : (1 : Int) = 1 ∨ (1 : Int) = -1) hi) hB
    obtain ⟨ps', h3, h4⟩ := ih (i + 1) ps1 _ _ (by omega) (by omega) h2 hB2 (by omega)
    refine ⟨ps', ?_, ?_⟩
    · rw [loop_go (s' := (i + 1, ps1)) (by simp (disch := omega) only [wr64, dec_t, dec_f, beq_t, beq_f, bne_t, bne_f, gIdx_ix, gNz_ok, gSl_from, gApp1, Option.bind_some, Option.map_some, cond_true, cond_false, Bool.not_true, Bool.not_false, List.length_set, Int.toNat_natCast, List.take_length, p_impl_pairCounts_b2, h1])]; exact h3
    · rw [drop_ix hi (by omega), addB]; exact h4
end

/-- In how many blocks two points are. -/
def cntM : List (List Int) → PM
  | [] => fun _ _ => 0
  | e :: es => fun a b => (if a ∈ e ∧ b ∈ e then 1 else 0) + cntM es a b
theorem cnt_snoc : ∀ (es : List (List Int)) (e : List Int) (a b : Int), cntM (es ++ [e]) a b = cntM es a b + if a ∈ e ∧ b ∈ e then 1 else 0
  | [], e, a, b => by simp [cntM]
  | f :: es, e, a, b => by
    simp only [List.cons_append, cntM]
    rw [cnt_snoc es e a b]; omega
theorem cnt_bd : ∀ (es : List (List Int)) (a b : Int), 0 ≤ cntM es a b ∧ cntM es a b ≤ es.length
  | [], a, b => by simp [cntM]
  | f :: es, a, b => by
    have := cnt_bd es a b
    simp only [cntM, List.length_cons]
    by_cases h : a ∈ f ∧ b ∈ f
    · rw [if_pos h]; omega
    · rw [if_neg h]; omega
def rowP (M : PM) (v a : Int) : List Int := tabl (v - a - 1) fun t => M a (a + 1 + t)
def pairTo (M : PM) (v : Int) : Nat → List Int
  | 0 => []
  | n + 1 => pairTo M v n ++ rowP M v n
theorem pairTo_len {M : PM} {v : Int} (hv : v ≤ 32) : ∀ (n : Nat), (pairTo M v n).length ≤ 32 * n
  | 0 => by simp [pairTo]
  | n + 1 => by
    have := pairTo_len (M := M) hv n
    rw [pairTo, List.length_append, rowP, tabl_len]; omega
theorem mem_tabl {α : Type} {n : Int} {f : Int → α} {x : α} : x ∈ tabl n f ↔ ∃ i, 0 ≤ i ∧ i < n ∧ f i = x := by
  unfold tabl
  rw [List.mem_map]
  constructor
  · rintro ⟨j, h1, h2⟩
    rw [List.mem_range] at h1
    exact ⟨(j : Int), by omega, by omega, h2⟩
  · rintro ⟨i, h0, h1, h2⟩
    refine ⟨i.toNat, by rw [List.mem_range]; omega, ?_⟩
    rw [show ((i.toNat : Nat) : Int) = i by omega]; exact h2
theorem mem_pairTo {M : PM} {v x : Int} : ∀ (n : Nat), x ∈ pairTo M v n ↔ ∃ a b, 0 ≤ a ∧ a < (n : Int) ∧ a < b ∧ b < v ∧ M a b = x
  | 0 => by
    constructor
    · intro h; simp [pairTo] at h
    · rintro ⟨a, b, h⟩; omega
  | n + 1 => by
    rw [pairTo, List.mem_append, mem_pairTo n, rowP, mem_tabl]
    constructor
    · rintro (⟨a, b, h1, h2, h3⟩ | ⟨i, h1, h2, h3⟩)
      · exact ⟨a, b, h1, by omega, h3⟩
      · exact ⟨n, (n : Int) + 1 + i, by omega, by omega, by omega, by omega, h3⟩
    · rintro ⟨a, b, h1, h2, h3, h4, h5⟩
      by_cases e : a = n
      · subst e
        refine .inr ⟨b - n - 1, by omega, by omega, ?_⟩
        rw [show (n : Int) + 1 + (b - n - 1) = b by omega]; exact h5
      · exact .inl ⟨a, b, h1, by omega, h3, h4, h5⟩

theorem spec_pairs {d : T_impl_Design} (hd : ValidD d) (hsz : Sz2 d.Blocks) : p_spec_l10Pairs d = some (pairTo (cntM d.Blocks) d.Points d.Points.toNat) := by
  have hp1 := hd.p1
  have hp2 := hd.p2
  have hln := hd.len
  unfold p_spec_l10Pairs
  rw [show (([] : List Int), (0 : Int)) = (fun j : Int => (pairTo (cntM d.Blocks) d.Points j.toNat, j)) 0 from rfl, loop_upto (B := p_spec_l10Pairs_b1 d) (fun j => (pairTo (cntM d.Blocks) d.Points j.toNat, j)) (i := 0) (n := d.Points) (by omega) ?_]
  · exact loop_end (by simp (disch := omega) only [wr64, dec_t, dec_f, beq_t, beq_f, bne_t, bne_f, gIdx_ix, gNz_ok, gSl_from, gApp1, Option.bind_some, Option.map_some, cond_true, cond_false, Bool.not_true, Bool.not_false, List.length_set, Int.toNat_natCast, List.take_length, p_spec_l10Pairs_b1])
  · intro a ha0 ha1
    have hpl := pairTo_len (M := cntM d.Blocks) hp2 a.toNat
    simp (disch := omega) only [wr64, dec_t, dec_f, beq_t, beq_f, bne_t, bne_f, gIdx_ix, gNz_ok, gSl_from, gApp1, Option.bind_some, Option.map_some, cond_true, cond_false, Bool.not_true, Bool.not_false, List.length_set, Int.toNat_natCast, List.take_length, p_spec_l10Pairs_b1]
    have key : ∀ b, a < b → b < d.Points → loop (p_spec_l10Pairs_b3 d a (pairTo (cntM d.Blocks) d.Points a.toNat ++ tabl (b - (a + 1)) fun t => cntM d.Blocks a (a + 1 + t)) b) (0, 0) = some (.inl (pairTo (cntM d.Blocks) d.Points a.toNat ++ tabl (b + 1 - (a + 1)) fun t => cntM d.Blocks a (a + 1 + t), b + 1)) := by
      intro b hb0 hb1
      rw [show ((0 : Int), (0 : Int)) = (fun j : Int => (cntM (d.Blocks.take j.toNat) a b, j)) 0 from rfl, loop_upto (B := p_spec_l10Pairs_b3 d a (pairTo (cntM d.Blocks) d.Points a.toNat ++ tabl (b - (a + 1)) fun t => cntM d.Blocks a (a + 1 + t)) b) (fun j => (cntM (d.Blocks.take j.toNat) a b, j)) (i := 0) (n := d.Blocks.length) (by omega) ?_]
      · refine loop_end ?_
        have hl : ((pairTo (cntM d.Blocks) d.Points a.toNat ++ tabl (b - (a + 1)) fun t => cntM d.Blocks a (a + 1 + t)).length : Int) ≤ 2048 := by rw [List.length_append, tabl_len]; omega
        simp (disch := omega) only [wr64, dec_t, dec_f, beq_t, beq_f, bne_t, bne_f, gIdx_ix, gNz_ok, gSl_from, gApp1, Option.bind_some, Option.map_some, cond_true, cond_false, Bool.not_true, Bool.not_false, List.length_set, Int.toNat_natCast, List.take_length, p_spec_l10Pairs_b3]
        rw [show b + 1 - (a + 1) = b - (a + 1) + 1 by omega, tabl_snoc (by omega), show a + 1 + (b - (a + 1)) = b by omega]
        simp
      · intro i hi0 hi1
        have hr := hsz.row hi0 hi1
        have hbd := cnt_bd (d.Blocks.take i.toNat) a b
        have htl : ((d.Blocks.take i.toNat).length : Int) = i := by rw [List.length_take]; omega
        have h1 := has_ok (s := ix d.Blocks i) (v := a) hr
        have h2 := has_ok (s := ix d.Blocks i) (v := b) hr
        rw [take_ix hi0 hi1, cnt_snoc]
        by_cases e1 : a ∈ ix d.Blocks i
        · by_cases e2 : b ∈ ix d.Blocks i
          · rw [if_pos ⟨e1, e2⟩]; simp (disch := omega) only [wr64, dec_t, dec_f, beq_t, beq_f, bne_t, bne_f, gIdx_ix, gNz_ok, gSl_from, gApp1, Option.bind_some, Option.map_some, cond_true, cond_false, Bool.not_true, Bool.not_false, List.length_set, Int.toNat_natCast, List.take_length, p_spec_l10Pairs_b3, h1.eq e1, h2.eq e2]
          · rw [if_neg (fun h => e2 h.2)]; simp (disch := omega) only [wr64, dec_t, dec_f, beq_t, beq_f, bne_t, bne_f, gIdx_ix, gNz_ok, gSl_from, gApp1, Option.bind_some, Option.map_some, cond_true, cond_false, Bool.not_true, Bool.not_false, List.length_set, Int.toNat_natCast, List.take_length, p_spec_l10Pairs_b3, h1.eq e1, h2.ne e2, Int.add_zero]
        · rw [if_neg (fun h => e1 h.1)]; simp (disch := omega) only [wr64, dec_t, dec_f, beq_t, beq_f, bne_t, bne_f, gIdx_ix, gNz_ok, gSl_from, gApp1, Option.bind_some, Option.map_some, cond_true, cond_false, Bool.not_true, Bool.not_false, List.length_set, Int.toNat_natCast, List.take_length, p_spec_l10Pairs_b3, h1.ne e1, Int.add_zero]
    have e0 : (pairTo (cntM d.Blocks) d.Points a.toNat, a + 1) = (fun b : Int => (pairTo (cntM d.Blocks) d.Points a.toNat ++ tabl (b - (a + 1)) (fun t => cntM d.Blocks a (a + 1 + t)), b)) (a + 1) := by simp [tabl]
    rw [e0, loop_upto (B := p_spec_l10Pairs_b2 d a) (fun b : Int => (pairTo (cntM d.Blocks) d.Points a.toNat ++ tabl (b - (a + 1)) (fun t => cntM d.Blocks a (a + 1 + t)), b)) (i := a + 1) (n := d.Points) (by omega) ?_]
    · rw [loop_end (r := .inl (pairTo (cntM d.Blocks) d.Points (a + 1).toNat, a + 1)) ?_]
      simp (disch := omega) only [wr64, dec_t, dec_f, beq_t, beq_f, bne_t, bne_f, gIdx_ix, gNz_ok, gSl_from, gApp1, Option.bind_some, Option.map_some, cond_true, cond_false, Bool.not_true, Bool.not_false, List.length_set, Int.toNat_natCast, List.take_length, p_spec_l10Pairs_b2]
      rw [show (a + 1).toNat = a.toNat + 1 by omega, pairTo, rowP, show ((a.toNat : Nat) : Int) = a by omega, show d.Points - (a + 1) = d.Points - a - 1 by omega]
    · intro b hb0 hb1
      simp (disch := omega) only [wr64, dec_t, dec_f, beq_t, beq_f, bne_t, bne_f, gIdx_ix, gNz_ok, gSl_from, gApp1, Option.bind_some, Option.map_some, cond_true, cond_false, Bool.not_true, Bool.not_false, List.length_set, Int.toNat_natCast, List.take_length, p_spec_l10Pairs_b2, key b (by omega) hb1]

theorem filled_ok {n : Int} {fn : Int → Int → Option Int} {g : Int → Int → Int} (h0 : 0 ≤ n) (h1 : n ≤ 64) (hf : ∀ x y, 0 ≤ x → x < n → 0 ≤ y → y < n → fn x y = some (g x y)) : p_impl_filledSquare n fn = some (tabl n fun x => tabl n fun y => g x y) := by
  unfold p_impl_filledSquare
  rw [show (([] : List (List Int)), (0 : Int)) = (fun j : Int => (tabl j (fun x => tabl n fun y => g x y), j)) 0 from rfl, loop_upto (B := p_impl_filledSquare_b1 n fn) (fun j => (tabl j (fun x => tabl n fun y => g x y), j)) (i := 0) (n := n) (by omega) ?_]
  · exact loop_end (by simp (disch := omega) only [wr64, dec_t, dec_f, beq_t, beq_f, bne_t, bne_f, gIdx_ix, gNz_ok, gSl_from, gApp1, Option.bind_some, Option.map_some, cond_true, cond_false, Bool.not_true, Bool.not_false, List.length_set, Int.toNat_natCast, List.take_length, p_impl_filledSquare_b1])
  · intro x hx0 hx1
    have hl : ((tabl x (fun x => tabl n fun y => g x y)).length : Int) = x := by rw [tabl_len]; omega
    simp (disch := omega) only [wr64, dec_t, dec_f, beq_t, beq_f, bne_t, bne_f, gIdx_ix, gNz_ok, gSl_from, gApp1, Option.bind_some, Option.map_some, cond_true, cond_false, Bool.not_true, Bool.not_false, List.length_set, Int.toNat_natCast, List.take_length, p_impl_filledSquare_b1]
    rw [show (([] : List Int), (0 : Int)) = (fun j : Int => (tabl j (fun y => g x y), j)) 0 from rfl, loop_upto (B := p_impl_filledSquare_b2 n fn (tabl x (fun x => tabl n fun y => g x y)) x) (fun j => (tabl j (fun y => g x y), j)) (i := 0) (n := n) (by omega) ?_]
    · rw [loop_end (r := .inl (tabl (x + 1) (fun x => tabl n fun y => g x y), x + 1)) ?_]
      simp (disch := omega) only [wr64, dec_t, dec_f, beq_t, beq_f, bne_t, bne_f, gIdx_ix, gNz_ok, gSl_from, gApp1, Option.bind_some, Option.map_some, cond_true, cond_false, Bool.not_true, Bool.not_false, List.length_set, Int.toNat_natCast, List.take_length, p_impl_filledSquare_b2]
      rw [tabl_snoc hx0]
    · intro y hy0 hy1
      have hl2 : ((tabl y (fun y => g x y)).length : Int) = y := by rw [tabl_len]; omega
      simp (disch := omega) only [wr64, dec_t, dec_f, beq_t, beq_f, bne_t, bne_f, gIdx_ix, gNz_ok, gSl_from, gApp1, Option.bind_some, Option.map_some, cond_true, cond_false, Bool.not_true, Bool.not_false, List.length_set, Int.toNat_natCast, List.take_length, p_impl_filledSquare_b2, hf x y hx0 hx1 hy0 hy1]
      rw [tabl_snoc hy0]
theorem empty_ok {n : Int} (h0 : 0 ≤ n) (h1 : n ≤ 32) : ∃ l, p_impl_emptySquare n = some l ∧ Mat n l (fun _ _ => 0) := by
  refine ⟨tabl n fun x => tabl n fun y => 0, ?_, ⟨by rw [tabl_len]; omega, fun a p q => ?_, fun a b p q r => ?_⟩⟩
  · unfold p_impl_emptySquare
    rw [filled_ok (fn := fun y0 y1 => p_impl_emptySquare_1 y0 y1) (g := fun _ _ => 0) h0 (by omega) (fun _ _ _ _ _ _ => rfl)]; rfl
  · rw [tabl_ix p q, tabl_len]; omega
  · rw [tabl_ix p (by omega), tabl_ix (by omega) r]
theorem ValidD.ris {d : T_impl_Design} (hd : ValidD d) {k : Int} (h0 : 0 ≤ k) (h1 : k < (d.Blocks.length : Int)) : Rising (ix d.Blocks k) 0 (d.Points - 1) ∧ ((ix d.Blocks k).length : Int) ≤ 64 := by
  have hb := (hd.blk k h0 h1).2
  refine ⟨hb, ?_⟩
  have key : ∀ (n : Nat), (n : Int) < ((ix d.Blocks k).length : Int) → (n : Int) ≤ ix (ix d.Blocks k) n := by
    intro n
    induction n with
    | zero => intro h; exact (hb 0 (by omega) h).1.1
    | succ n ih =>
      intro h
      have h1 := ih (by omega)
      have h2 := hb.lt (i := (n : Int)) (j := ((n + 1 : Nat) : Int)) (by omega) (by omega) h
      omega
  have hp := hd.p2
  by_cases hz : ((ix d.Blocks k).length : Int) = 0
  · omega
  · have h2 := key ((ix d.Blocks k).length - 1) (by omega)
    have h3 := (hb (((ix d.Blocks k).length - 1 : Nat) : Int) (by omega) (by omega)).1.2
    omega
theorem cnt_step {d : T_impl_Design} (hd : ValidD d) {k : Int} (h0 : 0 ≤ k) (h1 : k < (d.Blocks.length : Int)) : ∀ a b, 0 ≤ a → a < b → b < d.Points → addB 1 (ix d.Blocks k) (cntM (d.Blocks.take k.toNat)) a b = cntM (d.Blocks.take (k + 1).toNat) a b := by
  intro a b p q r
  rw [addB_val a b q (rising_iff.1 (hd.ris h0 h1).1), take_ix h0 h1, cnt_snoc]
theorem cnt_bdn {v : Int} {es : List (List Int)} (h : (es.length : Int) ≤ 128) : BdN v (cntM es) 128 := by
  intro a b _ _ _
  have := cnt_bd es a b
  omega
theorem impl_pairs {d : T_impl_Design} (hd : ValidD d) : p_impl_pairCounts d = some (pairTo (cntM d.Blocks) d.Points d.Points.toNat) := by
  have hp1 := hd.p1
  have hp2 := hd.p2
  have hln := hd.len
  unfold p_impl_pairCounts
  obtain ⟨l0, hl0, hm0⟩ := empty_ok (n := d.Points) (by omega) hp2
  rw [hl0]
  simp only [Option.bind_some]
  obtain ⟨⟨k', l⟩, ⟨rfl, hm⟩, he⟩ := loop_inv (B := p_impl_pairCounts_b1 d) (fun k s => s.1 = k ∧ Mat d.Points s.2 (cntM (d.Blocks.take k.toNat))) (i := 0) (n := d.Blocks.length) (by omega) (s := (0, l0)) ⟨rfl, hm0⟩ (by
    rintro k ⟨k', l⟩ h0 h1 ⟨e, hm⟩
    simp only at e hm
    subst e
    have hr := hd.ris h0 h1
    have htl : ((d.Blocks.take k'.toNat).length : Int) ≤ 128 := by rw [List.length_take]; omega
    obtain ⟨l', g1, g2⟩ := pc_addB hp2 hr.1 hr.2 (m := k') h0 (by omega) (ix d.Blocks k').length 0 l _ 128 (by omega) (by omega) hm (cnt_bdn htl) (by omega)
    refine ⟨(k' + 1, l'), ?_, rfl, g2.congr (cnt_step hd h0 h1)⟩
    simp (disch := omega) only [wr64, dec_t, dec_f, beq_t, beq_f, bne_t, bne_f, gIdx_ix, gNz_ok, gSl_from, gApp1, Option.bind_some, Option.map_some, cond_true, cond_false, Bool.not_true, Bool.not_false, List.length_set, Int.toNat_natCast, List.take_length, p_impl_pairCounts_b1, g1])
  simp only at he hm
  rw [he]
  rw [Int.toNat_natCast, List.take_length] at hm
  refine loop_end ?_
  have hml := hm.len
  simp (disch := omega) only [wr64, dec_t, dec_f, beq_t, beq_f, bne_t, bne_f, gIdx_ix, gNz_ok, gSl_from, gApp1, Option.bind_some, Option.map_some, cond_true, cond_false, Bool.not_true, Bool.not_false, List.length_set, Int.toNat_natCast, List.take_length, p_impl_pairCounts_b1]
  rw [show (([] : List Int), (0 : Int)) = (fun j : Int => (pairTo (cntM d.Blocks) d.Points j.toNat, j)) 0 from rfl, loop_upto (B := p_impl_pairCounts_b4 l) (fun j => (pairTo (cntM d.Blocks) d.Points j.toNat, j)) (i := 0) (n := d.Points) (by omega) ?_]
  · exact loop_end (by simp (disch := omega) only [wr64, dec_t, dec_f, beq_t, beq_f, bne_t, bne_f, gIdx_ix, gNz_ok, gSl_from, gApp1, Option.bind_some, Option.map_some, cond_true, cond_false, Bool.not_true, Bool.not_false, List.length_set, Int.toNat_natCast, List.take_length, p_impl_pairCounts_b4])
  · intro a h0 h1
    have hr := hm.row a h0 h1
    have hpl := pairTo_len (M := cntM d.Blocks) hp2 a.toNat
    have hrow : (ix l a).drop (a + 1).toNat = rowP (cntM d.Blocks) d.Points a := by
      refine ix_ext (by rw [List.length_drop, rowP, tabl_len]; omega) fun i p q => ?_
      rw [List.length_drop] at q
      rw [ix_drop (by omega) p, rowP, tabl_ix p (by omega)]
      exact hm.get a (a + 1 + i) h0 (by omega) (by omega)
    have hrl : (rowP (cntM d.Blocks) d.Points a).length ≤ 32 := by rw [rowP, tabl_len]; omega
    have hg : gApp 8 (pairTo (cntM d.Blocks) d.Points a.toNat) (rowP (cntM d.Blocks) d.Points a) = some (pairTo (cntM d.Blocks) d.Points a.toNat ++ rowP (cntM d.Blocks) d.Points a) := gApp_ok (by omega) (by omega)
    simp (disch := omega) only [wr64, dec_t, dec_f, beq_t, beq_f, bne_t, bne_f, gIdx_ix, gNz_ok, gSl_from, gApp1, Option.bind_some, Option.map_some, cond_true, cond_false, Bool.not_true, Bool.not_false, List.length_set, Int.toNat_natCast, List.take_length, p_impl_pairCounts_b4, hrow, hg]
    rw [show (a + 1).toNat = a.toNat + 1 by omega, pairTo, show ((a.toNat : Nat) : Int) = a by omega]
theorem load_ok {d : T_impl_Design} (hd : ValidD d) : ∃ l, p_impl_loadOf d = some l ∧ Mat d.Points l (cntM d.Blocks) := by
  have hp1 := hd.p1
  have hp2 := hd.p2
  have hln := hd.len
  unfold p_impl_loadOf
  obtain ⟨l0, hl0, hm0⟩ := empty_ok (n := d.Points) (by omega) hp2
  rw [hl0]
  simp only [Option.bind_some]
  obtain ⟨⟨k', l⟩, ⟨rfl, hm⟩, he⟩ := loop_inv (B := p_impl_loadOf_b1 d) (fun k s => s.1 = k ∧ Mat d.Points s.2 (cntM (d.Blocks.take k.toNat))) (i := 0) (n := d.Blocks.length) (by omega) (s := (0, l0)) ⟨rfl, hm0⟩ (by
    rintro k ⟨k', l⟩ h0 h1 ⟨e, hm⟩
    simp only at e hm
    subst e
    have hr := hd.ris h0 h1
    have htl : ((d.Blocks.take k'.toNat).length : Int) ≤ 128 := by rw [List.length_take]; omega
    obtain ⟨l', g1, g2⟩ := impl_add hp2 hr.1 hr.2 (.inl rfl) hm (cnt_bdn htl) (by omega)
    refine ⟨(k' + 1, l'), ?_, rfl, g2.congr (cnt_step hd h0 h1)⟩
    simp (disch := omega) only [wr64, dec_t, dec_f, beq_t, beq_f, bne_t, bne_f, gIdx_ix, gNz_ok, gSl_from, gApp1, Option.bind_some, Option.map_some, cond_true, cond_false, Bool.not_true, Bool.not_false, List.length_set, Int.toNat_natCast, List.take_length, p_impl_loadOf_b1, g1])
  simp only at he hm
  rw [he]
  rw [Int.toNat_natCast, List.take_length] at hm
  exact ⟨l, loop_end (by simp (disch := omega) only [wr64, dec_t, dec_f, beq_t, beq_f, bne_t, bne_f, gIdx_ix, gNz_ok, gSl_from, gApp1, Option.bind_some, Option.map_some, cond_true, cond_false, Bool.not_true, Bool.not_false, List.length_set, Int.toNat_natCast, List.take_length, p_impl_loadOf_b1]), hm⟩
end Go.Proofs.YtkgeocffngdeoaaGreat
