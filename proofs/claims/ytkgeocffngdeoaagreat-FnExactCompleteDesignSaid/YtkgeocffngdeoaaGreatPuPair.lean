/- Numbers for pairs of points: in one list, and in a square. -/
import Derived.Test.YtkgeocffngdeoaaGreatPuSubB
namespace Go.Proofs.YtkgeocffngdeoaaGreat
open Go Go.Vc
set_option linter.unusedSimpArgs false
set_option linter.unusedVariables false
set_option linter.unusedSectionVars false

def tri (v : Int) : Nat → Int
  | 0 => 0
  | a + 1 => tri v a + (v - 1 - a)
theorem tri_eq (v : Int) : ∀ a : Nat, (a : Int) * (2 * v - a - 1) = 2 * tri v a
  | 0 => by simp [tri]
  | a + 1 => by
    have ih := tri_eq v a
    rw [tri]
    have e : ((a + 1 : Nat) : Int) = (a : Int) + 1 := by omega
    rw [e]
    simp only [Int.add_mul, Int.mul_sub, Int.mul_add, Int.sub_mul] at ih ⊢
    omega
theorem tri_mono {v : Int} : ∀ {a b : Nat}, a ≤ b → (b : Int) ≤ v → tri v a ≤ tri v b
  | a, 0, h, _ => by obtain rfl : a = 0 := by omega
                     exact Int.le_refl _
  | a, b + 1, h, hv => by
    by_cases e : a = b + 1
    · subst e; exact Int.le_refl _
    · have := tri_mono (v := v) (a := a) (b := b) (by omega) (by omega)
      rw [tri]; omega
theorem tri_max {v : Int} (h : v ≤ 32) : ∀ (a : Nat), (a : Int) ≤ v → tri v a ≤ 32 * a
  | 0, _ => by simp [tri]
  | a + 1, ha => by
    have := tri_max h a (by omega)
    rw [tri]; omega
/-- The place of a pair. -/
def idx (v a b : Int) : Int := tri v a.toNat + (b - a - 1)
section
variable {v a b : Int} (hv : v ≤ 32) (ha : 0 ≤ a) (hab : a < b) (hb : b < v)
include hv ha hab hb
theorem idx_low : tri v a.toNat ≤ idx v a b := by unfold idx; omega
theorem idx_high : idx v a b < tri v (a.toNat + 1) := by unfold idx; rw [tri]; omega
theorem idx_nn : 0 ≤ idx v a b := by
  have h1 := tri_mono (v := v) (a := 0) (b := a.toNat) (by omega) (by omega)
  rw [show tri v 0 = 0 from rfl] at h1
  have := idx_low hv ha hab hb; omega
theorem idx_lt : idx v a b < tri v v.toNat := by
  have h1 := tri_mono (v := v) (a := a.toNat + 1) (b := v.toNat) (by omega) (by omega)
  have := idx_high hv ha hab hb; omega
theorem pair_ok : p_spec_l24Pair v a b = some (idx v a b) := by
  have h0 := tri_mono (v := v) (a := 0) (b := a.toNat) (by omega) (by omega)
  rw [show tri v 0 = 0 from rfl] at h0
  have h1 := tri_max hv a.toNat (by omega)
  have he := tri_eq v a.toNat
  rw [show ((a.toNat : Nat) : Int) = a by omega] at he
  have ht : Int.tdiv (2 * tri v a.toNat) 2 = tri v a.toNat := by rw [Int.tdiv_eq_ediv_of_nonneg (by omega)]; omega
  unfold p_spec_l24Pair idx
  simp (disch := omega) only [wr64, dec_t, dec_f, beq_t, beq_f, bne_t, bne_f, gIdx_ix, gNz_ok, gSl_from, gApp1, Option.bind_some, Option.map_some, cond_true, cond_false, Bool.not_true, Bool.not_false, List.length_set, Int.toNat_natCast, List.take_length, he, ht]
  congr 1; omega
end
theorem idx_inj {v a b c d : Int} (hv : v ≤ 32) (ha : 0 ≤ a) (hab : a < b) (hb : b < v) (hc : 0 ≤ c) (hcd : c < d) (hd : d < v) (h : idx v a b = idx v c d) : a = c ∧ b = d := by
  have h1 := idx_low hv ha hab hb
  have h2 := idx_high hv ha hab hb
  have h3 := idx_low hv hc hcd hd
  have h4 := idx_high hv hc hcd hd
  have hac : a = c := by
    by_cases h5 : a < c
    · have := tri_mono (v := v) (a := a.toNat + 1) (b := c.toNat) (by omega) (by omega); omega
    · by_cases h6 : c < a
      · have := tri_mono (v := v) (a := c.toNat + 1) (b := a.toNat) (by omega) (by omega); omega
      · omega
  subst hac
  unfold idx at h
  exact ⟨rfl, by omega⟩

abbrev PM := Int → Int → Int
def upd (M : PM) (a b x : Int) : PM := fun c d => if c = a ∧ d = b then x else M c d
structure Flat (v : Int) (ps : List Int) (M : PM) : Prop where
  len : (ps.length : Int) = tri v v.toNat
  get : ∀ a b, 0 ≤ a → a < b → b < v → ix ps (idx v a b) = M a b
structure Mat (v : Int) (l : List (List Int)) (M : PM) : Prop where
  len : (l.length : Int) = v
  row : ∀ a, 0 ≤ a → a < v → ((ix l a).length : Int) = v
  get : ∀ a b, 0 ≤ a → a < b → b < v → ix (ix l a) b = M a b
theorem Flat.congr {v : Int} {ps : List Int} {M N : PM} (h : Flat v ps M) (e : ∀ a b, 0 ≤ a → a < b → b < v → M a b = N a b) : Flat v ps N := ⟨h.len, fun a b x y z => (h.get a b x y z).trans (e a b x y z)⟩
theorem Mat.congr {v : Int} {ps : List (List Int)} {M N : PM} (h : Mat v ps M) (e : ∀ a b, 0 ≤ a → a < b → b < v → M a b = N a b) : Mat v ps N := ⟨h.len, h.row, fun a b x y z => (h.get a b x y z).trans (e a b x y z)⟩
theorem Flat.set {v : Int} {ps : List Int} {M : PM} (hv : v ≤ 32) (h : Flat v ps M) {a b x : Int} (ha : 0 ≤ a) (hab : a < b) (hb : b < v) : Flat v (ps.set (idx v a b).toNat x) (upd M a b x) := by
  have hn := idx_nn hv ha hab hb
  have hl := idx_lt hv ha hab hb
  refine ⟨by rw [List.length_set]; exact h.len, fun c d h1 h2 h3 => ?_⟩
  unfold upd
  by_cases e : c = a ∧ d = b
  · obtain ⟨rfl, rfl⟩ := e
    rw [if_pos ⟨rfl, rfl⟩, ix_set_eq hn (by have := h.len; omega)]
  · rw [if_neg e, ix_set_ne hn (idx_nn hv h1 h2 h3) fun he => ?_]
    · exact h.get c d h1 h2 h3
    · have := idx_inj hv ha hab hb h1 h2 h3 he
      exact e ⟨this.1.symm, this.2.symm⟩
theorem Mat.set {v : Int} {l : List (List Int)} {M : PM} (h : Mat v l M) {a b x : Int} (ha : 0 ≤ a) (hab : a < b) (hb : b < v) : Mat v (l.set a.toNat ((ix l a).set b.toNat x)) (upd M a b x) := by
  have hl := h.len
  have hr := h.row a ha (by omega)
  refine ⟨by rw [List.length_set]; exact h.len, fun c h1 h2 => ?_, fun c d h1 h2 h3 => ?_⟩
  · by_cases e : a = c
    · subst e; rw [ix_set_eq ha (by omega), List.length_set]; exact hr
    · rw [ix_set_ne ha h1 e]; exact h.row c h1 h2
  · unfold upd
    by_cases e : a = c
    · subst e
      rw [ix_set_eq ha (by omega)]
      by_cases e2 : b = d
      · subst e2; rw [if_pos ⟨rfl, rfl⟩, ix_set_eq (by omega) (by omega)]
      · rw [if_neg (fun hh => e2 hh.2.symm), ix_set_ne (by omega) (by omega) e2]; exact h.get a d h1 h2 h3
    · rw [if_neg (fun hh => e hh.1.symm), ix_set_ne ha h1 e]; exact h.get c d h1 h2 h3

/-! A block is added. -/
def addR (by' : Int) (x : Int) : List Int → PM → PM
  | [], M => M
  | y :: ys, M => addR by' x ys (upd M x y (M x y + by'))
def addB (by' : Int) : List Int → PM → PM
  | [], M => M
  | x :: xs, M => addB by' xs (addR by' x xs M)
theorem addR_val {by' x hi : Int} : ∀ {ys : List Int} {lo : Int} {M : PM} (a b : Int), RisL hi lo ys → addR by' x ys M a b = M a b + if a = x ∧ b ∈ ys then by' else 0
  | [], _, _, a, b, _ => by simp [addR]
  | y :: ys, lo, M, a, b, ⟨h1, h2, h3⟩ => by
    rw [addR, addR_val a b h3]
    have hny : y ∉ ys := fun h => by
      have : ∀ {zs : List Int} {l : Int}, RisL hi l zs → ∀ z ∈ zs, l ≤ z := by
        intro zs
        induction zs with
        | nil => intro l _ z hz; simp at hz
        | cons w zs ih =>
          intro l ⟨p, q, r⟩ z hz
          rcases List.mem_cons.1 hz with rfl | hz
          · exact p
          · have := ih r z hz; omega
      have := this h3 y h; omega
    unfold upd
    by_cases ha : a = x
    · subst ha
      by_cases hb : b = y
      · subst hb; simp [hny]
      · simp [hb]
    · simp [ha]
theorem risl_low {hi : Int} : ∀ {zs : List Int} {l : Int}, RisL hi l zs → ∀ z ∈ zs, l ≤ z ∧ z ≤ hi := by
  intro zs
  induction zs with
  | nil => intro l _ z hz; simp at hz
  | cons w zs ih =>
    intro l ⟨p, q, r⟩ z hz
    rcases List.mem_cons.1 hz with rfl | hz
    · exact ⟨p, q⟩
    · have := ih r z hz; exact ⟨by omega, this.2⟩
theorem addB_val {by' hi : Int} : ∀ {xs : List Int} {lo : Int} {M : PM} (a b : Int), a < b → RisL hi lo xs → addB by' xs M a b = M a b + if a ∈ xs ∧ b ∈ xs then by' else 0
  | [], _, _, a, b, _, _ => by simp [addB]
  | x :: xs, lo, M, a, b, hab, ⟨h1, h2, h3⟩ => by
    rw [addB, addB_val a b hab h3, addR_val a b h3]
    have hnx : x ∉ xs := fun h => by have := risl_low h3 x h; omega
    by_cases ha : a = x
    · subst ha
      have hb : b ≠ a := by omega
      simp [hnx, hb]
    · by_cases hb : b = x
      · subst hb
        have : a ∉ xs := fun h => by have := risl_low h3 a h; omega
        simp [ha, this]
      · simp [ha, hb]
def Bd (v : Int) (M : PM) : Prop := ∀ a b, 0 ≤ a → a < b → b < v → -1000000 ≤ M a b ∧ M a b ≤ 1000000
end Go.Proofs.YtkgeocffngdeoaaGreat
