/- Operations of Go on plain data, as functions that may fail; loops. -/
import Derived.WalkKit
namespace Go.Vc
open Go

def gIdx {α : Type} (xs : List α) (i : Int) : Option α := if 0 ≤ i then xs[i.toNat]? else none
def gApp {α : Type} (bytes : Nat) (xs ys : List α) : Option (List α) :=
  if (xs.length + ys.length) * bytes ≤ 140737488355328 ∧ xs.length + ys.length ≤ 4611686018427387904 then some (xs ++ ys) else none
def gMake {α : Type} (bytes : Nat) (z : α) (n c : Int) : Option (List α) :=
  if 0 ≤ n ∧ n ≤ c ∧ c * bytes ≤ 140737488355328 ∧ c ≤ 4611686018427387904 then some (List.replicate n.toNat z) else none
def gSl {α : Type} (xs : List α) (lo hi : Int) : Option (List α) :=
  if 0 ≤ lo ∧ lo ≤ hi ∧ hi ≤ xs.length then some ((xs.take hi.toNat).drop lo.toNat) else none
def gSet {α : Type} (xs : List α) (i : Int) (y : α) : Option (List α) := if 0 ≤ i ∧ i < xs.length then some (xs.set i.toNat y) else none
def gSt (s : ByteArray) (i : Int) : Option UInt8 := if 0 ≤ i then s[i.toNat]? else none
def gStSl (s : ByteArray) (lo hi : Int) : Option ByteArray := if 0 ≤ lo ∧ lo ≤ hi ∧ hi ≤ s.size then some (s.extract lo.toNat hi.toNat) else none
def gCat (a b : ByteArray) : Option ByteArray := if ((a.size + b.size : Nat) : Int) ≤ IntKind.i64.max then some (a ++ b) else none
def gQuo (k : IntKind) (a b : Int) : Option Int := if b ≠ 0 then some (k.wrap (a.tdiv b)) else none
def gRem (a b : Int) : Option Int := if b ≠ 0 then some (a.tmod b) else none

def gNz (b : Int) : Option Unit := if b ≠ 0 then some () else none
def gNn (b : Int) : Option Unit := if 0 ≤ b then some () else none
def gFit (a b : ByteArray) : Option Unit := if ((a.size + b.size : Nat) : Int) ≤ IntKind.i64.max then some () else none

/-- The lengths of the numbers below 256 in bits. -/
def len8 : ByteArray := ⟨(0 :: (List.replicate 1 1 ++ List.replicate 2 2 ++ List.replicate 4 3 ++ List.replicate 8 4 ++ List.replicate 16 5 ++ List.replicate 32 6 ++ List.replicate 64 7 ++ List.replicate 128 8)).toArray⟩

/-- How deep a recursion may go. -/
def fuel : Nat := 1000000

theorem obind {α β : Type} {o : Option α} {f : α → Option β} {r : β} (h : o.bind f = some r) : ∃ x, o = some x ∧ f x = some r := by
  cases o with
  | none => cases h
  | some x => exact ⟨x, rfl, h⟩
theorem gIdx_some {α : Type} {xs : List α} {i : Int} {x : α} (h : gIdx xs i = some x) : 0 ≤ i ∧ xs[i.toNat]? = some x := by
  unfold gIdx at h; split at h
  · exact ⟨by assumption, h⟩
  · cases h
theorem gApp_some {α : Type} {b : Nat} {xs ys zs : List α} (h : gApp b xs ys = some zs) : ((xs.length + ys.length) * b ≤ 140737488355328 ∧ xs.length + ys.length ≤ 4611686018427387904) ∧ zs = xs ++ ys := by
  unfold gApp at h; split at h
  · cases h; exact ⟨by assumption, rfl⟩
  · cases h
theorem gMake_some {α : Type} {b : Nat} {z : α} {n c : Int} {zs : List α} (h : gMake b z n c = some zs) : (0 ≤ n ∧ n ≤ c ∧ c * b ≤ 140737488355328 ∧ c ≤ 4611686018427387904) ∧ zs = List.replicate n.toNat z := by
  unfold gMake at h; split at h
  · cases h; exact ⟨by assumption, rfl⟩
  · cases h
theorem gSl_some {α : Type} {xs ys : List α} {lo hi : Int} (h : gSl xs lo hi = some ys) : (0 ≤ lo ∧ lo ≤ hi ∧ hi ≤ xs.length) ∧ ys = (xs.take hi.toNat).drop lo.toNat := by
  unfold gSl at h; split at h
  · cases h; exact ⟨by assumption, rfl⟩
  · cases h
theorem gSet_some {α : Type} {xs ys : List α} {i : Int} {y : α} (h : gSet xs i y = some ys) : (0 ≤ i ∧ i < xs.length) ∧ ys = xs.set i.toNat y := by
  unfold gSet at h; split at h
  · cases h; exact ⟨by assumption, rfl⟩
  · cases h
theorem gSt_some {s : ByteArray} {i : Int} {x : UInt8} (h : gSt s i = some x) : 0 ≤ i ∧ s[i.toNat]? = some x := by
  unfold gSt at h; split at h
  · exact ⟨by assumption, h⟩
  · cases h
theorem gStSl_some {s t : ByteArray} {lo hi : Int} (h : gStSl s lo hi = some t) : (0 ≤ lo ∧ lo ≤ hi ∧ hi ≤ s.size) ∧ t = s.extract lo.toNat hi.toNat := by
  unfold gStSl at h; split at h
  · cases h; exact ⟨by assumption, rfl⟩
  · cases h
theorem gCat_some {a b c : ByteArray} (h : gCat a b = some c) : ((a.size + b.size : Nat) : Int) ≤ IntKind.i64.max ∧ c = a ++ b := by
  unfold gCat at h; split at h
  · cases h; exact ⟨by assumption, rfl⟩
  · cases h
theorem gQuo_some {k : IntKind} {a b x : Int} (h : gQuo k a b = some x) : b ≠ 0 ∧ x = k.wrap (a.tdiv b) := by
  unfold gQuo at h; split at h
  · cases h; exact ⟨by assumption, rfl⟩
  · cases h
theorem gRem_some {a b x : Int} (h : gRem a b = some x) : b ≠ 0 ∧ x = a.tmod b := by
  unfold gRem at h; split at h
  · cases h; exact ⟨by assumption, rfl⟩
  · cases h

/-! Loops: a round goes on with a state, or ends with an answer. -/
section
variable {σ ρ : Type}
def loopN (B : σ → Option (σ ⊕ ρ)) : Nat → σ → Option ρ
  | 0, _ => none
  | n + 1, s => (B s).bind fun a => match a with
    | .inl s' => loopN B n s'
    | .inr r => some r
theorem loopN_up {B : σ → Option (σ ⊕ ρ)} : ∀ {n : Nat} {s : σ} {r : ρ}, loopN B n s = some r → ∀ {m : Nat}, n ≤ m → loopN B m s = some r
  | 0, _, _, h, _, _ => by cases h
  | n + 1, s, r, h, m, hm => by
    cases m with
    | zero => omega
    | succ m =>
      obtain ⟨a, h1, h2⟩ := obind h
      unfold loopN
      rw [h1]
      cases a with
      | inl s' => exact loopN_up h2 (by omega)
      | inr r' => exact h2
theorem loopN_det {B : σ → Option (σ ⊕ ρ)} {n m : Nat} {s : σ} {r r' : ρ} (h : loopN B n s = some r) (k : loopN B m s = some r') : r = r' := by
  have h1 := loopN_up h (Nat.le_max_left n m)
  have h2 := loopN_up k (Nat.le_max_right n m)
  rw [h1] at h2; cases h2; rfl
open Classical in
noncomputable def loop (B : σ → Option (σ ⊕ ρ)) (s : σ) : Option ρ := if h : ∃ n r, loopN B n s = some r then some (Classical.choose (Classical.choose_spec h)) else none
theorem loop_iff {B : σ → Option (σ ⊕ ρ)} {s : σ} {r : ρ} : loop B s = some r ↔ ∃ n, loopN B n s = some r := by
  constructor
  · intro h
    unfold loop at h
    split at h
    · rename_i hh
      have := Classical.choose_spec (Classical.choose_spec hh)
      cases h
      exact ⟨_, this⟩
    · cases h
  · rintro ⟨n, h⟩
    have hh : ∃ n r, loopN B n s = some r := ⟨n, r, h⟩
    unfold loop
    rw [dif_pos hh]
    rw [loopN_det (Classical.choose_spec (Classical.choose_spec hh)) h]
theorem loop_n {B : σ → Option (σ ⊕ ρ)} {s : σ} {r : ρ} (h : loop B s = some r) : ∃ n, loopN B n s = some r := loop_iff.1 h
theorem loopN_step {B : σ → Option (σ ⊕ ρ)} {n : Nat} {s : σ} {r : ρ} (h : loopN B n s = some r) : ∃ m a, n = m + 1 ∧ B s = some a ∧ (match a with | .inl s' => loopN B m s' | .inr r => some r) = some r := by
  cases n with
  | zero => cases h
  | succ m =>
    obtain ⟨a, h1, h2⟩ := obind h
    exact ⟨m, a, rfl, h1, h2⟩
/-- How a loop goes on. -/
theorem loop_go {B : σ → Option (σ ⊕ ρ)} {s s' : σ} (h : B s = some (.inl s')) : loop B s = loop B s' := by
  apply Option.ext
  intro r
  rw [loop_iff, loop_iff]
  constructor
  · rintro ⟨n, hn⟩
    obtain ⟨m, a, rfl, h1, h2⟩ := loopN_step hn
    rw [h] at h1; cases h1
    exact ⟨m, h2⟩
  · rintro ⟨n, hn⟩
    refine ⟨n + 1, ?_⟩
    unfold loopN; rw [h]; exact hn
theorem loop_end {B : σ → Option (σ ⊕ ρ)} {s : σ} {r : ρ} (h : B s = some (.inr r)) : loop B s = some r := by
  rw [loop_iff]
  refine ⟨1, ?_⟩
  unfold loopN; rw [h]; rfl
/-- Rounds that follow a list of states. -/
theorem loop_to {B : σ → Option (σ ⊕ ρ)} (f : Nat → σ) : ∀ (n : Nat), (∀ k, k < n → B (f k) = some (.inl (f (k + 1)))) → loop B (f 0) = loop B (f n)
  | 0, _ => rfl
  | n + 1, h => by rw [loop_to f n fun k hk => h k (by omega), loop_go (h n (by omega))]
theorem loop_from {B : σ → Option (σ ⊕ ρ)} (f : Nat → σ) (i n : Nat) (hi : i ≤ n) (h : ∀ k, i ≤ k → k < n → B (f k) = some (.inl (f (k + 1)))) : loop B (f i) = loop B (f n) := by
  have := loop_to (B := B) (fun k => f (i + k)) (n - i) fun k hk => h (i + k) (by omega) (by omega)
  simpa [show i + (n - i) = n by omega] using this
end

end Go.Vc
