/- Loops that count up. -/
import Derived.Test.YtieehpcgmjbceaaVcSt
namespace Go.Vc
open Go

theorem wrapB {k n : Nat} (h : k < n) (hn : n ≤ 9223372036854775807) : IntKind.i64.wrap ((k : Int) + 1) = ((k + 1 : Nat) : Int) := by
  rw [wrap64_of (by omega) (by omega)]; omega

theorem loop_up (N : Nat) (hN : N ≤ 9223372036854775807) (I : Nat → Heap → Prop) {h : Heap} {B : (Nat → Int → Heap → Prop) → Nat → Int → Heap → Prop} (h0 : I 0 h)
    (hb : ∀ (J : Nat → Int → Heap → Prop) (n k : Nat) (h' : Heap), k ≤ N → I k h' → (∀ h'', k < N → I (k + 1) h'' → ∃ m, m < n ∧ J m (IntKind.i64.wrap ((k : Int) + 1)) h'') → B J n (k : Int) h') :
    ∃ J : Nat → Int → Heap → Prop, (∃ n, J n 0 h) ∧ ∀ (n : Nat) (_ : Env) (x : Int) (h' : Heap), J n x h' → B J n x h' := by
  refine ⟨fun n x h' => ∃ k : Nat, x = k ∧ k ≤ N ∧ n = N - k ∧ I k h', ⟨_, 0, rfl, Nat.zero_le _, rfl, h0⟩, ?_⟩
  rintro n _ x h' ⟨k, rfl, hk, rfl, hi⟩
  exact hb _ _ k h' hk hi fun h'' hlt hi' => ⟨_, by omega, k + 1, wrapB hlt hN, hlt, rfl, hi'⟩
/-- With a number that is carried along, ahead of the counter. -/
theorem loop_upA (N : Nat) (hN : N ≤ 9223372036854775807) (I : Nat → Int → Heap → Prop) {a : Int} {h : Heap} {B : (Nat → Int → Int → Heap → Prop) → Nat → Int → Int → Heap → Prop} (h0 : I 0 a h)
    (hb : ∀ (J : Nat → Int → Int → Heap → Prop) (n k : Nat) (a : Int) (h' : Heap), k ≤ N → I k a h' → (∀ a' h'', k < N → I (k + 1) a' h'' → ∃ m, m < n ∧ J m a' (IntKind.i64.wrap ((k : Int) + 1)) h'') → B J n a (k : Int) h') :
    ∃ J : Nat → Int → Int → Heap → Prop, (∃ n, J n a 0 h) ∧ ∀ (n : Nat) (_ : Env) (a x : Int) (h' : Heap), J n a x h' → B J n a x h' := by
  refine ⟨fun n a x h' => ∃ k : Nat, x = k ∧ k ≤ N ∧ n = N - k ∧ I k a h', ⟨_, 0, rfl, Nat.zero_le _, rfl, h0⟩, ?_⟩
  rintro n _ a x h' ⟨k, rfl, hk, rfl, hi⟩
  exact hb _ _ k a h' hk hi fun a' h'' hlt hi' => ⟨_, by omega, k + 1, wrapB hlt hN, hlt, rfl, hi'⟩

theorem rdRow {α : Type} {z : Nat} {E : Elem α} {h : Heap} {v : Value} {xs : List (List α)} (hs : SlB 1 (eSlB z E) h v xs) {k : Nat} {x : List α} (hx : xs[k]? = some x) {K : Value → Prop}
    (hk : ∀ u, SlB z E h u x → K u) : vIdx v (k : Int) 1 fun p => ldV h p K :=
  vIdx_sl hs.1 hx fun _ he => by obtain ⟨u, h1, h2⟩ := he.slB; exact ldV_of h1 (hk u h2)

end Go.Vc
