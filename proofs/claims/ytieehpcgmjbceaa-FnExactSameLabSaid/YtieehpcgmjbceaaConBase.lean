/- Contracts of the laws' own helpers on slices of integers and of strings. -/
import Derived.Test.YtieehpcgmjbceaaVcFns
import Derived.Test.YtieehpcgmjbceaaVcLib
namespace Go.Proofs.Ytieehpcgmjbceaa
open Go Go.Vc

/-- eqInt64S answers whether two slices read as the same list. -/
theorem eqInt64S_ok {h : Heap} {v u : Value} {xs ys : List Int} (hv : SlAt 1 eI64 h v xs) (hu : SlAt 1 eI64 h u ys) (hl : xs.length ≤ 4611686018427387904) :
    CallsH P id_laws_eqInt64S #[v, u] h fun r h' => r = .bool (decide (xs = ys)) ∧ h' = h := by
  apply w_laws_eqInt64S
  unfold F_laws_eqInt64S
  refine vLen_sl hv (vLen_sl hu (bif_ne (fun hne => ?_) fun heq => ?_))
  · rw [decide_eq_false (ne_of_len (by omega))]; exact ⟨rfl, rfl⟩
  refine ⟨fun n i h' => ∃ k : Nat, i = k ∧ k ≤ xs.length ∧ n = xs.length - k ∧ h' = h ∧ Agr xs ys k, ⟨_, 0, rfl, by omega, rfl, rfl, Agr.zero _ _⟩, ?_⟩
  rintro n _ i h' ⟨k, rfl, hk, rfl, rfl, htk⟩
  refine vLen_sl hv (bif_lt (fun hlt => ?_) fun hge => ?_)
  · obtain ⟨x, hx⟩ := get_some (xs := xs) (k := k) (by omega)
    obtain ⟨y, hy⟩ := get_some (xs := ys) (k := k) (by omega)
    refine rdI hv hx fun _ => rdI hu hy fun _ => bif_ne (fun hne => ?_) fun he => ?_
    · rw [decide_eq_false (ne_of_get hx hy hne)]; exact ⟨rfl, rfl⟩
    · subst he
      exact ⟨_, by omega, k + 1, wrapS (by omega) hl, by omega, rfl, rfl, htk.succ (by rw [hx, hy])⟩
  · rw [decide_eq_true (htk.all (by omega) (by omega))]; exact ⟨rfl, rfl⟩

end Go.Proofs.Ytieehpcgmjbceaa
