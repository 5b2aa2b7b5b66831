import Derived.Test.YtocnokjekoglnaaGreatVcSw
namespace Go.Vc
set_option linter.unusedVariables false
set_option linter.unusedSimpArgs false
open Go
section
variable {ψ : CM} {h0 h : Heap} {os : List Ob} {α : Type}
theorem Hd.ext {h h' : Heap} {v u : Value} {i : Int} (hd : Hd h v i u) (hx : ExtH h h') : Hd h' v i u := by
  obtain ⟨a, n, c, e, hh⟩ := hd; exact ⟨a, n, c, e, CLe.ext hx _ _ hh⟩
theorem S0.self {φ : CM} {L : Rws} (s : S0 ψ h0 h φ L) : S0 φ h0 h φ L := ⟨s.ext, s.row, s.low, s.nod, s.fle, s.dis, fun _ _ h => h, fun _ _ h _ => h⟩
theorem Zee {E : El α} {c : Value} {y : α} (st : S ψ h0 h (.it E [c] y :: os)) {t : TypeId} {K : Value → Heap → Prop} (hk : ∀ v h', S ψ h0 h' (.it (El.ow E) [v] [y] :: os) → K v h') : vNewS h (.cells #[c] t) 1 K := by
  obtain ⟨φ, L, s, Ly, L', rfl, hy, r⟩ := st
  exact hk _ _ ⟨φ, _, s.new [c] t, (h.size, Row.cs ([c])) :: Ly, L', rfl, ⟨_, rfl, .inr ⟨h.size, 1, [], [[c]], [], Ly, rfl, Nat.le_refl _, by simp, by simp, ⟨Ly, [], by simp, hy, rfl⟩⟩⟩, r⟩
theorem Zi6 {E : El α} {c d : Value} {y z : α} (st : S ψ h0 h (.it E [c] y :: .it E [d] z :: os)) {t : TypeId} {K : Value → Heap → Prop} (hk : ∀ v h', S ψ h0 h' (.it (El.ow E) [v] [y, z] :: os) → K v h') : vNewS h (.cells #[c, d] t) 2 K := by
  obtain ⟨φ, L, s, L1, L3, rfl, h1, L2, L', rfl, h2, r⟩ := st
  refine hk _ _ ⟨φ, (h.size, Row.cs ([c, d])) :: (L1 ++ (L2 ++ L')), s.new [c, d] t, (h.size, Row.cs ([c, d])) :: (L1 ++ L2), L', by simp, ⟨_, rfl, .inr ⟨h.size, 2, [], [[c], [d]], [], L1 ++ L2, rfl, Nat.le_refl _, by simp, by simp, ⟨L1, L2, rfl, h1, L2, [], by simp, h2, rfl⟩⟩⟩, r⟩
end
end Go.Vc
