/- A field of an element of one's own list is written. -/
import Derived.Test.YtapkemdomnkccaaGreatVcB
namespace Go.Vc
set_option linter.unusedVariables false
set_option linter.unusedSimpArgs false
open Go
section
variable {ψ : CM} {h0 h : Heap} {os : List Ob} {α : Type}
def Fld (E : El α) (off : Nat) (c : Value) (up : α → α) : Prop := off < E.z ∧ c.oneCell' = true ∧ ∀ φ L cs x, E.R φ L cs x → E.R φ L (cs.set off c) (up x)
theorem Zl5 {k : IntKind} {y : Int} : Fld (El.int k) 0 (.int k y) (fun _ => y) := ⟨Nat.zero_lt_one, rfl, fun φ L cs x h => by obtain ⟨h1, h2⟩ := h; subst h2; exact ⟨h1, rfl⟩⟩
theorem fld_l {β : Type} {E : El α} {F : El β} {off : Nat} {c : Value} {up : α → α} (h : Fld E off c up) : Fld (El.pair E F) off c (fun x => (up x.1, x.2)) := by
  obtain ⟨h1, h2, h3⟩ := h
  refine ⟨Nat.lt_of_lt_of_le h1 (Nat.le_add_right _ _), h2, fun φ L cs x ⟨c1, c2, L1, L2, g1, g2, g3, g4⟩ => ⟨c1.set off c, c2, L1, L2, ?_, g2, h3 φ L1 c1 x.1 g3, g4⟩⟩
  rw [g1, List.set_append_left _ _ (by rw [E.len g3]; exact h1)]
theorem fld_r {β : Type} {E : El α} {F : El β} {off n : Nat} {c : Value} {up : β → β} (h : Fld F off c up) (hn : n = E.z + off) : Fld (El.pair E F) n c (fun x => (x.1, up x.2)) := by
  subst hn
  obtain ⟨h1, h2, h3⟩ := h
  refine ⟨Nat.add_lt_add_left h1 _, h2, fun φ L cs x ⟨c1, c2, L1, L2, g1, g2, g3, g4⟩ => ⟨c1, c2.set off c, L1, L2, ?_, g2, g3, h3 φ L2 c2 x.2 g4⟩⟩
  rw [g1, List.set_append_right _ _ (by rw [E.len g3]; omega), E.len g3, Nat.add_sub_cancel_left]
theorem ZnE {β : Type} {E : El α} {f : β → α} {z : β} {hz : f z = E.zx} {off : Nat} {c : Value} {up : α → α} {ub : β → β} (h : Fld E off c up) (hu : ∀ x, f (ub x) = up (f x)) : Fld (El.iso E f z hz) off c ub := by
  obtain ⟨h1, h2, h3⟩ := h
  refine ⟨h1, h2, fun φ L cs x g => ?_⟩
  show E.R φ L (cs.set off c) (f (ub x))
  rw [hu]
  exact h3 φ L cs (f x) g
theorem Zwh {E : El α} {φ : CM} {z off : Nat} {rows M : Rws} {v c0 : Value} {xs : List α} {k : Int} {x0 : α} {up : α → α} {p q : Addr} {K : Heap → Prop}
    (s : S0 ψ h0 h φ (rows ++ M)) (ho : OwnL φ E rows v xs) (hp : AddrOf v k z p) (hq : ∀ b o, p = ⟨b, o, none⟩ → q = ⟨b, o + off, none⟩) (hz : E.z = z) (hk : gIdx xs k = some x0) (hf : Fld E off c0 up)
    (hK : ∀ rows' h', S0 ψ h0 h' φ (rows' ++ M) → OwnL φ E rows' v (xs.set k.toNat (up x0)) → K h') : vStore1 h q c0 K := by
  subst hz
  obtain ⟨f1, f2, f3⟩ := hf
  obtain ⟨g1, g2⟩ := Zar hk
  obtain ⟨a, n, c, rfl, rfl⟩ := hp
  rcases ho with ⟨e, _⟩ | ⟨b, c, pre, css, rest, Lr, e, hc, hrest, rfl, hall⟩
  · cases e
  cases e
  obtain ⟨d, M1, Mo, M2, pr, po, k1, k2, k3, k4, k5⟩ := hall.at g2
  have hfl := AllR.pre_flat pr xs Lr (by rw [← k2]; exact hall)
  have hd := E.len k4
  have hoff : off < d.length := by omega
  have ed : d = d.take off ++ [d[off]] ++ d.drop (off + 1) := by
    rw [List.append_assoc]
    exact (List.take_append_drop off d).symm.trans (by rw [List.drop_eq_getElem_cons hoff]; rfl)
  have es : d.set off c0 = d.take off ++ [c0] ++ d.drop (off + 1) := by
    rw [List.set_eq_take_append_cons_drop, if_pos hoff]; simp
  rw [hq b (pre.length + k.toNat * E.z) (by rw [Z1])]
  have sm : Sta h0 h ((b, .cs ((pre ++ pr.flatten ++ d.take off) ++ [d[off]] ++ (d.drop (off + 1) ++ po.flatten ++ rest))) :: (Lr ++ M)) fun x => CLe φ (hcell x) := by
    have := s.sta
    rw [k2] at this
    have e2 : pre ++ (pr ++ d :: po).flatten ++ rest = (pre ++ pr.flatten ++ d.take off) ++ [d[off]] ++ (d.drop (off + 1) ++ po.flatten ++ rest) := by
      simp
      rw [← List.append_assoc (List.take (off + 1) d), List.take_append_drop]
    rw [e2] at this
    simpa using this
  refine Zf1 [c0] [d[off]] (pre ++ pr.flatten ++ d.take off) _ 0 h _ (by rw [List.length_append, List.length_append, hfl, k3, List.length_take, Nat.min_eq_left (by omega)]; rfl) rfl (fun v hv => by simp at hv; rw [hv]; exact f2) sm fun h' t => ?_
  have s2 : S0 ψ h0 h' φ ((b, .cs ((pre ++ pr.flatten ++ d.take off) ++ [c0] ++ (d.drop (off + 1) ++ po.flatten ++ rest))) :: (Lr ++ M)) := s.of_sta' t rfl
  refine hK ((b, .cs ((pre ++ pr.flatten ++ d.take off) ++ [c0] ++ (d.drop (off + 1) ++ po.flatten ++ rest))) :: Lr) h' s2 (.inr ⟨b, c, pre, pr ++ d.set off c0 :: po, rest, Lr, ?_, ?_, ?_, ?_, ?_⟩)
  · simp
  · simpa using hc
  · simpa using hrest
  · rw [es]; simp
  · have := k5 (d.set off c0) Mo (up x0) (f3 φ Mo d x0 k4)
    rw [k1]; exact this
theorem stF_S {E : El α} {z off : Nat} {v c0 : Value} {xs : List α} {k : Int} {x0 : α} {up : α → α} {p q : Addr} {K : Heap → Prop} (st : S ψ h0 h os) (i : Nat) (ho : os[i]? = some (.it (El.ow E) [v] xs)) (hp : AddrOf v k z p) (hq : ∀ b o, p = ⟨b, o, none⟩ → q = ⟨b, o + off, none⟩) (hz : E.z = z) (hk : gIdx xs k = some x0) (hf : Fld E off c0 up)
    (hK : ∀ h', S ψ h0 h' (os.set i (.it (El.ow E) [v] (xs.set k.toNat (up x0)))) → K h') : vStore1 h q c0 K := by
  obtain ⟨φ, L, s, r⟩ := st
  obtain ⟨L1, Lo, L2, e1, e2, _, e4⟩ := r.at ho
  have s2 : S0 ψ h0 h φ (Lo ++ (L1 ++ L2)) := s.perm (by rw [e1, ← List.append_assoc]; exact List.Perm.append_right _ List.perm_append_comm)
  refine Zwh s2 (El.ow_to e2) hp hq hz hk hf fun rows' h' s3 hown => hK h' ⟨φ, L1 ++ rows' ++ L2, s3.perm ?_, e4 φ (.it (El.ow E) [v] (xs.set k.toNat (up x0))) _ (CLe.refl _) ⟨v, rfl, hown⟩⟩
  rw [← List.append_assoc]; exact List.Perm.append_right _ List.perm_append_comm
end
end Go.Vc
