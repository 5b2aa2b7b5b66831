import Derived.Test.YtapkemdomnkccaaGreatVcB
namespace Go.Vc
set_option linter.unusedVariables false
set_option linter.unusedSimpArgs false
open Go
section
variable {ψ : CM} {h0 h : Heap} {os : List Ob} {α : Type}
def Fld (E : El α) (off : Nat) (c : Value) (up : α → α) : Prop := off < E.z ∧ c.oneCell' = true ∧ ∀ φ L cs x, E.R φ L cs x → E.R φ L (cs.set off c) (up x)
theorem Zqj {k : IntKind} {y : Int} : Fld (El.int k) 0 (.int k y) (fun _ => y) := ⟨Nat.zero_lt_one, rfl, fun φ L cs x h => by obtain ⟨h1, h2⟩ := h; subst h2; exact ⟨h1, rfl⟩⟩
theorem Zqo {y : ByteArray} : Fld El.str 0 (.string y) (fun _ => y) := ⟨Nat.zero_lt_one, rfl, fun φ L cs x h => by obtain ⟨h1, h2⟩ := h; subst h2; exact ⟨h1, rfl⟩⟩
theorem fld_l {β : Type} {E : El α} {F : El β} {off : Nat} {c : Value} {up : α → α} (h : Fld E off c up) : Fld (El.pair E F) off c (fun x => (up x.1, x.2)) := by
  obtain ⟨h1, h2, h3⟩ := h
  refine ⟨Nat.lt_of_lt_of_le h1 (Nat.le_add_right _ _), h2, fun φ L cs x ⟨c1, c2, L1, L2, g1, g2, g3, g4⟩ => ⟨c1.set off c, c2, L1, L2, ?_, g2, h3 φ L1 c1 x.1 g3, g4⟩⟩
  rw [g1, List.set_append_left _ _ (by rw [E.len g3]; exact h1)]
theorem fld_r {β : Type} {E : El α} {F : El β} {off n : Nat} {c : Value} {up : β → β} (h : Fld F off c up) (hn : n = E.z + off) : Fld (El.pair E F) n c (fun x => (x.1, up x.2)) := by
  subst hn
  obtain ⟨h1, h2, h3⟩ := h
  refine ⟨Nat.add_lt_add_left h1 _, h2, fun φ L cs x ⟨c1, c2, L1, L2, g1, g2, g3, g4⟩ => ⟨c1, c2.set off c, L1, L2, ?_, g2, g3, h3 φ L2 c2 x.2 g4⟩⟩
  rw [g1, List.set_append_right _ _ (by rw [E.len g3]; omega), E.len g3, Nat.add_sub_cancel_left]
theorem Zd6 {β : Type} {E : El α} {f : β → α} {z : β} {hz : f z = E.zx} {off : Nat} {c : Value} {up : α → α} {ub : β → β} (h : Fld E off c up) (hu : ∀ x, f (ub x) = up (f x)) : Fld (El.iso E f z hz) off c ub := by
  obtain ⟨h1, h2, h3⟩ := h
  refine ⟨h1, h2, fun φ L cs x g => ?_⟩
  show E.R φ L (cs.set off c) (f (ub x))
  rw [hu]
  exact h3 φ L cs (f x) g
theorem ZxX {E : El α} {φ : CM} {z off : Nat} {rows M : Rws} {v c0 : Value} {xs : List α} {k : Int} {x0 : α} {up : α → α} {p q : Addr} {K : Heap → Prop}
    (s : S0 ψ h0 h φ (rows ++ M)) (ho : OwnL φ E rows v xs) (hp : AddrOf v k z p) (hq : ∀ b o, p = ⟨b, o, none⟩ → q = ⟨b, o + off, none⟩) (hz : E.z = z) (hk : gIdx xs k = some x0) (hf : Fld E off c0 up)
    (hK : ∀ rows' h', S0 ψ h0 h' φ (rows' ++ M) → OwnL φ E rows' v (xs.set k.toNat (up x0)) → K h') : vStore1 h q c0 K := by
  subst hz
  obtain ⟨f1, f2, f3⟩ := hf
  obtain ⟨g1, g2⟩ := Zay hk
  obtain ⟨a, n, c, rfl, rfl⟩ := hp
  rcases ho with ⟨e, _⟩ | ⟨b, c, pre, css, rest, Lr, e, hc, hrest, rfl, hall⟩
  · cases e
  cases e
  obtain ⟨d, M1, Mo, M2, pr, po, k1, k2, k3, k4, k5⟩ := hall.at g2
  have hfl := AllR.pre_flat pr xs Lr (by rw [← k2]; exact hall)
  have hd := E.len k4
  have hoff : off < d.length := by omega
  have ed : d = d.take off ++ [d[off]] ++ d.drop (off + 1) := by
    rw [List.append_assoc]
    exact (List.take_append_drop off d).symm.trans (by rw [List.drop_eq_getElem_cons hoff]; rfl)
  have es : d.set off c0 = d.take off ++ [c0] ++ d.drop (off + 1) := by
    rw [List.set_eq_take_append_cons_drop, if_pos hoff]; simp
  rw [hq b (pre.length + k.toNat * E.z) (by rw [ZO])]
  have sm : Sta h0 h ((b, .cs ((pre ++ pr.flatten ++ d.take off) ++ [d[off]] ++ (d.drop (off + 1) ++ po.flatten ++ rest))) :: (Lr ++ M)) fun x => CLe φ (hcell x) := by
    have := s.sta
    rw [k2] at this
    have e2 : pre ++ (pr ++ d :: po).flatten ++ rest = (pre ++ pr.flatten ++ d.take off) ++ [d[off]] ++ (d.drop (off + 1) ++ po.flatten ++ rest) := by
      simp
      rw [← List.append_assoc (List.take (off + 1) d), List.take_append_drop]
    rw [e2] at this
    simpa using this
  refine ZbM [c0] [d[off]] (pre ++ pr.flatten ++ d.take off) _ 0 h _ (by rw [List.length_append, List.length_append, hfl, k3, List.length_take, Nat.min_eq_left (by omega)]; rfl) rfl (fun v hv => by simp at hv; rw [hv]; exact f2) sm fun h' t => ?_
  have s2 : S0 ψ h0 h' φ ((b, .cs ((pre ++ pr.flatten ++ d.take off) ++ [c0] ++ (d.drop (off + 1) ++ po.flatten ++ rest))) :: (Lr ++ M)) := s.of_sta' t rfl
  refine hK ((b, .cs ((pre ++ pr.flatten ++ d.take off) ++ [c0] ++ (d.drop (off + 1) ++ po.flatten ++ rest))) :: Lr) h' s2 (.inr ⟨b, c, pre, pr ++ d.set off c0 :: po, rest, Lr, ?_, ?_, ?_, ?_, ?_⟩)
  · simp
  · simpa using hc
  · simpa using hrest
  · rw [es]; simp
  · have := k5 (d.set off c0) Mo (up x0) (f3 φ Mo d x0 k4)
    rw [k1]; exact this
theorem stF_S {E : El α} {z off : Nat} {v c0 : Value} {xs : List α} {k : Int} {x0 : α} {up : α → α} {p q : Addr} {K : Heap → Prop} (st : S ψ h0 h os) (i : Nat) (ho : os[i]? = some (.it (El.ow E) [v] xs)) (hp : AddrOf v k z p) (hq : ∀ b o, p = ⟨b, o, none⟩ → q = ⟨b, o + off, none⟩) (hz : E.z = z) (hk : gIdx xs k = some x0) (hf : Fld E off c0 up)
    (hK : ∀ h', S ψ h0 h' (os.set i (.it (El.ow E) [v] (xs.set k.toNat (up x0)))) → K h') : vStore1 h q c0 K := by
  obtain ⟨φ, L, s, r⟩ := st
  obtain ⟨L1, Lo, L2, e1, e2, _, e4⟩ := r.at ho
  have s2 : S0 ψ h0 h φ (Lo ++ (L1 ++ L2)) := s.perm (by rw [e1, ← List.append_assoc]; exact List.Perm.append_right _ List.perm_append_comm)
  refine ZxX s2 (El.ow_to e2) hp hq hz hk hf fun rows' h' s3 hown => hK h' ⟨φ, L1 ++ rows' ++ L2, s3.perm ?_, e4 φ (.it (El.ow E) [v] (xs.set k.toNat (up x0))) _ (CLe.refl _) ⟨v, rfl, hown⟩⟩
  rw [← List.append_assoc]; exact List.Perm.append_right _ List.perm_append_comm
theorem AllR.atM {φ : CM} {E : El α} : ∀ {L : Rws} {css : List (List Value)} {xs : List α} {i : Nat} {x : α}, AllR φ E L css xs → xs[i]? = some x →
    ∃ c L1 Lo L2 pre post, L = L1 ++ Lo ++ L2 ∧ css = pre ++ c :: post ∧ pre.length = i ∧ E.R φ Lo c x ∧ ∀ ψ Lo' x', CLe φ ψ → E.R ψ Lo' c x' → AllR ψ E (L1 ++ Lo' ++ L2) (pre ++ c :: post) (xs.set i x')
  | _, [], [], i, x, _, hx => by simp at hx
  | _, c :: cs, y :: xs, i, x, ⟨L1, L2, h1, g2, g3⟩, hx => by
    cases i with
    | zero =>
      simp at hx; subst hx
      exact ⟨c, [], L1, L2, [], cs, by simpa using h1, rfl, rfl, g2, fun ψ Lo' x' hle hr => ⟨Lo', L2, by simp, hr, AllR.mono hle g3⟩⟩
    | succ i =>
      obtain ⟨d, M1, Mo, M2, pre, post, e1, e2, e3, e4, e5⟩ := AllR.atM g3 (by simpa using hx)
      refine ⟨d, L1 ++ M1, Mo, M2, c :: pre, post, by rw [h1, e1]; simp, by rw [e2]; rfl, by simp [e3], e4, fun ψ Lo' x' hle hr => ?_⟩
      exact ⟨L1, M1 ++ Lo' ++ M2, by simp, E.mono hle g2, e5 ψ Lo' x' hle hr⟩
  | _, [], _ :: _, _, _, h, _ => h.elim
  | _, _ :: _, [], _, _, h, _ => h.elim
def Lens {β : Type} (E : El α) (off : Nat) (F : El β) (get : α → β) (put : α → β → α) : Prop := ∀ φ L cs x, E.R φ L cs x →
  ∃ u L1 Lo L2, cs[off]? = some u ∧ L = L1 ++ Lo ++ L2 ∧ F.R φ Lo [u] (get x) ∧ ∀ ψ Lo' y, CLe φ ψ → F.R ψ Lo' [u] y → E.R ψ (L1 ++ Lo' ++ L2) cs (put x y)
theorem Ztq {G : El α} : Lens (El.ow G) 0 (El.ow G) (fun x => x) (fun _ y => y) := fun φ L cs x h => by
  obtain ⟨v, rfl, h2⟩ := h
  exact ⟨v, [], L, [], rfl, by simp, ⟨v, rfl, h2⟩, fun ψ Lo' y _ hy => by simpa using hy⟩
theorem ZtA {β γ : Type} {E : El α} {E2 : El γ} {F : El β} {off : Nat} {get : α → β} {put : α → β → α} (h : Lens E off F get put) : Lens (El.pair E E2) off F (fun x => get x.1) (fun x y => (put x.1 y, x.2)) := by
  rintro φ L cs x ⟨c1, c2, L1, L2, rfl, rfl, g3, g4⟩
  obtain ⟨u, M1, Mo, M2, k1, rfl, k3, k4⟩ := h φ L1 c1 x.1 g3
  have hl : off < c1.length := by
    rw [List.getElem?_eq_some_iff] at k1; exact k1.1
  refine ⟨u, M1, Mo, M2 ++ L2, by rw [List.getElem?_append_left hl]; exact k1, by simp, k3, fun ψ Lo' y hle hy => ⟨c1, c2, M1 ++ Lo' ++ M2, L2, rfl, by simp, k4 ψ Lo' y hle hy, E2.mono hle g4⟩⟩
theorem ZkE {β γ : Type} {E : El α} {E2 : El γ} {F : El β} {off n : Nat} {get : γ → β} {put : γ → β → γ} (h : Lens E2 off F get put) (hn : n = E.z + off) : Lens (El.pair E E2) n F (fun x => get x.2) (fun x y => (x.1, put x.2 y)) := by
  subst hn
  rintro φ L cs x ⟨c1, c2, L1, L2, rfl, rfl, g3, g4⟩
  obtain ⟨u, M1, Mo, M2, k1, rfl, k3, k4⟩ := h φ L2 c2 x.2 g4
  refine ⟨u, L1 ++ M1, Mo, M2, by rw [List.getElem?_append_right (by rw [E.len g3]; omega), E.len g3, Nat.add_sub_cancel_left]; exact k1, by simp, k3, fun ψ Lo' y hle hy => ⟨c1, c2, L1, M1 ++ Lo' ++ M2, rfl, by simp, E.mono hle g3, k4 ψ Lo' y hle hy⟩⟩
theorem Zrq {β γ : Type} {E : El α} {F : El β} {f : γ → α} {z : γ} {hz : f z = E.zx} {off : Nat} {get : α → β} {put : α → β → α} {gb : γ → β} {pb : γ → β → γ} (h : Lens E off F get put) (hg : ∀ x, gb x = get (f x)) (hu : ∀ x y, f (pb x y) = put (f x) y) : Lens (El.iso E f z hz) off F gb pb := by
  intro φ L cs x g
  obtain ⟨u, M1, Mo, M2, k1, k2, k3, k4⟩ := h φ L cs (f x) g
  refine ⟨u, M1, Mo, M2, k1, k2, by rw [hg]; exact k3, fun ψ Lo' y hle hy => ?_⟩
  show E.R ψ _ cs (f (pb x y))
  rw [hu]; exact k4 ψ Lo' y hle hy
def HoleF {β : Type} (φ : CM) (E : El α) (F : El β) (i : Nat) (u : Value) (put : β → α) (L : Rws) (v : Value) (xs : List α) : Prop :=
  ∃ b c pre css rest L1 L2, v = .slice (some ⟨b, pre.length, none⟩) xs.length c ∧ xs.length ≤ c ∧ (c - xs.length) * E.z ≤ rest.length ∧ L = (b, .cs (pre ++ css.flatten ++ rest)) :: (L1 ++ L2) ∧
    ∀ ψ Lo y, CLe φ ψ → F.R ψ Lo [u] y → AllR ψ E (L1 ++ Lo ++ L2) css (xs.set i (put y))
def El.holeF {β : Type} (E : El α) (F : El β) (i : Nat) (u : Value) (put : β → α) : El (List α) where
  z := 1
  R := fun φ L cs xs => (cs = [.slice none 0 0] ∧ xs = [] ∧ L = []) ∨ ∃ v, cs = [v] ∧ HoleF φ E F i u put L v xs
  mono := fun hl h => h.elim .inl fun ⟨v, h1, b, c, pre, css, rest, L1, L2, g1, g2, g3, g4, g6⟩ => .inr ⟨v, h1, b, c, pre, css, rest, L1, L2, g1, g2, g3, g4, fun ψ Lo y hle ho => g6 ψ Lo y (hl.trans hle) ho⟩
  len := fun h => h.elim (fun h => by rw [h.1]; rfl) fun ⟨v, h1, _⟩ => by rw [h1]; rfl
  one := fun h w hw => by
    rcases h with ⟨h1, _⟩ | ⟨v, h1, b, c, pre, css, rest, L1, L2, g1, _⟩
    · rw [h1] at hw; simp at hw; rw [hw]; rfl
    · rw [h1] at hw; simp at hw; rw [hw, g1]; rfl
  zc := [.slice none 0 0]
  zx := []
  hz := fun _ => .inl ⟨rfl, rfl, rfl⟩
theorem ldF_S {β : Type} {E : El α} {F : El β} {z off : Nat} {v : Value} {xs : List α} {k : Int} {x0 : α} {get : α → β} {put : α → β → α} {p q : Addr} {K : Value → Prop} (st : S ψ h0 h os) (i : Nat) (ho : os[i]? = some (.it (El.ow E) [v] xs)) (hp : AddrOf v k z p) (hq : ∀ b o, p = ⟨b, o, none⟩ → q = ⟨b, o + off, none⟩) (hz : E.z = z) (hk : gIdx xs k = some x0) (hf : Lens E off F get put)
    (hK : ∀ u, S ψ h0 h (.it F [u] (get x0) :: os.set i (.it (El.holeF E F k.toNat u (put x0)) [v] xs)) → K u) : ldV h q K := by
  subst hz
  obtain ⟨g1, g2⟩ := Zay hk
  obtain ⟨φ, L, s, r⟩ := st
  obtain ⟨L1, Lo, L2, e1, e2, _, e4⟩ := r.at ho
  obtain ⟨a, n, c, rfl, rfl⟩ := hp
  rcases El.ow_to e2 with ⟨e, _⟩ | ⟨b, c, pre, css, rest, Lr, e, hc, hrest, f4, hall⟩
  · cases e
  cases e
  obtain ⟨d, M1, Mo, M2, pr, po, k1, k2, k3, k4, k5⟩ := AllR.atM hall g2
  have hfl := AllR.pre_flat pr xs Lr (by rw [← k2]; exact hall)
  obtain ⟨u, N1, No, N2, j1, j2, j3, j4⟩ := hf φ Mo d x0 k4
  have hoff : off < d.length := by rw [List.getElem?_eq_some_iff] at j1; exact j1.1
  rw [hq b (pre.length + k.toNat * E.z) (by rw [ZO])]
  refine ⟨u, ?_, hK u ?_⟩
  · refine s.rows b (pre ++ css.flatten ++ rest) (by rw [e1, f4]; simp) _ _ ?_
    rw [k2, List.append_assoc, List.getElem?_append_right (by omega), List.flatten_append, List.append_assoc, List.getElem?_append_right (by rw [hfl, k3]; omega), hfl, k3]
    rw [show pre.length + k.toNat * E.z + off - pre.length - k.toNat * E.z = off by omega, List.flatten_cons, List.append_assoc, List.getElem?_append_left hoff]
    exact j1
  · refine ⟨φ, No ++ (L1 ++ ((b, .cs (pre ++ css.flatten ++ rest)) :: ((M1 ++ N1) ++ (N2 ++ M2))) ++ L2), s.perm ?_, No, _, rfl, j3, e4 φ (.it (El.holeF E F k.toNat u (put x0)) [_] xs) _ (CLe.refl _) (.inr ⟨_, rfl, b, c, pre, css, rest, M1 ++ N1, N2 ++ M2, rfl, hc, hrest, rfl, fun ψ' Lo' y hle hy => ?_⟩)⟩
    · rw [e1, f4, k1, j2]
      generalize (b, Row.cs (pre ++ css.flatten ++ rest)) = big
      have h1 : (L1 ++ big :: (M1 ++ N1) ++ No).Perm (No ++ (L1 ++ big :: (M1 ++ N1))) := List.perm_append_comm
      have h2 := h1.append_right (N2 ++ M2 ++ L2)
      simpa using h2
    · have := k5 ψ' _ _ hle (j4 ψ' Lo' y hle hy)
      rw [k2]
      simpa using this
theorem Zwj {β : Type} {E : El α} {F : El β} {v u : Value} {xs : List α} {i : Nat} {y : β} {put : β → α} (st : S ψ h0 h (.it F [u] y :: os)) (k : Nat) (ho : os[k]? = some (.it (El.holeF E F i u put) [v] xs)) : S ψ h0 h (os.set k (.it (El.ow E) [v] (xs.set i (put y)))) := by
  obtain ⟨φ, L, s, Ly, L', rfl, hy, r⟩ := st
  obtain ⟨L1, Lo, L2, rfl, e2, _, e4⟩ := r.at ho
  rcases e2 with ⟨h1, rfl, rfl⟩ | ⟨v', h1, b, c, pre, css, rest, M1, M2, f1, f2, f3, f4, f6⟩
  · simp at h1; subst h1
    refine ⟨φ, L1 ++ [] ++ L2, s.sub (List.sublist_append_right ..), ?_⟩
    have := e4 φ (.it (El.ow E) [.slice none 0 0] []) [] (CLe.refl _) ⟨_, rfl, .inl ⟨rfl, rfl, rfl⟩⟩
    simpa using this
  · simp at h1; subst h1
    have hall := f6 φ Ly y (CLe.refl _) hy
    refine ⟨φ, L1 ++ ((b, .cs (pre ++ css.flatten ++ rest)) :: (M1 ++ Ly ++ M2)) ++ L2, s.perm ?_, e4 φ (.it (El.ow E) [v] (xs.set i (put y))) _ (CLe.refl _) ⟨v, rfl, .inr ⟨b, c, pre, css, rest, M1 ++ Ly ++ M2, by simpa using f1, by simpa using f2, by rw [List.length_set]; exact f3, rfl, hall⟩⟩⟩
    rw [f4]
    generalize (b, Row.cs (pre ++ css.flatten ++ rest)) = big
    have h1 : (Ly ++ (L1 ++ big :: M1)).Perm ((L1 ++ big :: M1) ++ Ly) := List.perm_append_comm
    have h2 := h1.append_right (M2 ++ L2)
    simpa using h2
end
end Go.Vc
