import Derived.Test.YtocnokjekoglnaaGreatVcS3
namespace Go.Vc
set_option linter.unusedVariables false
set_option linter.unusedSimpArgs false
open Go
section
variable {ψ : CM} {h0 h : Heap} {os : List Ob} {α : Type}
theorem AllR.nilL {φ : CM} {E : El α} (hp : ∀ φ L cs x, E.R φ L cs x → L = []) : ∀ {M : Rws} {q : List (List Value)} {y : List α}, AllR φ E M q y → M = []
  | _, [], [], h => h
  | _, [], _ :: _, h => h.elim
  | _, _ :: _, [], h => h.elim
  | _, _ :: _, _ :: _, ⟨L1, L2, h1, h2, h3⟩ => by rw [h1, hp _ _ _ _ h2, AllR.nilL hp h3]; rfl
theorem AllR.take0 {φ : CM} {E : El α} (hp : ∀ φ L cs x, E.R φ L cs x → L = []) {css : List (List Value)} {xs : List α} (h : AllR φ E [] css xs) (k : Nat) : AllR φ E [] (css.take k) (xs.take k) := by
  obtain ⟨L', h1, h2⟩ := h.take k
  rwa [AllR.nilL hp h2] at h2
theorem Zow {z : List Value} (hz : ∀ v ∈ z, v.oneCell' = true) (n : Nat) : ∀ v ∈ repl n z, v.oneCell' = true := by
  induction n with
  | zero => intro v hv; cases hv
  | succ n ih =>
    intro v hv
    rw [repl] at hv
    rcases List.mem_append.1 hv with h | h
    · exact hz v h
    · exact ih v h
theorem Zog {E : El α} : ∀ v ∈ E.zc, v.oneCell' = true := E.one (E.hz fun _ => none)
theorem ZjA {E : El α} : E.zc.length = E.z := E.len (E.hz fun _ => none)
theorem ZpK {φ : CM} {E : El α} {L : Rws} {css : List (List Value)} {xs : List α} (h : AllR φ E L css xs) {k : Nat} (hk : k ≤ xs.length) : (css.take k).flatten.length = k * E.z := by
  obtain ⟨_, _, g⟩ := h.take k
  rw [g.flat, List.length_take, Nat.min_eq_left hk]
theorem ZkU {φ : CM} {E : El α} {L : Rws} {css : List (List Value)} {xs : List α} (h : AllR φ E L css xs) (k : Nat) : (css.drop k).flatten.length = (xs.length - k) * E.z := by
  obtain ⟨_, _, g⟩ := h.drop k
  rw [g.flat, List.length_drop]
theorem Zor (css : List (List Value)) (k : Nat) : css.flatten = (css.take k).flatten ++ (css.drop k).flatten := by
  have := congrArg List.flatten (List.take_append_drop k css)
  rw [List.flatten_append] at this
  exact this.symm
theorem ZpN {E : El α} (hp : ∀ φ L cs x, E.R φ L cs x → L = []) {v : Value} {xs : List α} {z : Nat} {zero : List Value} (st : S ψ h0 h os) (i0 : Nat) (ho : os[i0]? = some (.it (El.ow E) [v] xs)) (hz : E.z = z) (hzc : zero = E.zc) {k : Int} (k0 : 0 ≤ k) (k1 : k ≤ (xs.length : Int)) {K : Value → Heap → Prop}
    (hK : ∀ v' h', S ψ h0 h' (os.set i0 (.it (El.ow E) [v'] (xs.take k.toNat))) → K v' h') :
    vSliceS v z (some (.int .i64 k)) none none fun u => vClear zero u h fun _ h' => vSliceS v z none (some (.int .i64 k)) none fun v' => K v' h' := by
  subst hz; subst hzc
  obtain ⟨m, rfl⟩ : ∃ m : Nat, k = m := ⟨k.toNat, by omega⟩
  have k2 : m ≤ xs.length := by omega
  obtain ⟨φ, L, s, r⟩ := st
  obtain ⟨L1, Lo, L2, e1, e2, _, e4⟩ := r.at ho
  rcases El.ow_to e2 with ⟨rfl, rfl, rfl⟩ | ⟨b, c, pre, css, rest, Lr, rfl, hc, hrest, rfl, hall⟩
  · have hm : m = 0 := by simpa using k2
    subst hm
    refine ⟨by simp, by simp, ?_⟩
    show K _ h
    simp only [Int.toNat_natCast]
    refine hK _ h ⟨φ, _, s, ?_⟩
    rw [e1]
    exact e4 φ _ _ (CLe.refl _) ⟨_, rfl, .inl ⟨rfl, by simp, rfl⟩⟩
  · obtain rfl := AllR.nilL hp hall
    have hml : (m : Int).toNat = m := Int.toNat_natCast m
    have hf := Zor css m
    have hd := ZkU hall m
    have s1 : S0 ψ h0 h φ ((b, Row.cs (pre ++ (css.take m).flatten ++ (css.drop m).flatten ++ rest)) :: (L1 ++ L2)) := s.perm (by
      rw [e1, hf]
      have : (L1 ++ [(b, Row.cs (pre ++ ((css.take m).flatten ++ (css.drop m).flatten) ++ rest))] ++ L2).Perm ((b, Row.cs (pre ++ ((css.take m).flatten ++ (css.drop m).flatten) ++ rest)) :: (L1 ++ L2)) := by
        rw [List.append_assoc]; exact List.perm_middle
      simp only [← List.append_assoc] at this ⊢
      exact this)
    have fin : ∀ h' mid, mid.length = (xs.length - m) * E.z → S0 ψ h0 h' φ ((b, Row.cs (pre ++ (css.take m).flatten ++ mid ++ rest)) :: (L1 ++ L2)) →
        vSliceS (.slice (some ⟨b, pre.length, none⟩) xs.length c) E.z none (some (.int .i64 (m : Int))) none fun v' => K v' h' := fun h' mid hmid t => by
      refine ⟨⟨by omega, by omega⟩, ?_⟩
      simp only [hml]
      have hv : (Value.slice (bif c.beq 0 then some ⟨b, pre.length, none⟩ else Option.map (fun (x : Addr) => x.add (0 * E.z)) (some ⟨b, pre.length, none⟩)) (m - 0) (c - 0)) = .slice (some ⟨b, pre.length, none⟩) m c := by cases Nat.beq c 0 <;> simp [ZP]
      show K (Value.slice (bif c.beq 0 then some ⟨b, pre.length, none⟩ else Option.map (fun (x : Addr) => x.add (0 * E.z)) (some ⟨b, pre.length, none⟩)) (m - 0) (c - 0)) h'
      rw [hv]
      have hlen : (xs.take m).length = m := by rw [List.length_take]; omega
      refine hK _ h' ⟨φ, _, t.perm (L' := L1 ++ [(b, Row.cs (pre ++ (css.take m).flatten ++ mid ++ rest))] ++ L2) (by rw [List.append_assoc L1]; exact List.perm_middle.symm), e4 φ _ _ (CLe.refl _) ⟨_, rfl, .inr ⟨b, c, pre, css.take m, mid ++ rest, [], ?_, ?_, ?_, by simp, hall.take0 hp m⟩⟩⟩
      · rw [hml, hlen]
      · rw [hml, hlen]; omega
      · rw [hml, hlen, List.length_append, hmid]
        have : (c - m) * E.z = (c - xs.length) * E.z + (xs.length - m) * E.z := by rw [← Nat.add_mul]; congr 1; omega
        omega
    refine ⟨⟨by omega, by simpa using k1⟩, ?_⟩
    simp only [hml]
    by_cases hcm : c = m
    · have hb : Nat.beq c m = true := by rw [hcm]; exact Nat.beq_refl m
      rw [hb]
      have hn : xs.length - m = 0 := by omega
      rw [hn]
      exact fin h (css.drop m).flatten hd s1
    · have hb : Nat.beq c m = false := by
        cases hh : Nat.beq c m with
        | false => rfl
        | true => exact absurd (Nat.eq_of_beq_eq_true hh) hcm
      rw [hb]
      show vStoreN ((⟨b, pre.length, none⟩ : Addr).add (m * E.z)) (repl (xs.length - m) E.zc) 0 h _
      rw [ZP]
      refine ZfA _ (css.drop m).flatten (pre ++ (css.take m).flatten) _ 0 h _ (by rw [List.length_append, ZpK hall k2]; rfl) (by rw [hd, ZdP, ZjA]) (Zow Zog _) s1.sta fun h' t => ?_
      exact fin h' _ (by rw [ZdP, ZjA]) (s1.of_sta' t (by simp [Rws.bs]))
theorem IsView.addr {v v' : Value} {z l m : Nat} {i : Int} {p : Addr} (hv : IsView v z l m v') (had : AddrOf v' i z p) (hi : 0 ≤ i) (hl : l + i.toNat < m) : AddrOf v ((l : Int) + i) z p := by
  obtain ⟨a', n', c', e1, rfl⟩ := had
  rcases hv with ⟨_, rfl⟩ | ⟨a, n, c, rfl, h1, h2, h3, e2⟩
  · cases e1
  · rw [e2] at e1
    cases e1
    have hb : Nat.beq c l = false := by
      cases hh : Nat.beq c l with
      | false => rfl
      | true => have := Nat.eq_of_beq_eq_true hh; omega
    rw [hb]
    refine ⟨a, n, c, rfl, ?_⟩
    show (a.add (l * z)).add (i.toNat * z) = a.add (((l : Int) + i).toNat * z)
    rw [Zcs, show ((l : Int) + i).toNat = l + i.toNat by omega, Nat.add_mul]
end
theorem ZiK {α : Type} {f : α → α → Option Bool} {p y : α} {ys r q : List α} (hd : ys = y :: r) (h : cpt f p ys = some q) : ∃ b l, f y p = some b ∧ cpt f y r = some l ∧ q = bif b then l else y :: l := by
  subst hd
  obtain ⟨b, h1, h2⟩ := obind h
  cases hl : cpt f y r with
  | none => rw [hl] at h2; cases h2
  | some l => rw [hl] at h2; exact ⟨b, l, h1, rfl, (Option.some.inj h2).symm⟩
theorem ZjB {α : Type} {xs : List α} {k : Nat} {y : α} (h : xs[k]? = some y) : xs.drop k = y :: xs.drop (k + 1) := by
  have hk := ZC h
  rw [List.drop_eq_getElem_cons hk]
  rw [List.getElem?_eq_getElem hk] at h
  rw [Option.some.inj h]
theorem ZkT {α : Type} {xs : List α} {k : Nat} {y : α} (h : xs[k]? = some y) : xs.take (k + 1) = xs.take k ++ [y] := by
  rw [List.take_add_one, h]; rfl
end Go.Vc
