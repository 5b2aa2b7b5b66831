/- Cells set to zero behind a list; slices.Delete and slices.CompactFunc on lists of frozen elements. -/
import Derived.Test.YtapkemdomnkccaaGreatVcS3
namespace Go.Vc
set_option linter.unusedVariables false
set_option linter.unusedSimpArgs false
open Go
section
variable {ψ : CM} {h0 h : Heap} {os : List Ob} {α : Type}
theorem ZC7 {z : List Value} (hz : ∀ v ∈ z, v.oneCell' = true) (n : Nat) : ∀ v ∈ repl n z, v.oneCell' = true := by
  induction n with
  | zero => intro v hv; cases hv
  | succ n ih =>
    intro v hv
    rw [repl] at hv
    rcases List.mem_append.1 hv with h | h
    · exact hz v h
    · exact ih v h
theorem ZCQ {E : El α} : ∀ v ∈ E.zc, v.oneCell' = true := E.one (E.hz fun _ => none)
theorem ZCN {E : El α} : E.zc.length = E.z := E.len (E.hz fun _ => none)
theorem ZCF {φ : CM} {E : El α} {L : Rws} {css : List (List Value)} {xs : List α} (h : AllR φ E L css xs) {k : Nat} (hk : k ≤ xs.length) : (css.take k).flatten.length = k * E.z := by
  obtain ⟨_, _, g⟩ := h.take k
  rw [g.flat, List.length_take, Nat.min_eq_left hk]
theorem ZCJ {φ : CM} {E : El α} {L : Rws} {css : List (List Value)} {xs : List α} (h : AllR φ E L css xs) (k : Nat) : (css.drop k).flatten.length = (xs.length - k) * E.z := by
  obtain ⟨_, _, g⟩ := h.drop k
  rw [g.flat, List.length_drop]
theorem ZCM (css : List (List Value)) (k : Nat) : css.flatten = (css.take k).flatten ++ (css.drop k).flatten := by
  have := congrArg List.flatten (List.take_append_drop k css)
  rw [List.flatten_append] at this
  exact this.symm
theorem AllR.ends {φ : CM} {E : El α} : ∀ {a d : Nat}, a ≤ d → ∀ {L : Rws} {css : List (List Value)} {xs : List α}, AllR φ E L css xs → ∃ La Lb, (La ++ Lb).Sublist L ∧ AllR φ E La (css.take a) (xs.take a) ∧ AllR φ E Lb (css.drop d) (xs.drop d)
  | 0, d, _, L, css, xs, h => by
    obtain ⟨L', h1, h2⟩ := h.drop d
    exact ⟨[], L', h1, rfl, h2⟩
  | a + 1, 0, hd, _, _, _, _ => by omega
  | a + 1, d + 1, _, L, [], [], h => ⟨[], L, List.Sublist.refl _, rfl, h⟩
  | a + 1, d + 1, _, _, [], _ :: _, h => h.elim
  | a + 1, d + 1, _, _, _ :: _, [], h => h.elim
  | a + 1, d + 1, hd, _, _ :: _, _ :: _, ⟨L1, L2, h1, h2, h3⟩ => by
    obtain ⟨La, Lb, g1, g2, g3⟩ := AllR.ends (show a ≤ d by omega) h3
    exact ⟨L1 ++ La, Lb, by rw [h1, List.append_assoc]; exact g1.append_left _, ⟨L1, La, rfl, h2, g2⟩, g3⟩
theorem ZC1 {E : El α} {v : Value} {xs : List α} {z bytes : Nat} {zero : List Value} {el : TypeId} (st : S ψ h0 h os) (i0 : Nat) (ho : os[i0]? = some (.it (El.ow E) [v] xs)) (hz : E.z = z) (hzc : zero = E.zc) {i j : Int}
    (hi : 0 ≤ i) (hij : i < j) (hj : j ≤ (xs.length : Int)) (hby : xs.length * bytes ≤ 140737488355328) (hbl : xs.length ≤ 4611686018427387904) {K : Value → Heap → Prop}
    (hK : ∀ v' h', S ψ h0 h' (os.set i0 (.it (El.ow E) [v'] (xs.take i.toNat ++ xs.drop j.toNat))) → K v' h') :
    vSliceS v z none (some (.int .i64 i)) none fun v22 => vSliceS v z (some (.int .i64 j)) none none fun v25 => vAppend z bytes zero el v22 v25 h fun v26 h2 => vLen v26 fun n29 => vSliceS v26 z (some (.int .i64 (n29 : Int))) (some (.int .i64 (xs.length : Int))) none fun u => vClear zero u h2 fun _ h3 => K v26 h3 := by
  subst hz; subst hzc
  obtain ⟨a, rfl⟩ : ∃ m : Nat, i = m := ⟨i.toNat, by omega⟩
  obtain ⟨d, rfl⟩ : ∃ m : Nat, j = m := ⟨j.toNat, by omega⟩
  have ha : (a : Int).toNat = a := Int.toNat_natCast a
  have hd : (d : Int).toNat = d := Int.toNat_natCast d
  rw [ha, hd] at hK
  obtain ⟨φ, L, s, r⟩ := st
  obtain ⟨L1, Lo, L2, e1, e2, _, e4⟩ := r.at ho
  rcases El.ow_to e2 with ⟨rfl, rfl, rfl⟩ | ⟨b, c, pre, css, rest, Lr, rfl, hc, hrest, rfl, hall⟩
  · simp at hj; omega
  · obtain ⟨La, Lb, hsbl, all1, all2⟩ := hall.ends (show a ≤ d by omega)
    have hc0 : Nat.beq c 0 = false := by
      cases hh : Nat.beq c 0 with
      | false => rfl
      | true => have := Nat.eq_of_beq_eq_true hh; omega
    have hta := ZCF hall (show a ≤ xs.length by omega)
    have hdd := ZCJ hall d
    have hda := ZCJ hall a
    obtain ⟨n, hn⟩ : ∃ n, n = xs.length := ⟨_, rfl⟩
    have hm : a + (n - d) ≤ n := by omega
    -- the bounds
    refine ⟨⟨by omega, by omega⟩, ?_⟩
    rw [ha]
    refine ⟨⟨by omega, by omega⟩, ?_⟩
    rw [hd]
    try simp only [hc0]
    have e22 : (Value.slice (bif false then some ⟨b, pre.length, none⟩ else Option.map (fun (x : Addr) => x.add (0 * E.z)) (some ⟨b, pre.length, none⟩)) (a - 0) (c - 0)) = .slice (some ⟨b, pre.length, none⟩) a c := by simp [Z1]
    show vAppend E.z bytes E.zc el (Value.slice (bif false then some ⟨b, pre.length, none⟩ else Option.map (fun (x : Addr) => x.add (0 * E.z)) (some ⟨b, pre.length, none⟩)) (a - 0) (c - 0)) (Value.slice (bif c.beq d then some ⟨b, pre.length, none⟩ else Option.map (fun (x : Addr) => x.add (d * E.z)) (some ⟨b, pre.length, none⟩)) (xs.length - d) (c - d)) h _
    rw [e22]
    have hrow : RowIs h b (pre ++ css.flatten ++ rest) := s.row b (Row.cs (pre ++ css.flatten ++ rest)) (by rw [e1]; simp)
    have hf := ZCM css a
    have hfd := ZCM css d
    have e25 : ∃ q, (Value.slice (bif c.beq d then some ⟨b, pre.length, none⟩ else Option.map (fun (x : Addr) => x.add (d * E.z)) (some ⟨b, pre.length, none⟩)) (xs.length - d) (c - d)) = .slice (some q) (n - d) (c - d) ∧ ∀ (j : Nat) u, (css.drop d).flatten[j]? = some u → hcell h (q.add j) = some u := by
      cases hcd : Nat.beq c d with
      | true =>
        have := Nat.eq_of_beq_eq_true hcd
        refine ⟨_, by rw [hn]; rfl, fun j u hu => ?_⟩
        have := ZL hu
        rw [hdd, show xs.length - d = 0 by omega] at this
        omega
      | false =>
        refine ⟨_, by rw [hn]; rfl, fun j u hu => ?_⟩
        simp only [Z1]
        refine RowIs.cell hrow ?_
        rw [hfd, List.append_assoc, List.getElem?_append_right (by omega), List.append_assoc, show pre.length + d * E.z + j - pre.length = d * E.z + j by omega, List.getElem?_append_right (by rw [ZCF hall (show d ≤ xs.length by omega)]; omega), ZCF hall (show d ≤ xs.length by omega), Nat.add_sub_cancel_left, List.getElem?_append_left (ZL hu)]
        exact hu
    obtain ⟨q, e25, hq⟩ := e25
    rw [e25]
    obtain ⟨news, hnews⟩ : ∃ news, news = (css.drop d).flatten := ⟨_, rfl⟩
    have hnl : news.length = (n - d) * E.z := by rw [hnews, hdd, hn]
    have hones : ∀ v ∈ css.flatten, v.oneCell' = true := hall.one
    have hno : ∀ v ∈ news, v.oneCell' = true := fun v hv => hones v (by rw [hfd]; rw [hnews] at hv; exact List.mem_append_right _ hv)
    refine ⟨(css.take a).flatten, news, hta, hnl, fun j u hu => ⟨_, rfl, ?_⟩, fun j u hu => ⟨_, rfl, hq j u (by rw [← hnews]; exact hu)⟩, (fun h => by cases h), (fun h => by cases h), Nat.le_trans (Nat.mul_le_mul_right _ (by omega)) hby, by omega, fun _ p hp' => ?_, (fun _ h => by cases h), fun hlt => by omega⟩
    · rw [Z1]
      refine RowIs.cell hrow ?_
      rw [hf, List.append_assoc, List.getElem?_append_right (by omega), Nat.add_sub_cancel_left, List.append_assoc, List.getElem?_append_left (ZL hu)]
      exact hu
    · cases hp'
      refine ⟨hno, ?_⟩
      rw [Z1]
      -- the cells behind a: those that are overwritten, and what is set to zero
      obtain ⟨tl, htl⟩ : ∃ tl, tl = (css.drop a).flatten := ⟨_, rfl⟩
      have htll : tl.length = (n - a) * E.z := by rw [htl, hda, hn]
      have hle : (n - d) * E.z ≤ (n - a) * E.z := Nat.mul_le_mul_right _ (by omega)
      have hsub : (n - a) * E.z - (n - d) * E.z = (n - (a + (n - d))) * E.z := by rw [← Nat.sub_mul]; congr 1; omega
      have hrow1 : pre ++ css.flatten ++ rest = (pre ++ (css.take a).flatten) ++ tl.take ((n - d) * E.z) ++ (tl.drop ((n - d) * E.z) ++ rest) := by
        rw [hf, ← htl, List.append_assoc, List.append_assoc, List.append_assoc, List.append_assoc, ← List.append_assoc (tl.take _), List.take_append_drop]
      have s1 : S0 ψ h0 h φ ((b, Row.cs ((pre ++ (css.take a).flatten) ++ tl.take ((n - d) * E.z) ++ (tl.drop ((n - d) * E.z) ++ rest))) :: (Lr ++ (L1 ++ L2))) := s.perm (by
        rw [e1, hrow1, List.append_assoc L1, List.cons_append]
        refine List.perm_middle.trans (List.Perm.cons _ ?_)
        rw [← List.append_assoc, ← List.append_assoc]
        exact List.perm_append_comm.append_right _)
      refine Zf1 news (tl.take ((n - d) * E.z)) (pre ++ (css.take a).flatten) _ 0 h _ (by rw [List.length_append, hta]; rfl) (by rw [List.length_take, htll, hnl]; omega) hno s1.sta fun h2 t => ?_
      have s2 := s1.of_sta' t (by simp [Rws.bs])
      have hmc : Nat.beq c (a + (n - d)) = false := by
        cases hh : Nat.beq c (a + (n - d)) with
        | false => rfl
        | true => have := Nat.eq_of_beq_eq_true hh; omega
      show vSliceS (.slice (some ⟨b, pre.length, none⟩) (a + (n - d)) c) E.z (some (.int .i64 ((a + (n - d) : Nat) : Int))) (some (.int .i64 (xs.length : Int))) none fun u => vClear E.zc u h2 fun _ h3 => K (.slice (some ⟨b, pre.length, none⟩) (a + (n - d)) c) h3
      refine ⟨⟨by omega, by omega⟩, ?_⟩
      refine ⟨⟨by omega, by omega⟩, ?_⟩
      simp only [Int.toNat_natCast, hmc]
      show vStoreN ((⟨b, pre.length, none⟩ : Addr).add ((a + (n - d)) * E.z)) (repl (xs.length - (a + (n - d))) E.zc) 0 h2 _
      rw [Z1, ← hn]
      have s3 : S0 ψ h0 h2 φ ((b, Row.cs ((pre ++ (css.take a).flatten ++ news) ++ tl.drop ((n - d) * E.z) ++ rest)) :: (Lr ++ (L1 ++ L2))) := by
        simpa only [List.append_assoc] using s2
      refine Zf1 _ (tl.drop ((n - d) * E.z)) (pre ++ (css.take a).flatten ++ news) _ 0 h2 _ ?_ ?_ (ZC7 ZCQ _) s3.sta fun h3 t3 => ?_
      · rw [List.length_append, List.length_append, hta, hnl, Nat.add_mul]; omega
      · rw [List.length_drop, htll, ZjZ, ZCN, hsub]
      · have s4 := s3.of_sta' t3 (by simp [Rws.bs])
        have hlen : (xs.take a ++ xs.drop d).length = a + (n - d) := by rw [List.length_append, List.length_take, List.length_drop, ← hn]; omega
        have s5 := s4.sub (L' := (b, Row.cs ((pre ++ (css.take a).flatten ++ news) ++ repl (n - (a + (n - d))) E.zc ++ rest)) :: ((La ++ Lb) ++ (L1 ++ L2))) (List.Sublist.cons_cons _ (hsbl.append_right _))
        refine hK _ h3 ⟨φ, _, s5.perm (L' := L1 ++ ((b, Row.cs ((pre ++ (css.take a).flatten ++ news) ++ repl (n - (a + (n - d))) E.zc ++ rest)) :: (La ++ Lb)) ++ L2) ?_, e4 φ _ _ (CLe.refl _) ⟨_, rfl, .inr ⟨b, c, pre, css.take a ++ css.drop d, repl (n - (a + (n - d))) E.zc ++ rest, La ++ Lb, ?_, ?_, ?_, ?_, all2.app all1⟩⟩⟩
        · rw [List.append_assoc L1, List.cons_append]
          refine ((List.Perm.cons _ ?_).trans List.perm_middle.symm)
          rw [← List.append_assoc, ← List.append_assoc L1]
          exact List.perm_append_comm.append_right _
        · rw [hlen]
        · rw [hlen]; omega
        · rw [hlen, List.length_append, ZjZ, ZCN]
          have : (c - (a + (n - d))) * E.z = (c - n) * E.z + (n - (a + (n - d))) * E.z := by rw [← Nat.add_mul]; congr 1; omega
          rw [hn] at this ⊢
          omega
        · rw [List.flatten_append, hnews]; simp only [List.append_assoc]
theorem ZC2 {φ : CM} {E : El α} {v : Value} {xs : List α} {z : Nat} (ha : SlC φ E v xs) {i j : Int} (h1 : 0 ≤ i) (h2 : i ≤ j) (h3 : j ≤ (xs.length : Int)) {K : Value → Prop} (hk : ∀ v', K v') : vSliceS v z (some (.int .i64 i)) (some (.int .i64 j)) (some (.int .i64 (xs.length : Int))) K := by
  rcases ha with ⟨rfl, rfl⟩ | ⟨a, c, rfl, hc, _⟩
  · exact ⟨⟨by simp, by simp⟩, ⟨by omega, by simpa using h3⟩, ⟨by omega, by omega⟩, hk _⟩
  · exact ⟨⟨by omega, by omega⟩, ⟨by omega, by omega⟩, ⟨by omega, by omega⟩, hk _⟩
end
end Go.Vc
