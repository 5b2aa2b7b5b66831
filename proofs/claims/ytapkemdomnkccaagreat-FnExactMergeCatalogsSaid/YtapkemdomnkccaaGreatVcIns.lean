import Derived.Test.YtapkemdomnkccaaGreatVcCl
namespace Go.Vc
set_option linter.unusedVariables false
set_option linter.unusedSimpArgs false
open Go
section
variable {ψ : CM} {h0 h : Heap} {os : List Ob} {α : Type}
theorem ZzK {a : Option Addr} {n c : Nat} {K : Nat → Prop} (hk : K n) : vLen (.slice a n c) K := hk
theorem Zzm {a : Option Addr} {n c : Nat} {K : Nat → Prop} (hk : K c) : vCap (.slice a n c) K := hk
theorem OwnL.len {φ : CM} {E : El α} {L : Rws} {v : Value} {xs : List α} (h : OwnL φ E L v xs) {K : Nat → Prop} (hk : K xs.length) : vLen v K := by
  rcases h with ⟨rfl, rfl, _⟩ | ⟨b, c, pre, css, rest, Lr, rfl, _⟩
  · exact hk
  · exact hk
theorem OwnL.slLo {φ : CM} {E : El α} {L : Rws} {v : Value} {xs : List α} (h : OwnL φ E L v xs) {z a : Nat} (ha : a ≤ xs.length) {K : Value → Prop} (hk : ∀ v', K v') : vSliceS v z (some (.int .i64 (a : Int))) none none K := by
  rcases h with ⟨rfl, rfl, _⟩ | ⟨b, c, pre, css, rest, Lr, rfl, hc, _⟩
  · exact ⟨⟨by omega, by simpa using ha⟩, hk _⟩
  · exact ⟨⟨by omega, by omega⟩, hk _⟩
theorem ZrV {b off n c a z : Nat} {K : Value → Prop} (hc : 0 < c) (ha : a ≤ c) (hk : K (.slice (some ⟨b, off, none⟩) a c)) : vSliceS (.slice (some ⟨b, off, none⟩) n c) z none (some (.int .i64 (a : Int))) none K := by
  refine ⟨⟨by omega, by omega⟩, ?_⟩
  have h0 : Nat.beq c 0 = false := by
    cases hh : Nat.beq c 0 with
    | false => rfl
    | true => have := Nat.eq_of_beq_eq_true hh; omega
  rw [Int.toNat_natCast]
  show K (.slice (bif Nat.beq c 0 then some ⟨b, off, none⟩ else (some (⟨b, off, none⟩ : Addr)).map (·.add (0 * z))) (a - 0) (c - 0))
  rw [h0]
  simpa [ZO] using hk
theorem Zdy {b off n c a z : Nat} {K : Value → Prop} (ha : a ≤ n) (hac : a < c) (hk : K (.slice (some ⟨b, off + a * z, none⟩) (n - a) (c - a))) : vSliceS (.slice (some ⟨b, off, none⟩) n c) z (some (.int .i64 (a : Int))) none none K := by
  refine ⟨⟨by omega, by omega⟩, ?_⟩
  have h0 : Nat.beq c a = false := by
    cases hh : Nat.beq c a with
    | false => rfl
    | true => have := Nat.eq_of_beq_eq_true hh; omega
  rw [Int.toNat_natCast]
  show K (.slice (bif Nat.beq c a then some ⟨b, off, none⟩ else (some (⟨b, off, none⟩ : Addr)).map (·.add (a * z))) (n - a) (c - a))
  rw [h0]
  simpa [ZO] using hk
theorem ZiX {z b o n c vb vo m vc : Nat} {cs : List Value} {K : Value → Heap → Prop} (hl : cs.length = Nat.min m n * z) (hr : ∀ j u, cs[j]? = some u → hcell h ⟨vb, vo + j, none⟩ = some u) (hk : vStoreN ⟨b, o, none⟩ cs 0 h (K (.int .i64 (Nat.min m n)))) :
    vCopy z (.slice (some ⟨b, o, none⟩) n c) (.slice (some ⟨vb, vo, none⟩) m vc) h K :=
  ⟨cs, hl, fun j u hu => ⟨_, rfl, by rw [ZO]; exact hr j u hu⟩, (fun h => by cases h), fun a ha => by cases ha; exact hk⟩
theorem RowIs.nfz {b : Nat} {cs : List Value} (hr : RowIs h b cs) (j : Nat) : hfroz h ⟨b, j, none⟩ = false := by
  obtain ⟨t, e⟩ := hr
  unfold hfroz
  simp [e]
theorem getMid {A B C : List Value} {j : Nat} {u : Value} (h : B[j]? = some u) : (A ++ B ++ C)[A.length + j]? = some u := by
  rw [List.append_assoc, List.getElem?_append_right (by omega), Nat.add_sub_cancel_left, List.getElem?_append_left (ZS h)]
  exact h
theorem ZuB {E : El α} {u v : Value} {xs : List α} {y : α} {z bytes : Nat} {zero : List Value} {el : TypeId} {i : Int} (st : S ψ h0 h (.it (El.ow E) [u] [y] :: .it (El.ow E) [v] xs :: os)) (hz : E.z = z) (hzc : zero = E.zc) (z0 : 0 < z)
    (i0 : 0 ≤ i) (i1 : i ≤ (xs.length : Int)) (hby : (xs.length + 1) * bytes ≤ 140737488355328) (hbl : xs.length + 1 ≤ 4611686018427387904) {K : Value → Heap → Prop}
    (hK : ∀ v' h', S ψ h0 h' (.it (El.ow E) [v'] (xs.take i.toNat ++ [y] ++ xs.drop i.toNat) :: os) → K v' h') :
    vSliceS v z (some (.int .i64 i)) none none fun _ => vLen u fun n14 => bif ((n14 : Int) : Int) == 0 then K v h else
      vLen v fun n19 => bif (i : Int) == (n19 : Int) then vAppend z bytes zero el v u h fun v25 h_2 => K v25 h_2
      else vCap v fun n30 => bif decide ((IntKind.i64.wrap ((n19 : Int) + (n14 : Int)) : Int) > (n30 : Int)) then
          vSliceS v z none (some (.int .i64 i)) none fun v34 =>
          vAppZ z bytes zero el v34 (IntKind.i64.wrap ((IntKind.i64.wrap ((n19 : Int) + (n14 : Int))) - i)) h fun v40 h_3 =>
          vSliceS v40 z (some (.int .i64 i)) none none fun v43 =>
          vCopy z v43 u h_3 fun _ h_4 =>
          vSliceS v40 z (some (.int .i64 (IntKind.i64.wrap (i + (n14 : Int))))) none none fun v50 =>
          vSliceS v z (some (.int .i64 i)) none none fun v53 =>
          vCopy z v50 v53 h_4 fun _ h_5 => K v40 h_5
        else
          vSliceS v z none (some (.int .i64 (IntKind.i64.wrap ((n19 : Int) + (n14 : Int))))) none fun v60 =>
          vSliceS v60 z (some (.int .i64 (IntKind.i64.wrap (i + (n14 : Int))))) none none fun v66 =>
          vOv [u, v66] h <|
          vSliceS v60 z (some (.int .i64 (IntKind.i64.wrap (i + (n14 : Int))))) none none fun v73 =>
          vSliceS v60 z (some (.int .i64 i)) none none fun v76 =>
          vCopy z v73 v76 h fun _ h_6 =>
          vSliceS v60 z (some (.int .i64 i)) none none fun v80 =>
          vCopy z v80 u h_6 fun _ h_7 => K v60 h_7 := by
  subst hz; subst hzc
  obtain ⟨a, rfl⟩ : ∃ m : Nat, i = m := ⟨i.toNat, by omega⟩
  rw [show ((a : Int)).toNat = a from Int.toNat_natCast a] at hK
  have han : a ≤ xs.length := by omega
  obtain ⟨φ, L, s, Lu, L', rfl, hu, Lv, L2, rfl, hv, r⟩ := st
  have hv' := El.ow_to hv
  rcases El.ow_to hu with ⟨_, h, _⟩ | ⟨vb, vc, upre, ucs, urest, Ly, rfl, hvc, _, rfl, hally⟩
  · cases h
  have hul : ucs.flatten.length = E.z := by rw [hally.flat]; simp
  have hurow : RowIs h vb (upre ++ ucs.flatten ++ urest) := s.row vb (Row.cs (upre ++ ucs.flatten ++ urest)) (by simp)
  have hucell : ∀ {h' : Heap}, RowIs h' vb (upre ++ ucs.flatten ++ urest) → ∀ j w, ucs.flatten[j]? = some w → hcell h' ⟨vb, upre.length + j, none⟩ = some w := fun hr j w hw => hr.cell (getMid hw)
  have hw1 : IntKind.i64.wrap ((xs.length : Int) + (([y] : List α).length : Int)) = ((xs.length + 1 : Nat) : Int) := by rw [List.length_singleton]; exact Zau (by omega) (by omega)
  have hw2 : IntKind.i64.wrap ((a : Int) + (([y] : List α).length : Int)) = ((a + 1 : Nat) : Int) := by rw [List.length_singleton]; exact Zau (by omega) (by omega)
  have hw3 : IntKind.i64.wrap (((xs.length + 1 : Nat) : Int) - (a : Int)) = ((xs.length + 1 - a : Nat) : Int) := by rw [Zau (by omega) (by omega)]; omega
  refine hv'.slLo han fun _ => ZzK ?_
  rw [show ((([y] : List α).length : Int) == 0) = false by simp]
  simp only [cond_false]
  refine hv'.len ?_
  simp only [hw1, hw2, hw3]
  by_cases e : a = xs.length
  · rw [show ((a : Int) == (xs.length : Int)) = true by simp [e]]
    simp only [cond_true]
    refine Zih (rows := Lv) (M := (vb, .cs (upre ++ ucs.flatten ++ urest)) :: Ly ++ L2) (m := 1) (news := ucs.flatten) (s.perm (List.perm_append_comm_assoc _ _ _)) hv' rfl ZlW (.inr ⟨_, vc, rfl, fun j w hw => by rw [ZO]; exact hucell hurow j w hw⟩) (by rw [hul]; omega) hally.one hby hbl fun v' rows' h' s3 hown => hK v' h' ⟨φ, (rows' ++ Ly) ++ L2, ?_, rows' ++ Ly, L2, rfl, ⟨v', rfl, ?_⟩, r⟩
    · rw [List.append_assoc]
      exact s3.sub ((List.Sublist.refl _).append (by rw [List.cons_append]; exact List.sublist_cons_self ..))
    · have := hown Ly ucs [y] hally rfl rfl
      rw [e]
      simpa using this
  · rw [show ((a : Int) == (xs.length : Int)) = false by simp; omega]
    simp only [cond_false]
    rcases hv' with ⟨_, rfl, _⟩ | ⟨b, c, pre, css, rest, Lr, rfl, hc, hrest, rfl, hall⟩
    · exact (e (Nat.le_antisymm han (Nat.zero_le _))).elim
    obtain ⟨La, Lb, hsbl, all1, all2⟩ := hall.ends (Nat.le_refl a)
    have hta := Zuo hall han
    have hda := Zvm hall a
    have hf := ZAN css a
    have hrow : RowIs h b (pre ++ css.flatten ++ rest) := s.row b (Row.cs (pre ++ css.flatten ++ rest)) (by simp)
    have hallN : AllR φ E (La ++ (Ly ++ Lb)) (css.take a ++ (ucs ++ css.drop a)) (xs.take a ++ ([y] ++ xs.drop a)) := (all2.app hally).app all1
    have hlen : (xs.take a ++ [y] ++ xs.drop a).length = xs.length + 1 := by rw [List.length_append, List.length_append, List.length_take, List.length_drop, List.length_singleton]; omega
    have hone1 : ∀ w ∈ (css.drop a).flatten, w.oneCell' = true := fun w hw => hall.one w (by rw [hf]; exact List.mem_append_right _ hw)
    refine Zzm ?_
    have hcells : ∀ {h' : Heap}, RowIs h' b (pre ++ css.flatten ++ rest) → ∀ j w, (css.drop a).flatten[j]? = some w → hcell h' ⟨b, pre.length + a * E.z + j, none⟩ = some w := fun hr j w hw => by
      refine hr.cell ?_
      rw [hf, ← List.append_assoc, show pre.length + a * E.z + j = (pre ++ (css.take a).flatten).length + j by rw [List.length_append, hta]]
      exact getMid hw
    have hperm : ∀ q : Nat × Row, (q :: (Ly ++ ((La ++ Lb) ++ L2))).Perm ((q :: (La ++ (Ly ++ Lb))) ++ L2) := fun q => by
      rw [List.cons_append]
      refine List.Perm.cons _ ?_
      simp only [List.append_assoc]
      exact List.perm_append_comm_assoc _ _ _
    by_cases hroom : xs.length + 1 ≤ c
    · rw [show decide (((xs.length + 1 : Nat) : Int) > (c : Int)) = false from decide_eq_false (by omega)]
      simp only [cond_false]
      refine ZrV (by omega) (by omega) ?_
      refine Zdy (by omega) (by omega) ?_
      have hne : ¬ vb = b := by
        intro e; subst e
        have := s.nod
        simp [Rws.bs] at this
      refine ⟨hne, hurow.nfz _, ?_, ?_, ?_⟩
      · obtain ⟨t, e⟩ := hurow
        exact ⟨_, t, _, e, RowIs.nfz ⟨t, e⟩ _⟩
      · obtain ⟨t, e⟩ := hrow
        refine ⟨_, t, _, e, ?_⟩
        have := hall.flat
        have h3 : 0 < xs.length * E.z := Nat.mul_pos (by omega) z0
        show (pre ++ css.flatten ++ rest).toArray.size ≠ 0
        rw [List.size_toArray, List.length_append, List.length_append]
        omega
      refine Zdy (by omega) (by omega) ?_
      refine Zdy (by omega) (by omega) ?_
      -- what stood from a on, one further
      obtain ⟨D, hD⟩ : ∃ D, D = (css.drop a).flatten := ⟨_, rfl⟩
      have hDl : D.length = (xs.length - a) * E.z := by rw [hD, hda]
      have hzr : E.z ≤ rest.length := Nat.le_trans (by have := Nat.mul_le_mul_right E.z (show 1 ≤ c - xs.length by omega); omega) hrest
      have hrow1 : pre ++ css.flatten ++ rest = (pre ++ (css.take a).flatten ++ (D ++ rest).take E.z) ++ ((D ++ rest).drop E.z).take D.length ++ ((D ++ rest).drop E.z).drop D.length := by
        rw [List.append_assoc _ (List.take _ _), List.take_append_drop, List.append_assoc _ (List.take _ _), List.take_append_drop, hf, ← hD]
        simp only [List.append_assoc]
      have s1 : S0 ψ h0 h φ ((b, Row.cs ((pre ++ (css.take a).flatten ++ (D ++ rest).take E.z) ++ ((D ++ rest).drop E.z).take D.length ++ ((D ++ rest).drop E.z).drop D.length)) :: (((vb, .cs (upre ++ ucs.flatten ++ urest)) :: Ly) ++ (Lr ++ L2))) := s.perm (by
        rw [hrow1, List.cons_append (bs := L2)]
        exact List.perm_middle)
      refine ZiX (cs := D) (by rw [hDl, show Nat.min (xs.length + 1 - a) (xs.length + 1 - (a + 1)) = xs.length - a by simp only [Nat.min_def]; split <;> omega]) (fun j w hw => hcells hrow j w (by rw [← hD]; exact hw)) ?_
      refine ZbM D (((D ++ rest).drop E.z).take D.length) (pre ++ (css.take a).flatten ++ (D ++ rest).take E.z) _ 0 h _ ?_ ?_ (by rw [hD]; exact hone1) s1.sta fun h2 t => ?_
      · rw [List.length_append, List.length_append, hta, List.length_take, List.length_append, Nat.min_eq_left (by omega), Nat.add_mul]; omega
      · rw [List.length_take, List.length_drop, List.length_append]; omega
      have s2 := s1.of_sta' t (by simp [Rws.bs])
      refine Zdy (by omega) (by omega) ?_
      have s2' : S0 ψ h0 h2 φ ((b, Row.cs ((pre ++ (css.take a).flatten) ++ (D ++ rest).take E.z ++ (D ++ ((D ++ rest).drop E.z).drop D.length))) :: (((vb, .cs (upre ++ ucs.flatten ++ urest)) :: Ly) ++ (Lr ++ L2))) := by
        simpa only [List.append_assoc] using s2
      refine ZiX (cs := ucs.flatten) (by rw [hul, show Nat.min ([y] : List α).length (xs.length + 1 - a) = 1 by rw [List.length_singleton]; simp only [Nat.min_def]; split <;> omega, Nat.one_mul]) (fun j w hw => hucell (s2'.row vb (Row.cs (upre ++ ucs.flatten ++ urest)) (by simp)) j w hw) ?_
      refine ZbM ucs.flatten ((D ++ rest).take E.z) (pre ++ (css.take a).flatten) _ 0 h2 _ (by rw [List.length_append, hta]; rfl) (by rw [hul, List.length_take, List.length_append]; omega) hally.one s2'.sta fun h3 t3 => ?_
      have s3 := s2'.of_sta' t3 (by simp [Rws.bs])
      have s4 := s3.sub (L' := (b, Row.cs ((pre ++ (css.take a).flatten) ++ ucs.flatten ++ (D ++ ((D ++ rest).drop E.z).drop D.length))) :: (Ly ++ ((La ++ Lb) ++ L2))) (List.Sublist.cons_cons _ (by rw [List.cons_append]; exact ((List.Sublist.refl Ly).append (hsbl.append_right _)).cons _))
      refine hK _ h3 ⟨φ, _, s4.perm (hperm _), _, L2, rfl, ⟨_, rfl, .inr ⟨b, c, pre, css.take a ++ (ucs ++ css.drop a), ((D ++ rest).drop E.z).drop D.length, La ++ (Ly ++ Lb), ?_, ?_, ?_, ?_, ?_⟩⟩, r⟩
      · rw [hlen]
      · rw [hlen]; omega
      · rw [hlen, List.length_drop, List.length_drop, List.length_append, Nat.sub_add_eq, Nat.sub_mul]; omega
      · rw [List.flatten_append, List.flatten_append, ← hD]; simp only [List.append_assoc]
      · rw [List.append_assoc]; exact hallN
    · rw [show decide (((xs.length + 1 : Nat) : Int) > (c : Int)) = true from decide_eq_true (by omega)]
      simp only [cond_true]
      refine ZrV (by omega) (by omega) ?_
      obtain ⟨m, hm⟩ : ∃ m, m = xs.length + 1 - a := ⟨_, rfl⟩
      have ham : a + m = xs.length + 1 := by omega
      refine ⟨by omega, (css.take a).flatten, hta, fun j w hw => ⟨_, rfl, ?_⟩, ?_, ?_, ?_, fun cap hcap hcm => ?_⟩
      · rw [ZO]
        refine hrow.cell ?_
        rw [hf, ← List.append_assoc pre, List.append_assoc]
        exact getMid hw
      · rw [Int.toNat_natCast, ← hm, ham]; exact hby
      · rw [Int.toNat_natCast, ← hm, ham]; exact hbl
      · rw [Int.toNat_natCast, ← hm, ham]; omega
      rw [Int.toNat_natCast, ← hm, ham] at hcap ⊢
      have s1 := s.new ((css.take a).flatten ++ repl m E.zc ++ repl (cap - (xs.length + 1)) E.zc) el
      have hml : (repl m E.zc).length = m * E.z := by rw [ZfN, ZlW]
      have hmz : E.z ≤ m * E.z := by have := Nat.mul_le_mul_right E.z (show 1 ≤ m by omega); omega
      refine Zdy (b := h.size) (off := 0) (by omega) (by omega) ?_
      have s1' : S0 ψ h0 (h.push (.cells ((css.take a).flatten ++ repl m E.zc ++ repl (cap - (xs.length + 1)) E.zc).toArray el)) φ ((h.size, Row.cs ((css.take a).flatten ++ (repl m E.zc).take E.z ++ ((repl m E.zc).drop E.z ++ repl (cap - (xs.length + 1)) E.zc))) :: (((vb, .cs (upre ++ ucs.flatten ++ urest)) :: Ly) ++ (((b, .cs (pre ++ css.flatten ++ rest)) :: Lr) ++ L2))) := by
        have e1 : (css.take a).flatten ++ (repl m E.zc).take E.z ++ ((repl m E.zc).drop E.z ++ repl (cap - (xs.length + 1)) E.zc) = (css.take a).flatten ++ repl m E.zc ++ repl (cap - (xs.length + 1)) E.zc := by
          rw [List.append_assoc, ← List.append_assoc (List.take _ _), List.take_append_drop, List.append_assoc]
        rw [e1]; exact s1
      refine ZiX (cs := ucs.flatten) (by rw [hul, show Nat.min ([y] : List α).length (xs.length + 1 - a) = 1 by rw [List.length_singleton]; simp only [Nat.min_def]; split <;> omega, Nat.one_mul]) (fun j w hw => hucell (s1'.row vb (Row.cs (upre ++ ucs.flatten ++ urest)) (by simp)) j w hw) ?_
      refine ZbM ucs.flatten ((repl m E.zc).take E.z) (css.take a).flatten _ 0 _ _ (by rw [hta]; omega) (by rw [hul, List.length_take, hml]; omega) hally.one s1'.sta fun h2 t2 => ?_
      have s2 := s1'.of_sta' t2 (by simp [Rws.bs])
      have s2' : S0 ψ h0 h2 φ ((h.size, Row.cs (((css.take a).flatten ++ ucs.flatten) ++ (repl m E.zc).drop E.z ++ repl (cap - (xs.length + 1)) E.zc)) :: (((vb, .cs (upre ++ ucs.flatten ++ urest)) :: Ly) ++ (((b, .cs (pre ++ css.flatten ++ rest)) :: Lr) ++ L2))) := by
        simpa only [List.append_assoc] using s2
      refine Zdy (b := h.size) (off := 0) (by omega) (by omega) ?_
      refine Zdy (by omega) (by omega) ?_
      refine ZiX (cs := (css.drop a).flatten) (by rw [hda, show Nat.min (xs.length - a) (xs.length + 1 - (a + 1)) = xs.length - a by simp only [Nat.min_def]; split <;> omega]) (hcells (s2'.row b (Row.cs (pre ++ css.flatten ++ rest)) (by simp))) ?_
      refine ZbM (css.drop a).flatten ((repl m E.zc).drop E.z) ((css.take a).flatten ++ ucs.flatten) _ 0 h2 _ ?_ ?_ hone1 s2'.sta fun h3 t3 => ?_
      · rw [List.length_append, hta, hul, Nat.add_mul]; omega
      · rw [List.length_drop, hml, hda, show m = (xs.length - a) + 1 by omega, Nat.add_mul]; omega
      have s3 := s2'.of_sta' t3 (by simp [Rws.bs])
      have s4 := s3.sub (L' := (h.size, Row.cs (((css.take a).flatten ++ ucs.flatten) ++ (css.drop a).flatten ++ repl (cap - (xs.length + 1)) E.zc)) :: (Ly ++ ((La ++ Lb) ++ L2))) (List.Sublist.cons_cons _ (by
        rw [List.cons_append]
        refine (List.Sublist.append (List.Sublist.refl Ly) ?_).cons _
        rw [List.cons_append]
        exact (hsbl.append_right _).cons _))
      refine hK _ h3 ⟨φ, _, s4.perm (hperm _), _, L2, rfl, ⟨_, rfl, .inr ⟨h.size, cap, [], css.take a ++ (ucs ++ css.drop a), repl (cap - (xs.length + 1)) E.zc, La ++ (Ly ++ Lb), ?_, ?_, ?_, ?_, ?_⟩⟩, r⟩
      · rw [hlen]; rfl
      · rw [hlen]; omega
      · rw [hlen, ZfN, ZlW]; exact Nat.le_refl _
      · rw [List.flatten_append, List.flatten_append]; simp only [List.append_assoc, List.nil_append]
      · rw [List.append_assoc]; exact hallN
theorem one_S {E : El α} {cs : List Value} {y : α} {t : TypeId} (st : S ψ h0 h (.it E cs y :: os)) {K : Value → Heap → Prop} (hK : ∀ v' h', S ψ h0 h' (.it (El.ow E) [v'] [y] :: os) → K v' h') : vNewS h (.cells cs.toArray t) 1 K := by
  obtain ⟨φ, L, s, Ly, L', rfl, hy, r⟩ := st
  have s1 := s.new cs t
  exact hK _ _ ⟨φ, _, s1, (h.size, .cs cs) :: Ly, L', rfl, ⟨_, rfl, .inr ⟨h.size, 1, [], [cs], [], Ly, rfl, Nat.le_refl _, by simp, by simp, ⟨Ly, [], by simp, hy, rfl⟩⟩⟩, r⟩
theorem ZzP {E : El α} {cs : List Value} {y : α} {t : TypeId} (st : S ψ h0 h (.it E cs y :: os)) {K : Value → Heap → Prop} (hK : ∀ v' h', ExtH h h' → S ψ h0 h' (.it (El.ow E) [v'] [y] :: os) → K v' h') : vNewS h (.cells cs.toArray t) 1 K :=
  one_S (K := fun v' h' => ExtH h h' → K v' h') (t := t) st (fun v' h' s hx => hK v' h' hx s) (ExtH.push h _)
end
end Go.Vc
