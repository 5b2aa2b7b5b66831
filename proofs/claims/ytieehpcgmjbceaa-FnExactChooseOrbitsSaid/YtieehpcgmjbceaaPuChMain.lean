/- The searches' beginnings and ends. -/
import Derived.Test.YtieehpcgmjbceaaPuCnt
namespace Go.Proofs.Ytieehpcgmjbceaa
open Go Go.Vc
set_option linter.unusedSimpArgs false
set_option linter.unusedVariables false

theorem full_lt {m : R2} {lam limit budget : Int} {n : Nat} : ∀ (r : Nat) (sums ch : List Int) (s : ChS), ChInv limit budget s → s.count < limit → s.full = false → ((goCh m lam limit budget n r sums ch s).full = true → (goCh m lam limit budget n r sums ch s).count < limit)
  | 0, _, _, s, _, _, hf => fun h => by
    unfold goCh at h
    simp only [] at h
    rw [hf] at h; cases h
  | r + 1, sums, ch, s, hs, hc, hf => by
    have on : ∀ (low : Bool) (sums' ch' : List Int) (s' : ChS), ChInv limit budget s' → (s'.full = true → s'.count < limit) → ((onCh limit budget low (goCh m lam limit budget n r sums' ch') s').full = true → (onCh limit budget low (goCh m lam limit budget n r sums' ch') s').count < limit) := by
      intro low sums' ch' s' hi hfl
      unfold onCh
      cases h1 : (low || s'.full || s'.count == limit)
      · simp only [Bool.or_eq_false_iff, beq_eq_false_iff_ne, ne_eq] at h1
        have hc1 := hi.c1
        cases h2 : (s'.nodes == budget)
        · simp only [beq_eq_false_iff_ne, ne_eq] at h2
          have a := hi.n0
          have b := hi.n1
          exact full_lt r sums' ch' _ ⟨hi.c0, hi.c1, by show 0 ≤ s'.nodes + 1; omega, by show s'.nodes + 1 ≤ budget; omega⟩ (by show s'.count < limit; omega) h1.1.2
        · intro _; show s'.count < limit; omega
      · exact hfl
    unfold goCh
    simp only []
    refine on _ _ _ _ ?_ ?_
    · cases highB lam (addL sums (colOf m (n - (r + 1))))
      · exact onCh_inv hs fun s hs hc => goCh_inv r _ _ s hs hc
      · exact hs
    · cases highB lam (addL sums (colOf m (n - (r + 1))))
      · exact on _ _ _ _ hs fun h => by rw [hf] at h; cases h
      · exact fun h => by simp only [cond_true] at h; rw [hf] at h; cases h

section
variable {m : R2} {n : Nat} {lam limit budget : Int}
def s0 : ChS := ⟨0, false, 0, []⟩
def zeros (m : R2) : List Int := List.replicate m.length 0
def reach (m : R2) (lam : Int) : Bool := !lowB lam (zeros m) (tailsOf m 0)
/-- What the search gives in the end. -/
def sEnd (m : R2) (n : Nat) (lam limit budget : Int) : ChS := bif reach m lam then goCh m lam limit budget n n (zeros m) [] s0 else s0
theorem zeros_get {m : R2} {k : Nat} (h : k < m.length) : (zeros m)[k]? = some 0 := by unfold zeros; rw [List.getElem?_replicate, if_pos h]
theorem tailRow_len (r : List Int) : (tailRow r).length = r.length + 1 := by unfold tailRow; simp

/-- A row's sums from each place on. -/
theorem spec_tails (hin : ChIn m n lam limit budget) {y10 : Bool} {xs : R2} {i : Nat} {row : List Int} (er : m[i]? = some row) (hrl : row.length = n) (hrb : ∀ x ∈ row, 0 ≤ x ∧ x ≤ 2000) :
    loop (p_spec_l26Search_b2 m lam y10 (i : Int) xs) (((n : Int) - 1), List.replicate (n + 1) 0) = loop (p_spec_l26Search_b2 m lam y10 (i : Int) xs) (-1, tailRow row) := by
  have hn2 := hin.cnt.2.2.1
  have htl := tailRow_len row
  let f : Nat → Int × List Int := fun k => ((n : Int) - 1 - k, List.replicate (n - k) 0 ++ (tailRow row).drop (n - k))
  have h0 : f 0 = ((n : Int) - 1, List.replicate (n + 1) 0) := by
    simp only [f, Nat.sub_zero]
    have hlast : (tailRow row).drop n = [0] := by
      rw [List.drop_eq_getElem_cons (by omega), List.drop_of_length_le (by omega)]
      have h1 := List.getElem?_eq_getElem (l := tailRow row) (i := n) (by omega)
      rw [tail_get (by omega), List.drop_of_length_le (by omega)] at h1
      rw [← Option.some.inj h1]; rfl
    rw [hlast, show n + 1 = n + 1 from rfl, List.replicate_succ']
    simp
  have h1 : f n = (-1, tailRow row) := by simp only [f, Nat.sub_self, List.replicate_zero, List.drop_zero, List.nil_append]; congr 1; omega
  rw [← h0, ← h1]
  refine loop_to f n fun k hk => ?_
  simp only [f]
  have hj : ((n : Int) - 1 - k) = ((n - 1 - k : Nat) : Int) := by omega
  rw [hj]
  obtain ⟨y, ey⟩ := get_some (xs := row) (k := n - 1 - k) (by omega)
  have hyb := hrb y (List.mem_of_getElem? ey)
  have hdb := drop_b hin hrl hrb (n - k)
  have hg1 : (List.replicate (n - k) (0 : Int) ++ (tailRow row).drop (n - k))[n - k]? = some (row.drop (n - k)).sum := by
    rw [List.getElem?_append_right (by simp), List.length_replicate, Nat.sub_self, List.getElem?_drop, Nat.add_zero, tail_get (by omega)]
  have hg2 : (List.replicate (n - k) (0 : Int) ++ (tailRow row).drop (n - k))[n - 1 - k]? = some 0 := by
    rw [List.getElem?_append_left (by rw [List.length_replicate]; omega), List.getElem?_replicate, if_pos (by omega)]
  rw [p_spec_l26Search_b2]
  have hge : decide (((n - 1 - k : Nat) : Int) ≥ 0) = true := by simp
  rw [hge, show IntKind.i64.wrap (((n - 1 - k : Nat) : Int) + 1) = ((n - k : Nat) : Int) by rw [wr (by omega) (by omega)]; omega, gIdx_of hg1, gIdx_of er]
  simp only [cond_true, Option.bind_some]
  rw [gIdx_of ey, gIdx_of hg2]
  simp only [Option.bind_some]
  rw [wr (by omega) (by omega), wr (by omega) (by omega), Int.toNat_natCast]
  have hd : row.drop (n - 1 - k) = y :: row.drop (n - k) := by
    rw [List.drop_eq_getElem_cons (by omega), show n - 1 - k + 1 = n - k by omega]
    congr 1
    have := List.getElem?_eq_getElem (l := row) (i := n - 1 - k) (by omega)
    rw [ey] at this; exact (Option.some.inj this).symm
  have hset : (List.replicate (n - k) (0 : Int) ++ (tailRow row).drop (n - k)).set (n - 1 - k) ((row.drop (n - k)).sum + y) = List.replicate (n - (k + 1)) 0 ++ (tailRow row).drop (n - (k + 1)) := by
    rw [show n - k = (n - (k + 1)) + 1 by omega, List.replicate_succ', List.append_assoc, List.set_append, if_neg (by rw [List.length_replicate]; omega), List.length_replicate, show n - 1 - k - (n - (k + 1)) = 0 by omega]
    rw [show n - (k + 1) + 1 = n - k by omega]
    have ht : (tailRow row).drop (n - (k + 1)) = (row.drop (n - (k + 1))).sum :: (tailRow row).drop (n - k) := by
      rw [List.drop_eq_getElem_cons (by omega), show n - (k + 1) + 1 = n - k by omega]
      congr 1
      have h1 := List.getElem?_eq_getElem (l := tailRow row) (i := n - (k + 1)) (by omega)
      rw [tail_get (by omega)] at h1
      exact (Option.some.inj h1).symm
    rw [ht, show n - (k + 1) = n - 1 - k by omega, hd, List.sum_cons]
    simp; omega
  rw [hset]
  congr 3
  omega
theorem spec_search (hin : ChIn m n lam limit budget) : ∃ ch later, p_spec_l26Search m lam limit budget = some (T_spec_l26Find.mk m later lam ch (sEnd m n lam limit budget).first (sEnd m n lam limit budget).count limit (sEnd m n lam limit budget).nodes budget (sEnd m n lam limit budget).full) := by
  have hm2 := hin.cnt.2.1
  have hn2 := hin.cnt.2.2.1
  have hl1 := hin.lam0
  unfold p_spec_l26Search
  let f : Nat → Bool × Int × R2 := fun k => (!((m.take k).any fun r => decide (r.sum < lam)), (k : Int), (m.take k).map tailRow)
  have h0 : f 0 = (true, 0, []) := by simp [f]
  have h1 : f m.length = (!(m.any fun r => decide (r.sum < lam)), (m.length : Int), m.map tailRow) := by simp only [f]; rw [List.take_length]
  rw [← h0, loop_to f m.length fun k hk => ?_, h1]
  · have hre : (!(m.any fun r => decide (r.sum < lam))) = reach m lam := by
      unfold reach
      congr 1
      cases hb : lowB lam (zeros m) (tailsOf m 0)
      · rw [List.any_eq_false]
        intro r hr
        obtain ⟨k, hk⟩ := List.getElem?_of_mem hr
        have := lowB_ff hb (zeros_get (get_lt hk)) (tails_get (c := 0) hk)
        rw [List.drop_zero] at this
        simp; omega
      · rw [List.any_eq_true]
        unfold lowB at hb
        rw [List.any_eq_true] at hb
        obtain ⟨z, hz, hzl⟩ := hb
        obtain ⟨k, hk⟩ := List.getElem?_of_mem hz
        have hlt := get_lt hk
        rw [add_len (by rw [tails_len]; unfold zeros; simp)] at hlt
        unfold zeros at hlt
        rw [List.length_replicate] at hlt
        obtain ⟨r, hr⟩ := get_some hlt
        rw [add_get (zeros_get hlt) (tails_get (c := 0) hr), List.drop_zero] at hk
        cases hk
        exact ⟨r, List.mem_of_getElem? hr, by simpa using hzl⟩
    rw [hre]
    unfold sEnd
    cases hr : reach m lam
    · refine ⟨[], m.map tailRow, loop_end ?_⟩
      rw [p_spec_l26Search_b1, lt_f]; rfl
    · refine ⟨[], m.map tailRow, loop_end ?_⟩
      rw [p_spec_l26Search_b1, lt_f]
      simp only [cond_false, cond_true]
      rw [gMake_of (by omega) (by omega)]
      simp only [Option.bind_some]
      have hrun := spec_run hin n fuel (by unfold fuel; omega) (zeros m) [] s0 ⟨by unfold zeros; simp, fun x hx => by unfold zeros at hx; rw [List.mem_replicate] at hx; omega, by simp, Nat.le_refl _, ⟨by show (0 : Int) ≤ 0; omega, by show (0 : Int) ≤ limit; have := hin.lim0; omega, by show (0 : Int) ≤ 0; omega, by show (0 : Int) ≤ budget; have := hin.bud0; omega⟩⟩ (by show (0 : Int) < limit; have := hin.lim0; omega)
      rw [Nat.sub_self] at hrun
      have hrun' : p_spec_l26Find_run (T_spec_l26Find.mk m (m.map tailRow) lam [] [] 0 limit 0 budget false) (List.replicate m.length 0) 0 = _ := hrun
      rw [hrun']
      rfl
  · obtain ⟨row, er, hrl, hrb⟩ := row_at hin hk
    simp only [f]
    rw [p_spec_l26Search_b1, lt_t hk, gIdx_of er]
    simp only [cond_true, Option.bind_some]
    rw [hrl, show IntKind.i64.wrap ((n : Int) + 1) = ((n + 1 : Nat) : Int) by rw [wr (by omega) (by omega)]; omega, gMake_of (by omega) (by omega)]
    simp only [Option.bind_some]
    rw [show IntKind.i64.wrap ((n : Int) - 1) = (n : Int) - 1 from wr (by omega) (by omega), spec_tails hin er hrl hrb]
    refine loop_end ?_
    rw [p_spec_l26Search_b2]
    have hge : decide ((-1 : Int) ≥ 0) = false := by decide
    rw [hge]
    simp only [cond_false]
    have hlk : ((m.take k).map tailRow).length ≤ 2000 := by rw [List.length_map, List.length_take]; omega
    rw [gApp_of (by simp only [List.length_singleton]; omega) (by simp only [List.length_singleton]; omega)]
    simp only [Option.bind_some]
    rw [show gIdx (tailRow row) 0 = some row.sum from gIdx_of (k := 0) (by rw [tail_get (by omega)]; rfl)]
    simp only [Option.bind_some]
    have htk : m.take (k + 1) = m.take k ++ [row] := by rw [List.take_add_one, er]; rfl
    rw [htk, List.map_append, List.any_append, wrapN hk (by unfold M63; omega)]
    cases hd : decide (row.sum < lam) <;> simp [hd]
theorem impl_choices (hin : ChIn m n lam limit budget) : ∃ sums later ch, p_impl_choices m lam limit budget = some (T_impl_chooser.mk (T_impl_counter.mk (budget - (sEnd m n lam limit budget).nodes) (sEnd m n lam limit budget).full) m lam limit sums later ch (sEnd m n lam limit budget).count (sEnd m n lam limit budget).first) := by
  have hm2 := hin.cnt.2.1
  have hn2 := hin.cnt.2.2.1
  have hl0 := hin.lam0
  have hl1 := hin.lam1
  obtain ⟨row0, e0, hr0, _⟩ := row_at hin (k := 0) (by have := hin.cnt.1; omega)
  unfold p_impl_choices
  rw [gMake_of (by omega) (by omega)]
  simp only [Option.bind_some]
  rw [show gIdx m 0 = some row0 from gIdx_of (k := 0) e0]
  simp only [Option.bind_some]
  let f : Nat → Int × List Int := fun k => ((k : Int), m.map fun r => (r.take k).sum)
  have h0 : f 0 = (0, List.replicate m.length 0) := by
    simp only [f, List.take_zero, List.sum_nil]
    rw [List.map_const']; rfl
  have hend : (m.map fun r => (r.take n).sum) = tailsOf m 0 := by
    unfold tailsOf
    refine List.map_congr_left fun r hr => ?_
    rw [List.take_of_length_le (by have := (hin.cnt.2.2.2 r hr).1; omega), List.drop_zero]
  have h1 : f n = ((row0.length : Int), tailsOf m 0) := by simp only [f]; rw [hend, hr0]
  rw [← h0, loop_to f n fun k hk => ?_, h1]
  · have hz : (List.replicate m.length (0 : Int)) = zeros m := rfl
    have inv0 : ChInv limit budget s0 := ⟨by show (0 : Int) ≤ 0; omega, by show (0 : Int) ≤ limit; have := hin.lim0; omega, by show (0 : Int) ≤ 0; omega, by show (0 : Int) ≤ budget; have := hin.bud0; omega⟩
    have pre0 : SPre m n lam limit budget (zeros m) [] s0 n := ⟨by unfold zeros; simp, fun x hx => by unfold zeros at hx; rw [List.mem_replicate] at hx; omega, by simp, Nat.le_refl _, inv0⟩
    have hsearch : p_impl_chooser_search (toC m lam limit budget (zeros m) (tailsOf m 0) [] s0) 0 = some (toC m lam limit budget (zeros m) (tailsOf m 0) [] (sEnd m n lam limit budget)) := by
      by_cases hcase : n = 0 ∧ lowB lam (zeros m) (tailsOf m 0) = true
      · -- no columns: nothing is found
        obtain ⟨hn, hlow⟩ := hcase
        have hr : reach m lam = false := by unfold reach; rw [hlow]; rfl
        unfold sEnd
        rw [hr]
        simp only [cond_false]
        show q_impl_chooser_search (pn_impl_chooser_search 999999) _ _ = _
        unfold q_impl_chooser_search
        rw [show gIdx (toC m lam limit budget (zeros m) (tailsOf m 0) [] s0).qmatrix 0 = some row0 from gIdx_of (k := 0) e0]
        simp only [Option.bind_some]
        have hc : ((0 : Int) == (row0.length : Int)) = true := by rw [hr0, hn]; rfl
        rw [hc]
        simp only [cond_true]
        rw [possible_ok hin (sums := zeros m) (later := tailsOf m 0) rfl rfl rfl pre0.len (tails_len m _) (fun x hx => by have := pre0.sm x hx; omega) (tails_b hin _), hlow]
        simp only [Option.bind_some, Bool.or_true, Bool.not_true, cond_false]
        first | rfl | done
      · have hsr := impl_search hin n fuel (by unfold fuel; omega) (zeros m) [] s0 pre0 (by show (0 : Int) < limit; have := hin.lim0; omega) (fun hn => by
          rw [Nat.sub_self]
          cases hb : lowB lam (zeros m) (tailsOf m 0)
          · rfl
          · exact absurd ⟨hn, hb⟩ hcase)
        rw [Nat.sub_self] at hsr
        rw [show p_impl_chooser_search _ (0 : Int) = _ from hsr]
        unfold sEnd
        cases hr : reach m lam
        · -- out of reach: neither half is visited
          have hlow : lowB lam (zeros m) (tailsOf m 0) = true := by
            unfold reach at hr; simpa using hr
          have hgo : goCh m lam limit budget n n (zeros m) [] s0 = s0 := by
            cases n with
            | zero => exact absurd ⟨rfl, hlow⟩ hcase
            | succ r =>
              have hlt : 0 < r + 1 := by omega
              unfold goCh
              simp only [Nat.sub_self, Nat.add_sub_cancel_left]
              obtain ⟨z, hz', hzl⟩ := List.any_eq_true.1 hlow
              obtain ⟨k, hk⟩ := List.getElem?_of_mem hz'
              have hlt2 := get_lt hk
              rw [add_len (by rw [tails_len]; unfold zeros; simp)] at hlt2
              unfold zeros at hlt2
              rw [List.length_replicate] at hlt2
              obtain ⟨row, er, hrl, hrb⟩ := row_at hin hlt2
              rw [add_get (zeros_get hlt2) (tails_get (c := 0) er)] at hk
              cases hk
              have hzl' : 0 + (row.drop 0).sum < lam := by simpa using hzl
              obtain ⟨y, ey⟩ := get_some (xs := row) (k := 0) (by omega)
              have hyb := hrb y (List.mem_of_getElem? ey)
              have hd : row.drop 0 = y :: row.drop 1 := by
                rw [List.drop_eq_getElem_cons (by omega)]
                congr 1
                have := List.getElem?_eq_getElem (l := row) (i := 0) (by omega)
                rw [ey] at this; exact (Option.some.inj this).symm
              rw [hd, List.sum_cons] at hzl'
              have l1 : lowB lam (zeros m) (tailsOf m 1) = true := by
                exact lowB_t (zeros_get hlt2) (tails_get (c := 1) er) (by omega)
              have l2 : lowB lam (addL (zeros m) (colOf m 0)) (tailsOf m 1) = true := by
                exact lowB_t (add_get (zeros_get hlt2) (by rw [col_get er, getD_of ey])) (tails_get (c := 1) er) (by omega)
              rw [l1, l2]
              have hon : ∀ f s, onCh limit budget true f s = s := fun f s => by unfold onCh; simp
              rw [hon, hon]
              cases highB lam (addL (zeros m) (colOf m 0)) <;> rfl
          rw [hgo]; rfl
        · rfl
    refine ⟨zeros m, tailsOf m 0, [], loop_end ?_⟩
    rw [p_impl_choices_b1, lt_f]
    simp only [cond_false]
    rw [hz]
    have : budget - s0.nodes = budget := by show budget - 0 = budget; omega
    unfold toC at hsearch
    rw [this] at hsearch
    rw [show p_impl_chooser_search (T_impl_chooser.mk (T_impl_counter.mk budget false) m lam limit (zeros m) (tailsOf m 0) [] 0 []) 0 = _ from hsearch]
    rfl
  · simp only [f]
    rw [p_impl_choices_b1, show decide ((k : Int) < (row0.length : Int)) = true by simp; omega]
    simp only [cond_true]
    rw [change_ok hin hk (f := 1) rfl (.inl rfl) (by simp) (fun x hx => by
      obtain ⟨r, hr, rfl⟩ := List.mem_map.1 hx
      have hb := hin.cnt.2.2.2 r hr
      have h1 := sum_bound (r.take k) fun y hy => hb.2 y (List.mem_of_mem_take hy)
      have h2 : (r.take k).length ≤ 2000 := by rw [List.length_take]; omega
      omega)]
    simp only [Option.bind_some]
    rw [addL_one, wrapN hk (by unfold M63; omega)]
    have : addL (m.map fun r => (r.take k).sum) (colOf m k) = m.map fun r => (r.take (k + 1)).sum := by
      apply List.ext_getElem?
      intro i
      by_cases hi : i < m.length
      · obtain ⟨row, er, hrl, _⟩ := row_at hin hi
        obtain ⟨y, ey⟩ := get_some (xs := row) (k := k) (by omega)
        rw [add_get (show (m.map fun r => (r.take k).sum)[i]? = some (row.take k).sum by rw [List.getElem?_map, er]; rfl) (by rw [col_get er, getD_of ey]), List.getElem?_map, er]
        simp only [Option.map_some]
        rw [List.take_add_one, ey, List.sum_append]; simp
      · rw [List.getElem?_eq_none (by rw [add_len (by rw [col_len, List.length_map]), List.length_map]; omega), List.getElem?_eq_none (by rw [List.length_map]; omega)]
    rw [this]
end
theorem map_id2 (x : R2) : x.map (List.map fun y => y) = x := by simp
end Go.Proofs.Ytieehpcgmjbceaa
