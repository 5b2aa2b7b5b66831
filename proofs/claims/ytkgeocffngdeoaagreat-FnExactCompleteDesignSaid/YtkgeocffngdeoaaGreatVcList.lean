/- Lists of one's own: appended to, cut, read. -/
import Derived.Test.YtkgeocffngdeoaaGreatVcSt
namespace Go.Vc
open Go

theorem Sta.perm {h0 h : Heap} {L L' : Rws} {D : Heap → Prop} (hp : L.Perm L') (st : Sta h0 h L D) : Sta h0 h L' D := by
  have hb : L.bs.Perm L'.bs := hp.map _
  refine ⟨st.ext, fun b cs hm => st.row b cs (hp.mem_iff.2 hm), fun b hm => st.low b (hb.mem_iff.2 hm), hb.nodup_iff.1 st.nod, fun h' hx => st.dat h' (hx.mono fun x hx => hb.mem_iff.2 hx)⟩
theorem Sta.sub {h0 h : Heap} {L L' : Rws} {D : Heap → Prop} (hs : L'.Sublist L) (st : Sta h0 h L D) : Sta h0 h L' D := by
  have hb : L'.bs.Sublist L.bs := hs.map _
  exact ⟨st.ext, fun b cs hm => st.row b cs (hs.subset hm), fun b hm => st.low b (hb.subset hm), hb.nodup st.nod, fun h' hx => st.dat h' (hx.mono fun x hx => hb.subset hx)⟩

/-- A slice of one's own: nil, or the first cells of a row. -/
def OL (v : Value) (cs : List Value) (rows : Rws) : Prop :=
  (v = .slice none 0 0 ∧ cs = [] ∧ rows = []) ∨ ∃ b tail, v = .slice (some ⟨b, 0, none⟩) cs.length (cs.length + tail.length) ∧ rows = [(b, cs ++ tail)]
theorem OL.nil : OL (.slice none 0 0) [] [] := .inl ⟨rfl, rfl, rfl⟩
theorem OL.one {v : Value} {cs : List Value} {rows : Rws} (ho : OL v cs rows) : v.oneCell' = true := by
  rcases ho with ⟨rfl, _⟩ | ⟨b, t, rfl, _⟩ <;> rfl
theorem OL.vLen {v : Value} {cs : List Value} {rows : Rws} (ho : OL v cs rows) {K : Nat → Prop} (hk : K cs.length) : vLen v K := by
  rcases ho with ⟨rfl, rfl, _⟩ | ⟨b, t, rfl, _⟩ <;> exact hk
theorem OL.sl {α : Type} {E : Elem α} {v : Value} {xs : List α} {f : α → Value} {rows : Rws} (ho : OL v (xs.map f) rows) {h : Heap} (hr : ∀ b cs, (b, cs) ∈ rows → RowIs h b cs) (hE : ∀ x ∈ xs, E h [f x] x) : SlAt 1 E h v xs := by
  rcases ho with ⟨rfl, h1, _⟩ | ⟨b, t, rfl, rfl⟩
  · exact .inl ⟨rfl, by simpa using h1⟩
  · refine .inr ⟨⟨b, 0, none⟩, _, by rw [List.length_map], by simp, fun i x hi => ⟨[f x], rfl, fun j u hu => ?_, hE x (List.mem_of_getElem? hi)⟩⟩
    have hrow := hr b _ (List.mem_cons_self ..)
    cases j with
    | zero =>
      simp at hu; subst hu
      rw [addr_add, addr_add]
      refine hrow.cell ?_
      rw [List.getElem?_append_left (by have := get_lt hi; simpa using this), List.getElem?_map]
      simp [hi]
    | succ j => simp at hu
/-- Cut to its first k. -/
theorem OL.cut {v : Value} {cs : List Value} {rows : Rws} (ho : OL v cs rows) {k : Nat} (hk : k ≤ cs.length) {K : Value → Prop} (hK : ∀ v', OL v' (cs.take k) rows → K v') : vSliceS v 1 none (some (.int .i64 (k : Int))) none K := by
  rcases ho with ⟨rfl, rfl, rfl⟩ | ⟨b, t, rfl, rfl⟩
  · have h0 : k = 0 := by simpa using hk
    subst h0
    exact ⟨⟨by omega, by omega⟩, hK _ OL.nil⟩
  · refine ⟨⟨by omega, by omega⟩, ?_⟩
    have hm : (bif Nat.beq (cs.length + t.length) 0 then (some (⟨b, 0, none⟩ : Addr)) else (some (⟨b, 0, none⟩ : Addr)).map (·.add (0 * 1))) = some ⟨b, 0, none⟩ := by
      cases Nat.beq (cs.length + t.length) 0 <;> rfl
    show K (.slice _ ((k : Int).toNat - 0) (cs.length + t.length - 0))
    rw [hm]
    refine hK _ (.inr ⟨b, cs.drop k ++ t, ?_, by rw [← List.append_assoc, List.take_append_drop]⟩)
    rw [List.length_take, List.length_append, List.length_drop, Int.toNat_natCast, Nat.min_eq_left hk]
    congr 1
    omega

/-- One more at the end. -/
theorem push_ol {h0 h : Heap} {L rows : Rws} {D : Heap → Prop} {v e z : Value} {cs : List Value} {bytes : Nat} {t el : TypeId} (st : Sta h0 h (rows ++ L) D) (ho : OL v cs rows) (h1 : e.oneCell' = true) (hb : (cs.length + 1) * bytes ≤ 140737488355328) (hl : cs.length + 1 ≤ 4611686018427387904)
    {K : Value → Heap → Prop} (hk : ∀ v' rows' h', OL v' (cs ++ [e]) rows' → Sta h0 h' (rows' ++ L) D → K v' h') : vNewS h (.cells #[e] t) 1 fun u h' => vAppend 1 bytes [z] el v u h' K := by
  have sn := st.new [e] t
  have sd := sn.drop
  have hnew : ∀ j u, ([e] : List Value)[j]? = some u → ∃ a, some (Vc.hnew h) = some a ∧ hcell (h.push (.cells #[e] t)) (a.add j) = some u := fun j u hu => by
    refine ⟨_, rfl, ?_⟩
    rw [Vc.hnew, addr_add, Nat.zero_add]
    exact (sn.row _ _ (List.mem_cons_self ..)).cell hu
  rcases ho with ⟨rfl, rfl, rfl⟩ | ⟨b, tail, rfl, rfl⟩
  · refine ⟨[], [e], rfl, rfl, (fun j u hu => by simp at hu), hnew, fun _ => rfl, (fun h => by cases h), by simpa using hb, by omega, (fun _ a ha => by cases ha), (fun h => by omega), fun _ cap hcap hcm => ?_⟩
    refine hk _ [(_, [e] ++ repl (cap - 1) [z])] _ (.inr ⟨_, repl (cap - 1) [z], ?_, rfl⟩) (sd.new ([e] ++ repl (cap - 1) [z]) el)
    rw [repl_one, List.length_replicate]
    have : ([] ++ [e] : List Value).length = 1 := rfl
    rw [this, show 1 + (cap - 1) = cap by omega]
    rfl
  · refine ⟨cs, [e], by simp, rfl, fun j u hu => ⟨_, rfl, ?_⟩, hnew, (fun h => by cases h), (fun h => by cases h), hb, hl, fun hle a ha => ?_, (fun _ h => by cases h), fun hlt cap hcap hcm => ?_⟩
    · rw [addr_add, Nat.zero_add]
      exact (sd.row b _ (List.mem_cons_self ..)).cell (by rw [List.getElem?_append_left (get_lt hu)]; exact hu)
    · cases ha
      refine ⟨fun v hv => by simp at hv; rw [hv]; exact h1, ?_⟩
      cases tail with
      | nil => simp at hle; omega
      | cons t0 tail =>
        have sm : Sta h0 (h.push (.cells #[e] t)) ((b, cs ++ [t0] ++ tail) :: L) D := by simpa using sd
        unfold vStoreN
        refine store_mid sm 0 rfl ?_ rfl h1 fun h' st' => ?_
        · rw [addr_add, addr_add]; simp
        · unfold vStoreN
          refine hk _ [(b, cs ++ [e] ++ tail)] _ (.inr ⟨b, tail, ?_, rfl⟩) st'
          simp; omega
    · have s2 := sd.new (cs ++ [e] ++ repl (cap - (cs.length + 1)) [z]) el
      refine hk _ [((h.push (.cells #[e] t)).size, cs ++ [e] ++ repl (cap - (cs.length + 1)) [z])] _ (.inr ⟨_, repl (cap - (cs.length + 1)) [z], ?_, rfl⟩) (s2.sub ?_)
      · rw [repl_one, List.length_replicate, List.length_append, List.length_singleton, show cs.length + 1 + (cap - (cs.length + 1)) = cap by omega]
        rfl
      · exact List.Sublist.cons_cons _ (List.sublist_cons_self ..)

theorem storeN_mid {h0 : Heap} {L : Rws} {D : Heap → Prop} {b : Nat} {post : List Value} : ∀ (news mid pre : List Value) (off i : Nat) (h : Heap) (K : Heap → Prop), off + i = pre.length → mid.length = news.length → (∀ v ∈ news, v.oneCell' = true) →
    Sta h0 h ((b, pre ++ mid ++ post) :: L) D → (∀ h', Sta h0 h' ((b, pre ++ news ++ post) :: L) D → K h') → vStoreN ⟨b, off, none⟩ news i h K
  | [], [], pre, off, i, h, K, _, _, _, st, hk => hk h st
  | [], _ :: _, _, _, _, _, _, _, hl, _, _, _ => by simp at hl
  | _ :: _, [], _, _, _, _, _, _, hl, _, _, _ => by simp at hl
  | v :: news, c :: mid, pre, off, i, h, K, ho, hl, h1, st, hk => by
    unfold vStoreN
    have st0 : Sta h0 h ((b, pre ++ [c] ++ (mid ++ post)) :: L) D := by simpa using st
    refine store_mid st0 0 ho.symm (by rw [addr_add]; rfl) rfl (h1 v (List.mem_cons_self ..)) fun h' st' => ?_
    refine storeN_mid news mid (pre ++ [v]) off (i + 1) h' K (by simp; omega) (by simpa using hl) (fun u hu => h1 u (List.mem_cons_of_mem _ hu)) (by simpa using st') fun h'' st'' => hk h'' (by simpa using st'')
/-- Many more at the end. -/
theorem app_ol {h0 h : Heap} {L rows : Rws} {D : Heap → Prop} {v x z : Value} {cs news : List Value} {bytes : Nat} {el : TypeId} (st : Sta h0 h (rows ++ L) D) (ho : OL v cs rows) (hx : Shows h x news) (h1 : ∀ e ∈ news, e.oneCell' = true)
    (hb : (cs.length + news.length) * bytes ≤ 140737488355328) (hl : cs.length + news.length ≤ 4611686018427387904)
    {K : Value → Heap → Prop} (hk : ∀ v' rows' h', OL v' (cs ++ news) rows' → Sta h0 h' (rows' ++ L) D → K v' h') : vAppend 1 bytes [z] el v x h K := by
  have hxs : ∃ src m mc, x = .slice src m mc ∧ news.length = m ∧ (∀ j u, news[j]? = some u → ∃ a, src = some a ∧ hcell h (a.add j) = some u) ∧ (src = none → m = 0) := by
    rcases hx with ⟨rfl, rfl⟩ | ⟨a, c, rfl, h2⟩
    · exact ⟨none, 0, 0, rfl, rfl, (fun j u hu => by simp at hu), fun _ => rfl⟩
    · exact ⟨some a, _, c, rfl, rfl, fun j u hu => ⟨a, rfl, h2 j u hu⟩, (fun h => by cases h)⟩
  obtain ⟨src, m, mc, rfl, rfl, hsrc, hsn⟩ := hxs
  rcases ho with ⟨rfl, rfl, rfl⟩ | ⟨b, tail, rfl, rfl⟩
  · refine ⟨[], news, rfl, by simp, (fun j u hu => by simp at hu), hsrc, fun _ => rfl, hsn, by simpa using hb, by simpa using hl, (fun _ a ha => by cases ha), fun hle _ => ?_, fun hlt cap hcap hcm => ?_⟩
    · have : news = [] := List.eq_nil_of_length_eq_zero (by omega)
      subst this
      exact hk _ [] h OL.nil st
    · have s2 := st.new ([] ++ news ++ repl (cap - (0 + news.length)) [z]) el
      refine hk _ [(h.size, [] ++ news ++ repl (cap - (0 + news.length)) [z])] _ (.inr ⟨_, repl (cap - (0 + news.length)) [z], ?_, rfl⟩) s2
      rw [repl_one, List.length_replicate, List.nil_append, show news.length + (cap - (0 + news.length)) = cap by omega, Nat.zero_add]
      rfl
  · refine ⟨cs, news, by simp, by simp, fun j u hu => ⟨_, rfl, ?_⟩, hsrc, (fun h => by cases h), hsn, hb, hl, fun hle a ha => ?_, (fun _ h => by cases h), fun hlt cap hcap hcm => ?_⟩
    · rw [addr_add, Nat.zero_add]
      exact (st.row b _ (List.mem_cons_self ..)).cell (by rw [List.getElem?_append_left (get_lt hu)]; exact hu)
    · cases ha
      refine ⟨h1, ?_⟩
      rw [addr_add]
      have sm : Sta h0 h ((b, cs ++ tail.take news.length ++ tail.drop news.length) :: L) D := by simpa using st
      refine storeN_mid news (tail.take news.length) cs _ 0 h _ (by omega) (by rw [List.length_take]; omega) h1 sm fun h' st' => ?_
      refine hk _ [(b, cs ++ news ++ tail.drop news.length)] _ (.inr ⟨b, tail.drop news.length, ?_, rfl⟩) st'
      rw [List.length_append, List.length_drop]
      congr 1
      omega
    · have s2 := st.new (cs ++ news ++ repl (cap - (cs.length + news.length)) [z]) el
      refine hk _ [(h.size, cs ++ news ++ repl (cap - (cs.length + news.length)) [z])] _ (.inr ⟨_, repl (cap - (cs.length + news.length)) [z], ?_, rfl⟩) (s2.sub ?_)
      · rw [repl_one, List.length_replicate, List.length_append, show cs.length + news.length + (cap - (cs.length + news.length)) = cap by omega]
        rfl
      · exact List.Sublist.cons_cons _ (List.sublist_cons_self ..)

end Go.Vc
