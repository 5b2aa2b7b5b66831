import Derived.Test.YtmmbnjijjdakmaaGreatDoorPuJh
import Derived.Test.YtmmbnjijjdakmaaGreatDoorPuFam
namespace Go.Proofs.YtmmbnjijjdakmaaGreatDoor
open Go Go.Vc Go.Lib
set_option linter.unusedSimpArgs false
set_option linter.unusedVariables false
theorem ZjW {b : UInt8} {s : ByteArray} (hs : s.size ≤ 1000000000) : Zbc s (b.toNat : Int) = some (splB b s) := by
  unfold Zbc
  have hL := Zas s
  obtain ⟨⟨out, frm, i⟩, ⟨hi, f0, f1, os, h1, h2⟩, hgo⟩ := Zwb (B := Zdr s (b.toNat : Int)) (fun k (t : List ByteArray × Int × Int) => t.2.2 = k ∧ 0 ≤ t.2.1 ∧ t.2.1 ≤ k ∧ ∃ os, spl b (s.data.toList.take k.toNat) = os ++ [(s.data.toList.take k.toNat).drop t.2.1.toNat] ∧ t.1 = os.map bl)
    (i := 0) (n := s.size) (by omega) (s := (([] : List ByteArray), (0 : Int), (0 : Int))) ⟨rfl, Int.le_refl _, Int.le_refl _, [], rfl, rfl⟩ (by
      rintro k ⟨out, frm, i⟩ k0 k1 ⟨hi, f0, f1, os, h1, h2⟩
      dsimp only at hi f0 f1 h1 h2
      subst hi h2
      have hk : i.toNat < s.data.toList.length := by omega
      obtain ⟨c, hc⟩ : ∃ c, s.data.toList[i.toNat]? = some c := ⟨_, List.getElem?_eq_getElem hk⟩
      have hg : gSt s i = some c := Ziw k0 hc
      have ht : s.data.toList.take (i + 1).toNat = s.data.toList.take i.toNat ++ [c] := by rw [show (i + 1).toNat = i.toNat + 1 by omega, List.take_add_one, hc]; rfl
      have h3 := ZoA (s.data.toList.take i.toNat) c h1
      have hn : (os.map bl).length ≤ 1000000001 := by
        have := Zim b (s.data.toList.take i.toNat)
        rw [h1, List.length_append, List.length_singleton, List.length_take] at this
        rw [List.length_map]; omega
      by_cases hcb : c = b
      · subst hcb
        rw [if_pos rfl] at h3
        have hsl := ZgP (s := s) (lo := frm) (hi := i) f0 f1 (by omega)
        refine ⟨(os.map bl ++ [bl ((s.data.toList.take i.toNat).drop frm.toNat)], i + 1, i + 1), ?_, rfl, by show 0 ≤ i + 1; omega, by show i + 1 ≤ i + 1; omega, os ++ [(s.data.toList.take i.toNat).drop frm.toNat], ?_, ?_⟩
        · simp (disch := omega) only [pz, Zdr, hg, hsl]
        · show spl c (s.data.toList.take (i + 1).toNat) = _ ++ [(s.data.toList.take (i + 1).toNat).drop (i + 1).toNat]
          have hd : (s.data.toList.take (i + 1).toNat).drop (i + 1).toNat = [] := List.drop_eq_nil_of_le (by rw [List.length_take]; omega)
          rw [hd, ht, h3]
        · simp
      · rw [if_neg hcb] at h3
        have hne : ¬ ((c.toNat : Nat) : Int) = (b.toNat : Int) := fun h => hcb (UInt8.toNat_inj.1 (by omega))
        refine ⟨(os.map bl, frm, i + 1), ?_, rfl, f0, by show frm ≤ i + 1; omega, os, ?_, rfl⟩
        · simp (disch := omega) only [pz, Zdr, hg]
        · show spl b (s.data.toList.take (i + 1).toNat) = _ ++ [(s.data.toList.take (i + 1).toNat).drop frm.toNat]
          rw [ht, h3, List.drop_append_of_le_length (by rw [List.length_take]; omega)])
  dsimp only at hi f0 f1 h1 h2
  subst hi h2
  rw [hgo]
  have hsl := ZgP (s := s) (lo := frm) (hi := s.size) f0 f1 (by omega)
  have hn : (os.map bl).length ≤ 1000000001 := by
    have := Zim b (s.data.toList.take ((s.size : Nat) : Int).toNat)
    rw [h1, List.length_append, List.length_singleton, List.length_take] at this
    rw [List.length_map]; omega
  have e : splB b s = os.map bl ++ [bl ((s.data.toList.take ((s.size : Nat) : Int).toNat).drop frm.toNat)] := by
    unfold splB
    rw [show spl b s.data.toList = spl b (s.data.toList.take ((s.size : Nat) : Int).toNat) by rw [Int.toNat_natCast, ← Zas, List.take_length], h1, List.map_append]; rfl
  rw [e]
  refine Zd ?_
  rw [Int.toNat_natCast] at hsl ⊢
  simp (disch := omega) only [pz, Zdr, hsl]
theorem ZtX (b : UInt8) (s : ByteArray) : (splB b s).map (·.data.toList) = spl b s.data.toList := by
  unfold splB
  rw [List.map_map]
  conv => rhs; rw [← List.map_id (spl b s.data.toList)]
  rfl
theorem ZnK (b : UInt8) (s : ByteArray) : joinB (splB b s) ⟨#[b]⟩ = s := by
  have h : joinB (splB b s) ⟨#[b]⟩ = bl (join ((splB b s).map (·.data.toList)) [b]) := rfl
  rw [h, ZtX, ZnL, Zai]
theorem ZlW {b : UInt8} {xs : List ByteArray} (h : xs ≠ []) (hn : ∀ x ∈ xs, b ∉ x.data.toList) : splB b (joinB xs ⟨#[b]⟩) = xs := by
  have e : (joinB xs ⟨#[b]⟩).data.toList = join (xs.map (·.data.toList)) [b] := rfl
  unfold splB
  rw [e, Zqb (by simpa using h) (fun x hx => by obtain ⟨y, hy, rfl⟩ := List.mem_map.1 hx; exact hn y hy), List.map_map]
  conv => rhs; rw [← List.map_id xs]
  exact List.map_congr_left fun x _ => Zai x
theorem ZoL (b : UInt8) (s : ByteArray) : splB b s ≠ [] := by
  unfold splB
  have := ZqL b s.data.toList
  simpa using this
theorem Zjl (b : UInt8) (s : ByteArray) : (splB b s).length ≤ s.size + 1 := by
  unfold splB
  rw [List.length_map, ← Zas]; exact Zim b _
theorem Zik {b : UInt8} {s x : ByteArray} (h : x ∈ splB b s) : x.size ≤ s.size := by
  obtain ⟨l, hl, rfl⟩ := List.mem_map.1 h
  rw [Zen, ← Zas]; exact Zp3 b _ l hl
noncomputable def nmsL (s : ByteArray) : List Int := (splB 44 s).map fun p => (numOf p).1
noncomputable def lst (s : ByteArray) : List Int × Bool := if s = ⟨#[45]⟩ then ([], true) else if tL (nmsL s) = s then (nmsL s, true) else ([], false)
theorem Zor {s : ByteArray} (h : ¬ (numOf s).2 = true) : numOf s = (0, false) := by
  by_cases hx : ∃ n : Int, (-1000000000000000000 < n ∧ n < 1000000000000000000) ∧ itoaB n = s
  · obtain ⟨m, h1, h2⟩ := hx
    rw [Zgf h1 h2] at h
    exact absurd rfl h
  · exact Zcx fun n h1 h2 => hx ⟨n, h1, h2⟩
theorem Zpk {n : Int} (h : InR n) : numOf (itoaB n) = (n, true) := Zgf (by have := h.1; have := h.2; omega) rfl
theorem dg_no {c : UInt8} {l : List UInt8} (hc : ¬ Dg c) (h45 : c ≠ 45) (n : Int) : c ∉ (itoaB n).data.toList := by
  rw [ZcV]
  intro h
  unfold itoa at h
  split at h
  · rcases List.mem_cons.1 h with h | h
    · exact h45 h
    · exact hc (ZdY _ c h)
  · exact hc (ZdY _ c h)
theorem Zm4 (s : ByteArray) : nmsL s ≠ [] := by
  unfold nmsL
  have := ZoL 44 s
  simpa using this
theorem ZjN (s : ByteArray) : (nmsL s).length = (splB 44 s).length := List.length_map ..
def OkN (p : ByteArray) : Prop := (numOf p).2 = true ∧ InR (numOf p).1
theorem Zv3 {s : ByteArray} (hl : (splB 44 s).length ≤ 100) (h : ∀ p ∈ splB 44 s, OkN p) : tL (nmsL s) = s := by
  rw [tL_t ⟨by rw [ZjN]; exact hl, fun x hx => by obtain ⟨p, hp, rfl⟩ := List.mem_map.1 hx; exact (h p hp).2⟩ (Zm4 s)]
  have e : (nmsL s).map itoaB = splB 44 s := by
    unfold nmsL
    rw [List.map_map]
    conv => rhs; rw [← List.map_id (splB 44 s)]
    refine List.map_congr_left fun p hp => ?_
    have := (h p hp).1
    exact (Zpa (s := p) (n := (numOf p).1) (by rw [← this])).2
  rw [e, ZnK]
theorem Zl7 {s : ByteArray} (h : tL (nmsL s) = s) : (splB 44 s).length ≤ 100 ∧ ∀ p ∈ splB 44 s, OkN p := by
  by_cases hk : (nmsL s).length ≤ 100 ∧ ∀ x ∈ nmsL s, InR x
  · have h1 := h
    rw [tL_t hk (Zm4 s)] at h1
    have h2 : splB 44 s = (nmsL s).map itoaB := by
      conv => lhs; rw [← h1]
      refine ZlW (by have := Zm4 s; simpa using this) fun x hx => ?_
      obtain ⟨n, _, rfl⟩ := List.mem_map.1 hx
      exact dg_no (l := []) (by unfold Dg; decide) (by decide) n
    refine ⟨by rw [← ZjN]; exact hk.1, fun p hp => ?_⟩
    rw [h2] at hp
    obtain ⟨n, hn, rfl⟩ := List.mem_map.1 hp
    unfold OkN
    rw [Zpk (hk.2 n hn)]
    exact ⟨rfl, hk.2 n hn⟩
  · exfalso
    rw [tL_f hk] at h
    have e : nmsL s = [0] := by
      rw [← h]
      show [(numOf (bl [])).1] = _
      rw [ZgI (s := bl []) (.inl (by show 0 < 1; omega))]
    exact hk (by rw [e]; exact ⟨by decide, fun x hx => by rw [List.mem_singleton.1 hx]; exact ⟨by omega, by omega⟩⟩)
theorem Zcg {a b : ByteArray} (h : ¬ a = b) : (a.toList == b.toList) = false := by
  cases hb : (a.toList == b.toList) with
  | false => rfl
  | true => exact absurd ((Zah _ _).1 hb) h
theorem Zvk (s : ByteArray) : (lst s).1.length ≤ 100 := by
  unfold lst
  split
  · show 0 ≤ 100; omega
  · split
    · rename_i h
      show (nmsL s).length ≤ 100
      rw [ZjN]; exact (Zl7 h).1
    · show 0 ≤ 100; omega
theorem ZvO {s : ByteArray} (hs : s.size ≤ 1000000000) : ZgS s = some (lst s) := by
  unfold ZgS lst
  by_cases h : s = ⟨#[45]⟩
  · have := (Zah s ⟨#[45]⟩).2 h
    rw [if_pos h]
    simp (disch := omega) only [pz, this]
  · have hb := Zcg h
    have hsp := ZmF (b := 44) (s := s) (by omega)
    have hl := Zjl 44 s
    rw [if_neg h]
    have e1 := ZC (B := Zb3 s (splB 44 s)) (fun k : Int => (((splB 44 s).take k.toNat).map fun p => (numOf p).1, k)) (i := 0) (n := (splB 44 s).length) (by omega) fun k a b => by
      have hm := ZM a b
      have hn := Zoq (ix (splB 44 s) k) (by have := Zik hm; omega)
      have hlk : (((splB 44 s).take k.toNat).map fun p => (numOf p).1).length ≤ 1000000001 := by rw [List.length_map, List.length_take]; omega
      rw [ZdU a b]
      have hg : gApp 8 (((splB 44 s).take k.toNat).map fun p => (numOf p).1) [(numOf (ix (splB 44 s) k)).1] = some (((splB 44 s).take k.toNat).map (fun p => (numOf p).1) ++ [(numOf (ix (splB 44 s) k)).1]) := gApp1 (by omega) (by omega)
      simp (disch := omega) only [pz, Zb3, hn, hg]
    rw [Int.toNat_natCast, List.take_length] at e1
    have e2 : loop (Zb3 s (splB 44 s)) ([], 0) = some (if tL (nmsL s) = s then (nmsL s, true) else ([], false)) := by
      refine Eq.trans e1 (Zd ?_)
      have ht := Zn4 (nmsL s)
      unfold nmsL at ht ⊢
      by_cases hc : tL ((splB 44 s).map fun p => (numOf p).1) = s
      · have := (Zah _ _).2 hc
        rw [if_pos hc]
        simp (disch := omega) only [pz, Zb3, ht, this]
      · have := Zcg hc
        rw [if_neg hc]
        simp (disch := omega) only [pz, Zb3, ht, this]
    simp (disch := omega) only [pz, hb, hsp, e2]
theorem ZpN {s : ByteArray} (hs : s.size ≤ 1000000000) : ZgK s = some (lst s) := by
  unfold ZgK lst
  by_cases h : s = ⟨#[45]⟩
  · have := (Zah s ⟨#[45]⟩).2 h
    rw [if_pos h]
    simp (disch := omega) only [pz, this]
  · have hb := Zcg h
    have hsp : Zbc s 44 = some (splB 44 s) := ZjW (b := 44) hs
    rw [if_neg h]
    by_cases hl : (splB 44 s).length ≤ 100
    · have step : ∀ n : Int, 0 ≤ n → n ≤ ((splB 44 s).length : Int) → (∀ j, 0 ≤ j → j < n → OkN (ix (splB 44 s) j)) → loop (ZaB (splB 44 s)) ([], 0) = loop (ZaB (splB 44 s)) (((splB 44 s).take n.toNat).map (fun p => (numOf p).1), n) := by
        intro n n0 n1 hok
        refine ZC (B := ZaB (splB 44 s)) (fun k : Int => (((splB 44 s).take k.toNat).map fun p => (numOf p).1, k)) (i := 0) (n := n) n0 fun k a b => ?_
        have hk := hok k a b
        have hn := ZjY (ix (splB 44 s) k)
        have hi : ZH (numOf (ix (splB 44 s) k)).1 (-999999999) 999999999 = some true := by
          have := hk.2.1; have := hk.2.2
          simp (disch := omega) only [pz, ZH]
        have hlk : (((splB 44 s).take k.toNat).map fun p => (numOf p).1).length ≤ 100 := by rw [List.length_map, List.length_take]; omega
        have hg : gApp 8 (((splB 44 s).take k.toNat).map fun p => (numOf p).1) [(numOf (ix (splB 44 s) k)).1] = some (((splB 44 s).take k.toNat).map (fun p => (numOf p).1) ++ [(numOf (ix (splB 44 s) k)).1]) := gApp1 (by omega) (by omega)
        rw [ZdU a (by omega)]
        have h2 := hk.1
        simp (disch := omega) only [pz, ZaB, ZiM, hn, h2, hi, hg]
      rcases ZiB (n := (splB 44 s).length) (by omega) (fun k => ¬ OkN (ix (splB 44 s) k)) with ⟨k, k0, k1, hk, hbad⟩ | hbad
      · have e := step k k0 (by omega) fun j a b => Classical.not_not.1 (hbad j a b)
        have hn := ZjY (ix (splB 44 s) k)
        rw [if_neg fun hh => hk ((Zl7 hh).2 _ (ZM k0 k1))]
        have e2 : loop (ZaB (splB 44 s)) ([], 0) = some ([], false) := by
          rw [e]
          refine Zd ?_
          by_cases h2 : (numOf (ix (splB 44 s) k)).2 = true
          · have hi : ZH (numOf (ix (splB 44 s) k)).1 (-999999999) 999999999 = some false := by
              by_cases g1 : -999999999 ≤ (numOf (ix (splB 44 s) k)).1
              · have : ¬ (numOf (ix (splB 44 s) k)).1 ≤ 999999999 := fun g2 => hk ⟨h2, g1, g2⟩
                simp (disch := omega) only [pz, ZH]
              · simp (disch := omega) only [pz, ZH]
            simp (disch := omega) only [pz, ZaB, hn, h2, hi]
          · have h2 : (numOf (ix (splB 44 s) k)).2 = false := by simpa using h2
            simp (disch := omega) only [pz, ZaB, hn, h2]
        simp (disch := omega) only [pz, hb, hsp, e2]
      · have hok : ∀ j, 0 ≤ j → j < ((splB 44 s).length : Int) → OkN (ix (splB 44 s) j) := fun j a b => Classical.not_not.1 (hbad j a b)
        have e := step (splB 44 s).length (by omega) (by omega) hok
        rw [Int.toNat_natCast, List.take_length] at e
        rw [if_pos (Zv3 hl fun p hp => by obtain ⟨i, a, b, rfl⟩ := Z1 hp; exact hok i a b)]
        have e2 : loop (ZaB (splB 44 s)) ([], 0) = some (nmsL s, true) := by
          refine Eq.trans e (Zd ?_)
          simp (disch := omega) only [pz, ZaB]
          rfl
        simp (disch := omega) only [pz, hb, hsp, e2]
    · rw [if_neg fun hh => hl (Zl7 hh).1]
      simp (disch := omega) only [pz, hb, hsp]
end Go.Proofs.YtmmbnjijjdakmaaGreatDoor
namespace Go.Proofs.YtmmbnjijjdakmaaGreatDoor
set_option linter.unusedVariables false
open Go Go.Vc
set_option linter.unusedSimpArgs false
def marks (k : Int) (n : Nat) : List Int := (List.range n).map fun (j : Nat) => k + (j : Int)
theorem Zca (k : Int) (n : Nat) : (marks k n).length = n := by unfold marks; simp
theorem Zq0 {k : Int} {n j : Nat} (h : j < n) : (marks k n)[j]? = some (k + (j : Int)) := by
  unfold marks; rw [List.getElem?_map, List.getElem?_range h]; rfl
theorem Zr7 {xs : List Int} {k : Int} (h : xs.length ≤ 4194304) (h0 : 0 ≤ k) (h1 : k ≤ 9100000000000000000) : Zf9 xs k = some (k + (xs.length : Int), marks k xs.length) := by
  unfold Zf9
  let f : Nat → Int × Int × List Int := fun j => (k + (j : Int), (j : Int), marks k j ++ xs.drop j)
  have e0 : f 0 = (k, 0, xs) := by simp [f, marks]
  have e1 : f xs.length = (k + (xs.length : Int), (xs.length : Int), marks k xs.length) := by simp only [f]; rw [List.drop_length, List.append_nil]
  rw [← e0, ZeC f xs.length fun j hj => ?_, e1]
  · refine Zd ?_
    rw [ZfB]
    have : decide ((xs.length : Int) < ((marks k xs.length).length : Int)) = false := by rw [Zca]; simp
    rw [this]; rfl
  · obtain ⟨x, hx⟩ := ZbV (xs := xs) (k := j) hj
    have hl : (marks k j ++ xs.drop j).length = xs.length := by rw [List.length_append, Zca, List.length_drop]; omega
    have hc : (marks k j ++ xs.drop j)[j]? = some x := by
      rw [List.getElem?_append_right (by rw [Zca]; omega), Zca, Nat.sub_self, List.getElem?_drop]; simpa using hx
    simp only [f]
    rw [ZfB]
    have : decide ((j : Int) < ((marks k j ++ xs.drop j).length : Int)) = true := by rw [hl]; simpa using hj
    rw [this, ZbY hc]
    simp only [cond_true, Option.bind_some]
    rw [wrapN hj (by unfold M63; omega), Zau (by omega) (by omega), Int.toNat_natCast]
    have hs : (marks k j ++ xs.drop j).set j (k + (j : Int)) = marks k (j + 1) ++ xs.drop (j + 1) := by
      rw [List.set_append, if_neg (by rw [Zca]; omega), Zca, Nat.sub_self]
      have hd : xs.drop j = x :: xs.drop (j + 1) := by
        rw [List.drop_eq_getElem_cons hj]
        congr 1
        have := List.getElem?_eq_getElem (l := xs) (i := j) hj
        rw [hx] at this; exact (Option.some.inj this).symm
      rw [hd]
      unfold marks
      rw [List.range_succ, List.map_append]; simp
    rw [hs, show k + (j : Int) + 1 = k + ((j + 1 : Nat) : Int) by omega]
theorem ZtJ {n : Nat} {k : Int} (h : n ≤ 4194304) (h0 : 0 ≤ k) (h1 : k ≤ 9100000000000000000) : Zfi (marks k n) k = some (k + (n : Int)) := by
  unfold Zfi
  let f : Nat → Int × Int := fun j => (k + (j : Int), (j : Int))
  have e0 : f 0 = (k, 0) := by simp [f]
  rw [← e0, ZeC f n fun j hj => ?_]
  · refine Zd ?_
    simp only [f]
    rw [Zhr]
    have : decide ((n : Int) < ((marks k n).length : Int)) = false := by rw [Zca]; simp
    rw [this]; rfl
  · simp only [f]
    rw [Zhr]
    have : decide ((j : Int) < ((marks k n).length : Int)) = true := by rw [Zca]; simpa using hj
    rw [this, ZbY (Zq0 hj)]
    simp only [cond_true, Option.bind_some]
    have hb : ((k + (j : Int)) != (k + (j : Int))) = false := by simp
    rw [hb]
    simp only [cond_false]
    rw [wrapN hj (by unfold M63; omega), Zau (by omega) (by omega), show k + (j : Int) + 1 = k + ((j + 1 : Nat) : Int) by omega]
def marksR : Int → List (List Int) → List (List Int)
  | _, [] => []
  | k, r :: rs => marks k r.length :: marksR (k + r.length) rs
def total : List (List Int) → Nat
  | [] => 0
  | r :: rs => r.length + total rs
theorem Zje : ∀ (xs : List (List Int)), (∀ r ∈ xs, r.length ≤ 4194304) → total xs ≤ xs.length * 4194304
  | [], _ => by simp [total]
  | r :: rs, h => by
    have h1 := h r (List.mem_cons_self ..)
    have h2 := Zje rs fun x hx => h x (List.mem_cons_of_mem _ hx)
    simp only [total, List.length_cons]; omega
theorem ZeG : ∀ (k : Int) (xs : List (List Int)), (marksR k xs).length = xs.length
  | _, [] => rfl
  | k, r :: rs => by simp [marksR, ZeG]
theorem Zqq {xs : List (List Int)} {j : Nat} {r : List Int} (h : xs[j]? = some r) : total (xs.take (j + 1)) = total (xs.take j) + r.length := by
  induction xs generalizing j with
  | nil => simp at h
  | cons x xs ih =>
    cases j with
    | zero => simp at h; subst h; simp [total]
    | succ j => simp only [List.take_succ_cons, total]; rw [ih (by simpa using h)]; omega
theorem Zp0 {xs : List (List Int)} {j : Nat} {r : List Int} (h : xs[j]? = some r) : ∀ k : Int, (marksR k xs)[j]? = some (marks (k + (total (xs.take j) : Int)) r.length) := by
  induction xs generalizing j with
  | nil => simp at h
  | cons x xs ih =>
    intro k
    cases j with
    | zero => simp at h; subst h; simp [marksR, total]
    | succ j =>
      simp only [marksR, List.getElem?_cons_succ, List.take_succ_cons, total]
      rw [ih (by simpa using h)]
      congr 2; omega
theorem ZlK (xs : List (List Int)) (j : Nat) : total (xs.take j) ≤ total xs := by
  induction xs generalizing j with
  | nil => simp [total]
  | cons x xs ih =>
    cases j with
    | zero => simp [total]
    | succ j => simp only [List.take_succ_cons, total]; have := ih j; omega
theorem Zud {xs : List (List Int)} {k : Int} (h : xs.length ≤ 4194304) (hr : ∀ r ∈ xs, r.length ≤ 4194304) (h0 : 0 ≤ k) (h1 : k ≤ 9000000000000000000) : Zfb xs k = some (k + (total xs : Int), marksR k xs) := by
  have htot := Zje xs hr
  have htb : total xs ≤ 17592186044416 := Nat.le_trans htot (by omega)
  unfold Zfb
  let f : Nat → Int × Int × List (List Int) := fun j => (k + (total (xs.take j) : Int), (j : Int), (marksR k xs).take j ++ xs.drop j)
  have e0 : f 0 = (k, 0, xs) := by simp [f, total]
  have e1 : f xs.length = (k + (total xs : Int), (xs.length : Int), marksR k xs) := by
    simp only [f]; rw [List.take_length, List.drop_length, List.append_nil, List.take_of_length_le (by rw [ZeG]; omega)]
  rw [← e0, ZeC f xs.length fun j hj => ?_, e1]
  · refine Zd ?_
    rw [Zgc]
    have : decide ((xs.length : Int) < ((marksR k xs).length : Int)) = false := by rw [ZeG]; simp
    rw [this]; rfl
  · obtain ⟨r, hx⟩ := ZbV (xs := xs) (k := j) hj
    have htl : ((marksR k xs).take j).length = j := by rw [List.length_take, ZeG]; omega
    have hl : ((marksR k xs).take j ++ xs.drop j).length = xs.length := by rw [List.length_append, htl, List.length_drop]; omega
    have hc : ((marksR k xs).take j ++ xs.drop j)[j]? = some r := by
      rw [List.getElem?_append_right (by omega), htl, Nat.sub_self, List.getElem?_drop]; simpa using hx
    have htm := ZlK xs j
    simp only [f]
    rw [Zgc]
    have : decide ((j : Int) < (((marksR k xs).take j ++ xs.drop j).length : Int)) = true := by rw [hl]; simpa using hj
    rw [this, ZbY hc]
    simp only [cond_true, Option.bind_some]
    rw [Zr7 (hr r (List.mem_of_getElem? hx)) (by omega) (by omega)]
    simp only [Option.bind_some]
    rw [wrapN hj (by unfold M63; omega), Int.toNat_natCast]
    have hs : ((marksR k xs).take j ++ xs.drop j).set j (marks (k + (total (xs.take j) : Int)) r.length) = (marksR k xs).take (j + 1) ++ xs.drop (j + 1) := by
      rw [List.set_append, if_neg (by omega), htl, Nat.sub_self, List.take_add_one, Zp0 hx]
      have hd : xs.drop j = r :: xs.drop (j + 1) := by
        rw [List.drop_eq_getElem_cons hj]
        congr 1
        have := List.getElem?_eq_getElem (l := xs) (i := j) hj
        rw [hx] at this; exact (Option.some.inj this).symm
      rw [hd]; simp
    rw [hs, Zqq hx, show k + (total (xs.take j) : Int) + (r.length : Int) = k + ((total (xs.take j) + r.length : Nat) : Int) by omega]
end Go.Proofs.YtmmbnjijjdakmaaGreatDoor
namespace Go.Proofs.YtmmbnjijjdakmaaGreatDoor
set_option linter.unusedVariables false
open Go Go.Vc
set_option linter.unusedSimpArgs false
theorem ZvE {xs : List (List Int)} {k : Int} (h : xs.length ≤ 4194304) (hr : ∀ r ∈ xs, r.length ≤ 4194304) (h0 : 0 ≤ k) (h1 : k ≤ 9000000000000000000) : ZfH (marksR k xs) k = some (k + (total xs : Int)) := by
  have htot := Zje xs hr
  have htb : total xs ≤ 17592186044416 := Nat.le_trans htot (by omega)
  unfold ZfH
  let f : Nat → Int × Int := fun j => (k + (total (xs.take j) : Int), (j : Int))
  have e0 : f 0 = (k, 0) := by simp [f, total]
  have e1 : f xs.length = (k + (total xs : Int), (xs.length : Int)) := by simp only [f]; rw [List.take_length]
  rw [← e0, ZeC f xs.length fun j hj => ?_, e1]
  · refine Zd ?_
    rw [Zij]
    have : decide ((xs.length : Int) < ((marksR k xs).length : Int)) = false := by rw [ZeG]; simp
    rw [this]; rfl
  · obtain ⟨r, hx⟩ := ZbV (xs := xs) (k := j) hj
    have htm := ZlK xs j
    have htm2 := ZlK xs (j + 1)
    simp only [f]
    rw [Zij]
    have : decide ((j : Int) < ((marksR k xs).length : Int)) = true := by rw [ZeG]; simpa using hj
    rw [this, ZbY (Zp0 hx k)]
    simp only [cond_true, Option.bind_some]
    rw [ZtJ (hr r (List.mem_of_getElem? hx)) (by omega) (by omega)]
    simp only [Option.bind_some]
    have hneg : decide (k + (total (xs.take j) : Int) + (r.length : Int) < 0) = false := by simp; omega
    rw [hneg]
    simp only [cond_false]
    rw [wrapN hj (by unfold M63; omega), Zqq hx, show k + (total (xs.take j) : Int) + (r.length : Int) = k + ((total (xs.take j) + r.length : Nat) : Int) by omega]
end Go.Proofs.YtmmbnjijjdakmaaGreatDoor
namespace Go.Proofs.YtmmbnjijjdakmaaGreatDoor
set_option linter.unusedVariables false
open Go Go.Vc Go.Lib
set_option linter.unusedSimpArgs false
theorem Zuz {o : Zg} (hs : Sz2 o.Rows) (h : Zax o = some true) : (o.Rows.length : Int) ≤ 720 := by
  refine Classical.byContradiction fun hn => ?_
  have hn : 720 < (o.Rows.length : Int) := by omega
  have e : Zg.mk o.Kind o.Size o.Rows = o := rfl
  have hN := hs.1
  have hf : Zax o = some false := by
    unfold Zax
    by_cases h1 : o.Kind = 1
    · have q := (Zoz hs).ne fun v => by have := v.n2; omega
      by_cases hl : (o.Rows.length : Int) = o.Size
      · simp (disch := omega) only [pz, q, ZY]
      · simp (disch := omega) only [pz, q, ZY]
    by_cases h2 : o.Kind = 2
    · have q := (Zpy (d := ⟨o.Size, o.Rows⟩) hs).ne fun v => by have : (o.Rows.length : Int) ≤ 128 := v.len; omega
      simp (disch := omega) only [pz, e, ZgJ, Zbn hs, q]
    by_cases h3 : o.Kind = 3
    · have q := (ZnO hs).ne fun v => by have := v.n2; omega
      by_cases hl : (o.Rows.length : Int) = o.Size
      · simp (disch := omega) only [pz, q, ZY]
      · simp (disch := omega) only [pz, q, ZY]
    by_cases h4 : o.Kind = 4
    · have q := (Zqo (a := ⟨o.Size, (ix o.Rows 0).length, o.Rows⟩) hs).ne fun v => by have : (o.Rows.length : Int) ≤ 256 := v.len; omega
      simp (disch := omega) only [pz, e, Zg7, ZK, Zbn hs, q]
    by_cases h5 : o.Kind = 5
    · obtain ⟨cs, ci, b, g1, g2, g3, g4⟩ := Zno hs
      have hr : ci.Rows = o.Rows := by
        have g := g2
        unfold Zem at g
        rw [Zbn hs] at g
        cases hm : Za0 o.Size with
        | none => rw [hm] at g; cases g
        | some r => rw [hm] at g; rw [← Option.some.inj g]
      have hb : b = false := by
        cases b with
        | false => rfl
        | true =>
          exfalso
          unfold Zdh at g4
          cases hm : ZdP (Zc.mk ci.Field.Prime ci.Field.Degree ci.Field.Poly) ci.Rows with
          | none => rw [hm] at g4; cases g4
          | some c =>
            rw [hm] at g4
            cases c with
            | false => cases g4
            | true =>
              have hd : decide ((ci.Rows.length : Int) > 8) = true := by rw [hr]; simp; omega
              simp only [Option.bind_some, Bool.not_true, cond_false] at g4
              rw [hd] at g4
              cases g4
      rw [hb] at g4
      simp (disch := omega) only [pz, e, g2, g4]
    by_cases h6 : o.Kind = 6
    · obtain ⟨r, g1, g2, _, g3⟩ := ZpQ hs
      have hr : r.2 = false := by
        cases hc : r.2 with
        | false => rfl
        | true => have := g3 hc; omega
      simp (disch := omega) only [pz, e, g2, hr]
    by_cases h7 : o.Kind = 7
    · have q := (Zpi (g := ⟨o.Size, o.Rows⟩) hs).ne fun v => by have : (o.Rows.length : Int) ≤ 720 := v.1.l1; omega
      simp (disch := omega) only [pz, e, Zf4, Zbn hs, q]
    · simp (disch := omega) only [pz, ]
  rw [hf] at h
  cases h
theorem ZuS (s : ByteArray) : ∃ k b, ZfV s = some (k, b) ∧ Zgw s = some (k, b) ∧ (b = false → k = 0) ∧ 0 ≤ k ∧ k ≤ 7 := by
  obtain ⟨kn, n1, n2, hl⟩ : ∃ kn : List ByteArray, Zd7 = some kn ∧ Zct = some (⟨#[]⟩ :: kn) ∧ (kn.length : Int) = 7 := ⟨_, rfl, rfl, rfl⟩
  have hl2 : (((⟨#[]⟩ : ByteArray) :: kn).length : Int) = 8 := by rw [List.length_cons]; omega
  unfold ZfV Zgw ZhZ
  have up : ∀ n : Int, 0 ≤ n → n ≤ 7 → (∀ j, 0 ≤ j → j < n → ¬ ix kn j = s) → loop (Za7 s (⟨#[]⟩ :: kn)) 1 = loop (Za7 s (⟨#[]⟩ :: kn)) (n + 1) := by
    intro n n0 n1 hn
    refine ZC (B := Za7 s (⟨#[]⟩ :: kn)) (fun k : Int => k) (i := 1) (n := n + 1) (by omega) fun k a b => ?_
    have hx : ix ((⟨#[]⟩ : ByteArray) :: kn) k = ix kn (k - 1) := ZbK (by omega)
    have hq := Zcg (hn (k - 1) (by omega) (by omega))
    simp (disch := omega) only [pz, Za7, hx, hq]
  rcases ZbL (B := Zb5 kn s) (fun k => k) (fun k => ix kn k = s) (i := 0) (n := 7) (by omega) (fun k a b hk => by
      have hq := Zcg fun h => hk h.symm
      simp (disch := omega) only [pz, Zb5, hq]) with ⟨k, a, b, hk, hbef, e⟩ | ⟨hall, e⟩
  · have e2 := up k a (by omega) hbef
    have hx : ix ((⟨#[]⟩ : ByteArray) :: kn) (k + 1) = ix kn k := by rw [ZbK (by omega), show k + 1 - 1 = k by omega]
    have q1 := (Zah s (ix kn k)).2 hk.symm
    have q2 := (Zah (ix kn k) s).2 hk
    have e3 : loop (Zb5 kn s) 0 = some k := e.trans (Zd (by simp (disch := omega) only [pz, Zb5, q1]))
    have e4 : loop (Za7 s (⟨#[]⟩ :: kn)) 1 = some (k + 1, true) := e2.trans (Zd (by simp (disch := omega) only [pz, Za7, hx, q2]))
    exact ⟨k + 1, true, by simp (disch := omega) only [pz, n2, e4], by simp (disch := omega) only [pz, n1, e3], (fun h => by cases h), by omega, by omega⟩
  · have e2 := up 7 (by omega) (by omega) hall
    have e3 : loop (Zb5 kn s) 0 = some (-1) := e.trans (Zd (by simp (disch := omega) only [pz, Zb5]))
    have e4 : loop (Za7 s (⟨#[]⟩ :: kn)) 1 = some (0, false) := e2.trans (Zd (by simp (disch := omega) only [pz, Za7]))
    exact ⟨0, false, by simp (disch := omega) only [pz, n2, e4], by simp (disch := omega) only [pz, n1, e3]; rfl, fun _ => rfl, by omega, by omega⟩
theorem Zog {c : UInt8} {s : List UInt8} : ∀ {xs : List (List UInt8)}, c ∈ join xs s → c ∈ s ∨ ∃ x ∈ xs, c ∈ x
  | [], h => by cases h
  | [x], h => .inr ⟨x, List.mem_singleton_self x, by rwa [join_one] at h⟩
  | x :: y :: r, h => by
    rw [Zmb] at h
    rcases List.mem_append.1 h with h | h
    · rcases List.mem_append.1 h with h | h
      · exact .inr ⟨x, List.mem_cons_self .., h⟩
      · exact .inl h
    · rcases Zog h with h | ⟨z, hz, h⟩
      · exact .inl h
      · exact .inr ⟨z, List.mem_cons_of_mem _ hz, h⟩
theorem ZoV {c : UInt8} {s : ByteArray} {xs : List ByteArray} (h1 : c ∉ s.data.toList) (h2 : ∀ x ∈ xs, c ∉ x.data.toList) : c ∉ (joinB xs s).data.toList := by
  intro h
  have h : c ∈ join (xs.map (·.data.toList)) s.data.toList := h
  rcases Zog h with h | ⟨x, hx, h⟩
  · exact h1 h
  · obtain ⟨y, hy, rfl⟩ := List.mem_map.1 hx
    exact h2 y hy h
theorem tL_no {c : UInt8} (h1 : ¬ Dg c) (h2 : c ≠ 45) (h3 : c ≠ 44) (xs : List Int) : c ∉ (tL xs).data.toList := by
  by_cases hn : xs = []
  · rw [tL_n hn]
    intro h
    exact h2 (List.mem_singleton.1 h)
  · by_cases h : xs.length ≤ 100 ∧ ∀ x ∈ xs, InR x
    · rw [tL_t h hn]
      refine ZoV (fun h => h3 (List.mem_singleton.1 h)) fun x hx => ?_
      obtain ⟨n, _, rfl⟩ := List.mem_map.1 hx
      exact dg_no (l := []) h1 h2 n
    · rw [tL_f h]
      intro h
      cases h
theorem tR_no (rows : List (List Int)) : 32 ∉ (tR rows).data.toList := by
  unfold tR
  split
  · decide
  · refine ZoV (by decide) fun x hx => ?_
    obtain ⟨r, _, rfl⟩ := List.mem_map.1 hx
    exact tL_no (by unfold Dg; decide) (by decide) (by decide) r
theorem Zn7 (a b c t : ByteArray) : joinB [a, b, c] t = (((a ++ t) ++ b) ++ t) ++ c := by
  have h1 := Zjp (l := [a, b]) (by simp) c t
  have h2 := Zjp (l := [a]) (by simp) b t
  have h1 : joinB [a, b, c] t = joinB [a, b] t ++ t ++ c := h1
  have h2 : joinB [a, b] t = joinB [a] t ++ t ++ b := h2
  rw [h1, h2, ZpZ]
theorem Zqx {s : ByteArray} (h : 32 ∉ s.data.toList) (n : Int) (rows : List (List Int)) : splB 32 ((((s ++ ⟨#[32]⟩) ++ itoaB n) ++ ⟨#[32]⟩) ++ tR rows) = [s, itoaB n, tR rows] := by
  rw [← Zn7]
  refine ZlW (by simp) fun x hx => ?_
  simp only [List.mem_cons, List.not_mem_nil, or_false] at hx
  rcases hx with rfl | rfl | rfl
  · exact h
  · exact dg_no (l := []) (by unfold Dg; decide) (by decide) n
  · exact tR_no rows
theorem three {α : Type} {l : List α} (h : l.length = 3) : ∃ a b c, l = [a, b, c] := by
  match l, h with
  | [a, b, c], _ => exact ⟨a, b, c, rfl⟩
theorem ZnH {α : Type} {g : α → α} : ∀ {l : List α}, l.map g = l → ∀ x ∈ l, g x = x
  | [], _, x, hx => by cases hx
  | a :: l, h, x, hx => by
    rw [List.map_cons, List.cons.injEq] at h
    rcases List.mem_cons.1 hx with rfl | hx
    · exact h.1
    · exact ZnH h.2 x hx
theorem ZuJ {p : ByteArray} (h : tL (lst p).1 = p) : (lst p).2 = true := by
  unfold lst at h ⊢
  split
  · rfl
  · rename_i h1
    rw [if_neg h1] at h
    split
    · rfl
    · rename_i h2
      rw [if_neg h2] at h
      rw [tL_n rfl] at h
      exact absurd h.symm h1
theorem ZtO (s : ByteArray) : -1000000000000000000 < (numOf s).1 ∧ (numOf s).1 < 1000000000000000000 := by
  by_cases h : (numOf s).2 = true
  · exact (Zpa (s := s) (n := (numOf s).1) (by rw [← h])).1
  · rw [Zor h]
    exact ⟨by show (-1000000000000000000 : Int) < 0; omega, by show (0 : Int) < 1000000000000000000; omega⟩
noncomputable def rowsRd (p : ByteArray) : List (List Int) := if p = ⟨#[110, 111, 110, 101]⟩ then [] else (splB 47 p).map fun q => (lst q).1
theorem Zta {p : ByteArray} (h : p.size ≤ 1048574) : Sz2 (rowsRd p) := by
  unfold rowsRd
  split
  · exact ⟨by simp, fun b hb => by cases hb⟩
  · refine ⟨?_, fun b hb => ?_⟩
    · rw [List.length_map]
      have := Zjl 47 p
      omega
    · obtain ⟨q, _, rfl⟩ := List.mem_map.1 hb
      have := Zvk q
      omega
theorem ZxW {p : ByteArray} (hp : ¬ p = ⟨#[110, 111, 110, 101]⟩) (h : p = tR (rowsRd p)) : ∀ q ∈ splB 47 p, (lst q).2 = true := by
  have hr : rowsRd p = (splB 47 p).map fun q => (lst q).1 := by unfold rowsRd; rw [if_neg hp]
  have hne : rowsRd p ≠ [] := by
    rw [hr]
    have := ZoL 47 p
    simpa using this
  have h2 : p = joinB ((rowsRd p).map tL) ⟨#[47]⟩ := by
    unfold tR at h
    rwa [if_neg hne] at h
  have h3 : splB 47 p = (rowsRd p).map tL := by
    conv => lhs; rw [h2]
    refine ZlW (by simpa using hne) fun x hx => ?_
    obtain ⟨r, _, rfl⟩ := List.mem_map.1 hx
    exact tL_no (by unfold Dg; decide) (by decide) (by decide) r
  rw [hr, List.map_map] at h3
  intro q hq
  exact ZuJ (ZnH h3.symm q hq)
theorem Zxi {y : ByteArray} (hs : y.size ≤ 1048576) : ∃ r, Zg1 y = some r ∧ ZdZ y = some r ∧ Sz2 r.1.Rows := by
  have hsp : Zbc y 32 = some (splB 32 y) := ZjW (b := 32) (by omega)
  have him : Zcp y ⟨#[32]⟩ = some (splB 32 y) := ZmF (b := 32) (by omega)
  unfold Zg1 ZdZ
  have z2 : Sz2 (Zg.mk 0 0 ([] : List (List Int))).Rows := ⟨by simp, fun b hb => by cases hb⟩
  by_cases h3 : ((splB 32 y).length : Int) = 3
  · obtain ⟨p0, p1, p2, he⟩ := three (show (splB 32 y).length = 3 by omega)
    have hsz : y.size = p0.size + 1 + p1.size + 1 + p2.size := by
      have := ZnK 32 y
      rw [he, Zn7] at this
      have := congrArg ByteArray.size this
      simp only [ZaF] at this
      have e1 : (⟨#[32]⟩ : ByteArray).size = 1 := rfl
      omega
    rw [he] at hsp him
    obtain ⟨k, b, nk1, nk2, nk3, nk4, nk5⟩ := ZuS p0
    have ns := ZjY p1
    have ni := Zoq p1 (by omega)
    have hrng := ZtO p1
    have hz := Zta (p := p2) (by omega)
    have hR : ∃ R, ZeN y (k, b) (numOf p1) (rowsRd p2) = some R ∧ Zd4 y (k, b) (numOf p1) (rowsRd p2) = some R ∧ Sz2 R.1.Rows ∧ ((R = (Zg.mk 0 0 ([] : List (List Int)), false)) ∨ (b = true ∧ (numOf p1).2 = true ∧ (p2 = ⟨#[110, 111, 110, 101]⟩ ∨ ((splB 47 p2).length : Int) ≤ 720 ∧ ∀ q ∈ splB 47 p2, (lst q).2 = true))) := by
      unfold ZeN Zd4
      obtain ⟨cv, v1, v2⟩ := ZxE (o := Zg.mk k (numOf p1).1 (rowsRd p2)) hz
      cases cv with
      | false => exact ⟨(Zg.mk 0 0 ([] : List (List Int)), false), by simp (disch := omega) only [pz, v2], by simp (disch := omega) only [pz, v1], z2, .inl rfl⟩
      | true =>
        obtain ⟨k1, k7⟩ := Zue v2
        have hrow := Zuz hz v2
        obtain ⟨t, t1, t2, _, s, hno, et⟩ := Zuw (o := Zg.mk k (numOf p1).1 (rowsRd p2)) k1 k7 (by show _ ≤ (numOf p1).1 ∧ (numOf p1).1 ≤ _; omega) (by have : ((rowsRd p2).length : Int) ≤ 720 := hrow; show (rowsRd p2).length ≤ _; omega)
        have t2 := t2 v2
        by_cases hty : t = y
        · have hq := (Zah t y).2 hty
          refine ⟨(Zg.mk k (numOf p1).1 (rowsRd p2), true), by simp (disch := omega) only [pz, v2, t2, hq], by simp (disch := omega) only [pz, v1, t1, hq], hz, .inr ⟨?_, ?_, ?_⟩⟩
          · cases b with
            | true => rfl
            | false => have := nk3 rfl; have k1 : 1 ≤ k := k1; omega
          · have hp := Zqx hno (numOf p1).1 (rowsRd p2)
            rw [← et, hty, he] at hp
            simp only [List.cons.injEq, and_true] at hp
            refine Classical.byContradiction fun hn => hn ?_
            have e0 := Zor hn
            have := Zpk (n := (numOf p1).1) (by rw [e0]; exact ⟨by show (-999999999 : Int) ≤ 0; omega, by show (0 : Int) ≤ 999999999; omega⟩)
            rw [← hp.2.1] at this
            rw [this]
          · have hp := Zqx hno (numOf p1).1 (rowsRd p2)
            rw [← et, hty, he] at hp
            simp only [List.cons.injEq, and_true] at hp
            by_cases hn : p2 = ⟨#[110, 111, 110, 101]⟩
            · exact .inl hn
            · refine .inr ⟨?_, ZxW hn hp.2.2⟩
              have hrow : ((rowsRd p2).length : Int) ≤ 720 := hrow
              unfold rowsRd at hrow
              rw [if_neg hn, List.length_map] at hrow
              exact hrow
        · have hq := Zcg hty
          exact ⟨(Zg.mk 0 0 ([] : List (List Int)), false), by simp (disch := omega) only [pz, v2, t2, hq], by simp (disch := omega) only [pz, v1, t1, hq], z2, .inl rfl⟩
    obtain ⟨R, R1, R2, R3, R4⟩ := hR
    refine ⟨R, ?_, ?_, R3⟩
    · have g0 : ix [p0, p1, p2] 0 = p0 := rfl
      have g1 : ix [p0, p1, p2] 1 = p1 := rfl
      have g2 : ix [p0, p1, p2] 2 = p2 := rfl
      have l3 : (([p0, p1, p2] : List ByteArray).length : Int) = 3 := rfl
      have key : Zg6 y [p0, p1, p2] (k, b) (numOf p1) = some R ∨ R = (Zg.mk 0 0 ([] : List (List Int)), false) ∧ ¬ (b = true ∧ (numOf p1).2 = true) := by
        by_cases hbc : b = true ∧ (numOf p1).2 = true
        · refine .inl ?_
          unfold Zg6
          by_cases hn : p2 = ⟨#[110, 111, 110, 101]⟩
          · have hq := (Zah p2 _).2 hn
            have e : rowsRd p2 = [] := by unfold rowsRd; rw [if_pos hn]
            rw [e] at R2
            simp (disch := omega) only [pz, g2, hq, R2]
          · have hq := Zcg hn
            have h47 : Zbc p2 47 = some (splB 47 p2) := ZjW (b := 47) (by omega)
            have e : rowsRd p2 = (splB 47 p2).map fun q => (lst q).1 := by unfold rowsRd; rw [if_neg hn]
            by_cases hl : ((splB 47 p2).length : Int) ≤ 720
            · have step : ∀ n : Int, 0 ≤ n → n ≤ ((splB 47 p2).length : Int) → (∀ j, 0 ≤ j → j < n → (lst (ix (splB 47 p2) j)).2 = true) → loop (ZaW y (k, b) (numOf p1) (splB 47 p2)) (0, []) = loop (ZaW y (k, b) (numOf p1) (splB 47 p2)) (n, ((splB 47 p2).take n.toNat).map fun q => (lst q).1) := by
                intro n n0 n1 hok
                refine ZC (B := ZaW y (k, b) (numOf p1) (splB 47 p2)) (fun m : Int => (m, ((splB 47 p2).take m.toNat).map fun q => (lst q).1)) (i := 0) (n := n) n0 fun m a b => ?_
                have hm := hok m a b
                have hr := ZpN (s := ix (splB 47 p2) m) (by have := Zik (ZM a (show m < ((splB 47 p2).length : Int) by omega)); omega)
                have hlk : (((splB 47 p2).take m.toNat).map fun q => (lst q).1).length ≤ 720 := by rw [List.length_map, List.length_take]; omega
                have hg : gApp 24 (((splB 47 p2).take m.toNat).map fun q => (lst q).1) [(lst (ix (splB 47 p2) m)).1] = some (((splB 47 p2).take m.toNat).map (fun q => (lst q).1) ++ [(lst (ix (splB 47 p2) m)).1]) := gApp1 (by omega) (by omega)
                rw [ZdU a (by omega)]
                simp (disch := omega) only [pz, ZaW, hr, hm, hg]
              rcases ZiB (n := (splB 47 p2).length) (by omega) (fun m => ¬ (lst (ix (splB 47 p2) m)).2 = true) with ⟨m, m0, m1, hm, hbad⟩ | hbad
              · have e3 := step m m0 (by omega) fun j a b => Classical.not_not.1 (hbad j a b)
                have hr := ZpN (s := ix (splB 47 p2) m) (by have := Zik (ZM m0 m1); omega)
                have hm2 : (lst (ix (splB 47 p2) m)).2 = false := by simpa using hm
                have hR0 : R = (Zg.mk 0 0 ([] : List (List Int)), false) := by
                  rcases R4 with h | ⟨_, _, h | h⟩
                  · exact h
                  · exact absurd h hn
                  · exact absurd (h.2 _ (ZM m0 m1)) hm
                have e4 : loop (ZaW y (k, b) (numOf p1) (splB 47 p2)) (0, []) = some R := by
                  rw [e3, hR0]
                  refine Zd ?_
                  simp (disch := omega) only [pz, ZaW, hr, hm2]
                simp (disch := omega) only [pz, g2, hq, h47, e4]
              · have e3 := step (splB 47 p2).length (by omega) (by omega) fun j a b => Classical.not_not.1 (hbad j a b)
                rw [Int.toNat_natCast, List.take_length, ← e] at e3
                have e4 : loop (ZaW y (k, b) (numOf p1) (splB 47 p2)) (0, []) = some R := by
                  rw [e3]
                  refine Zd ?_
                  simp (disch := omega) only [pz, ZaW, R2]
                simp (disch := omega) only [pz, g2, hq, h47, e4]
            · have hR0 : R = (Zg.mk 0 0 ([] : List (List Int)), false) := by
                rcases R4 with h | ⟨_, _, h | h⟩
                · exact h
                · exact absurd h hn
                · exact absurd h.1 hl
              rw [hR0]
              simp (disch := omega) only [pz, g2, hq, h47]
        · refine .inr ⟨?_, hbc⟩
          rcases R4 with h | ⟨h1, h2, _⟩
          · exact h
          · exact absurd ⟨h1, h2⟩ hbc
      rcases key with key | ⟨hR0, hbc⟩
      · by_cases hb : b = true
        · by_cases hc : (numOf p1).2 = true
          · simp (disch := omega) only [pz, hsp, l3, g0, nk1, g1, ns, hb, hc]
            rw [hb] at key
            exact key
          · have hR0 : R = (Zg.mk 0 0 ([] : List (List Int)), false) := by
              rcases R4 with h | ⟨h1, h2, _⟩
              · exact h
              · exact absurd h2 hc
            have hc : (numOf p1).2 = false := by simpa using hc
            rw [hR0]
            simp (disch := omega) only [pz, hsp, l3, g0, nk1, g1, ns, hb, hc]
        · have hR0 : R = (Zg.mk 0 0 ([] : List (List Int)), false) := by
            rcases R4 with h | ⟨h1, h2, _⟩
            · exact h
            · exact absurd h1 hb
          have hb : b = false := by simpa using hb
          rw [hR0]
          simp (disch := omega) only [pz, hsp, l3, g0, nk1, g1, ns, hb]
      · rw [hR0]
        by_cases hb : b = true
        · have hc : (numOf p1).2 = false := by
            cases hc : (numOf p1).2 with
            | false => rfl
            | true => exact absurd ⟨hb, hc⟩ hbc
          simp (disch := omega) only [pz, hsp, l3, g0, nk1, g1, ns, hb, hc]
        · have hb : b = false := by simpa using hb
          simp (disch := omega) only [pz, hsp, l3, g0, nk1, g1, ns, hb]
    · have g0 : ix [p0, p1, p2] 0 = p0 := rfl
      have g1 : ix [p0, p1, p2] 1 = p1 := rfl
      have g2 : ix [p0, p1, p2] 2 = p2 := rfl
      have l3 : (([p0, p1, p2] : List ByteArray).length : Int) = 3 := rfl
      by_cases hn : p2 = ⟨#[110, 111, 110, 101]⟩
      · have hq := (Zah p2 _).2 hn
        have e : rowsRd p2 = [] := by unfold rowsRd; rw [if_pos hn]
        rw [e] at R1
        simp (disch := omega) only [pz, him, l3, g0, nk2, g1, ni, g2, hq, R1]
      · have hq := Zcg hn
        have h47 := ZmF (b := 47) (s := p2) (by omega)
        have e : rowsRd p2 = (splB 47 p2).map fun q => (lst q).1 := by unfold rowsRd; rw [if_neg hn]
        have hl := Zjl 47 p2
        have e3 := ZC (B := ZcQ y (k, b) (numOf p1) (splB 47 p2)) (fun m : Int => (m, ((splB 47 p2).take m.toNat).map fun q => (lst q).1)) (i := 0) (n := (splB 47 p2).length) (by omega) fun m a b => by
          have hr := ZvO (s := ix (splB 47 p2) m) (by have := Zik (ZM a b); omega)
          have hlk : (((splB 47 p2).take m.toNat).map fun q => (lst q).1).length ≤ 1048577 := by rw [List.length_map, List.length_take]; omega
          have hg : gApp 24 (((splB 47 p2).take m.toNat).map fun q => (lst q).1) [(lst (ix (splB 47 p2) m)).1] = some (((splB 47 p2).take m.toNat).map (fun q => (lst q).1) ++ [(lst (ix (splB 47 p2) m)).1]) := gApp1 (by omega) (by omega)
          rw [ZdU a b]
          simp (disch := omega) only [pz, ZcQ, hr, hg]
        rw [Int.toNat_natCast, List.take_length, ← e] at e3
        have e4 : loop (ZcQ y (k, b) (numOf p1) (splB 47 p2)) (0, []) = some R := by
          refine Eq.trans e3 (Zd ?_)
          simp (disch := omega) only [pz, ZcQ, R1]
        simp (disch := omega) only [pz, him, l3, g0, nk2, g1, ni, g2, hq, h47, e4]
  · exact ⟨(Zg.mk 0 0 ([] : List (List Int)), false), by simp (disch := omega) only [pz, hsp], by simp (disch := omega) only [pz, him], z2⟩
end Go.Proofs.YtmmbnjijjdakmaaGreatDoor
namespace Go.Proofs.YtmmbnjijjdakmaaGreatDoor
set_option linter.unusedVariables false
open Go Go.Vc
set_option linter.unusedSimpArgs false
theorem ZrN {y : ByteArray} (hy : OkS y) : Zie y = some true := by
  unfold Zie
  by_cases hs : y.size ≤ 1048576
  · obtain ⟨⟨x, c⟩, h1, h2, hz⟩ := Zxi hs
    have hz : Sz2 x.Rows := hz
    have hn := hz.1
    have e2 : Zg.mk x.Kind x.Size x.Rows = x := rfl
    have hq2 := (ZvU (a := x) (b := x) ⟨by unfold M63; have := hz.1; omega, fun y hy => ⟨by unfold M63; have := hz.2 y hy; omega, fun _ _ => trivial⟩⟩).eq rfl
    have hm : Ze5 x 1 = some (1 + (total x.Rows : Int), ⟨x.Kind, x.Size, marksR 1 x.Rows⟩) := by
      have := Zud (xs := x.Rows) (k := 1) (by omega) (fun r hr => by have := hz.2 r hr; omega) (by omega) (by omega)
      unfold Ze5
      simp (disch := omega) only [pz, this]
    have hh : ZeQ ⟨x.Kind, x.Size, marksR 1 x.Rows⟩ 1 = some (1 + (total x.Rows : Int)) := by
      have := ZvE (xs := x.Rows) (k := 1) (by omega) (fun r hr => by have := hz.2 r hr; omega) (by omega) (by omega)
      unfold ZeQ
      simp (disch := omega) only [pz, this]
    have n0 : ¬ (1 + (total x.Rows : Int) < 0) := by omega
    have k2 : ZgQ (x, c) (1 + (total x.Rows : Int), ⟨x.Kind, x.Size, marksR 1 x.Rows⟩) = some true := by
      unfold ZgQ
      simp (disch := omega) only [pz, hh]
    have k1 : Zgm y (x, c) (x, c) = some true := by
      unfold Zgm
      have hcc : (c == c) = true := by simp
      simp (disch := omega) only [pz, e2, hm, hh, h2, hq2, hcc, k2]
    have hcc : (c == c) = true := by simp
    simp (disch := omega) only [pz, h1, h2, e2, hq2, hcc, k1]
  · simp (disch := omega) only [pz, ]
end Go.Proofs.YtmmbnjijjdakmaaGreatDoor
