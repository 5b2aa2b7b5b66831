/- Marks on lists of integers, and on lists of such lists. -/
import Derived.Test.YtapkemdomnkccaaGreatPuFam
import Derived.Test.YtapkemdomnkccaaGreatPuJg
namespace Go.Proofs.YtapkemdomnkccaaGreat
open Go Go.Vc
set_option linter.unusedSimpArgs false
def marks (k : Int) (n : Nat) : List Int := (List.range n).map fun (j : Nat) => k + (j : Int)
theorem ZbK (k : Int) (n : Nat) : (marks k n).length = n := by unfold marks; simp
theorem ZnR {xs : List Int} {k : Int} (h : xs.length ≤ 4194304) (h0 : 0 ≤ k) (h1 : k ≤ 9100000000000000000) : ZcS xs k = some (k + (xs.length : Int), marks k xs.length) := by
  unfold ZcS
  let f : Nat → Int × Int × List Int := fun j => (k + (j : Int), (j : Int), marks k j ++ xs.drop j)
  have e0 : f 0 = (k, 0, xs) := by simp [f, marks]
  have e1 : f xs.length = (k + (xs.length : Int), (xs.length : Int), marks k xs.length) := by simp only [f]; rw [List.drop_length, List.append_nil]
  rw [← e0, Zd7 f xs.length fun j hj => ?_, e1]
  · refine Zd ?_
    rw [Zel]
    have : decide ((xs.length : Int) < ((marks k xs.length).length : Int)) = false := by rw [ZbK]; simp
    rw [this]; rfl
  · obtain ⟨x, hx⟩ := Za5 (xs := xs) (k := j) hj
    have hl : (marks k j ++ xs.drop j).length = xs.length := by rw [List.length_append, ZbK, List.length_drop]; omega
    have hc : (marks k j ++ xs.drop j)[j]? = some x := by
      rw [List.getElem?_append_right (by rw [ZbK]; omega), ZbK, Nat.sub_self, List.getElem?_drop]; simpa using hx
    simp only [f]
    rw [Zel]
    have : decide ((j : Int) < ((marks k j ++ xs.drop j).length : Int)) = true := by rw [hl]; simpa using hj
    rw [this, Zak hc]
    simp only [cond_true, Option.bind_some]
    rw [wrapN hj (by unfold M63; omega), Zbf (by omega) (by omega), Int.toNat_natCast]
    have hs : (marks k j ++ xs.drop j).set j (k + (j : Int)) = marks k (j + 1) ++ xs.drop (j + 1) := by
      rw [List.set_append, if_neg (by rw [ZbK]; omega), ZbK, Nat.sub_self]
      have hd : xs.drop j = x :: xs.drop (j + 1) := by
        rw [List.drop_eq_getElem_cons hj]
        congr 1
        have := List.getElem?_eq_getElem (l := xs) (i := j) hj
        rw [hx] at this; exact (Option.some.inj this).symm
      rw [hd]
      unfold marks
      rw [List.range_succ, List.map_append]; simp
    rw [hs, show k + (j : Int) + 1 = k + ((j + 1 : Nat) : Int) by omega]
def marksR : Int → List (List Int) → List (List Int)
  | _, [] => []
  | k, r :: rs => marks k r.length :: marksR (k + r.length) rs
def total : List (List Int) → Nat
  | [] => 0
  | r :: rs => r.length + total rs
theorem Zm6 : ∀ (xs : List (List Int)), (∀ r ∈ xs, r.length ≤ 4194304) → total xs ≤ xs.length * 4194304
  | [], _ => by simp [total]
  | r :: rs, h => by
    have h1 := h r (List.mem_cons_self ..)
    have h2 := Zm6 rs fun x hx => h x (List.mem_cons_of_mem _ hx)
    simp only [total, List.length_cons]; omega
theorem Zgy : ∀ (k : Int) (xs : List (List Int)), (marksR k xs).length = xs.length
  | _, [] => rfl
  | k, r :: rs => by simp [marksR, Zgy]
theorem Zvv {xs : List (List Int)} {j : Nat} {r : List Int} (h : xs[j]? = some r) : total (xs.take (j + 1)) = total (xs.take j) + r.length := by
  induction xs generalizing j with
  | nil => simp at h
  | cons x xs ih =>
    cases j with
    | zero => simp at h; subst h; simp [total]
    | succ j => simp only [List.take_succ_cons, total]; rw [ih (by simpa using h)]; omega
theorem Zr6 {xs : List (List Int)} {j : Nat} {r : List Int} (h : xs[j]? = some r) : ∀ k : Int, (marksR k xs)[j]? = some (marks (k + (total (xs.take j) : Int)) r.length) := by
  induction xs generalizing j with
  | nil => simp at h
  | cons x xs ih =>
    intro k
    cases j with
    | zero => simp at h; subst h; simp [marksR, total]
    | succ j =>
      simp only [marksR, List.getElem?_cons_succ, List.take_succ_cons, total]
      rw [ih (by simpa using h)]
      congr 2; omega
theorem Zo8 (xs : List (List Int)) (j : Nat) : total (xs.take j) ≤ total xs := by
  induction xs generalizing j with
  | nil => simp [total]
  | cons x xs ih =>
    cases j with
    | zero => simp [total]
    | succ j => simp only [List.take_succ_cons, total]; have := ih j; omega
theorem Zwj {xs : List (List Int)} {k : Int} (h : xs.length ≤ 4194304) (hr : ∀ r ∈ xs, r.length ≤ 4194304) (h0 : 0 ≤ k) (h1 : k ≤ 9000000000000000000) : Zek xs k = some (k + (total xs : Int), marksR k xs) := by
  have htot := Zm6 xs hr
  have htb : total xs ≤ 17592186044416 := Nat.le_trans htot (by omega)
  unfold Zek
  let f : Nat → Int × Int × List (List Int) := fun j => (k + (total (xs.take j) : Int), (j : Int), (marksR k xs).take j ++ xs.drop j)
  have e0 : f 0 = (k, 0, xs) := by simp [f, total]
  have e1 : f xs.length = (k + (total xs : Int), (xs.length : Int), marksR k xs) := by
    simp only [f]; rw [List.take_length, List.drop_length, List.append_nil, List.take_of_length_le (by rw [Zgy]; omega)]
  rw [← e0, Zd7 f xs.length fun j hj => ?_, e1]
  · refine Zd ?_
    rw [Zgr]
    have : decide ((xs.length : Int) < ((marksR k xs).length : Int)) = false := by rw [Zgy]; simp
    rw [this]; rfl
  · obtain ⟨r, hx⟩ := Za5 (xs := xs) (k := j) hj
    have htl : ((marksR k xs).take j).length = j := by rw [List.length_take, Zgy]; omega
    have hl : ((marksR k xs).take j ++ xs.drop j).length = xs.length := by rw [List.length_append, htl, List.length_drop]; omega
    have hc : ((marksR k xs).take j ++ xs.drop j)[j]? = some r := by
      rw [List.getElem?_append_right (by omega), htl, Nat.sub_self, List.getElem?_drop]; simpa using hx
    have htm := Zo8 xs j
    simp only [f]
    rw [Zgr]
    have : decide ((j : Int) < (((marksR k xs).take j ++ xs.drop j).length : Int)) = true := by rw [hl]; simpa using hj
    rw [this, Zak hc]
    simp only [cond_true, Option.bind_some]
    rw [ZnR (hr r (List.mem_of_getElem? hx)) (by omega) (by omega)]
    simp only [Option.bind_some]
    rw [wrapN hj (by unfold M63; omega), Int.toNat_natCast]
    have hs : ((marksR k xs).take j ++ xs.drop j).set j (marks (k + (total (xs.take j) : Int)) r.length) = (marksR k xs).take (j + 1) ++ xs.drop (j + 1) := by
      rw [List.set_append, if_neg (by omega), htl, Nat.sub_self, List.take_add_one, Zr6 hx]
      have hd : xs.drop j = r :: xs.drop (j + 1) := by
        rw [List.drop_eq_getElem_cons hj]
        congr 1
        have := List.getElem?_eq_getElem (l := xs) (i := j) hj
        rw [hx] at this; exact (Option.some.inj this).symm
      rw [hd]; simp
    rw [hs, Zvv hx, show k + (total (xs.take j) : Int) + (r.length : Int) = k + ((total (xs.take j) + r.length : Nat) : Int) by omega]
end Go.Proofs.YtapkemdomnkccaaGreat
namespace Go.Proofs.YtapkemdomnkccaaGreat
open Go Go.Vc
set_option linter.unusedSimpArgs false
end Go.Proofs.YtapkemdomnkccaaGreat
namespace Go.Proofs.YtapkemdomnkccaaGreat
open Go Go.Vc
set_option linter.unusedSimpArgs false
set_option linter.unusedVariables false
theorem Zzc {a b : ByteArray} (h : a.size + b.size ≤ 1000) : gFit a b = some () := by
  unfold gFit
  rw [if_pos]
  have : IntKind.i64.max = 9223372036854775807 := rfl
  omega
theorem gByt1 {x : Int} (h0 : 0 ≤ x) (h1 : x ≤ 255) : gByt [x] = some (bstr [x]) := by
  unfold gByt
  rw [if_pos]
  intro y hy
  simp at hy
  omega
theorem bstr1 (x : Int) : (bstr [x]).size = 1 := rfl
theorem ZAD (a b : ByteArray) : (a ++ b).size = a.size + b.size := by simp
theorem ZAx : ∀ (n : Nat) (k : Int) (out : ByteArray), 0 ≤ k → k < 10 ^ n → k ≤ 9223372036854775807 → out.size + n ≤ 100 → ∃ t, loop Zxm (k, out) = some t := by
  have hend : ∀ out : ByteArray, out.size ≤ 100 → loop Zxm (0, out) = some ((⟨#[109]⟩ : ByteArray) ++ out) := fun out h => by
    have hf : gFit ⟨#[109]⟩ out = some () := Zzc (by show 1 + out.size ≤ 1000; omega)
    refine Zd ?_
    simp (disch := omega) only [pz, Zxm, hf]
  intro n
  induction n with
  | zero =>
    intro k out h0 h1 _ h2
    have : k = 0 := by simp at h1; omega
    subst this
    exact ⟨_, hend out (by omega)⟩
  | succ n ih =>
    intro k out h0 h1 h3 h2
    by_cases hk : k = 0
    · subst hk; exact ⟨_, hend out (by omega)⟩
    · have hm : Int.tmod k 10 = k % 10 := Int.tmod_eq_emod_of_nonneg h0
      have hd : Int.tdiv k 10 = k / 10 := Int.tdiv_eq_ediv_of_nonneg h0
      have w1 : IntKind.i64.wrap (48 + k % 10) = 48 + k % 10 := Zbf (by omega) (by omega)
      have w2 : IntKind.u8.wrap (48 + k % 10) = 48 + k % 10 := u8_of (by omega) (by omega)
      have hb := gByt1 (x := 48 + k % 10) (by omega) (by omega)
      have hf : gFit (bstr [48 + k % 10]) out = some () := Zzc (by rw [bstr1]; omega)
      have hp : k / 10 < 10 ^ n := by
        have e : (10 : Int) ^ (n + 1) = 10 ^ n * 10 := Int.pow_succ ..
        omega
      obtain ⟨t, ht⟩ := ih (k / 10) (bstr [48 + k % 10] ++ out) (by omega) hp (by omega) (by rw [ZAD, bstr1]; omega)
      refine ⟨t, ?_⟩
      rw [← ht]
      refine ZG ?_
      simp (disch := omega) only [pz, Zxm, hm, hd, w1, w2, hb, hf]
theorem mtext {k : Int} (h1 : k ≤ 9223372036854775807) : ∃ t, Zw4 k = some t := by
  unfold Zw4
  by_cases h : k ≤ 0
  · exact ⟨⟨#[109, 48]⟩, by simp (disch := omega) only [pz, ]⟩
  · obtain ⟨t, ht⟩ := ZAx 19 k ⟨#[]⟩ (by omega) (by omega) h1 (by decide)
    exact ⟨t, by simp (disch := omega) only [pz, ht]⟩
noncomputable def mtx (k : Int) : ByteArray := (Zw4 k).getD ⟨#[]⟩
theorem Zyd {k : Int} (h1 : k ≤ 9223372036854775807) : Zw4 k = some (mtx k) := by
  obtain ⟨t, ht⟩ := mtext h1
  unfold mtx
  rw [ht]; rfl
end Go.Proofs.YtapkemdomnkccaaGreat
namespace Go.Proofs.YtapkemdomnkccaaGreat
open Go Go.Vc
set_option linter.unusedSimpArgs false
set_option linter.unusedVariables false
noncomputable def marksT (k : Int) (n : Int) : List ByteArray := tabl n fun i => mtx (k + i)
theorem Zy3 (k n : Int) : (marksT k n).length = n.toNat := ZF
instance : Inhabited ByteArray := ⟨⟨#[]⟩⟩
theorem Zzy {xs : List ByteArray} {k : Int} (h : (xs.length : Int) ≤ 4194304) (h0 : 0 ≤ k) (h1 : k ≤ 9100000000000000000) : ZxU xs k = some (k + (xs.length : Int), marksT k xs.length) := by
  unfold ZxU
  have hgo := ZH (B := Zxq) (fun j => (k + j, j, tabl xs.length fun i => if i < j then mtx (k + i) else ix xs i)) (i := 0) (n := xs.length) (by omega) fun j j0 j1 => by
    have hl : (tabl xs.length fun i => if i < j then mtx (k + i) else ix xs i).length = xs.length := by rw [ZF]; omega
    have hs : (tabl xs.length fun i => if i < j then mtx (k + i) else ix xs i).set j.toNat (mtx (k + j)) = tabl xs.length fun i => if i < j + 1 then mtx (k + i) else ix xs i := by
      apply Zbt j0 j1
      · intro i i0 i1 i2
        by_cases hi : i < j
        · rw [if_pos hi, if_pos (show i < j + 1 by omega)]
        · rw [if_neg hi, if_neg (show ¬ i < j + 1 by omega)]
      · rw [if_pos (by omega)]
    generalize (tabl xs.length fun i => if i < j then mtx (k + i) else ix xs i) = A at hl hs ⊢
    have ht := Zyd (k := k + j) (by omega)
    have e : k + (j + 1) = k + j + 1 := by omega
    simp (disch := omega) only [pz, Zxq, ht, hs, e]
  have e0 : (k, (0 : Int), xs) = (fun j : Int => (k + j, j, tabl xs.length fun i => if i < j then mtx (k + i) else ix xs i)) 0 := by
    show _ = (k + 0, (0 : Int), _)
    congr 1
    · omega
    · congr 1
      refine (Zbs xs).symm.trans (ZQ fun i i0 i1 => ?_)
      rw [if_neg (by omega)]
  rw [e0, hgo]
  refine Zd ?_
  have e1 : (tabl xs.length fun i => if i < (xs.length : Int) then mtx (k + i) else ix xs i) = marksT k xs.length := ZQ fun i i0 i1 => by rw [if_pos i1]
  have hl := Zy3 k xs.length
  simp only [e1]
  simp (disch := omega) only [pz, Zxq, hl]
theorem ZzQ {n k : Int} (hn : 0 ≤ n) (h : n ≤ 4194304) (h0 : 0 ≤ k) (h1 : k ≤ 9100000000000000000) : Zxu (marksT k n) k = some (k + n) := by
  unfold Zxu
  have hl := Zy3 k n
  have hgo := ZH (B := ZxG (marksT k n)) (fun j => (k + j, j)) (i := 0) (n := n) hn fun j j0 j1 => by
    have hx : ix (marksT k n) j = mtx (k + j) := ZX j0 j1
    have e : k + (j + 1) = k + j + 1 := by omega
    have ht := Zyd (k := k + j) (by omega)
    have hb : ((mtx (k + j)).toList == (mtx (k + j)).toList) = true := by simp
    simp (disch := omega) only [pz, ZxG, ht, hx, hb, e]
  have e0 : (k, (0 : Int)) = (fun j : Int => (k + j, j)) 0 := by simp
  rw [e0, hgo]
  refine Zd ?_
  simp (disch := omega) only [pz, ZxG]
end Go.Proofs.YtapkemdomnkccaaGreat
namespace Go.Proofs.YtapkemdomnkccaaGreat
open Go Go.Vc
set_option linter.unusedSimpArgs false
set_option linter.unusedVariables false
noncomputable def mIt (k : Int) (x : ZwR) : ZwR := ⟨mtx k, ⟨k + 1, k + 1 + 1, marksR (k + 1 + 1 + 1) x.Object.Rows⟩, mtx (k + 1 + 1 + 1 + (total x.Object.Rows : Int))⟩
def kIt (k : Int) (x : ZwR) : Int := k + 1 + 1 + 1 + (total x.Object.Rows : Int) + 1
noncomputable def mItems : Int → List ZwR → List ZwR
  | _, [] => []
  | k, x :: xs => mIt k x :: mItems (kIt k x) xs
def kItems : Int → List ZwR → Int
  | k, [] => k
  | k, x :: xs => kItems (kIt k x) xs
theorem Zy8 {r : List (List Int)} (h : Sz2 r) : total r ≤ 4398046511104 := by
  have h1 := h.1
  have h2 := Zm6 r fun x hx => by have := h.2 x hx; omega
  omega
theorem gMid {α : Type} {A C : List α} {y : α} : gIdx (A ++ y :: C) (A.length : Int) = some y := by
  unfold gIdx
  rw [if_pos (by omega), Int.toNat_natCast, List.getElem?_append_right (Nat.le_refl _), Nat.sub_self]; rfl
theorem sMid {α : Type} {A C : List α} {y z : α} : (A ++ y :: C).set A.length z = A ++ z :: C := by
  rw [List.set_append_right _ _ (Nat.le_refl _), Nat.sub_self]; rfl
theorem iMid {α : Type} [Inhabited α] {A C : List α} {y : α} : ix (A ++ y :: C) (A.length : Int) = y := ixMid rfl
theorem ZzL {A C : List ZwR} {b : ZwR} {k : Int} (hs : Sz2 b.Object.Rows) (h0 : 0 ≤ k) (h1 : k ≤ 8900000000000000000) (hA : A.length + C.length ≤ 4194304) :
    Zxe (k, (A.length : Int), A ++ b :: C) = some (.inl (kIt k b, (A.length : Int) + 1, A ++ mIt k b :: C)) := by
  have hl : ((A ++ b :: C).length : Int) = (A.length : Int) + 1 + (C.length : Int) := by simp; omega
  have ht := Zy8 hs
  have hm := Zwj (xs := b.Object.Rows) (k := k + 1 + 1 + 1) (by have := hs.1; omega) (fun r hr => by have := hs.2 r hr; omega) (by omega) (by omega)
  have t1 := Zyd (k := k) (by omega)
  have t2 := Zyd (k := k + 1 + 1 + 1 + (total b.Object.Rows : Int)) (by omega)
  have w1 : IntKind.i64.wrap (k + 1 + 1 + 1 + (total b.Object.Rows : Int) + 1) = k + 1 + 1 + 1 + (total b.Object.Rows : Int) + 1 := Zbf (by omega) (by omega)
  simp (disch := omega) only [pz, Zxe, gMid, iMid, sMid, t1, hm, t2, w1, mIt, kIt]
theorem Zz4 : ∀ (C A : List ZwR) (k : Int), (∀ x ∈ C, Sz2 x.Object.Rows) → 0 ≤ k → k + C.length * 4398046511108 ≤ 8900000000000000000 → A.length + C.length ≤ 4194304 →
    loop Zxe (k, (A.length : Int), A ++ C) = some (kItems k C, A ++ mItems k C) := by
  intro C
  induction C with
  | nil =>
    intro A k _ h0 _ hA
    refine Zd ?_
    have hl : (((A ++ []).length : Nat) : Int) = (A.length : Int) := by simp
    simp (disch := omega) only [pz, Zxe, hl, kItems, mItems, List.append_nil]
  | cons b C ih =>
    intro A k hs h0 h1 hA
    rw [List.length_cons] at h1 hA
    have hb := hs b (List.mem_cons_self ..)
    have ht := Zy8 hb
    rw [ZG (ZzL hb h0 (by omega) (by omega))]
    have e : A ++ mIt k b :: C = (A ++ [mIt k b]) ++ C := by simp
    have el : (A.length : Int) + 1 = ((A ++ [mIt k b]).length : Int) := by simp
    rw [e, el, ih (A ++ [mIt k b]) (kIt k b) (fun x hx => hs x (List.mem_cons_of_mem _ hx)) (by unfold kIt; omega) (by unfold kIt; omega) (by simp; omega)]
    simp [kItems, mItems]
theorem Zzf : ∀ (C : List ZwR) (k : Int), k ≤ kItems k C
  | [], k => Int.le_refl _
  | x :: C, k => by
    have := Zzf C (kIt k x)
    unfold kItems
    unfold kIt at this ⊢
    omega
theorem ZAV {c : ZwS} (hs : Szc c.Items) : ZxY c 1 = some (kItems 1 c.Items, ⟨mItems 1 c.Items⟩) := by
  have h := Zz4 c.Items [] 1 hs.2 (by omega) (by have := hs.1; omega) (by have := hs.1; simp; omega)
  have e : Zx9 c.Items 1 = some (kItems 1 c.Items, mItems 1 c.Items) := h
  unfold ZxY
  simp (disch := omega) only [pz, e]
end Go.Proofs.YtapkemdomnkccaaGreat
namespace Go.Proofs.YtapkemdomnkccaaGreat
open Go Go.Vc
set_option linter.unusedSimpArgs false
set_option linter.unusedVariables false
def kn (xs : List ZwR) (kind : Int) : List ByteArray := (xs.filter fun x => x.Object.Kind == kind).map fun x => x.Name
theorem ZyX (xs : List ZwR) (kind : Int) : (kn xs kind).length ≤ xs.length := by
  unfold kn; rw [List.length_map]; exact List.length_filter_le _ _
theorem Zzh {xs : List ZwR} {i : Int} (h0 : 0 ≤ i) (h1 : i < (xs.length : Int)) (kind : Int) : kn (xs.take (i + 1).toNat) kind = kn (xs.take i.toNat) kind ++ (if (ix xs i).Object.Kind = kind then [(ix xs i).Name] else []) := by
  unfold kn
  rw [Zc3 h0 h1, List.filter_append, List.map_append]
  congr 1
  by_cases h : (ix xs i).Object.Kind = kind
  · simp [h]
  · simp [h]
theorem ZAz {k : Int} (h0 : 1 ≤ k) (h1 : k ≤ 7) : ∃ s : ByteArray, Zxh k = some s ∧ (s.toList == (⟨#[]⟩ : ByteArray).toList) = false := by
  unfold Zxh ZY Zx1
  obtain rfl | rfl | rfl | rfl | rfl | rfl | rfl : k = 1 ∨ k = 2 ∨ k = 3 ∨ k = 4 ∨ k = 5 ∨ k = 6 ∨ k = 7 := by omega
  all_goals exact ⟨_, rfl, by decide +kernel⟩
theorem ZAN {c : ZwS} (hs : Szc c.Items) (kind : Int) : ∃ r, ZxJ c kind = some r ∧ Zxy c kind = some r ∧ (r.1.length : Int) ≤ 1048576 := by
  have hN := hs.1
  have e : ZwS.mk c.Items = c := rfl
  obtain ⟨b, h1, h2⟩ := two_q (ZzV hs) (Zzn hs)
  unfold ZxJ Zxy
  cases b with
  | false => exact ⟨([], 1), by simp (disch := omega) only [pz, e, h1], by simp (disch := omega) only [pz, e, h2], by simp⟩
  | true =>
    by_cases hk : 1 ≤ kind ∧ kind ≤ 7
    · obtain ⟨s, n1, n2⟩ := ZAz hk.1 hk.2
      have q2 : Zxc kind = some true := by
        unfold Zxc Z0
        simp (disch := omega) only [pz, ]
      have gl : ∀ i : Int, 0 ≤ i → i ≤ (c.Items.length : Int) → ((kn (c.Items.take i.toNat) kind).length : Int) ≤ i := fun i h0 h1 => by
        have := ZyX (c.Items.take i.toNat) kind
        rw [List.length_take] at this
        omega
      have w1 := ZH (B := Zxf c kind) (fun i => (kn (c.Items.take i.toNat) kind, i)) (i := 0) (n := c.Items.length) (by omega) fun i i0 i1 => by
        have hl := gl i i0 (by omega)
        have ht := Zzh i0 i1 kind
        by_cases h : (ix c.Items i).Object.Kind = kind
        · rw [if_pos h] at ht
          simp (disch := omega) only [pz, Zxf, ht]
        · rw [if_neg h, List.append_nil] at ht
          simp (disch := omega) only [pz, Zxf, ht]
      have w2 := ZH (B := Zxj c kind) (fun i => (kn (c.Items.take i.toNat) kind, i)) (i := 0) (n := c.Items.length) (by omega) fun i i0 i1 => by
        have hl := gl i i0 (by omega)
        have ht := Zzh i0 i1 kind
        by_cases h : (ix c.Items i).Object.Kind = kind
        · rw [if_pos h] at ht
          simp (disch := omega) only [pz, Zxj, ht]
        · rw [if_neg h, List.append_nil] at ht
          simp (disch := omega) only [pz, Zxj, ht]
      have z0 : (kn (List.take (Int.toNat 0) c.Items) kind, (0 : Int)) = (([] : List ByteArray), (0 : Int)) := rfl
      rw [z0] at w1 w2
      refine ⟨(kn c.Items kind, 0), ?_, ?_, by have := ZyX c.Items kind; simp only; omega⟩
      · simp (disch := omega) only [pz, e, h1, n1, n2]
        rw [w1]
        refine Zd ?_
        simp (disch := omega) only [pz, Zxf]
      · simp (disch := omega) only [pz, e, h2, q2]
        rw [w2]
        refine Zd ?_
        simp (disch := omega) only [pz, Zxj]
    · have q1 : Zxh kind = some ⟨#[]⟩ := by
        unfold Zxh ZY
        by_cases g : 1 ≤ kind
        · have g2 : ¬ kind ≤ 7 := fun h => hk ⟨g, h⟩
          simp (disch := omega) only [pz, ]
        · simp (disch := omega) only [pz, ]
      have q2 : Zxc kind = some false := by
        unfold Zxc Z0
        by_cases g : 1 ≤ kind
        · have g2 : ¬ kind ≤ 7 := fun h => hk ⟨g, h⟩
          simp (disch := omega) only [pz, ]
        · simp (disch := omega) only [pz, ]
      have n2 : ((⟨#[]⟩ : ByteArray).toList == (⟨#[]⟩ : ByteArray).toList) = true := by simp
      exact ⟨([], 2), by simp (disch := omega) only [pz, e, h1, q1, n2], by simp (disch := omega) only [pz, e, h2, q2], by simp⟩
end Go.Proofs.YtapkemdomnkccaaGreat
namespace Go.Proofs.YtapkemdomnkccaaGreat
open Go Go.Vc
set_option linter.unusedSimpArgs false
set_option linter.unusedVariables false
theorem ZzX {a : ZwT} {kind : Int} (ha : ZyD a) (hk : I64 kind) : Zye a kind = some true := by
  unfold Zye
  obtain ⟨r, hr, c⟩ := ZzN a 1048576 ha (by omega) (by omega)
  have e : ZwT.mk a.Items = a := rfl
  rcases c with rfl | ⟨r0, r1, sa⟩
  · simp (disch := omega) only [pz, e, hr]
  · have hz := ZAK sa
    have ht := ZzH sa
    generalize ZxD a = x at hz ht
    have e2 : ZwS.mk x.Items = x := rfl
    obtain ⟨⟨g, n⟩, h1, h2, h3⟩ := ZAN hz kind
    dsimp only at h3
    have hq := (ZAw (a := g) (b := g) ⟨by unfold M63; omega, fun _ _ => trivial⟩).eq rfl
    have hq2 := (ZAI (ZAb hz)).eq (rfl : x = x)
    have hm := ZAV hz
    have hk1 := Zzf x.Items 1
    have n0 : ¬ (kItems 1 x.Items < 0) := by omega
    have hg := Zzy (xs := g) (k := 1) (by omega) (by omega) (by omega)
    have hh := ZzQ (n := g.length) (k := 1) (by omega) (by omega) (by omega) (by omega)
    have k3 : ZxM (1 + (g.length : Int), marksT 1 g.length) = some true := by
      unfold ZxM
      simp (disch := omega) only [pz, hh]
    have k2 : ZxB a kind (g, n) (g, n) = some true := by
      unfold ZxB
      simp (disch := omega) only [pz, hg, hh, e, ht, h2, hq, k3]
    have k1 : ZxX a kind (g, n) x (g, n) = some true := by
      unfold ZxX
      simp (disch := omega) only [pz, e, ht, e2, hq2, hm, hq, k2]
    simp (disch := omega) only [pz, e, hr, ht, h1, e2, h2, hq, k1]
end Go.Proofs.YtapkemdomnkccaaGreat
