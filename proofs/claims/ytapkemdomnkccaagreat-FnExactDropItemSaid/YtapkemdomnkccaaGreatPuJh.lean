/- Marks on lists of integers, and on lists of such lists. -/
import Derived.Test.YtapkemdomnkccaaGreatPuFam
import Derived.Test.YtapkemdomnkccaaGreatPuJg
namespace Go.Proofs.YtapkemdomnkccaaGreat
open Go Go.Vc
set_option linter.unusedSimpArgs false
def marks (k : Int) (n : Nat) : List Int := (List.range n).map fun (j : Nat) => k + (j : Int)
theorem ZbK (k : Int) (n : Nat) : (marks k n).length = n := by unfold marks; simp
theorem ZqD {k : Int} {n j : Nat} (h : j < n) : (marks k n)[j]? = some (k + (j : Int)) := by
  unfold marks; rw [List.getElem?_map, List.getElem?_range h]; rfl
theorem ZnR {xs : List Int} {k : Int} (h : xs.length ≤ 4194304) (h0 : 0 ≤ k) (h1 : k ≤ 9100000000000000000) : ZcS xs k = some (k + (xs.length : Int), marks k xs.length) := by
  unfold ZcS
  let f : Nat → Int × Int × List Int := fun j => (k + (j : Int), (j : Int), marks k j ++ xs.drop j)
  have e0 : f 0 = (k, 0, xs) := by simp [f, marks]
  have e1 : f xs.length = (k + (xs.length : Int), (xs.length : Int), marks k xs.length) := by simp only [f]; rw [List.drop_length, List.append_nil]
  rw [← e0, Zd7 f xs.length fun j hj => ?_, e1]
  · refine Zd ?_
    rw [Zel]
    have : decide ((xs.length : Int) < ((marks k xs.length).length : Int)) = false := by rw [ZbK]; simp
    rw [this]; rfl
  · obtain ⟨x, hx⟩ := Za5 (xs := xs) (k := j) hj
    have hl : (marks k j ++ xs.drop j).length = xs.length := by rw [List.length_append, ZbK, List.length_drop]; omega
    have hc : (marks k j ++ xs.drop j)[j]? = some x := by
      rw [List.getElem?_append_right (by rw [ZbK]; omega), ZbK, Nat.sub_self, List.getElem?_drop]; simpa using hx
    simp only [f]
    rw [Zel]
    have : decide ((j : Int) < ((marks k j ++ xs.drop j).length : Int)) = true := by rw [hl]; simpa using hj
    rw [this, Zak hc]
    simp only [cond_true, Option.bind_some]
    rw [wrapN hj (by unfold M63; omega), Zbf (by omega) (by omega), Int.toNat_natCast]
    have hs : (marks k j ++ xs.drop j).set j (k + (j : Int)) = marks k (j + 1) ++ xs.drop (j + 1) := by
      rw [List.set_append, if_neg (by rw [ZbK]; omega), ZbK, Nat.sub_self]
      have hd : xs.drop j = x :: xs.drop (j + 1) := by
        rw [List.drop_eq_getElem_cons hj]
        congr 1
        have := List.getElem?_eq_getElem (l := xs) (i := j) hj
        rw [hx] at this; exact (Option.some.inj this).symm
      rw [hd]
      unfold marks
      rw [List.range_succ, List.map_append]; simp
    rw [hs, show k + (j : Int) + 1 = k + ((j + 1 : Nat) : Int) by omega]
theorem ZrG {n : Nat} {k : Int} (h : n ≤ 4194304) (h0 : 0 ≤ k) (h1 : k ≤ 9100000000000000000) : Ze0 (marks k n) k = some (k + (n : Int)) := by
  unfold Ze0
  let f : Nat → Int × Int := fun j => (k + (j : Int), (j : Int))
  have e0 : f 0 = (k, 0) := by simp [f]
  rw [← e0, Zd7 f n fun j hj => ?_]
  · refine Zd ?_
    simp only [f]
    rw [Zg2]
    have : decide ((n : Int) < ((marks k n).length : Int)) = false := by rw [ZbK]; simp
    rw [this]; rfl
  · simp only [f]
    rw [Zg2]
    have : decide ((j : Int) < ((marks k n).length : Int)) = true := by rw [ZbK]; simpa using hj
    rw [this, Zak (ZqD hj)]
    simp only [cond_true, Option.bind_some]
    have hb : ((k + (j : Int)) != (k + (j : Int))) = false := by simp
    rw [hb]
    simp only [cond_false]
    rw [wrapN hj (by unfold M63; omega), Zbf (by omega) (by omega), show k + (j : Int) + 1 = k + ((j + 1 : Nat) : Int) by omega]
def marksR : Int → List (List Int) → List (List Int)
  | _, [] => []
  | k, r :: rs => marks k r.length :: marksR (k + r.length) rs
def total : List (List Int) → Nat
  | [] => 0
  | r :: rs => r.length + total rs
theorem Zm6 : ∀ (xs : List (List Int)), (∀ r ∈ xs, r.length ≤ 4194304) → total xs ≤ xs.length * 4194304
  | [], _ => by simp [total]
  | r :: rs, h => by
    have h1 := h r (List.mem_cons_self ..)
    have h2 := Zm6 rs fun x hx => h x (List.mem_cons_of_mem _ hx)
    simp only [total, List.length_cons]; omega
theorem Zgy : ∀ (k : Int) (xs : List (List Int)), (marksR k xs).length = xs.length
  | _, [] => rfl
  | k, r :: rs => by simp [marksR, Zgy]
theorem Zvv {xs : List (List Int)} {j : Nat} {r : List Int} (h : xs[j]? = some r) : total (xs.take (j + 1)) = total (xs.take j) + r.length := by
  induction xs generalizing j with
  | nil => simp at h
  | cons x xs ih =>
    cases j with
    | zero => simp at h; subst h; simp [total]
    | succ j => simp only [List.take_succ_cons, total]; rw [ih (by simpa using h)]; omega
theorem Zr6 {xs : List (List Int)} {j : Nat} {r : List Int} (h : xs[j]? = some r) : ∀ k : Int, (marksR k xs)[j]? = some (marks (k + (total (xs.take j) : Int)) r.length) := by
  induction xs generalizing j with
  | nil => simp at h
  | cons x xs ih =>
    intro k
    cases j with
    | zero => simp at h; subst h; simp [marksR, total]
    | succ j =>
      simp only [marksR, List.getElem?_cons_succ, List.take_succ_cons, total]
      rw [ih (by simpa using h)]
      congr 2; omega
theorem Zo8 (xs : List (List Int)) (j : Nat) : total (xs.take j) ≤ total xs := by
  induction xs generalizing j with
  | nil => simp [total]
  | cons x xs ih =>
    cases j with
    | zero => simp [total]
    | succ j => simp only [List.take_succ_cons, total]; have := ih j; omega
theorem Zwj {xs : List (List Int)} {k : Int} (h : xs.length ≤ 4194304) (hr : ∀ r ∈ xs, r.length ≤ 4194304) (h0 : 0 ≤ k) (h1 : k ≤ 9000000000000000000) : Zek xs k = some (k + (total xs : Int), marksR k xs) := by
  have htot := Zm6 xs hr
  have htb : total xs ≤ 17592186044416 := Nat.le_trans htot (by omega)
  unfold Zek
  let f : Nat → Int × Int × List (List Int) := fun j => (k + (total (xs.take j) : Int), (j : Int), (marksR k xs).take j ++ xs.drop j)
  have e0 : f 0 = (k, 0, xs) := by simp [f, total]
  have e1 : f xs.length = (k + (total xs : Int), (xs.length : Int), marksR k xs) := by
    simp only [f]; rw [List.take_length, List.drop_length, List.append_nil, List.take_of_length_le (by rw [Zgy]; omega)]
  rw [← e0, Zd7 f xs.length fun j hj => ?_, e1]
  · refine Zd ?_
    rw [Zgr]
    have : decide ((xs.length : Int) < ((marksR k xs).length : Int)) = false := by rw [Zgy]; simp
    rw [this]; rfl
  · obtain ⟨r, hx⟩ := Za5 (xs := xs) (k := j) hj
    have htl : ((marksR k xs).take j).length = j := by rw [List.length_take, Zgy]; omega
    have hl : ((marksR k xs).take j ++ xs.drop j).length = xs.length := by rw [List.length_append, htl, List.length_drop]; omega
    have hc : ((marksR k xs).take j ++ xs.drop j)[j]? = some r := by
      rw [List.getElem?_append_right (by omega), htl, Nat.sub_self, List.getElem?_drop]; simpa using hx
    have htm := Zo8 xs j
    simp only [f]
    rw [Zgr]
    have : decide ((j : Int) < (((marksR k xs).take j ++ xs.drop j).length : Int)) = true := by rw [hl]; simpa using hj
    rw [this, Zak hc]
    simp only [cond_true, Option.bind_some]
    rw [ZnR (hr r (List.mem_of_getElem? hx)) (by omega) (by omega)]
    simp only [Option.bind_some]
    rw [wrapN hj (by unfold M63; omega), Int.toNat_natCast]
    have hs : ((marksR k xs).take j ++ xs.drop j).set j (marks (k + (total (xs.take j) : Int)) r.length) = (marksR k xs).take (j + 1) ++ xs.drop (j + 1) := by
      rw [List.set_append, if_neg (by omega), htl, Nat.sub_self, List.take_add_one, Zr6 hx]
      have hd : xs.drop j = r :: xs.drop (j + 1) := by
        rw [List.drop_eq_getElem_cons hj]
        congr 1
        have := List.getElem?_eq_getElem (l := xs) (i := j) hj
        rw [hx] at this; exact (Option.some.inj this).symm
      rw [hd]; simp
    rw [hs, Zvv hx, show k + (total (xs.take j) : Int) + (r.length : Int) = k + ((total (xs.take j) + r.length : Nat) : Int) by omega]
end Go.Proofs.YtapkemdomnkccaaGreat
namespace Go.Proofs.YtapkemdomnkccaaGreat
set_option linter.unusedVariables false
open Go Go.Vc
set_option linter.unusedSimpArgs false
theorem ZCf {xs : List (List Int)} {k : Int} (h : xs.length ≤ 4194304) (hr : ∀ r ∈ xs, r.length ≤ 4194304) (h0 : 0 ≤ k) (h1 : k ≤ 9000000000000000000) : ZA9 (marksR k xs) k = some (k + (total xs : Int)) := by
  have htot := Zm6 xs hr
  have htb : total xs ≤ 17592186044416 := Nat.le_trans htot (by omega)
  unfold ZA9
  let f : Nat → Int × Int := fun j => (k + (total (xs.take j) : Int), (j : Int))
  have e0 : f 0 = (k, 0) := by simp [f, total]
  have e1 : f xs.length = (k + (total xs : Int), (xs.length : Int)) := by simp only [f]; rw [List.take_length]
  rw [← e0, Zd7 f xs.length fun j hj => ?_, e1]
  · refine Zd ?_
    rw [ZBg]
    have : decide ((xs.length : Int) < ((marksR k xs).length : Int)) = false := by rw [Zgy]; simp
    rw [this]; rfl
  · obtain ⟨r, hx⟩ := Za5 (xs := xs) (k := j) hj
    have htm := Zo8 xs j
    have htm2 := Zo8 xs (j + 1)
    simp only [f]
    rw [ZBg]
    have : decide ((j : Int) < ((marksR k xs).length : Int)) = true := by rw [Zgy]; simpa using hj
    rw [this, Zak (Zr6 hx k)]
    simp only [cond_true, Option.bind_some]
    rw [ZrG (hr r (List.mem_of_getElem? hx)) (by omega) (by omega)]
    simp only [Option.bind_some]
    have hneg : decide (k + (total (xs.take j) : Int) + (r.length : Int) < 0) = false := by simp; omega
    rw [hneg]
    simp only [cond_false]
    rw [wrapN hj (by unfold M63; omega), Zvv hx, show k + (total (xs.take j) : Int) + (r.length : Int) = k + ((total (xs.take j) + r.length : Nat) : Int) by omega]
end Go.Proofs.YtapkemdomnkccaaGreat
namespace Go.Proofs.YtapkemdomnkccaaGreat
set_option linter.unusedVariables false
open Go Go.Vc
set_option linter.unusedSimpArgs false
set_option linter.unusedVariables false
theorem Zzc {a b : ByteArray} (h : a.size + b.size ≤ 1000) : gFit a b = some () := by
  unfold gFit
  rw [if_pos]
  have : IntKind.i64.max = 9223372036854775807 := rfl
  omega
theorem gByt1 {x : Int} (h0 : 0 ≤ x) (h1 : x ≤ 255) : gByt [x] = some (bstr [x]) := by
  unfold gByt
  rw [if_pos]
  intro y hy
  simp at hy
  omega
theorem bstr1 (x : Int) : (bstr [x]).size = 1 := rfl
theorem ZAD (a b : ByteArray) : (a ++ b).size = a.size + b.size := by simp
theorem ZAx : ∀ (n : Nat) (k : Int) (out : ByteArray), 0 ≤ k → k < 10 ^ n → k ≤ 9223372036854775807 → out.size + n ≤ 100 → ∃ t, loop Zxm (k, out) = some t := by
  have hend : ∀ out : ByteArray, out.size ≤ 100 → loop Zxm (0, out) = some ((⟨#[109]⟩ : ByteArray) ++ out) := fun out h => by
    have hf : gFit ⟨#[109]⟩ out = some () := Zzc (by show 1 + out.size ≤ 1000; omega)
    refine Zd ?_
    simp (disch := omega) only [pz, Zxm, hf]
  intro n
  induction n with
  | zero =>
    intro k out h0 h1 _ h2
    have : k = 0 := by simp at h1; omega
    subst this
    exact ⟨_, hend out (by omega)⟩
  | succ n ih =>
    intro k out h0 h1 h3 h2
    by_cases hk : k = 0
    · subst hk; exact ⟨_, hend out (by omega)⟩
    · have hm : Int.tmod k 10 = k % 10 := Int.tmod_eq_emod_of_nonneg h0
      have hd : Int.tdiv k 10 = k / 10 := Int.tdiv_eq_ediv_of_nonneg h0
      have w1 : IntKind.i64.wrap (48 + k % 10) = 48 + k % 10 := Zbf (by omega) (by omega)
      have w2 : IntKind.u8.wrap (48 + k % 10) = 48 + k % 10 := u8_of (by omega) (by omega)
      have hb := gByt1 (x := 48 + k % 10) (by omega) (by omega)
      have hf : gFit (bstr [48 + k % 10]) out = some () := Zzc (by rw [bstr1]; omega)
      have hp : k / 10 < 10 ^ n := by
        have e : (10 : Int) ^ (n + 1) = 10 ^ n * 10 := Int.pow_succ ..
        omega
      obtain ⟨t, ht⟩ := ih (k / 10) (bstr [48 + k % 10] ++ out) (by omega) hp (by omega) (by rw [ZAD, bstr1]; omega)
      refine ⟨t, ?_⟩
      rw [← ht]
      refine ZG ?_
      simp (disch := omega) only [pz, Zxm, hm, hd, w1, w2, hb, hf]
theorem mtext {k : Int} (h1 : k ≤ 9223372036854775807) : ∃ t, Zw4 k = some t := by
  unfold Zw4
  by_cases h : k ≤ 0
  · exact ⟨⟨#[109, 48]⟩, by simp (disch := omega) only [pz, ]⟩
  · obtain ⟨t, ht⟩ := ZAx 19 k ⟨#[]⟩ (by omega) (by omega) h1 (by decide)
    exact ⟨t, by simp (disch := omega) only [pz, ht]⟩
noncomputable def mtx (k : Int) : ByteArray := (Zw4 k).getD ⟨#[]⟩
theorem Zyd {k : Int} (h1 : k ≤ 9223372036854775807) : Zw4 k = some (mtx k) := by
  obtain ⟨t, ht⟩ := mtext h1
  unfold mtx
  rw [ht]; rfl
end Go.Proofs.YtapkemdomnkccaaGreat
namespace Go.Proofs.YtapkemdomnkccaaGreat
set_option linter.unusedVariables false
open Go Go.Vc
set_option linter.unusedSimpArgs false
set_option linter.unusedVariables false
noncomputable def mIt (k : Int) (x : ZwR) : ZwR := ⟨mtx k, ⟨k + 1, k + 1 + 1, marksR (k + 1 + 1 + 1) x.Object.Rows⟩, mtx (k + 1 + 1 + 1 + (total x.Object.Rows : Int))⟩
def kIt (k : Int) (x : ZwR) : Int := k + 1 + 1 + 1 + (total x.Object.Rows : Int) + 1
noncomputable def mItems : Int → List ZwR → List ZwR
  | _, [] => []
  | k, x :: xs => mIt k x :: mItems (kIt k x) xs
def kItems : Int → List ZwR → Int
  | k, [] => k
  | k, x :: xs => kItems (kIt k x) xs
theorem ZCL : ∀ (k : Int) (xs : List ZwR), (mItems k xs).length = xs.length
  | _, [] => rfl
  | k, x :: xs => by simp [mItems, ZCL]
theorem Zy8 {r : List (List Int)} (h : Sz2 r) : total r ≤ 4398046511104 := by
  have h1 := h.1
  have h2 := Zm6 r fun x hx => by have := h.2 x hx; omega
  omega
theorem gMid {α : Type} {A C : List α} {y : α} : gIdx (A ++ y :: C) (A.length : Int) = some y := by
  unfold gIdx
  rw [if_pos (by omega), Int.toNat_natCast, List.getElem?_append_right (Nat.le_refl _), Nat.sub_self]; rfl
theorem sMid {α : Type} {A C : List α} {y z : α} : (A ++ y :: C).set A.length z = A ++ z :: C := by
  rw [List.set_append_right _ _ (Nat.le_refl _), Nat.sub_self]; rfl
theorem iMid {α : Type} [Inhabited α] {A C : List α} {y : α} : ix (A ++ y :: C) (A.length : Int) = y := ixMid rfl
theorem ZzL {A C : List ZwR} {b : ZwR} {k : Int} (hs : Sz2 b.Object.Rows) (h0 : 0 ≤ k) (h1 : k ≤ 8900000000000000000) (hA : A.length + C.length ≤ 4194304) :
    Zxe (k, (A.length : Int), A ++ b :: C) = some (.inl (kIt k b, (A.length : Int) + 1, A ++ mIt k b :: C)) := by
  have hl : ((A ++ b :: C).length : Int) = (A.length : Int) + 1 + (C.length : Int) := by simp; omega
  have ht := Zy8 hs
  have hm := Zwj (xs := b.Object.Rows) (k := k + 1 + 1 + 1) (by have := hs.1; omega) (fun r hr => by have := hs.2 r hr; omega) (by omega) (by omega)
  have t1 := Zyd (k := k) (by omega)
  have t2 := Zyd (k := k + 1 + 1 + 1 + (total b.Object.Rows : Int)) (by omega)
  have w1 : IntKind.i64.wrap (k + 1 + 1 + 1 + (total b.Object.Rows : Int) + 1) = k + 1 + 1 + 1 + (total b.Object.Rows : Int) + 1 := Zbf (by omega) (by omega)
  simp (disch := omega) only [pz, Zxe, gMid, iMid, sMid, t1, hm, t2, w1, mIt, kIt]
theorem Zz4 : ∀ (C A : List ZwR) (k : Int), (∀ x ∈ C, Sz2 x.Object.Rows) → 0 ≤ k → k + C.length * 4398046511108 ≤ 8900000000000000000 → A.length + C.length ≤ 4194304 →
    loop Zxe (k, (A.length : Int), A ++ C) = some (kItems k C, A ++ mItems k C) := by
  intro C
  induction C with
  | nil =>
    intro A k _ h0 _ hA
    refine Zd ?_
    have hl : (((A ++ []).length : Nat) : Int) = (A.length : Int) := by simp
    simp (disch := omega) only [pz, Zxe, hl, kItems, mItems, List.append_nil]
  | cons b C ih =>
    intro A k hs h0 h1 hA
    rw [List.length_cons] at h1 hA
    have hb := hs b (List.mem_cons_self ..)
    have ht := Zy8 hb
    rw [ZG (ZzL hb h0 (by omega) (by omega))]
    have e : A ++ mIt k b :: C = (A ++ [mIt k b]) ++ C := by simp
    have el : (A.length : Int) + 1 = ((A ++ [mIt k b]).length : Int) := by simp
    rw [e, el, ih (A ++ [mIt k b]) (kIt k b) (fun x hx => hs x (List.mem_cons_of_mem _ hx)) (by unfold kIt; omega) (by unfold kIt; omega) (by simp; omega)]
    simp [kItems, mItems]
theorem Zzf : ∀ (C : List ZwR) (k : Int), k ≤ kItems k C
  | [], k => Int.le_refl _
  | x :: C, k => by
    have := Zzf C (kIt k x)
    unfold kItems
    unfold kIt at this ⊢
    omega
theorem ZAV {c : ZwS} (hs : Szc c.Items) : ZxY c 1 = some (kItems 1 c.Items, ⟨mItems 1 c.Items⟩) := by
  have h := Zz4 c.Items [] 1 hs.2 (by omega) (by have := hs.1; omega) (by have := hs.1; simp; omega)
  have e : Zx9 c.Items 1 = some (kItems 1 c.Items, mItems 1 c.Items) := h
  unfold ZxY
  simp (disch := omega) only [pz, e]
end Go.Proofs.YtapkemdomnkccaaGreat
namespace Go.Proofs.YtapkemdomnkccaaGreat
set_option linter.unusedVariables false
open Go Go.Vc
set_option linter.unusedSimpArgs false
set_option linter.unusedVariables false
theorem ZCX {A D : List ZwR} {b : ZwR} {k : Int} (hs : Sz2 b.Object.Rows) (h0 : 0 ≤ k) (h1 : k ≤ 8900000000000000000) (hA : A.length + D.length ≤ 4194304) :
    ZCp (A ++ mIt k b :: D) (k, (A.length : Int)) = some (.inl (kIt k b, (A.length : Int) + 1)) := by
  have hl : ((A ++ mIt k b :: D).length : Int) = (A.length : Int) + 1 + (D.length : Int) := by simp; omega
  have ht := Zy8 hs
  have hm := ZCf (xs := b.Object.Rows) (k := k + 1 + 1 + 1) (by have := hs.1; omega) (fun r hr => by have := hs.2 r hr; omega) (by omega) (by omega)
  have t1 := Zyd (k := k) (by omega)
  have t2 := Zyd (k := k + 1 + 1 + 1 + (total b.Object.Rows : Int)) (by omega)
  have w1 : IntKind.i64.wrap (k + 1 + 1 + 1 + (total b.Object.Rows : Int) + 1) = k + 1 + 1 + 1 + (total b.Object.Rows : Int) + 1 := Zbf (by omega) (by omega)
  have f1 : (mIt k b).Name = mtx k := rfl
  have f2 : (mIt k b).Object.Kind = k + 1 := rfl
  have f3 : (mIt k b).Object.Size = k + 1 + 1 := rfl
  have f4 : (mIt k b).Object.Rows = marksR (k + 1 + 1 + 1) b.Object.Rows := rfl
  have f5 : (mIt k b).Key = mtx (k + 1 + 1 + 1 + (total b.Object.Rows : Int)) := rfl
  have e1 : ((mtx k).toList == (mtx k).toList) = true := by simp
  have e2 : ((mtx (k + 1 + 1 + 1 + (total b.Object.Rows : Int))).toList == (mtx (k + 1 + 1 + 1 + (total b.Object.Rows : Int))).toList) = true := by simp
  simp (disch := omega) only [pz, ZCp, gMid, iMid, t1, f1, e1, f2, f3, f4, hm, t2, f5, e2, w1, kIt]
theorem ZCS : ∀ (C A : List ZwR) (k : Int), (∀ x ∈ C, Sz2 x.Object.Rows) → 0 ≤ k → k + C.length * 4398046511108 ≤ 8900000000000000000 → A.length + C.length ≤ 4194304 →
    loop (ZCp (A ++ mItems k C)) (k, (A.length : Int)) = some (kItems k C) := by
  intro C
  induction C with
  | nil =>
    intro A k _ h0 _ hA
    refine Zd ?_
    have hl : (((A ++ mItems k []).length : Nat) : Int) = (A.length : Int) := by simp [mItems]
    simp (disch := omega) only [pz, ZCp, hl, kItems]
  | cons b C ih =>
    intro A k hs h0 h1 hA
    rw [List.length_cons] at h1 hA
    have hb := hs b (List.mem_cons_self ..)
    have ht := Zy8 hb
    have hst := ZCX (A := A) (D := mItems (kIt k b) C) hb h0 (by omega) (by rw [ZCL]; omega)
    show loop (ZCp (A ++ mIt k b :: mItems (kIt k b) C)) _ = _
    rw [ZG hst]
    have e : A ++ mIt k b :: mItems (kIt k b) C = (A ++ [mIt k b]) ++ mItems (kIt k b) C := by simp
    have el : (A.length : Int) + 1 = ((A ++ [mIt k b]).length : Int) := by simp
    rw [e, el, ih (A ++ [mIt k b]) (kIt k b) (fun x hx => hs x (List.mem_cons_of_mem _ hx)) (by unfold kIt; omega) (by unfold kIt; omega) (by simp; omega)]
    rfl
theorem ZCZ {c : List ZwR} (hs : Szc c) : ZCs ⟨mItems 1 c⟩ 1 = some (kItems 1 c) := by
  have h := ZCS c [] 1 hs.2 (by omega) (by have := hs.1; omega) (by have := hs.1; simp; omega)
  have e : ZCz (mItems 1 c) 1 = some (kItems 1 c) := h
  have hk := Zzf c 1
  unfold ZCs
  simp (disch := omega) only [pz, e]
end Go.Proofs.YtapkemdomnkccaaGreat
namespace Go.Proofs.YtapkemdomnkccaaGreat
set_option linter.unusedVariables false
open Go Go.Vc
set_option linter.unusedSimpArgs false
set_option linter.unusedVariables false
def Bl (a b : ByteArray) : Prop := Op.bytesLess a.toList b.toList = true
instance (a b : ByteArray) : Decidable (Bl a b) := inferInstanceAs (Decidable (_ = true))
theorem ZCd (a : List UInt8) : Op.bytesLess a a = false := by
  have h := ZyB a a
  have e : (a == a) = true := by simp
  rw [e, Bool.or_true] at h
  cases hb : Op.bytesLess a a with
  | false => rfl
  | true => rw [hb] at h; cases h
theorem ZBD : ∀ a b c : List UInt8, Op.bytesLess a b = true → Op.bytesLess b c = true → Op.bytesLess a c = true
  | a, [], c, h, _ => by cases a <;> cases h
  | _, _ :: _, [], _, k => by cases k
  | [], _ :: _, _ :: _, _, _ => rfl
  | a :: x, b :: y, c :: z, h, k => by
    have h' : (decide (a < b) || (a == b && Op.bytesLess x y)) = true := h
    have k' : (decide (b < c) || (b == c && Op.bytesLess y z)) = true := k
    show (decide (a < c) || (a == c && Op.bytesLess x z)) = true
    simp only [Bool.or_eq_true, decide_eq_true_eq, Bool.and_eq_true, beq_iff_eq] at h' k' ⊢
    have tr : ∀ {p q r : UInt8}, p < q → q < r → p < r := fun g1 g2 => by
      have g1 := UInt8.lt_iff_toNat_lt.1 g1
      have g2 := UInt8.lt_iff_toNat_lt.1 g2
      exact UInt8.lt_iff_toNat_lt.2 (by omega)
    rcases h' with h' | ⟨rfl, h'⟩
    · rcases k' with k' | ⟨rfl, k'⟩
      · exact .inl (tr h' k')
      · exact .inl h'
    · rcases k' with k' | ⟨rfl, k'⟩
      · exact .inl k'
      · exact .inr ⟨rfl, ZBD x y z h' k'⟩
theorem Bl.trans {a b c : ByteArray} (h : Bl a b) (k : Bl b c) : Bl a c := ZBD _ _ _ h k
theorem Bl.irr {a : ByteArray} (h : Bl a a) : False := by
  unfold Bl at h; rw [ZCd] at h; cases h
theorem ZB3 {c : List ZwR} (hc : CatV c) : ∀ (d : Nat) (i j : Int), 0 ≤ i → i < j → j < (c.length : Int) → j - i ≤ d → Bl (ix c i).Name (ix c j).Name := by
  intro d
  induction d with
  | zero => intro i j h0 h1 h2 h3; omega
  | succ d ih =>
    intro i j h0 h1 h2 h3
    have ho : Bl (ix c (j - 1)).Name (ix c j).Name := (hc.at_ j (by omega) h2).ord (by omega)
    by_cases h : i = j - 1
    · rw [h]; exact ho
    · exact (ih i (j - 1) h0 (by omega) (by omega) (by omega)).trans ho
def Rise (c : List ZwR) : Prop := ∀ i j : Int, 0 ≤ i → i < j → j < (c.length : Int) → Bl (ix c i).Name (ix c j).Name
theorem CatV.rise {c : List ZwR} (hc : CatV c) : Rise c := fun i j h0 h1 h2 => ZB3 hc (j - i).toNat i j h0 h1 h2 (by omega)
structure Plc (c : List ZwR) (name : ByteArray) (k : Int) (b : Bool) : Prop where
  k0 : 0 ≤ k
  k1 : k ≤ (c.length : Int)
  lo : ∀ j, 0 ≤ j → j < k → Bl (ix c j).Name name
  hi : ∀ j, k ≤ j → j < (c.length : Int) → ¬ Bl (ix c j).Name name
  eq : b = true ↔ k < (c.length : Int) ∧ (ix c k).Name = name
theorem Plc.none {c : List ZwR} {name : ByteArray} {k : Int} {b : Bool} (hc : Rise c) (p : Plc c name k b) (hb : b = false) : ∀ j, 0 ≤ j → j < (c.length : Int) → ¬ (ix c j).Name = name := fun j h0 h1 e => by
  have h2 : k ≤ j := by
    rcases Int.lt_or_le j k with g | g
    · have := p.lo j h0 g
      rw [e] at this
      exact this.irr.elim
    · exact g
  by_cases h3 : k = j
  · subst h3
    rw [p.eq.2 ⟨h1, e⟩] at hb; cases hb
  · have h4 := hc k j p.k0 (by omega) h1
    rw [e] at h4
    exact p.hi k (Int.le_refl _) (by omega) h4
theorem ZBE (x : ZwR) (name : ByteArray) : ZA0 x name = some (if Bl x.Name name then -1 else if x.Name = name then 0 else 1) := by
  have n1 : ∀ s : ByteArray, ZA2 s = some false := fun s => by
    unfold ZA2
    have : (s.toList == s.toList) = true := by simp
    rw [this]; rfl
  unfold ZA0 ZBk
  by_cases h : Bl x.Name name
  · have h' : Op.bytesLess x.Name.toList name.toList = true := h
    rw [if_pos h]
    simp (disch := omega) only [pz, n1, h']
  · have h' : Op.bytesLess x.Name.toList name.toList = false := by
      cases hb : Op.bytesLess x.Name.toList name.toList with
      | false => rfl
      | true => exact absurd hb h
    rw [if_neg h]
    by_cases e : x.Name = name
    · have e' := (Zxr x.Name name).2 e
      rw [if_pos e]
      simp (disch := omega) only [pz, n1, h', e', Bool.false_or]
    · have e' : (x.Name.toList == name.toList) = false := by
        cases hb : (x.Name.toList == name.toList) with
        | false => rfl
        | true => exact absurd ((Zxr _ _).1 hb) e
      rw [if_neg e]
      simp (disch := omega) only [pz, n1, h', e', Bool.false_or]
theorem ZCh {c : ZwS} {name : ByteArray} (hc : Rise c.Items) (hl : (c.Items.length : Int) ≤ 1048576) : ∃ k b, ZA7 c name = some (k, b) ∧ Plc c.Items name k b := by
  unfold ZA7 ZBh
  generalize hB0 : ZAZ c.Items name (fun y0 y1 => ZA0 y0 y1) = B
  have key : ∀ (d : Nat) (lo hi : Int), (hi - lo).toNat ≤ d → 0 ≤ lo → lo ≤ hi → hi ≤ (c.Items.length : Int) → (∀ j, 0 ≤ j → j < lo → Bl (ix c.Items j).Name name) → (∀ j, hi ≤ j → j < (c.Items.length : Int) → ¬ Bl (ix c.Items j).Name name) → ∃ k b, loop B (lo, hi) = some (k, b) ∧ Plc c.Items name k b := by
    intro d
    induction d with
    | zero =>
      intro lo hi hd h0 h1 h2 h3 h4
      obtain rfl : lo = hi := by omega
      by_cases hlt : lo < (c.Items.length : Int)
      · have hcm := ZBE (ix c.Items lo) name
        rw [if_neg (h4 lo (Int.le_refl _) hlt)] at hcm
        by_cases e : (ix c.Items lo).Name = name
        · rw [if_pos e] at hcm
          exact ⟨lo, true, Zd (by rw [← hB0]; simp (disch := omega) only [pz, ZAZ, hcm]), ⟨h0, h2, h3, h4, by simp [hlt, e]⟩⟩
        · rw [if_neg e] at hcm
          exact ⟨lo, false, Zd (by rw [← hB0]; simp (disch := omega) only [pz, ZAZ, hcm]), ⟨h0, h2, h3, h4, by simp [e]⟩⟩
      · exact ⟨lo, false, Zd (by rw [← hB0]; simp (disch := omega) only [pz, ZAZ]), ⟨h0, h2, h3, h4, by simp [hlt]⟩⟩
    | succ d ih =>
      intro lo hi hd h0 h1 h2 h3 h4
      by_cases hlt : lo < hi
      · have hm := ZrH h0 h1 (show hi ≤ 1048576 by omega)
        have hmid : lo ≤ (lo + hi) / 2 ∧ (lo + hi) / 2 < hi := by omega
        have hcm := ZBE (ix c.Items ((lo + hi) / 2)) name
        have hn1 : gNn 1 = some () := rfl
        by_cases e : Bl (ix c.Items ((lo + hi) / 2)).Name name
        · rw [if_pos e] at hcm
          have hB : B (lo, hi) = some (.inl ((lo + hi) / 2 + 1, hi)) := by
            rw [← hB0]
            simp only [ZAZ, hm, hn1]
            simp (disch := omega) only [pz, hcm]
          rw [ZG hB]
          refine ih _ _ (by omega) (by omega) (by omega) h2 (fun j a b => ?_) h4
          by_cases hj : j = (lo + hi) / 2
          · rw [hj]; exact e
          · exact (hc j ((lo + hi) / 2) a (by omega) (by omega)).trans e
        · have hcm' : ∃ r : Int, ¬ r < 0 ∧ ZA0 (ix c.Items ((lo + hi) / 2)) name = some r := by
            rw [if_neg e] at hcm
            refine ⟨_, ?_, hcm⟩
            split <;> omega
          obtain ⟨r, hr, hcr⟩ := hcm'
          have hB : B (lo, hi) = some (.inl (lo, (lo + hi) / 2)) := by
            rw [← hB0]
            simp only [ZAZ, hm, hn1]
            simp (disch := omega) only [pz, hcr]
          rw [ZG hB]
          refine ih _ _ (by omega) h0 (by omega) (by omega) h3 fun j a b => ?_
          by_cases hj : j = (lo + hi) / 2
          · rw [hj]; exact e
          · exact fun g => e ((hc ((lo + hi) / 2) j (by omega) (by omega) b).trans g)
      · exact ih lo hi (by omega) h0 h1 h2 h3 h4
  obtain ⟨k, b, h1, h2⟩ := key _ 0 c.Items.length (Nat.le_refl _) (by omega) (by omega) (by omega) (fun j a b => by omega) fun j a b => by omega
  exact ⟨k, b, by simp (disch := omega) only [pz, h1], h2⟩
theorem ZB7 {c : ZwS} {name : ByteArray} {k : Int} {b : Bool} (hc : Rise c.Items) (hl : (c.Items.length : Int) ≤ 1048576) (p : Plc c.Items name k b) : ZBd c name = some (bif b then k else -1) := by
  have ne : ∀ {s : ByteArray}, ¬ s = name → (s.toList == name.toList) = false := fun {s} h => by
    cases hb : (s.toList == name.toList) with
    | false => rfl
    | true => exact absurd ((Zxr _ _).1 hb) h
  unfold ZBd
  cases b with
  | true =>
    obtain ⟨h1, h2⟩ := p.eq.1 rfl
    have k0 := p.k0
    have hgo := ZH (B := ZAY c name) (fun j => j) (i := 0) (n := k) p.k0 fun j j0 j1 => by
      have := ne (s := (ix c.Items j).Name) fun e => by
        have := p.lo j j0 j1
        rw [e] at this
        exact this.irr
      simp (disch := omega) only [pz, ZAY, this]
    rw [hgo]
    refine Zd ?_
    have := (Zxr (ix c.Items k).Name name).2 h2
    simp (disch := omega) only [pz, ZAY, this]
  | false =>
    have hn := p.none hc rfl
    have hgo := ZH (B := ZAY c name) (fun j => j) (i := 0) (n := c.Items.length) (by omega) fun j j0 j1 => by
      have := ne (hn j j0 j1)
      simp (disch := omega) only [pz, ZAY, this]
    rw [hgo]
    refine Zd ?_
    simp (disch := omega) only [pz, ZAY]
theorem ZCl {x : ZwR} (hs : Sz2 x.Object.Rows) : ZA6 x = some x := by
  unfold ZA6
  have h := ZuH hs
  simp (disch := omega) only [pz, h]
theorem ZBR {x : ZwR} (hs : Sz2 x.Object.Rows) : ZA5 x = some x := by
  unfold ZA5 ZBe
  have h := Zfk hs
  simp (disch := omega) only [pz, h]
end Go.Proofs.YtapkemdomnkccaaGreat
namespace Go.Proofs.YtapkemdomnkccaaGreat
set_option linter.unusedVariables false
open Go Go.Vc
set_option linter.unusedSimpArgs false
set_option linter.unusedVariables false
theorem ZCU {c : ZwS} (hs : Szc c.Items) : ZCx c = some c := by
  have hN := hs.1
  have ei : ∀ x : ZwR, ZwR.mk x.Name (Zx.mk x.Object.Kind x.Object.Size x.Object.Rows) x.Key = x := fun x => rfl
  unfold ZCx
  have w := ZH (B := ZCr c) (fun i => (i, c.Items.take i.toNat)) (i := 0) (n := c.Items.length) (by omega) fun i i0 i1 => by
    have hc := ZBR (hs.2 _ (ZW i0 i1))
    have ht := Zc3 i0 i1
    have hl : (c.Items.take i.toNat).length ≤ 1048576 := by rw [List.length_take]; omega
    simp (disch := omega) only [pz, ZCr, ei, hc, ht]
  have z0 : ((0 : Int), List.take (Int.toNat 0) c.Items) = ((0 : Int), ([] : List ZwR)) := rfl
  rw [z0] at w
  rw [w]
  refine Zd ?_
  simp (disch := omega) only [pz, ZCr]
theorem Szc.take {c : List ZwR} (hs : Szc c) (i j : Nat) (hij : i ≤ j) : Szc (c.take i ++ c.drop j) := by
  refine ⟨by rw [List.length_append, List.length_take, List.length_drop]; have := hs.1; omega, fun x hx => ?_⟩
  rcases List.mem_append.1 hx with h | h
  · exact hs.2 x (List.mem_of_mem_take h)
  · exact hs.2 x (List.mem_of_mem_drop h)
theorem ZDd {c : ZwS} (hs : Szc c.Items) (name : ByteArray) : ∃ r, ZCv c name = some r ∧ ZCq c name = some r ∧ Szc r.1.Items := by
  have hN := hs.1
  have e : ZwS.mk c.Items = c := rfl
  obtain ⟨b, h1, h2⟩ := two_q (ZzV hs) (Zzn hs)
  unfold ZCv ZCq
  have z : Szc ([] : List ZwR) := ⟨by simp, by simp⟩
  cases b with
  | false => exact ⟨(⟨[]⟩, 1), by simp (disch := omega) only [pz, e, h1], by simp (disch := omega) only [pz, e, h2], z⟩
  | true =>
    have hv : CatV c.Items := Classical.byContradiction fun g => by
      have := (ZzV hs).ne g
      rw [this] at h1; cases h1
    obtain ⟨k, b, p1, p2⟩ := ZCh (name := name) hv.rise hN
    have f1 := ZB7 hv.rise hN p2
    cases b with
    | false =>
      simp only [cond_false] at f1
      exact ⟨(⟨[]⟩, 3), by simp (disch := omega) only [pz, e, h1, f1], by simp (disch := omega) only [pz, e, h2, p1], z⟩
    | true =>
      simp only [cond_true] at f1
      have k0 := p2.k0
      obtain ⟨k1, _⟩ := p2.eq.1 rfl
      have hcp := ZCU hs
      have hd : ZCu c.Items k (k + 1) = some (c.Items.take k.toNat ++ c.Items.drop (k + 1).toNat) := by
        unfold ZCu
        rw [if_pos ⟨by omega, by omega, by omega, by omega, by omega⟩]
      have hfin : Szc (c.Items.take k.toNat ++ c.Items.drop (k + 1).toNat) := hs.take _ _ (by omega)
      refine ⟨(⟨c.Items.take k.toNat ++ c.Items.drop (k + 1).toNat⟩, 0), ?_, by simp (disch := omega) only [pz, e, h2, p1, hcp, hd], hfin⟩
      simp (disch := omega) only [pz, e, h1, f1]
      have own : ∀ i, 0 ≤ i → i < (c.Items.length : Int) → ZA6 (ix c.Items i) = some (ix c.Items i) := fun i i0 i1 => ZCl (hs.2 _ (ZW i0 i1))
      have w1 := ZH (B := ZCo c k) (fun i => (i, c.Items.take i.toNat)) (i := 0) (n := k) k0 fun i i0 i1 => by
        have hc := own i i0 (by omega)
        have ht := Zc3 (xs := c.Items) i0 (by omega)
        have hl : (c.Items.take i.toNat).length ≤ 1048576 := by rw [List.length_take]; omega
        simp (disch := omega) only [pz, ZCo, hc, ht]
      have z0 : ((0 : Int), List.take (Int.toNat 0) c.Items) = ((0 : Int), ([] : List ZwR)) := rfl
      rw [z0] at w1
      rw [w1]
      have w2 : ZCo c k (k, c.Items.take k.toNat) = some (.inl (k + 1, c.Items.take k.toNat)) := by
        simp (disch := omega) only [pz, ZCo]
      rw [ZG w2]
      have e0 : (c.Items.take k.toNat, c.Items.take k.toNat) = (c.Items.take k.toNat ++ (c.Items.take (k + 1).toNat).drop (k + 1).toNat, c.Items.take k.toNat) := by
        rw [List.drop_of_length_le (by rw [List.length_take]; omega), List.append_nil]
      have w3 := ZH (B := ZCo c k) (fun i => (i, c.Items.take k.toNat ++ (c.Items.take i.toNat).drop (k + 1).toNat)) (i := k + 1) (n := c.Items.length) (by omega) fun i i0 i1 => by
        have hc := own i (by omega) (by omega)
        have ht := Zc3 (xs := c.Items) (show 0 ≤ i by omega) (by omega)
        have hdr : (c.Items.take (i + 1).toNat).drop (k + 1).toNat = (c.Items.take i.toNat).drop (k + 1).toNat ++ [ix c.Items i] := by
          rw [ht, List.drop_append_of_le_length (by rw [List.length_take]; omega)]
        have hl : (c.Items.take k.toNat ++ (c.Items.take i.toNat).drop (k + 1).toNat).length ≤ 2097152 := by rw [List.length_append, List.length_drop, List.length_take, List.length_take]; omega
        simp (disch := omega) only [pz, ZCo, hc, hdr, ← List.append_assoc]
      have e1 := congrArg Prod.fst e0
      dsimp only at e1
      rw [show (k + 1, c.Items.take k.toNat) = (k + 1, c.Items.take k.toNat ++ (c.Items.take (k + 1).toNat).drop (k + 1).toNat) by rw [← e1], w3]
      refine Zd ?_
      simp (disch := omega) only [pz, ZCo]
end Go.Proofs.YtapkemdomnkccaaGreat
namespace Go.Proofs.YtapkemdomnkccaaGreat
set_option linter.unusedVariables false
open Go Go.Vc
set_option linter.unusedSimpArgs false
set_option linter.unusedVariables false
theorem ZCV {a : ZwT} {name : ByteArray} (ha : ZyD a) (hk : OkS name) : ZCC a name = some true := by
  unfold ZCC
  obtain ⟨r, hr, c⟩ := ZzN a 1048576 ha (by omega) (by omega)
  have e : ZwT.mk a.Items = a := rfl
  by_cases hlen : (name.size : Int) > 1048576
  · simp (disch := omega) only [pz, ]
  rcases c with rfl | ⟨r0, r1, sa⟩
  · simp (disch := omega) only [pz, e, hr]
  · have hz := ZAK sa
    have ht := ZzH sa
    generalize ZxD a = x at hz ht
    have e2 : ∀ x : ZwS, ZwS.mk x.Items = x := fun x => rfl
    obtain ⟨⟨g, n⟩, h1, h2, h3⟩ := ZDd hz name
    dsimp only at h3
    have hq := (ZAI (ZAb h3)).eq (rfl : g = g)
    have hq2 := (ZAI (ZAb hz)).eq (rfl : x = x)
    have hm := ZAV hz
    have hk1 := Zzf x.Items 1
    have hk2 := Zzf g.Items 1
    have n0 : ¬ (kItems 1 x.Items < 0) := by omega
    have hg := ZAV h3
    have hh := ZCZ h3
    have k3 : ZCw (kItems 1 g.Items, ⟨mItems 1 g.Items⟩) = some true := by
      unfold ZCw
      simp (disch := omega) only [pz, hh]
    have k2 : ZCt a name (g, n) (g, n) = some true := by
      unfold ZCt
      simp (disch := omega) only [pz, hg, hh, e, ht, h2, hq, k3, e2]
    have k1 : ZCy a name (g, n) x (g, n) = some true := by
      unfold ZCy
      simp (disch := omega) only [pz, e, ht, e2, hq2, hm, hq, k2]
    simp (disch := omega) only [pz, e, hr, ht, h1, e2, h2, hq, k1]
end Go.Proofs.YtapkemdomnkccaaGreat
