import Derived.Test.YtapkemdomnkccaaGreatPuFam
import Derived.Test.YtapkemdomnkccaaGreatPuJg
namespace Go.Proofs.YtapkemdomnkccaaGreat
open Go Go.Vc
set_option linter.unusedSimpArgs false
def marks (k : Int) (n : Nat) : List Int := (List.range n).map fun (j : Nat) => k + (j : Int)
theorem Zcq (k : Int) (n : Nat) : (marks k n).length = n := by unfold marks; simp
theorem ZvH {k : Int} {n j : Nat} (h : j < n) : (marks k n)[j]? = some (k + (j : Int)) := by
  unfold marks; rw [List.getElem?_map, List.getElem?_range h]; rfl
theorem ZAZ {xs : List Int} {k : Int} (h : xs.length ≤ 4194304) (h0 : 0 ≤ k) (h1 : k ≤ 9100000000000000000) : ZhP xs k = some (k + (xs.length : Int), marks k xs.length) := by
  unfold ZhP
  let f : Nat → Int × Int × List Int := fun j => (k + (j : Int), (j : Int), marks k j ++ xs.drop j)
  have e0 : f 0 = (k, 0, xs) := by simp [f, marks]
  have e1 : f xs.length = (k + (xs.length : Int), (xs.length : Int), marks k xs.length) := by simp only [f]; rw [List.drop_length, List.append_nil]
  rw [← e0, ZcO f xs.length fun j hj => ?_, e1]
  · refine Zd ?_
    rw [ZgV]
    have : decide ((xs.length : Int) < ((marks k xs.length).length : Int)) = false := by rw [Zcq]; simp
    rw [this]; rfl
  · obtain ⟨x, hx⟩ := Zbq (xs := xs) (k := j) hj
    have hl : (marks k j ++ xs.drop j).length = xs.length := by rw [List.length_append, Zcq, List.length_drop]; omega
    have hc : (marks k j ++ xs.drop j)[j]? = some x := by
      rw [List.getElem?_append_right (by rw [Zcq]; omega), Zcq, Nat.sub_self, List.getElem?_drop]; simpa using hx
    simp only [f]
    rw [ZgV]
    have : decide ((j : Int) < ((marks k j ++ xs.drop j).length : Int)) = true := by rw [hl]; simpa using hj
    rw [this, Zac hc]
    simp only [cond_true, Option.bind_some]
    rw [wrapN hj (by unfold M63; omega), Zau (by omega) (by omega), Int.toNat_natCast]
    have hs : (marks k j ++ xs.drop j).set j (k + (j : Int)) = marks k (j + 1) ++ xs.drop (j + 1) := by
      rw [List.set_append, if_neg (by rw [Zcq]; omega), Zcq, Nat.sub_self]
      have hd : xs.drop j = x :: xs.drop (j + 1) := by
        rw [List.drop_eq_getElem_cons hj]
        congr 1
        have := List.getElem?_eq_getElem (l := xs) (i := j) hj
        rw [hx] at this; exact (Option.some.inj this).symm
      rw [hd]
      unfold marks
      rw [List.range_succ, List.map_append]; simp
    rw [hs, show k + (j : Int) + 1 = k + ((j + 1 : Nat) : Int) by omega]
theorem ZBo {n : Nat} {k : Int} (h : n ≤ 4194304) (h0 : 0 ≤ k) (h1 : k ≤ 9100000000000000000) : ZgW (marks k n) k = some (k + (n : Int)) := by
  unfold ZgW
  let f : Nat → Int × Int := fun j => (k + (j : Int), (j : Int))
  have e0 : f 0 = (k, 0) := by simp [f]
  rw [← e0, ZcO f n fun j hj => ?_]
  · refine Zd ?_
    simp only [f]
    rw [Zim]
    have : decide ((n : Int) < ((marks k n).length : Int)) = false := by rw [Zcq]; simp
    rw [this]; rfl
  · simp only [f]
    rw [Zim]
    have : decide ((j : Int) < ((marks k n).length : Int)) = true := by rw [Zcq]; simpa using hj
    rw [this, Zac (ZvH hj)]
    simp only [cond_true, Option.bind_some]
    have hb : ((k + (j : Int)) != (k + (j : Int))) = false := by simp
    rw [hb]
    simp only [cond_false]
    rw [wrapN hj (by unfold M63; omega), Zau (by omega) (by omega), show k + (j : Int) + 1 = k + ((j + 1 : Nat) : Int) by omega]
def marksR : Int → List (List Int) → List (List Int)
  | _, [] => []
  | k, r :: rs => marks k r.length :: marksR (k + r.length) rs
def total : List (List Int) → Nat
  | [] => 0
  | r :: rs => r.length + total rs
theorem Zik : ∀ (xs : List (List Int)), (∀ r ∈ xs, r.length ≤ 4194304) → total xs ≤ xs.length * 4194304
  | [], _ => by simp [total]
  | r :: rs, h => by
    have h1 := h r (List.mem_cons_self ..)
    have h2 := Zik rs fun x hx => h x (List.mem_cons_of_mem _ hx)
    simp only [total, List.length_cons]; omega
theorem Zfp : ∀ (k : Int) (xs : List (List Int)), (marksR k xs).length = xs.length
  | _, [] => rfl
  | k, r :: rs => by simp [marksR, Zfp]
theorem ZqV {xs : List (List Int)} {j : Nat} {r : List Int} (h : xs[j]? = some r) : total (xs.take (j + 1)) = total (xs.take j) + r.length := by
  induction xs generalizing j with
  | nil => simp at h
  | cons x xs ih =>
    cases j with
    | zero => simp at h; subst h; simp [total]
    | succ j => simp only [List.take_succ_cons, total]; rw [ih (by simpa using h)]; omega
theorem ZoP {xs : List (List Int)} {j : Nat} {r : List Int} (h : xs[j]? = some r) : ∀ k : Int, (marksR k xs)[j]? = some (marks (k + (total (xs.take j) : Int)) r.length) := by
  induction xs generalizing j with
  | nil => simp at h
  | cons x xs ih =>
    intro k
    cases j with
    | zero => simp at h; subst h; simp [marksR, total]
    | succ j =>
      simp only [marksR, List.getElem?_cons_succ, List.take_succ_cons, total]
      rw [ih (by simpa using h)]
      congr 2; omega
theorem Zkc (xs : List (List Int)) (j : Nat) : total (xs.take j) ≤ total xs := by
  induction xs generalizing j with
  | nil => simp [total]
  | cons x xs ih =>
    cases j with
    | zero => simp [total]
    | succ j => simp only [List.take_succ_cons, total]; have := ih j; omega
theorem Zua {xs : List (List Int)} {k : Int} (h : xs.length ≤ 4194304) (hr : ∀ r ∈ xs, r.length ≤ 4194304) (h0 : 0 ≤ k) (h1 : k ≤ 9000000000000000000) : ZhK xs k = some (k + (total xs : Int), marksR k xs) := by
  have htot := Zik xs hr
  have htb : total xs ≤ 17592186044416 := Nat.le_trans htot (by omega)
  unfold ZhK
  let f : Nat → Int × Int × List (List Int) := fun j => (k + (total (xs.take j) : Int), (j : Int), (marksR k xs).take j ++ xs.drop j)
  have e0 : f 0 = (k, 0, xs) := by simp [f, total]
  have e1 : f xs.length = (k + (total xs : Int), (xs.length : Int), marksR k xs) := by
    simp only [f]; rw [List.take_length, List.drop_length, List.append_nil, List.take_of_length_le (by rw [Zfp]; omega)]
  rw [← e0, ZcO f xs.length fun j hj => ?_, e1]
  · refine Zd ?_
    rw [Zhx]
    have : decide ((xs.length : Int) < ((marksR k xs).length : Int)) = false := by rw [Zfp]; simp
    rw [this]; rfl
  · obtain ⟨r, hx⟩ := Zbq (xs := xs) (k := j) hj
    have htl : ((marksR k xs).take j).length = j := by rw [List.length_take, Zfp]; omega
    have hl : ((marksR k xs).take j ++ xs.drop j).length = xs.length := by rw [List.length_append, htl, List.length_drop]; omega
    have hc : ((marksR k xs).take j ++ xs.drop j)[j]? = some r := by
      rw [List.getElem?_append_right (by omega), htl, Nat.sub_self, List.getElem?_drop]; simpa using hx
    have htm := Zkc xs j
    simp only [f]
    rw [Zhx]
    have : decide ((j : Int) < (((marksR k xs).take j ++ xs.drop j).length : Int)) = true := by rw [hl]; simpa using hj
    rw [this, Zac hc]
    simp only [cond_true, Option.bind_some]
    rw [ZAZ (hr r (List.mem_of_getElem? hx)) (by omega) (by omega)]
    simp only [Option.bind_some]
    rw [wrapN hj (by unfold M63; omega), Int.toNat_natCast]
    have hs : ((marksR k xs).take j ++ xs.drop j).set j (marks (k + (total (xs.take j) : Int)) r.length) = (marksR k xs).take (j + 1) ++ xs.drop (j + 1) := by
      rw [List.set_append, if_neg (by omega), htl, Nat.sub_self, List.take_add_one, ZoP hx]
      have hd : xs.drop j = r :: xs.drop (j + 1) := by
        rw [List.drop_eq_getElem_cons hj]
        congr 1
        have := List.getElem?_eq_getElem (l := xs) (i := j) hj
        rw [hx] at this; exact (Option.some.inj this).symm
      rw [hd]; simp
    rw [hs, ZqV hx, show k + (total (xs.take j) : Int) + (r.length : Int) = k + ((total (xs.take j) + r.length : Nat) : Int) by omega]
end Go.Proofs.YtapkemdomnkccaaGreat
namespace Go.Proofs.YtapkemdomnkccaaGreat
set_option linter.unusedVariables false
open Go Go.Vc
set_option linter.unusedSimpArgs false
theorem ZAo {xs : List (List Int)} {k : Int} (h : xs.length ≤ 4194304) (hr : ∀ r ∈ xs, r.length ≤ 4194304) (h0 : 0 ≤ k) (h1 : k ≤ 9000000000000000000) : Zft (marksR k xs) k = some (k + (total xs : Int)) := by
  have htot := Zik xs hr
  have htb : total xs ≤ 17592186044416 := Nat.le_trans htot (by omega)
  unfold Zft
  let f : Nat → Int × Int := fun j => (k + (total (xs.take j) : Int), (j : Int))
  have e0 : f 0 = (k, 0) := by simp [f, total]
  have e1 : f xs.length = (k + (total xs : Int), (xs.length : Int)) := by simp only [f]; rw [List.take_length]
  rw [← e0, ZcO f xs.length fun j hj => ?_, e1]
  · refine Zd ?_
    rw [Zjc]
    have : decide ((xs.length : Int) < ((marksR k xs).length : Int)) = false := by rw [Zfp]; simp
    rw [this]; rfl
  · obtain ⟨r, hx⟩ := Zbq (xs := xs) (k := j) hj
    have htm := Zkc xs j
    have htm2 := Zkc xs (j + 1)
    simp only [f]
    rw [Zjc]
    have : decide ((j : Int) < ((marksR k xs).length : Int)) = true := by rw [Zfp]; simpa using hj
    rw [this, Zac (ZoP hx k)]
    simp only [cond_true, Option.bind_some]
    rw [ZBo (hr r (List.mem_of_getElem? hx)) (by omega) (by omega)]
    simp only [Option.bind_some]
    have hneg : decide (k + (total (xs.take j) : Int) + (r.length : Int) < 0) = false := by simp; omega
    rw [hneg]
    simp only [cond_false]
    rw [wrapN hj (by unfold M63; omega), ZqV hx, show k + (total (xs.take j) : Int) + (r.length : Int) = k + ((total (xs.take j) + r.length : Nat) : Int) by omega]
end Go.Proofs.YtapkemdomnkccaaGreat
namespace Go.Proofs.YtapkemdomnkccaaGreat
set_option linter.unusedVariables false
open Go Go.Vc
set_option linter.unusedSimpArgs false
theorem ZpY {a b : ByteArray} (h : a.size + b.size ≤ 1000) : gFit a b = some () := by
  unfold gFit
  rw [if_pos]
  have : IntKind.i64.max = 9223372036854775807 := rfl
  omega
theorem gByt1 {x : Int} (h0 : 0 ≤ x) (h1 : x ≤ 255) : gByt [x] = some (bstr [x]) := by
  unfold gByt
  rw [if_pos]
  intro y hy
  simp at hy
  omega
theorem bstr1 (x : Int) : (bstr [x]).size = 1 := rfl
theorem ZAK (a b : ByteArray) : (a ++ b).size = a.size + b.size := by simp
theorem Zzj : ∀ (n : Nat) (k : Int) (out : ByteArray), 0 ≤ k → k < 10 ^ n → k ≤ 9223372036854775807 → out.size + n ≤ 100 → ∃ t, loop Zed (k, out) = some t := by
  have hend : ∀ out : ByteArray, out.size ≤ 100 → loop Zed (0, out) = some ((⟨#[109]⟩ : ByteArray) ++ out) := fun out h => by
    have hf : gFit ⟨#[109]⟩ out = some () := ZpY (by show 1 + out.size ≤ 1000; omega)
    refine Zd ?_
    simp (disch := omega) only [pz, Zed, hf]
  intro n
  induction n with
  | zero =>
    intro k out h0 h1 _ h2
    have : k = 0 := by simp at h1; omega
    subst this
    exact ⟨_, hend out (by omega)⟩
  | succ n ih =>
    intro k out h0 h1 h3 h2
    by_cases hk : k = 0
    · subst hk; exact ⟨_, hend out (by omega)⟩
    · have hm : Int.tmod k 10 = k % 10 := Int.tmod_eq_emod_of_nonneg h0
      have hd : Int.tdiv k 10 = k / 10 := Int.tdiv_eq_ediv_of_nonneg h0
      have w1 : IntKind.i64.wrap (48 + k % 10) = 48 + k % 10 := Zau (by omega) (by omega)
      have w2 : IntKind.u8.wrap (48 + k % 10) = 48 + k % 10 := u8_of (by omega) (by omega)
      have hb := gByt1 (x := 48 + k % 10) (by omega) (by omega)
      have hf : gFit (bstr [48 + k % 10]) out = some () := ZpY (by rw [bstr1]; omega)
      have hp : k / 10 < 10 ^ n := by
        have e : (10 : Int) ^ (n + 1) = 10 ^ n * 10 := Int.pow_succ ..
        omega
      obtain ⟨t, ht⟩ := ih (k / 10) (bstr [48 + k % 10] ++ out) (by omega) hp (by omega) (by rw [ZAK, bstr1]; omega)
      refine ⟨t, ?_⟩
      rw [← ht]
      refine ZF ?_
      simp (disch := omega) only [pz, Zed, hm, hd, w1, w2, hb, hf]
theorem mtext {k : Int} (h1 : k ≤ 9223372036854775807) : ∃ t, ZaM k = some t := by
  unfold ZaM
  by_cases h : k ≤ 0
  · exact ⟨⟨#[109, 48]⟩, by simp (disch := omega) only [pz, ]⟩
  · obtain ⟨t, ht⟩ := Zzj 19 k ⟨#[]⟩ (by omega) (by omega) h1 (by decide)
    exact ⟨t, by simp (disch := omega) only [pz, ht]⟩
noncomputable def mtx (k : Int) : ByteArray := (ZaM k).getD ⟨#[]⟩
theorem Zfk {k : Int} (h1 : k ≤ 9223372036854775807) : ZaM k = some (mtx k) := by
  obtain ⟨t, ht⟩ := mtext h1
  unfold mtx
  rw [ht]; rfl
end Go.Proofs.YtapkemdomnkccaaGreat
namespace Go.Proofs.YtapkemdomnkccaaGreat
set_option linter.unusedVariables false
open Go Go.Vc
set_option linter.unusedSimpArgs false
noncomputable def marksT (k : Int) (n : Int) : List ByteArray := tabl n fun i => mtx (k + i)
theorem ZpI (k n : Int) : (marksT k n).length = n.toNat := ZK
instance : Inhabited ByteArray := ⟨⟨#[]⟩⟩
theorem Zsq {xs : List ByteArray} {k : Int} (h : (xs.length : Int) ≤ 4194304) (h0 : 0 ≤ k) (h1 : k ≤ 9100000000000000000) : Zgh xs k = some (k + (xs.length : Int), marksT k xs.length) := by
  unfold Zgh
  have hgo := ZJ (B := Zd7) (fun j => (k + j, j, tabl xs.length fun i => if i < j then mtx (k + i) else ix xs i)) (i := 0) (n := xs.length) (by omega) fun j j0 j1 => by
    have hl : (tabl xs.length fun i => if i < j then mtx (k + i) else ix xs i).length = xs.length := by rw [ZK]; omega
    have hs : (tabl xs.length fun i => if i < j then mtx (k + i) else ix xs i).set j.toNat (mtx (k + j)) = tabl xs.length fun i => if i < j + 1 then mtx (k + i) else ix xs i := by
      apply Zby j0 j1
      · intro i i0 i1 i2
        by_cases hi : i < j
        · rw [if_pos hi, if_pos (show i < j + 1 by omega)]
        · rw [if_neg hi, if_neg (show ¬ i < j + 1 by omega)]
      · rw [if_pos (by omega)]
    generalize (tabl xs.length fun i => if i < j then mtx (k + i) else ix xs i) = A at hl hs ⊢
    have ht := Zfk (k := k + j) (by omega)
    have e : k + (j + 1) = k + j + 1 := by omega
    simp (disch := omega) only [pz, Zd7, ht, hs, e]
  have e0 : (k, (0 : Int), xs) = (fun j : Int => (k + j, j, tabl xs.length fun i => if i < j then mtx (k + i) else ix xs i)) 0 := by
    show _ = (k + 0, (0 : Int), _)
    congr 1
    · omega
    · congr 1
      refine (Zb3 xs).symm.trans (Z2 fun i i0 i1 => ?_)
      rw [if_neg (by omega)]
  rw [e0, hgo]
  refine Zd ?_
  have e1 : (tabl xs.length fun i => if i < (xs.length : Int) then mtx (k + i) else ix xs i) = marksT k xs.length := Z2 fun i i0 i1 => by rw [if_pos i1]
  have hl := ZpI k xs.length
  simp only [e1]
  simp (disch := omega) only [pz, Zd7, hl]
theorem Zxn {n k : Int} (hn : 0 ≤ n) (h : n ≤ 4194304) (h0 : 0 ≤ k) (h1 : k ≤ 9100000000000000000) : ZeV (marksT k n) k = some (k + n) := by
  unfold ZeV
  have hl := ZpI k n
  have hgo := ZJ (B := Zgc (marksT k n)) (fun j => (k + j, j)) (i := 0) (n := n) hn fun j j0 j1 => by
    have hx : ix (marksT k n) j = mtx (k + j) := Z5 j0 j1
    have e : k + (j + 1) = k + j + 1 := by omega
    have ht := Zfk (k := k + j) (by omega)
    have hb : ((mtx (k + j)).toList == (mtx (k + j)).toList) = true := by simp
    simp (disch := omega) only [pz, Zgc, ht, hx, hb, e]
  have e0 : (k, (0 : Int)) = (fun j : Int => (k + j, j)) 0 := by simp
  rw [e0, hgo]
  refine Zd ?_
  simp (disch := omega) only [pz, Zgc]
end Go.Proofs.YtapkemdomnkccaaGreat
namespace Go.Proofs.YtapkemdomnkccaaGreat
set_option linter.unusedVariables false
open Go Go.Vc
set_option linter.unusedSimpArgs false
noncomputable def mIt (k : Int) (x : Zc) : Zc := ⟨mtx k, ⟨k + 1, k + 1 + 1, marksR (k + 1 + 1 + 1) x.Object.Rows⟩, mtx (k + 1 + 1 + 1 + (total x.Object.Rows : Int))⟩
def kIt (k : Int) (x : Zc) : Int := k + 1 + 1 + 1 + (total x.Object.Rows : Int) + 1
noncomputable def mItems : Int → List Zc → List Zc
  | _, [] => []
  | k, x :: xs => mIt k x :: mItems (kIt k x) xs
def kItems : Int → List Zc → Int
  | k, [] => k
  | k, x :: xs => kItems (kIt k x) xs
theorem Zoy : ∀ (k : Int) (xs : List Zc), (mItems k xs).length = xs.length
  | _, [] => rfl
  | k, x :: xs => by simp [mItems, Zoy]
theorem Zjq {r : List (List Int)} (h : Sz2 r) : total r ≤ 4398046511104 := by
  have h1 := h.1
  have h2 := Zik r fun x hx => by have := h.2 x hx; omega
  omega
theorem gMid {α : Type} {A C : List α} {y : α} : gIdx (A ++ y :: C) (A.length : Int) = some y := by
  unfold gIdx
  rw [if_pos (by omega), Int.toNat_natCast, List.getElem?_append_right (Nat.le_refl _), Nat.sub_self]; rfl
theorem sMid {α : Type} {A C : List α} {y z : α} : (A ++ y :: C).set A.length z = A ++ z :: C := by
  rw [List.set_append_right _ _ (Nat.le_refl _), Nat.sub_self]; rfl
theorem iMid {α : Type} [Inhabited α] {A C : List α} {y : α} : ix (A ++ y :: C) (A.length : Int) = y := ixMid rfl
theorem Zz2 {A C : List Zc} {b : Zc} {k : Int} (hs : Sz2 b.Object.Rows) (h0 : 0 ≤ k) (h1 : k ≤ 8900000000000000000) (hA : A.length + C.length ≤ 4194304) :
    ZdD (k, (A.length : Int), A ++ b :: C) = some (.inl (kIt k b, (A.length : Int) + 1, A ++ mIt k b :: C)) := by
  have hl : ((A ++ b :: C).length : Int) = (A.length : Int) + 1 + (C.length : Int) := by simp; omega
  have ht := Zjq hs
  have hm := Zua (xs := b.Object.Rows) (k := k + 1 + 1 + 1) (by have := hs.1; omega) (fun r hr => by have := hs.2 r hr; omega) (by omega) (by omega)
  have t1 := Zfk (k := k) (by omega)
  have t2 := Zfk (k := k + 1 + 1 + 1 + (total b.Object.Rows : Int)) (by omega)
  have w1 : IntKind.i64.wrap (k + 1 + 1 + 1 + (total b.Object.Rows : Int) + 1) = k + 1 + 1 + 1 + (total b.Object.Rows : Int) + 1 := Zau (by omega) (by omega)
  simp (disch := omega) only [pz, ZdD, gMid, iMid, sMid, t1, hm, t2, w1, mIt, kIt]
theorem Zrb : ∀ (C A : List Zc) (k : Int), (∀ x ∈ C, Sz2 x.Object.Rows) → 0 ≤ k → k + C.length * 4398046511108 ≤ 8900000000000000000 → A.length + C.length ≤ 4194304 →
    loop ZdD (k, (A.length : Int), A ++ C) = some (kItems k C, A ++ mItems k C) := by
  intro C
  induction C with
  | nil =>
    intro A k _ h0 _ hA
    refine Zd ?_
    have hl : (((A ++ []).length : Nat) : Int) = (A.length : Int) := by simp
    simp (disch := omega) only [pz, ZdD, hl, kItems, mItems, List.append_nil]
  | cons b C ih =>
    intro A k hs h0 h1 hA
    rw [List.length_cons] at h1 hA
    have hb := hs b (List.mem_cons_self ..)
    have ht := Zjq hb
    rw [ZF (Zz2 hb h0 (by omega) (by omega))]
    have e : A ++ mIt k b :: C = (A ++ [mIt k b]) ++ C := by simp
    have el : (A.length : Int) + 1 = ((A ++ [mIt k b]).length : Int) := by simp
    rw [e, el, ih (A ++ [mIt k b]) (kIt k b) (fun x hx => hs x (List.mem_cons_of_mem _ hx)) (by unfold kIt; omega) (by unfold kIt; omega) (by simp; omega)]
    simp [kItems, mItems]
theorem Zgb : ∀ (C : List Zc) (k : Int), k ≤ kItems k C
  | [], k => Int.le_refl _
  | x :: C, k => by
    have := Zgb C (kIt k x)
    unfold kItems
    unfold kIt at this ⊢
    omega
theorem ZoI {c : Zg} (hs : Szc c.Items) : ZbK c 1 = some (kItems 1 c.Items, ⟨mItems 1 c.Items⟩) := by
  have h := Zrb c.Items [] 1 hs.2 (by omega) (by have := hs.1; omega) (by have := hs.1; simp; omega)
  have e : ZfT c.Items 1 = some (kItems 1 c.Items, mItems 1 c.Items) := h
  unfold ZbK
  simp (disch := omega) only [pz, e]
end Go.Proofs.YtapkemdomnkccaaGreat
namespace Go.Proofs.YtapkemdomnkccaaGreat
set_option linter.unusedVariables false
open Go Go.Vc
set_option linter.unusedSimpArgs false
theorem Zvp {A D : List Zc} {b : Zc} {k : Int} (hs : Sz2 b.Object.Rows) (h0 : 0 ≤ k) (h1 : k ≤ 8900000000000000000) (hA : A.length + D.length ≤ 4194304) :
    Zde (A ++ mIt k b :: D) (k, (A.length : Int)) = some (.inl (kIt k b, (A.length : Int) + 1)) := by
  have hl : ((A ++ mIt k b :: D).length : Int) = (A.length : Int) + 1 + (D.length : Int) := by simp; omega
  have ht := Zjq hs
  have hm := ZAo (xs := b.Object.Rows) (k := k + 1 + 1 + 1) (by have := hs.1; omega) (fun r hr => by have := hs.2 r hr; omega) (by omega) (by omega)
  have t1 := Zfk (k := k) (by omega)
  have t2 := Zfk (k := k + 1 + 1 + 1 + (total b.Object.Rows : Int)) (by omega)
  have w1 : IntKind.i64.wrap (k + 1 + 1 + 1 + (total b.Object.Rows : Int) + 1) = k + 1 + 1 + 1 + (total b.Object.Rows : Int) + 1 := Zau (by omega) (by omega)
  have f1 : (mIt k b).Name = mtx k := rfl
  have f2 : (mIt k b).Object.Kind = k + 1 := rfl
  have f3 : (mIt k b).Object.Size = k + 1 + 1 := rfl
  have f4 : (mIt k b).Object.Rows = marksR (k + 1 + 1 + 1) b.Object.Rows := rfl
  have f5 : (mIt k b).Key = mtx (k + 1 + 1 + 1 + (total b.Object.Rows : Int)) := rfl
  have e1 : ((mtx k).toList == (mtx k).toList) = true := by simp
  have e2 : ((mtx (k + 1 + 1 + 1 + (total b.Object.Rows : Int))).toList == (mtx (k + 1 + 1 + 1 + (total b.Object.Rows : Int))).toList) = true := by simp
  simp (disch := omega) only [pz, Zde, gMid, iMid, t1, f1, e1, f2, f3, f4, hm, t2, f5, e2, w1, kIt]
theorem ZyI : ∀ (C A : List Zc) (k : Int), (∀ x ∈ C, Sz2 x.Object.Rows) → 0 ≤ k → k + C.length * 4398046511108 ≤ 8900000000000000000 → A.length + C.length ≤ 4194304 →
    loop (Zde (A ++ mItems k C)) (k, (A.length : Int)) = some (kItems k C) := by
  intro C
  induction C with
  | nil =>
    intro A k _ h0 _ hA
    refine Zd ?_
    have hl : (((A ++ mItems k []).length : Nat) : Int) = (A.length : Int) := by simp [mItems]
    simp (disch := omega) only [pz, Zde, hl, kItems]
  | cons b C ih =>
    intro A k hs h0 h1 hA
    rw [List.length_cons] at h1 hA
    have hb := hs b (List.mem_cons_self ..)
    have ht := Zjq hb
    have hst := Zvp (A := A) (D := mItems (kIt k b) C) hb h0 (by omega) (by rw [Zoy]; omega)
    show loop (Zde (A ++ mIt k b :: mItems (kIt k b) C)) _ = _
    rw [ZF hst]
    have e : A ++ mIt k b :: mItems (kIt k b) C = (A ++ [mIt k b]) ++ mItems (kIt k b) C := by simp
    have el : (A.length : Int) + 1 = ((A ++ [mIt k b]).length : Int) := by simp
    rw [e, el, ih (A ++ [mIt k b]) (kIt k b) (fun x hx => hs x (List.mem_cons_of_mem _ hx)) (by unfold kIt; omega) (by unfold kIt; omega) (by simp; omega)]
    rfl
theorem Zs3 {c : List Zc} (hs : Szc c) : Zen ⟨mItems 1 c⟩ 1 = some (kItems 1 c) := by
  have h := ZyI c [] 1 hs.2 (by omega) (by have := hs.1; omega) (by have := hs.1; simp; omega)
  have e : Zja (mItems 1 c) 1 = some (kItems 1 c) := h
  have hk := Zgb c 1
  unfold Zen
  simp (disch := omega) only [pz, e]
end Go.Proofs.YtapkemdomnkccaaGreat
namespace Go.Proofs.YtapkemdomnkccaaGreat
set_option linter.unusedVariables false
open Go Go.Vc
set_option linter.unusedSimpArgs false
def Bl (a b : ByteArray) : Prop := Op.bytesLess a.toList b.toList = true
instance (a b : ByteArray) : Decidable (Bl a b) := inferInstanceAs (Decidable (_ = true))
theorem ZzR (a : List UInt8) : Op.bytesLess a a = false := by
  have h := Zhl a a
  have e : (a == a) = true := by simp
  rw [e, Bool.or_true] at h
  cases hb : Op.bytesLess a a with
  | false => rfl
  | true => rw [hb] at h; cases h
theorem ZrN : ∀ a b c : List UInt8, Op.bytesLess a b = true → Op.bytesLess b c = true → Op.bytesLess a c = true
  | a, [], c, h, _ => by cases a <;> cases h
  | _, _ :: _, [], _, k => by cases k
  | [], _ :: _, _ :: _, _, _ => rfl
  | a :: x, b :: y, c :: z, h, k => by
    have h' : (decide (a < b) || (a == b && Op.bytesLess x y)) = true := h
    have k' : (decide (b < c) || (b == c && Op.bytesLess y z)) = true := k
    show (decide (a < c) || (a == c && Op.bytesLess x z)) = true
    simp only [Bool.or_eq_true, decide_eq_true_eq, Bool.and_eq_true, beq_iff_eq] at h' k' ⊢
    have tr : ∀ {p q r : UInt8}, p < q → q < r → p < r := fun g1 g2 => by
      have g1 := UInt8.lt_iff_toNat_lt.1 g1
      have g2 := UInt8.lt_iff_toNat_lt.1 g2
      exact UInt8.lt_iff_toNat_lt.2 (by omega)
    rcases h' with h' | ⟨rfl, h'⟩
    · rcases k' with k' | ⟨rfl, k'⟩
      · exact .inl (tr h' k')
      · exact .inl h'
    · rcases k' with k' | ⟨rfl, k'⟩
      · exact .inl k'
      · exact .inr ⟨rfl, ZrN x y z h' k'⟩
theorem Bl.trans {a b c : ByteArray} (h : Bl a b) (k : Bl b c) : Bl a c := ZrN _ _ _ h k
theorem Bl.irr {a : ByteArray} (h : Bl a a) : False := by
  unfold Bl at h; rw [ZzR] at h; cases h
theorem ZzO {c : List Zc} (hc : CatV c) : ∀ (d : Nat) (i j : Int), 0 ≤ i → i < j → j < (c.length : Int) → j - i ≤ d → Bl (ix c i).Name (ix c j).Name := by
  intro d
  induction d with
  | zero => intro i j h0 h1 h2 h3; omega
  | succ d ih =>
    intro i j h0 h1 h2 h3
    have ho : Bl (ix c (j - 1)).Name (ix c j).Name := (hc.at_ j (by omega) h2).ord (by omega)
    by_cases h : i = j - 1
    · rw [h]; exact ho
    · exact (ih i (j - 1) h0 (by omega) (by omega) (by omega)).trans ho
def Rise (c : List Zc) : Prop := ∀ i j : Int, 0 ≤ i → i < j → j < (c.length : Int) → Bl (ix c i).Name (ix c j).Name
theorem CatV.rise {c : List Zc} (hc : CatV c) : Rise c := fun i j h0 h1 h2 => ZzO hc (j - i).toNat i j h0 h1 h2 (by omega)
structure Plc (c : List Zc) (name : ByteArray) (k : Int) (b : Bool) : Prop where
  k0 : 0 ≤ k
  k1 : k ≤ (c.length : Int)
  lo : ∀ j, 0 ≤ j → j < k → Bl (ix c j).Name name
  hi : ∀ j, k ≤ j → j < (c.length : Int) → ¬ Bl (ix c j).Name name
  eq : b = true ↔ k < (c.length : Int) ∧ (ix c k).Name = name
theorem Plc.none {c : List Zc} {name : ByteArray} {k : Int} {b : Bool} (hc : Rise c) (p : Plc c name k b) (hb : b = false) : ∀ j, 0 ≤ j → j < (c.length : Int) → ¬ (ix c j).Name = name := fun j h0 h1 e => by
  have h2 : k ≤ j := by
    rcases Int.lt_or_le j k with g | g
    · have := p.lo j h0 g
      rw [e] at this
      exact this.irr.elim
    · exact g
  by_cases h3 : k = j
  · subst h3
    rw [p.eq.2 ⟨h1, e⟩] at hb; cases hb
  · have h4 := hc k j p.k0 (by omega) h1
    rw [e] at h4
    exact p.hi k (Int.le_refl _) (by omega) h4
theorem Zou (x : Zc) (name : ByteArray) : ZcU x name = some (if Bl x.Name name then -1 else if x.Name = name then 0 else 1) := by
  have n1 : ∀ s : ByteArray, ZeA s = some false := fun s => by
    unfold ZeA
    have : (s.toList == s.toList) = true := by simp
    rw [this]; rfl
  unfold ZcU Zj4
  by_cases h : Bl x.Name name
  · have h' : Op.bytesLess x.Name.toList name.toList = true := h
    rw [if_pos h]
    simp (disch := omega) only [pz, n1, h']
  · have h' : Op.bytesLess x.Name.toList name.toList = false := by
      cases hb : Op.bytesLess x.Name.toList name.toList with
      | false => rfl
      | true => exact absurd hb h
    rw [if_neg h]
    by_cases e : x.Name = name
    · have e' := (Za5 x.Name name).2 e
      rw [if_pos e]
      simp (disch := omega) only [pz, n1, h', e', Bool.false_or]
    · have e' : (x.Name.toList == name.toList) = false := by
        cases hb : (x.Name.toList == name.toList) with
        | false => rfl
        | true => exact absurd ((Za5 _ _).1 hb) e
      rw [if_neg e]
      simp (disch := omega) only [pz, n1, h', e', Bool.false_or]
theorem ZpP {c : Zg} {name : ByteArray} (hc : Rise c.Items) (hl : (c.Items.length : Int) ≤ 1048576) : ∃ k b, Zep c name = some (k, b) ∧ Plc c.Items name k b := by
  unfold Zep Ziv
  generalize hB0 : ZcA c.Items name (fun y0 y1 => ZcU y0 y1) = B
  have key : ∀ (d : Nat) (lo hi : Int), (hi - lo).toNat ≤ d → 0 ≤ lo → lo ≤ hi → hi ≤ (c.Items.length : Int) → (∀ j, 0 ≤ j → j < lo → Bl (ix c.Items j).Name name) → (∀ j, hi ≤ j → j < (c.Items.length : Int) → ¬ Bl (ix c.Items j).Name name) → ∃ k b, loop B (lo, hi) = some (k, b) ∧ Plc c.Items name k b := by
    intro d
    induction d with
    | zero =>
      intro lo hi hd h0 h1 h2 h3 h4
      obtain rfl : lo = hi := by omega
      by_cases hlt : lo < (c.Items.length : Int)
      · have hcm := Zou (ix c.Items lo) name
        rw [if_neg (h4 lo (Int.le_refl _) hlt)] at hcm
        by_cases e : (ix c.Items lo).Name = name
        · rw [if_pos e] at hcm
          exact ⟨lo, true, Zd (by rw [← hB0]; simp (disch := omega) only [pz, ZcA, hcm]), ⟨h0, h2, h3, h4, by simp [hlt, e]⟩⟩
        · rw [if_neg e] at hcm
          exact ⟨lo, false, Zd (by rw [← hB0]; simp (disch := omega) only [pz, ZcA, hcm]), ⟨h0, h2, h3, h4, by simp [e]⟩⟩
      · exact ⟨lo, false, Zd (by rw [← hB0]; simp (disch := omega) only [pz, ZcA]), ⟨h0, h2, h3, h4, by simp [hlt]⟩⟩
    | succ d ih =>
      intro lo hi hd h0 h1 h2 h3 h4
      by_cases hlt : lo < hi
      · have hm := Zrc h0 h1 (show hi ≤ 1048576 by omega)
        have hmid : lo ≤ (lo + hi) / 2 ∧ (lo + hi) / 2 < hi := by omega
        have hcm := Zou (ix c.Items ((lo + hi) / 2)) name
        have hn1 : gNn 1 = some () := rfl
        by_cases e : Bl (ix c.Items ((lo + hi) / 2)).Name name
        · rw [if_pos e] at hcm
          have hB : B (lo, hi) = some (.inl ((lo + hi) / 2 + 1, hi)) := by
            rw [← hB0]
            simp only [ZcA, hm, hn1]
            simp (disch := omega) only [pz, hcm]
          rw [ZF hB]
          refine ih _ _ (by omega) (by omega) (by omega) h2 (fun j a b => ?_) h4
          by_cases hj : j = (lo + hi) / 2
          · rw [hj]; exact e
          · exact (hc j ((lo + hi) / 2) a (by omega) (by omega)).trans e
        · have hcm' : ∃ r : Int, ¬ r < 0 ∧ ZcU (ix c.Items ((lo + hi) / 2)) name = some r := by
            rw [if_neg e] at hcm
            refine ⟨_, ?_, hcm⟩
            split <;> omega
          obtain ⟨r, hr, hcr⟩ := hcm'
          have hB : B (lo, hi) = some (.inl (lo, (lo + hi) / 2)) := by
            rw [← hB0]
            simp only [ZcA, hm, hn1]
            simp (disch := omega) only [pz, hcr]
          rw [ZF hB]
          refine ih _ _ (by omega) h0 (by omega) (by omega) h3 fun j a b => ?_
          by_cases hj : j = (lo + hi) / 2
          · rw [hj]; exact e
          · exact fun g => e ((hc ((lo + hi) / 2) j (by omega) (by omega) b).trans g)
      · exact ih lo hi (by omega) h0 h1 h2 h3 h4
  obtain ⟨k, b, h1, h2⟩ := key _ 0 c.Items.length (Nat.le_refl _) (by omega) (by omega) (by omega) (fun j a b => by omega) fun j a b => by omega
  exact ⟨k, b, by simp (disch := omega) only [pz, h1], h2⟩
theorem ZoG {c : Zg} {name : ByteArray} {k : Int} {b : Bool} (hc : Rise c.Items) (hl : (c.Items.length : Int) ≤ 1048576) (p : Plc c.Items name k b) : ZfV c name = some (bif b then k else -1) := by
  have ne : ∀ {s : ByteArray}, ¬ s = name → (s.toList == name.toList) = false := fun {s} h => by
    cases hb : (s.toList == name.toList) with
    | false => rfl
    | true => exact absurd ((Za5 _ _).1 hb) h
  unfold ZfV
  cases b with
  | true =>
    obtain ⟨h1, h2⟩ := p.eq.1 rfl
    have k0 := p.k0
    have hgo := ZJ (B := Zb7 c name) (fun j => j) (i := 0) (n := k) p.k0 fun j j0 j1 => by
      have := ne (s := (ix c.Items j).Name) fun e => by
        have := p.lo j j0 j1
        rw [e] at this
        exact this.irr
      simp (disch := omega) only [pz, Zb7, this]
    rw [hgo]
    refine Zd ?_
    have := (Za5 (ix c.Items k).Name name).2 h2
    simp (disch := omega) only [pz, Zb7, this]
  | false =>
    have hn := p.none hc rfl
    have hgo := ZJ (B := Zb7 c name) (fun j => j) (i := 0) (n := c.Items.length) (by omega) fun j j0 j1 => by
      have := ne (hn j j0 j1)
      simp (disch := omega) only [pz, Zb7, this]
    rw [hgo]
    refine Zd ?_
    simp (disch := omega) only [pz, Zb7]
theorem Zkq {x : Zc} (hs : Sz2 x.Object.Rows) : ZbZ x = some x := by
  unfold ZbZ
  have h := Zqs hs
  simp (disch := omega) only [pz, h]
theorem ZpC {x : Zc} (hs : Sz2 x.Object.Rows) : Zfm x = some x := by
  unfold Zfm ZiE
  have h := Zei hs
  simp (disch := omega) only [pz, h]
end Go.Proofs.YtapkemdomnkccaaGreat
namespace Go.Proofs.YtapkemdomnkccaaGreat
set_option linter.unusedVariables false
open Go Go.Vc
set_option linter.unusedSimpArgs false
theorem ZBl {c : Zg} (hs : Szc c.Items) : Zfw c = some c := by
  have hN := hs.1
  have ei : ∀ x : Zc, Zc.mk x.Name (Zi.mk x.Object.Kind x.Object.Size x.Object.Rows) x.Key = x := fun x => rfl
  unfold Zfw
  have w := ZJ (B := Zef c) (fun i => (i, c.Items.take i.toNat)) (i := 0) (n := c.Items.length) (by omega) fun i i0 i1 => by
    have hc := ZpC (hs.2 _ (ZL i0 i1))
    have ht := Zb4 i0 i1
    have hl : (c.Items.take i.toNat).length ≤ 1048576 := by rw [List.length_take]; omega
    simp (disch := omega) only [pz, Zef, ei, hc, ht]
  have z0 : ((0 : Int), List.take (Int.toNat 0) c.Items) = ((0 : Int), ([] : List Zc)) := rfl
  rw [z0] at w
  rw [w]
  refine Zd ?_
  simp (disch := omega) only [pz, Zef]
noncomputable instance decLike (a b : Zc) : Decidable (Like a b) := Classical.propDecidable _
noncomputable instance decLikeEx (n : Int) (f : Int → Zc) (y : Zc) : Decidable (∃ j, 0 ≤ j ∧ j < n ∧ Like (f j) y) := Classical.propDecidable _
theorem Like.symm {a b : Zc} (h : Like a b) : Like b a := ⟨h.1.symm, h.2.symm⟩
def insI (c : List Zc) (y : Zc) (k : Int) : List Zc := c.take k.toNat ++ [y] ++ c.drop k.toNat
theorem ZbO {c : List Zc} {y : Zc} {k : Int} (k1 : k ≤ (c.length : Int)) : ((insI c y k).length : Int) = c.length + 1 := by
  unfold insI
  rw [List.length_append, List.length_append, List.length_take, List.length_drop, List.length_singleton]; omega
theorem ZtB {c : List Zc} {y : Zc} {k : Int} (hs : ∀ x ∈ c, Sz2 x.Object.Rows) (hy : Sz2 y.Object.Rows) : ∀ x ∈ insI c y k, Sz2 x.Object.Rows := fun x hx => by
  unfold insI at hx
  rcases List.mem_append.1 hx with h | h
  · rcases List.mem_append.1 h with h | h
    · exact hs x (List.mem_of_mem_take h)
    · rw [List.mem_singleton.1 h]; exact hy
  · exact hs x (List.mem_of_mem_drop h)
theorem ZoA {c : List Zc} {y : Zc} {k j : Int} (k1 : k ≤ (c.length : Int)) (h0 : 0 ≤ j) (h : j < k) : ix (insI c y k) j = ix c j := by
  unfold insI
  rw [List.append_assoc, Zjz h0 (by rw [List.length_take]; omega), Zcg h0 h]
theorem ZpU {c : List Zc} {y : Zc} {k : Int} (k0 : 0 ≤ k) (k1 : k ≤ (c.length : Int)) : ix (insI c y k) k = y := by
  unfold insI
  rw [List.append_assoc]
  exact ixMid (by rw [List.length_take]; omega)
theorem ZjZ {c : List Zc} {y : Zc} {k j : Int} (k0 : 0 ≤ k) (k1 : k ≤ (c.length : Int)) (h : k < j) : ix (insI c y k) j = ix c (j - 1) := by
  unfold insI
  have hl : ((c.take k.toNat ++ [y]).length : Int) = k + 1 := by rw [List.length_append, List.length_take, List.length_singleton]; omega
  rw [ZgG (by omega), hl, Zkf k0 (by omega), show k + (j - (k + 1)) = j - 1 by omega]
theorem bl_or {a b : ByteArray} : (Op.bytesLess a.toList b.toList || a.toList == b.toList) = !Op.bytesLess b.toList a.toList := Zhl _ _
theorem ZqM {a b : ByteArray} (h1 : ¬ Bl a b) (h2 : ¬ a = b) : Bl b a := by
  have h := @bl_or a b
  have e1 : Op.bytesLess a.toList b.toList = false := by unfold Bl at h1; simpa using h1
  have e2 : (a.toList == b.toList) = false := by
    cases hh : (a.toList == b.toList) with
    | false => rfl
    | true => exact absurd ((Za5 a b).1 hh) h2
  rw [e1, e2] at h
  unfold Bl
  cases hh : Op.bytesLess b.toList a.toList with
  | true => rfl
  | false => rw [hh] at h; cases h
theorem Zk6 {c : List Zc} {y : Zc} {k : Int} (hc : Rise c) (p : Plc c y.Name k false) : Rise (insI c y k) := by
  have k0 := p.k0; have k1 := p.k1
  have hn := p.none hc rfl
  have hup : ∀ j, k ≤ j → j < (c.length : Int) → Bl y.Name (ix c j).Name := fun j a b => ZqM (p.hi j a b) (hn j (by omega) b)
  intro i j h0 h1 h2
  rw [ZbO k1] at h2
  rcases Int.lt_trichotomy i k with hi | hi | hi
  · rw [ZoA k1 h0 hi]
    rcases Int.lt_trichotomy j k with hj | hj | hj
    · rw [ZoA k1 (by omega) hj]; exact hc i j h0 h1 (by omega)
    · rw [hj, ZpU k0 k1]; exact p.lo i h0 hi
    · rw [ZjZ k0 k1 hj]; exact (p.lo i h0 hi).trans (hup (j - 1) (by omega) (by omega))
  · rw [hi, ZpU k0 k1, ZjZ k0 k1 (by omega)]
    exact hup (j - 1) (by omega) (by omega)
  · rw [ZjZ k0 k1 hi, ZjZ k0 k1 (by omega)]
    exact hc (i - 1) (j - 1) (by omega) (by omega) (by omega)
theorem Zo0 {c : List Zc} {y : Zc} {k : Int} (hc : Rise c) (hs : ∀ x ∈ c, Sz2 x.Object.Rows) (hy : Sz2 y.Object.Rows) (hl : (c.length : Int) ≤ 24) (p : Plc c y.Name k false) :
    Zb6 ⟨c⟩ y = some (if ∃ j, 0 ≤ j ∧ j < (c.length : Int) ∧ Like (ix c j) y then (⟨[]⟩, 6) else if (c.length : Int) + 1 > 24 then (⟨[]⟩, 5) else (⟨insI c y k⟩, 0)) := by
  have k0 := p.k0; have k1 := p.k1
  have hn := p.none hc rfl
  have f1 := ZoG (c := ⟨c⟩) hc (by show (c.length : Int) ≤ 1048576; omega) p
  simp only [cond_false] at f1
  have oy := Zkq hy
  have ox : ∀ i, 0 ≤ i → i < (c.length : Int) → ZbZ (ix c i) = some (ix c i) := fun i a b => Zkq (hs _ (ZL a b))
  unfold Zb6
  simp (disch := omega) only [pz, f1]
  have hlk : ∀ i, ZcY (ix c i) y = some (decide (Like (ix c i) y)) := fun i => by
    have q := ZjY (ix c i) y
    by_cases g : Like (ix c i) y
    · rw [q.eq g, decide_eq_true g]
    · rw [q.ne g, decide_eq_false g]
  obtain ⟨f, hf⟩ : ∃ f : Int → Bool × Int × List Zc, f = fun i => if i ≤ k then (false, i, c.take i.toNat) else (true, i, c.take k.toNat ++ [y] ++ (c.take i.toNat).drop k.toNat) := ⟨_, rfl⟩
  have flo : ∀ i, i ≤ k → f i = (false, i, c.take i.toNat) := fun i h => by rw [hf]; exact if_pos h
  have fhi : ∀ i, k < i → f i = (true, i, c.take k.toNat ++ [y] ++ (c.take i.toNat).drop k.toNat) := fun i h => by rw [hf]; exact if_neg (by omega)
  have hstop : ∀ i, 0 ≤ i → i < (c.length : Int) → Like (ix c i) y → ZaH ⟨c⟩ y (f i) = some (.inr (⟨[]⟩, 6)) := fun i a b g => by
    have hd := hlk i
    rw [decide_eq_true g] at hd
    by_cases hik : i ≤ k
    · rw [flo i hik]; simp (disch := omega) only [pz, ZaH, hd]
    · rw [fhi i (by omega)]; simp (disch := omega) only [pz, ZaH, hd]
  have hstep : ∀ i, 0 ≤ i → i < (c.length : Int) → ¬ Like (ix c i) y → ZaH ⟨c⟩ y (f i) = some (.inl (f (i + 1))) := fun i a b g => by
    have hd := hlk i
    rw [decide_eq_false g] at hd
    have ht := Zb4 (xs := c) a b
    have ho := ox i a b
    have hor := @bl_or (ix c i).Name y.Name
    rcases Int.lt_trichotomy i k with h | h | h
    · rw [flo i (by omega), flo (i + 1) (by omega)]
      have hb : Op.bytesLess y.Name.toList (ix c i).Name.toList = false := by
        cases hh : Op.bytesLess y.Name.toList (ix c i).Name.toList with
        | false => rfl
        | true => exact ((p.lo i a h).trans hh).irr.elim
      rw [hb] at hor
      have hll : (c.take i.toNat).length ≤ 24 := by rw [List.length_take]; omega
      simp (disch := omega) only [pz, ZaH, hd, hor, Zdx, Zdo, ho, ht]
    · subst h
      rw [flo i (by omega), fhi (i + 1) (by omega)]
      have hb : Op.bytesLess y.Name.toList (ix c i).Name.toList = true := ZqM (p.hi i (by omega) b) (hn i a b)
      rw [hb] at hor
      have hll : (c.take i.toNat).length ≤ 24 := by rw [List.length_take]; omega
      have hdr : (c.take (i + 1).toNat).drop i.toNat = [ix c i] := by
        rw [ht, List.drop_append_of_le_length (by rw [List.length_take]; omega), List.drop_of_length_le (by rw [List.length_take]; omega), List.nil_append]
      have hll2 : (c.take i.toNat ++ [y]).length ≤ 25 := by rw [List.length_append, List.length_singleton]; omega
      simp (disch := omega) only [pz, ZaH, hd, hor, Zdx, oy, Zdo, ho, hdr]
    · rw [fhi i h, fhi (i + 1) (by omega)]
      have hdr : (c.take (i + 1).toNat).drop k.toNat = (c.take i.toNat).drop k.toNat ++ [ix c i] := by
        rw [ht, List.drop_append_of_le_length (by rw [List.length_take]; omega)]
      have hll2 : (c.take k.toNat ++ [y] ++ (c.take i.toNat).drop k.toNat).length ≤ 50 := by rw [List.length_append, List.length_append, List.length_singleton, List.length_drop, List.length_take, List.length_take]; omega
      simp (disch := omega) only [pz, ZaH, hd, Zdx, Zdo, ho, hdr, ← List.append_assoc]
  have e0 : ((false : Bool), (0 : Int), ([] : List Zc)) = f 0 := by rw [flo 0 k0]; rfl
  rw [e0]
  rcases Zcu (B := ZaH ⟨c⟩ y) f (fun i => Like (ix c i) y) (i := 0) (n := c.length) (by omega) hstep with ⟨i, h1, h2, h3, h4, h5⟩ | ⟨h1, h2⟩
  · rw [h5, if_pos ⟨i, h1, h2, h3⟩]
    exact Zd (hstop i h1 h2 h3)
  · rw [h2, if_neg fun ⟨j, a, b, g⟩ => h1 j a b g]
    refine Zd ?_
    have hfin : ∀ xs : List Zc, (xs.length : Int) = c.length + 1 → xs = insI c y k → Zc2 xs = some (.inr (if (c.length : Int) + 1 > 24 then (⟨[]⟩, 5) else (⟨insI c y k⟩, 0))) := fun xs hx e => by
      by_cases h : (c.length : Int) + 1 > 24
      · rw [if_pos h]; simp (disch := omega) only [pz, Zc2]
      · rw [if_neg h, ← e]; simp (disch := omega) only [pz, Zc2]
    by_cases hk : k = c.length
    · rw [flo _ (by omega)]
      have e1 : c.take (c.length : Int).toNat = c := by rw [Int.toNat_natCast, List.take_length]
      rw [e1]
      have := hfin (c ++ [y]) (by simp) (by unfold insI; rw [hk, e1, Int.toNat_natCast, List.drop_length, List.append_nil])
      simp (disch := omega) only [pz, ZaH, oy, this]
    · rw [fhi _ (by omega)]
      have e1 : c.take (c.length : Int).toNat = c := by rw [Int.toNat_natCast, List.take_length]
      rw [e1]
      have := hfin (c.take k.toNat ++ [y] ++ c.drop k.toNat) (ZbO k1) rfl
      simp (disch := omega) only [pz, ZaH, this]
theorem ZxD {c : List Zc} {y : Zc} {k : Int} (hc : Rise c) (hl : (c.length : Int) ≤ 24) (p : Plc c y.Name k true) : Zb6 ⟨c⟩ y = some (⟨[]⟩, 4) := by
  have k0 := p.k0
  have f1 := ZoG (c := ⟨c⟩) hc (by show (c.length : Int) ≤ 1048576; omega) p
  simp only [cond_true] at f1
  unfold Zb6
  simp (disch := omega) only [pz, f1]
section
variable {d : Zg} (hd : (d.Items.length : Int) ≤ 24) (hds : ∀ x ∈ d.Items, Sz2 x.Object.Rows)
include hd hds
theorem Zpo {left : List ByteArray} {i : Int} {xs : List Zc} (i0 : 0 ≤ i) (i1 : i < (d.Items.length : Int)) (hx : Rise xs) (hxl : (xs.length : Int) ≤ 100) (hll : (left.length : Int) ≤ 100) {k : Int} {b : Bool} (hp : Zep ⟨xs⟩ (ix d.Items i).Name = some (k, b)) (p : Plc xs (ix d.Items i).Name k b) :
    Za2 d (left, i, xs) = some (.inl (if b = true ∨ ∃ j, 0 ≤ j ∧ j < (xs.length : Int) ∧ Like (ix xs j) (ix d.Items i) then (left ++ [(ix d.Items i).Name], i + 1, xs) else (left, i + 1, insI xs (ix d.Items i) k))) := by
  have hcp := ZpC (hds _ (ZL i0 i1))
  have ei : ∀ x : Zc, Zc.mk x.Name (Zi.mk x.Object.Kind x.Object.Size x.Object.Rows) x.Key = x := fun x => rfl
  have k0 := p.k0; have k1 := p.k1
  cases b with
  | true =>
    rw [if_pos (.inl rfl)]
    simp (disch := omega) only [pz, Za2, hp, ZdC]
  | false =>
    obtain ⟨r, r1, r2⟩ := ZlF (c := xs) (x := ix d.Items i) (i := xs.length) (by omega) (by omega) (Int.le_refl _)
    rw [Int.toNat_natCast, List.take_length] at r1
    by_cases h : r < 0
    · have hno := r2.1 h
      rw [if_neg (fun hh => by
        rcases hh with h | ⟨j, a, b, g⟩
        · cases h
        · exact hno j a b g.symm)]
      have hin : Zf9 xs k (ix d.Items i) = some (insI xs (ix d.Items i) k) := by
        unfold Zf9
        rw [if_pos ⟨k0, k1, by omega, by omega⟩]; rfl
      simp (disch := omega) only [pz, Za2, hp, ei, r1, ZdC, Zjw, hcp, hin]
    · rw [if_pos (.inr (Classical.byContradiction fun g => h (r2.2 fun j a b hh => g ⟨j, a, b, hh.symm⟩)))]
      simp (disch := omega) only [pz, Za2, hp, ei, r1, ZdC]
theorem ZnW : ∀ (m : Nat) (i : Int) (left : List ByteArray) (xs : List Zc), i + m = d.Items.length → 0 ≤ i → Rise xs → 24 < (xs.length : Int) → (xs.length : Int) ≤ 25 + i → (left.length : Int) ≤ i → loop (Za2 d) (left, i, xs) = some (⟨[]⟩, [], 5)
  | 0, i, left, xs, h1, h0, hx, h2, h3, h4 => by
    refine Zd ?_
    simp (disch := omega) only [pz, Za2]
  | m + 1, i, left, xs, h1, h0, hx, h2, h3, h4 => by
    obtain ⟨k, b, p1, p2⟩ := ZpP (c := ⟨xs⟩) (name := (ix d.Items i).Name) hx (by show (xs.length : Int) ≤ 1048576; omega)
    replace p2 : Plc xs (ix d.Items i).Name k b := p2
    rw [ZF (Zpo hd hds h0 (by omega) hx (by omega) (by omega) p1 p2)]
    by_cases g : b = true ∨ ∃ j, 0 ≤ j ∧ j < (xs.length : Int) ∧ Like (ix xs j) (ix d.Items i)
    · rw [if_pos g]
      exact ZnW m (i + 1) _ xs (by omega) (by omega) hx h2 (by omega) (by rw [List.length_append, List.length_singleton]; omega)
    · rw [if_neg g]
      have hb : b = false := by
        cases b with
        | false => rfl
        | true => exact absurd (.inl rfl) g
      subst hb
      have hl := ZbO (y := ix d.Items i) (c := xs) p2.k1
      exact ZnW m (i + 1) left _ (by omega) (by omega) (Zk6 hx p2) (by rw [ZbO p2.k1]; have := p2.k1; omega) (by rw [ZbO p2.k1]; omega) (by omega)
theorem ZmZ : ∀ (m : Nat) (i : Int) (left : List ByteArray) (xs : List Zc), i + m = d.Items.length → 0 ≤ i → Rise xs → (∀ x ∈ xs, Sz2 x.Object.Rows) → (xs.length : Int) ≤ 24 → (left.length : Int) ≤ i →
    ∃ r, loop (Zbu d) (left, i, xs) = some (.inr r) ∧ loop (Za2 d) (left, i, xs) = some r ∧ Szc r.1.Items ∧ (r.2.1.length : Int) ≤ 24
  | 0, i, left, xs, h1, h0, hx, hsx, h3, h4 => by
    refine ⟨(⟨xs⟩, left, 0), Zd ?_, Zd ?_, ⟨by show (xs.length : Int) ≤ _; omega, hsx⟩, by show (left.length : Int) ≤ 24; omega⟩
    · simp (disch := omega) only [pz, Zbu]
    · simp (disch := omega) only [pz, Za2]
  | m + 1, i, left, xs, h1, h0, hx, hsx, h3, h4 => by
    have hy := hds _ (ZL h0 (show i < (d.Items.length : Int) by omega))
    obtain ⟨k, b, p1, p2⟩ := ZpP (c := ⟨xs⟩) (name := (ix d.Items i).Name) hx (by show (xs.length : Int) ≤ 1048576; omega)
    replace p2 : Plc xs (ix d.Items i).Name k b := p2
    have st := Zpo hd hds h0 (show i < (d.Items.length : Int) by omega) hx (by omega) (show (left.length : Int) ≤ 100 by omega) p1 p2
    by_cases g : b = true ∨ ∃ j, 0 ≤ j ∧ j < (xs.length : Int) ∧ Like (ix xs j) (ix d.Items i)
    · rw [if_pos g] at st
      have hput : ∃ c, Zb6 ⟨xs⟩ (ix d.Items i) = some (⟨[]⟩, c) ∧ ¬ c = 5 ∧ ¬ c = 0 := by
        cases b with
        | true => exact ⟨4, ZxD hx h3 p2, by decide, by decide⟩
        | false =>
          have hj : ∃ j, 0 ≤ j ∧ j < (xs.length : Int) ∧ Like (ix xs j) (ix d.Items i) := by
            rcases g with g | g
            · cases g
            · exact g
          have := Zo0 hx hsx hy h3 p2
          rw [if_pos hj] at this
          exact ⟨6, this, by decide, by decide⟩
      obtain ⟨c, q1, q2, q3⟩ := hput
      have st2 : Zbu d (left, i, xs) = some (.inl (left ++ [(ix d.Items i).Name], i + 1, xs)) := by
        simp (disch := omega) only [pz, Zbu, q1]
      rw [ZF st, ZF st2]
      exact ZmZ m (i + 1) _ xs (by omega) (by omega) hx hsx h3 (by rw [List.length_append, List.length_singleton]; omega)
    · rw [if_neg g] at st
      have hb : b = false := by
        cases b with
        | false => rfl
        | true => exact absurd (.inl rfl) g
      subst hb
      have hl := ZbO (y := ix d.Items i) (c := xs) p2.k1
      have hput := Zo0 hx hsx hy h3 p2
      rw [if_neg fun h => g (.inr h)] at hput
      by_cases hf : (xs.length : Int) + 1 > 24
      · rw [if_pos hf] at hput
        refine ⟨(⟨[]⟩, [], 5), Zd ?_, ?_, ⟨by simp, by simp⟩, by simp⟩
        · simp (disch := omega) only [pz, Zbu, hput]
        · rw [ZF st]
          exact ZnW hd hds m (i + 1) left _ (by omega) (by omega) (Zk6 hx p2) (by rw [ZbO p2.k1]; omega) (by rw [ZbO p2.k1]; omega) (by omega)
      · rw [if_neg hf] at hput
        have st2 : Zbu d (left, i, xs) = some (.inl (left, i + 1, insI xs (ix d.Items i) k)) := by
          simp (disch := omega) only [pz, Zbu, hput]
        rw [ZF st, ZF st2]
        exact ZmZ m (i + 1) left _ (by omega) (by omega) (Zk6 hx p2) (ZtB hsx hy) (by rw [ZbO p2.k1]; omega) (by omega)
end
theorem Zwy {c d : Zg} (hs : Szc c.Items) (ht : Szc d.Items) : ∃ r, Zh2 c d = some r ∧ ZeJ c d = some r ∧ Szc r.1.Items ∧ (r.2.1.length : Int) ≤ 24 := by
  have e : ∀ c : Zg, Zg.mk c.Items = c := fun c => rfl
  have z : Szc ([] : List Zc) := ⟨by simp, by simp⟩
  unfold Zh2 ZeJ
  by_cases hv : CatV c.Items
  · by_cases hw : CatV d.Items
    · have a1 := (ZgH hs).eq hv; have a2 := (Zhk hs).eq hv
      have b1 := (ZgH ht).eq hw; have b2 := (Zhk ht).eq hw
      have hcn := hv.n
      obtain ⟨r, r1, r2, r3, r4⟩ := ZmZ hw.n ht.2 d.Items.length 0 [] c.Items (by omega) (Int.le_refl _) hv.rise hs.2 hv.n (by simp)
      refine ⟨r, ?_, ?_, r3, r4⟩
      · simp (disch := omega) only [pz, e, a1, b1]
        unfold Zj6
        have w := ZJ (B := ZdU c d) (fun i => (i, c.Items.take i.toNat)) (i := 0) (n := c.Items.length) (by omega) fun i i0 i1 => by
          have hc := Zkq (hs.2 _ (ZL i0 i1))
          have ht := Zb4 i0 i1
          have hl : (c.Items.take i.toNat).length ≤ 1048576 := by rw [List.length_take]; omega
          simp (disch := omega) only [pz, ZdU, hc, ht]
        have z0 : ((0 : Int), List.take (Int.toNat 0) c.Items) = ((0 : Int), ([] : List Zc)) := rfl
        rw [z0] at w
        rw [w]
        refine Zd ?_
        have et : c.Items.take (c.Items.length : Int).toNat = c.Items := by rw [Int.toNat_natCast, List.take_length]
        simp only [et]
        simp (disch := omega) only [pz, ZdU, r1]
      · simp (disch := omega) only [pz, e, a2, b2]
        unfold Zic
        have hcp := ZBl hs
        simp (disch := omega) only [pz, e, hcp, r2]
    · have a1 := (ZgH hs).eq hv; have a2 := (Zhk hs).eq hv
      have b1 := (ZgH ht).ne hw; have b2 := (Zhk ht).ne hw
      exact ⟨(⟨[]⟩, [], 1), by simp (disch := omega) only [pz, e, a1, b1], by simp (disch := omega) only [pz, e, a2, b2], z, by simp⟩
  · have a1 := (ZgH hs).ne hv; have a2 := (Zhk hs).ne hv
    exact ⟨(⟨[]⟩, [], 1), by simp (disch := omega) only [pz, e, a1], by simp (disch := omega) only [pz, e, a2], z, by simp⟩
end Go.Proofs.YtapkemdomnkccaaGreat
namespace Go.Proofs.YtapkemdomnkccaaGreat
set_option linter.unusedVariables false
open Go Go.Vc
set_option linter.unusedSimpArgs false
theorem ZpE : ∀ (xs : List (List Int)), (∀ r ∈ xs, (r.length : Int) ≤ 1048576) → total xs ≤ xs.length * 1048576
  | [], _ => by simp [total]
  | r :: rs, h => by
    have h1 := h r (List.mem_cons_self ..)
    have h2 := ZpE rs fun x hx => h x (List.mem_cons_of_mem _ hx)
    simp only [total, List.length_cons]; omega
theorem ZAj {r : List (List Int)} (h : Sz2 r) : total r ≤ 1099511627776 := by
  have h1 := h.1
  have h2 := ZpE r h.2
  omega
theorem Zmy : ∀ (C : List Zc) (k : Int), (∀ x ∈ C, Sz2 x.Object.Rows) → kItems k C ≤ k + C.length * 1099511627780
  | [], k, _ => by simp [kItems]
  | x :: C, k, h => by
    have h1 := ZAj (h x (List.mem_cons_self ..))
    have h2 := Zmy C (kIt k x) fun y hy => h y (List.mem_cons_of_mem _ hy)
    have e : kItems k (x :: C) = kItems (kIt k x) C := rfl
    rw [e, List.length_cons]
    unfold kIt at h2 ⊢
    omega
theorem Zx9 {c : Zg} (hs : Szc c.Items) {k : Int} (h0 : 0 ≤ k) (h1 : k ≤ 2000000000000000000) : ZbK c k = some (kItems k c.Items, ⟨mItems k c.Items⟩) := by
  have h := Zrb c.Items [] k hs.2 h0 (by have := hs.1; omega) (by have := hs.1; simp; omega)
  have e : ZfT c.Items k = some (kItems k c.Items, mItems k c.Items) := h
  unfold ZbK
  simp (disch := omega) only [pz, e]
theorem ZAM {a b : ZU} (ha : Zjr a) (hb : Zjr b) : ZiI a b = some true := by
  unfold ZiI
  obtain ⟨r, hr, c⟩ := Zpx a 1048576 ha (by omega) (by omega)
  have e : ∀ a : ZU, ZU.mk a.Items = a := fun a => rfl
  rcases c with rfl | ⟨r0, r1, sa⟩
  · simp (disch := omega) only [pz, e, hr]
  · obtain ⟨q, hq0, c⟩ := Zpx b r hb (by omega) (by omega)
    rcases c with rfl | ⟨q0, q1, sb⟩
    · simp (disch := omega) only [pz, e, hr, hq0]
    · have hz := Zrj sa
      have hw := Zrj sb
      have ht := Zqr sa
      have hu := Zqr sb
      generalize ZdZ a = x at hz ht
      generalize ZdZ b = y at hw hu
      have e2 : ∀ x : Zg, Zg.mk x.Items = x := fun x => rfl
      obtain ⟨⟨g, l, n⟩, h1, h2, h3, h4⟩ := Zwy hz hw
      dsimp only at h3 h4
      have hq := (ZlN (Zod h3)).eq (rfl : g = g)
      have hx := (ZlN (Zod hz)).eq (rfl : x = x)
      have hy := (ZlN (Zod hw)).eq (rfl : y = y)
      have hl := (ZyQ (a := l) (b := l) ⟨by unfold M63; omega, fun _ _ => trivial⟩).eq rfl
      have k1 := Zgb x.Items 1
      have k2 := Zmy x.Items 1 hz.2
      have k3 := Zgb y.Items (kItems 1 x.Items)
      have k4 := Zgb g.Items 1
      have k5 := Zmy g.Items 1 h3.2
      have hz1 := hz.1; have h31 := h3.1
      have m1 := ZoI hz
      have m2 := Zx9 hw (k := kItems 1 x.Items) (by omega) (by omega)
      have m3 := ZoI h3
      have m4 := Zsq (xs := l) (k := kItems 1 g.Items) (by omega) (by omega) (by omega)
      have d3 := Zs3 h3
      have d4 := Zxn (n := l.length) (k := kItems 1 g.Items) (by omega) (by omega) (by omega) (by omega)
      have b3 : ZhN (kItems 1 g.Items, ⟨mItems 1 g.Items⟩) (kItems 1 g.Items + (l.length : Int), marksT (kItems 1 g.Items) l.length) = some true := by
        unfold ZhN
        simp (disch := omega) only [pz, d3, d4]
      have b2 : Zfu a b (g, l, n) (g, l, n) = some true := by
        unfold Zfu
        simp (disch := omega) only [pz, m3, m4, d3, d4, e, e2, ht, hu, h2, hq, hl, b3]
      have b1 : Zg1 a b (g, l, n) x y (g, l, n) = some true := by
        unfold Zg1
        simp (disch := omega) only [pz, e, e2, ht, hx, hu, hy, m1, m2, hq, hl, b2]
      simp (disch := omega) only [pz, e, hr, hq0, ht, hu, h1, e2, h2, hq, hl, b1]
end Go.Proofs.YtapkemdomnkccaaGreat
