import Derived.Test.YtocnokjekoglnaaGreatDoorPuJg
namespace Go.Proofs.YtocnokjekoglnaaGreatDoor
open Go Go.Vc
set_option linter.unusedSimpArgs false
set_option linter.unusedVariables false
theorem Zxs (s : ByteArray) : (byts s).length = s.size := by
  unfold byts
  rw [List.length_map, Array.length_toList]; rfl
theorem ZxO {s : ByteArray} {i : Int} (h0 : 0 ≤ i) (h1 : i < (s.size : Int)) : ∃ c : UInt8, gSt s i = some c ∧ (c.toNat : Int) = ix (byts s) i := by
  have hl : i.toNat < s.size := by omega
  refine ⟨s[i.toNat], ?_, ?_⟩
  · unfold gSt
    rw [if_pos h0]
    exact getElem?_pos s i.toNat hl
  · have hl2 : i.toNat < (byts s).length := by rw [Zxs]; exact hl
    have : (byts s)[i.toNat]? = some ((s[i.toNat]).toNat : Int) := by
      rw [List.getElem?_eq_getElem hl2]
      simp [byts]
      rfl
    have h3 := Zaz (xs := byts s) h0 (by rw [Zxs]; exact h1)
    rw [this] at h3
    exact Option.some.inj h3
structure Nam (s : ByteArray) : Prop where
  s1 : 1 ≤ (s.size : Int)
  s2 : (s.size : Int) ≤ 10
  fst : 97 ≤ ix (byts s) 0 ∧ ix (byts s) 0 ≤ 122
  all : ∀ i, 0 ≤ i → i < (s.size : Int) → (97 ≤ ix (byts s) i ∧ ix (byts s) i ≤ 122) ∨ (48 ≤ ix (byts s) i ∧ ix (byts s) i ≤ 57)
theorem Zyn (s : ByteArray) : IsQ (ZxD s) (Nam s) := by
  unfold ZxD ZxL
  by_cases h0 : (s.size : Int) = 0
  · have e : s = ⟨#[]⟩ := by
      have : s.data = #[] := Array.eq_empty_of_size_eq_zero (by have : s.size = s.data.size := rfl; omega)
      cases s; simp at this; rw [this]
    rw [(ZxQ s ⟨#[]⟩).2 e]
    exact IsQ.f fun h => by have := h.s1; omega
  · have ne : (s.toList == (⟨#[]⟩ : ByteArray).toList) = false := by
      cases hb : s.toList == (⟨#[]⟩ : ByteArray).toList with
      | false => rfl
      | true =>
        have := (ZxQ s ⟨#[]⟩).1 hb
        rw [this] at h0
        exact absurd rfl h0
    rw [ne]
    by_cases h10 : (s.size : Int) ≤ 10
    · obtain ⟨c, hc, he⟩ := ZxO (s := s) (i := 0) (by omega) (by omega)
      by_cases hf : 97 ≤ ix (byts s) 0 ∧ ix (byts s) 0 ≤ 122
      · simp (disch := omega) only [pz, hc, Zxk, he]
        refine (Zam (P := fun i => (97 ≤ ix (byts s) i ∧ ix (byts s) i ≤ 122) ∨ (48 ≤ ix (byts s) i ∧ ix (byts s) i ≤ 57)) (n := s.size) (Q := True) (by omega) ?_ ?_ fun _ => ?_).congr ⟨fun g => ⟨by omega, h10, hf, g.1⟩, fun g => ⟨g.all, trivial⟩⟩
        · intro i g0 g1 g2
          obtain ⟨c, hc, he⟩ := ZxO (s := s) g0 g1
          by_cases hl : 97 ≤ ix (byts s) i
          · by_cases hl2 : ix (byts s) i ≤ 122
            · simp (disch := omega) only [pz, Zxr, hc, Zxk, Zxq, he]
            · omega
          · simp (disch := omega) only [pz, Zxr, hc, Zxk, Zxq, he]
        · intro i g0 g1 g2
          obtain ⟨c, hc, he⟩ := ZxO (s := s) g0 g1
          by_cases hl : 97 ≤ ix (byts s) i
          · simp (disch := omega) only [pz, Zxr, hc, Zxk, Zxq, he]
          · by_cases hd : 48 ≤ ix (byts s) i
            · simp (disch := omega) only [pz, Zxr, hc, Zxk, Zxq, he]
            · simp (disch := omega) only [pz, Zxr, hc, Zxk, Zxq, he]
        · rw [Zd (r := true) (by simp (disch := omega) only [pz, Zxr])]; exact IsQ.t trivial
      · have hn : IsQ (some false) (Nam s) := IsQ.f fun h => hf h.fst
        by_cases hl : 97 ≤ ix (byts s) 0
        · simp (disch := omega) only [pz, hc, Zxk, he]; exact hn
        · simp (disch := omega) only [pz, hc, Zxk, he]; exact hn
    · simp (disch := omega) only [pz, ]
      exact IsQ.f fun h => h10 h.s2
theorem Zym (s : ByteArray) : IsQ (Zxz s) (Nam s) := by
  have hbl := Zxs s
  unfold Zxz ZxK
  by_cases h0 : (s.size : Int) < 1
  · simp (disch := omega) only [pz, ]
    exact IsQ.f fun h => by have := h.s1; omega
  · by_cases h10 : (s.size : Int) ≤ 10
    · simp (disch := omega) only [pz, ]
      refine (Zam (P := fun i => (97 ≤ ix (byts s) i ∧ ix (byts s) i ≤ 122) ∨ (¬ i = 0 ∧ 48 ≤ ix (byts s) i ∧ ix (byts s) i ≤ 57)) (n := s.size) (Q := True) (by omega) ?_ ?_ fun _ => ?_).congr ⟨fun g => ⟨by omega, h10, ?_, fun i a b => ?_⟩, fun g => ⟨fun i a b => ?_, trivial⟩⟩
      · intro i g0 g1 g2
        by_cases hl : 97 ≤ ix (byts s) i
        · by_cases hl2 : ix (byts s) i ≤ 122
          · simp (disch := omega) only [pz, Zxm, Zxj, Zxl]
          · omega
        · simp (disch := omega) only [pz, Zxm, Zxj, Zxl]
      · intro i g0 g1 g2
        by_cases hl : 97 ≤ ix (byts s) i
        · by_cases hz : i = 0
          · simp (disch := omega) only [pz, Zxm, Zxj, Zxl]
          · simp (disch := omega) only [pz, Zxm, Zxj, Zxl]
        · by_cases hz : i = 0
          · by_cases hd : 48 ≤ ix (byts s) i
            · simp (disch := omega) only [pz, Zxm, Zxj, Zxl]
            · simp (disch := omega) only [pz, Zxm, Zxj, Zxl]
          · by_cases hd : 48 ≤ ix (byts s) i
            · simp (disch := omega) only [pz, Zxm, Zxj, Zxl]
            · simp (disch := omega) only [pz, Zxm, Zxj, Zxl]
      · rw [Zd (r := true) (by simp (disch := omega) only [pz, Zxm])]; exact IsQ.t trivial
      · have := g.1 0 (by omega) (by omega); omega
      · have := g.1 i a b; omega
      · have h1 := g.all i a b
        have h2 := g.fst
        by_cases hz : i = 0
        · subst hz; exact .inl h2
        · omega
    · simp (disch := omega) only [pz, ]
      exact IsQ.f fun h => h10 h.s2
end Go.Proofs.YtocnokjekoglnaaGreatDoor
namespace Go.Proofs.YtocnokjekoglnaaGreatDoor
set_option linter.unusedVariables false
open Go Go.Vc
set_option linter.unusedSimpArgs false
instance : Inhabited Zxh := ⟨⟨⟨#[]⟩, ⟨0, 0, []⟩, ⟨#[]⟩⟩⟩
def ObjV (o : Zz) : Prop := ZeN o = some true
theorem Zyd {o : Zz} (hs : Sz2 o.Rows) : IsQ (ZeN o) (ObjV o) := by
  obtain ⟨c, h1, h2⟩ := ZpB hs
  refine ⟨c, h1, ?_⟩
  unfold ObjV
  rw [h1]
  exact ⟨fun h => by rw [h], fun h => Option.some.inj h⟩
theorem Zyj {o : Zz} (hs : Sz2 o.Rows) : IsQ (Zbi o) (ObjV o) := by
  obtain ⟨c, h1, h2⟩ := ZpB hs
  refine ⟨c, h2, ?_⟩
  unfold ObjV
  rw [h1]
  exact ⟨fun h => by rw [h], fun h => Option.some.inj h⟩
structure ItemV (x : Zxh) : Prop where
  nam : Nam x.Name
  obj : ObjV x.Object
  k1 : 1 ≤ (x.Key.size : Int)
  k2 : (x.Key.size : Int) ≤ 4000
theorem Zyv {x : Zxh} (hs : Sz2 x.Object.Rows) : IsQ (ZxI x) (ItemV x) := by
  have e : Zz.mk x.Object.Kind x.Object.Size x.Object.Rows = x.Object := rfl
  unfold ZxI
  by_cases h1 : Nam x.Name
  · have q1 := (Zyn x.Name).eq h1
    by_cases h2 : ObjV x.Object
    · have q2 := (Zyd hs).eq h2
      by_cases h3 : 1 ≤ (x.Key.size : Int)
      · by_cases h4 : (x.Key.size : Int) ≤ 4000
        · simp (disch := omega) only [pz, q1, e, q2]; exact IsQ.t ⟨h1, h2, h3, h4⟩
        · simp (disch := omega) only [pz, q1, e, q2]; exact IsQ.f fun h => h4 h.k2
      · simp (disch := omega) only [pz, q1, e, q2]; exact IsQ.f fun h => h3 h.k1
    · have q2 := (Zyd hs).ne h2
      simp (disch := omega) only [pz, q1, e, q2]; exact IsQ.f fun h => h2 h.obj
  · have q1 := (Zyn x.Name).ne h1
    simp (disch := omega) only [pz, q1]; exact IsQ.f fun h => h1 h.nam
theorem Zyx {x : Zxh} (hs : Sz2 x.Object.Rows) : IsQ (ZxH x) (ItemV x) := by
  have e : Zz.mk x.Object.Kind x.Object.Size x.Object.Rows = x.Object := rfl
  unfold ZxH
  by_cases h1 : Nam x.Name
  · have q1 := (Zym x.Name).eq h1
    by_cases h2 : ObjV x.Object
    · have q2 := (Zyj hs).eq h2
      by_cases h3 : 1 ≤ (x.Key.size : Int)
      · by_cases h4 : (x.Key.size : Int) ≤ 4000
        · simp (disch := omega) only [pz, q1, e, q2]; exact IsQ.t ⟨h1, h2, h3, h4⟩
        · simp (disch := omega) only [pz, q1, e, q2]; exact IsQ.f fun h => h4 h.k2
      · simp (disch := omega) only [pz, q1, e, q2]; exact IsQ.f fun h => h3 h.k1
    · have q2 := (Zyj hs).ne h2
      simp (disch := omega) only [pz, q1, e, q2]; exact IsQ.f fun h => h2 h.obj
  · have q1 := (Zym x.Name).ne h1
    simp (disch := omega) only [pz, q1]; exact IsQ.f fun h => h1 h.nam
end Go.Proofs.YtocnokjekoglnaaGreatDoor
namespace Go.Proofs.YtocnokjekoglnaaGreatDoor
set_option linter.unusedVariables false
open Go Go.Vc
set_option linter.unusedSimpArgs false
def cs (x : Nat) : Nat := if 32768 ≤ x then (2 * x % 65536) ^^^ 4129 else 2 * x
def csn : Nat → Nat → Nat
  | 0, x => x
  | n + 1, x => cs (csn n x)
def crN (l : List Int) : Nat := l.foldl (fun x c => csn 8 (x ^^^ (c.toNat * 256))) 65535
theorem cs_lt {x : Nat} (h : x < 65536) : cs x < 65536 := by
  unfold cs
  split
  · exact Nat.xor_lt_two_pow (n := 16) (by omega) (by decide)
  · omega
theorem ZxP : ∀ (n : Nat) {x : Nat}, x < 65536 → csn n x < 65536
  | 0, _, h => h
  | n + 1, _, h => cs_lt (ZxP n h)
theorem ofI {n : Nat} (h : n < 9223372036854775808) : (BitVec.ofInt 64 (n : Int)).toNat = n := by
  rw [BitVec.toNat_ofInt]
  omega
theorem band {a b : Nat} (ha : a < 9223372036854775808) (hb : b < 9223372036854775808) {x y : Int} (hx : x = a) (hy : y = b) : IntKind.i64.wrap ((BitVec.ofInt IntKind.i64.bits x &&& BitVec.ofInt IntKind.i64.bits y).toNat : Int) = ((a &&& b : Nat) : Int) := by
  subst hx hy
  show IntKind.i64.wrap (((BitVec.ofInt 64 (a : Int) &&& BitVec.ofInt 64 (b : Int)).toNat : Nat) : Int) = _
  rw [BitVec.toNat_and, ofI ha, ofI hb]
  have := Nat.and_le_left (n := a) (m := b)
  exact Zax (by omega) (by omega)
theorem bxor {a b : Nat} (ha : a < 9223372036854775808) (hb : b < 9223372036854775808) {x y : Int} (hx : x = a) (hy : y = b) : IntKind.i64.wrap ((BitVec.ofInt IntKind.i64.bits x ^^^ BitVec.ofInt IntKind.i64.bits y).toNat : Int) = ((a ^^^ b : Nat) : Int) := by
  subst hx hy
  show IntKind.i64.wrap (((BitVec.ofInt 64 (a : Int) ^^^ BitVec.ofInt 64 (b : Int)).toNat : Nat) : Int) = _
  rw [BitVec.toNat_xor, ofI ha, ofI hb]
  have := Nat.xor_lt_two_pow (x := a) (y := b) (n := 63) ha hb
  exact Zax (by omega) (by omega)
theorem dbl {x : Nat} (h : x < 1000000) : IntKind.i64.wrap ((x : Int) * 2 ^ min (1 : Int).toNat IntKind.i64.bits) = ((2 * x : Nat) : Int) := by
  have e : (2 : Int) ^ min (1 : Int).toNat IntKind.i64.bits = 2 := rfl
  rw [e]
  have := Zax (n := (x : Int) * 2) (by omega) (by omega)
  rw [this]; omega
theorem ZxM {b : Int} (h : 0 ≤ b) : gNn b = some () := by unfold gNn; rw [if_pos h]
theorem and16 (x : Nat) : x &&& 65535 = x % 65536 := Nat.and_two_pow_sub_one_eq_mod x 16
theorem Zy9 {x : Nat} (h : x < 65536) (i5 k6 : Int) (h0 : 0 ≤ k6) (h1 : k6 < 8) : Zxp i5 ((x : Int), k6) = some (.inl (((cs x : Nat) : Int), k6 + 1)) := by
  have d := dbl (x := x) (by omega)
  have a := band (a := 2 * x) (b := 65535) (by omega) (by omega) (x := ((2 * x : Nat) : Int)) (y := 65535) rfl rfl
  rw [and16] at a
  have g := ZxM (b := 1) (by omega)
  by_cases hx : 32768 ≤ x
  · have b := bxor (a := 2 * x % 65536) (b := 4129) (by omega) (by omega) (x := ((2 * x % 65536 : Nat) : Int)) (y := 4129) rfl rfl
    have e : cs x = (2 * x % 65536) ^^^ 4129 := by unfold cs; rw [if_pos hx]
    simp (disch := omega) only [pz, Zxp, g, d, a, b, e]
  · have e : cs x = 2 * x := by unfold cs; rw [if_neg hx]
    have e2 : 2 * x % 65536 = 2 * x := by omega
    rw [e2] at a
    simp (disch := omega) only [pz, Zxp, g, d, a, e]
theorem Zy1 {x : Nat} (h : x < 65536) (i5 k6 : Int) (h0 : 0 ≤ k6) (h1 : k6 < 8) : Zxo i5 ((x : Int), k6) = some (.inl (((cs x : Nat) : Int), k6 + 1)) := by
  have d := dbl (x := x) (by omega)
  have g := ZxM (b := 1) (by omega)
  by_cases hx : 32768 ≤ x
  · have b := bxor (a := 2 * x) (b := 4129) (by omega) (by omega) (x := ((2 * x : Nat) : Int)) (y := 4129) rfl rfl
    have hb : 2 * x ^^^ 4129 < 9223372036854775808 := Nat.xor_lt_two_pow (n := 63) (by omega) (by decide)
    have a := band (a := 2 * x ^^^ 4129) (b := 65535) hb (by omega) (x := ((2 * x ^^^ 4129 : Nat) : Int)) (y := 65535) rfl rfl
    have e : cs x = (2 * x % 65536) ^^^ 4129 := by unfold cs; rw [if_pos hx]
    have e3 : (2 * x ^^^ 4129) &&& 65535 = (2 * x % 65536) ^^^ 4129 := by
      rw [Nat.and_xor_distrib_right, and16, and16]
    rw [e3] at a
    simp (disch := omega) only [pz, Zxo, g, d, b, a, e]
  · have e : cs x = 2 * x := by unfold cs; rw [if_neg hx]
    simp (disch := omega) only [pz, Zxo, g, d, e]
theorem Zyp {x : Nat} (h : x < 65536) {i5 : Int} (h0 : 0 ≤ i5) (h1 : i5 < 9223372036854775807) : loop (Zxp i5) ((x : Int), 0) = some (.inl (((csn 8 x : Nat) : Int), i5 + 1)) := by
  have e := ZD (B := Zxp i5) (fun k : Int => (((csn k.toNat x : Nat) : Int), k)) (i := 0) (n := 8) (by omega) fun k a b => by
    rw [show (k + 1).toNat = k.toNat + 1 by omega]
    exact Zy9 (ZxP _ h) i5 k a b
  refine Eq.trans e (Zd ?_)
  simp (disch := omega) only [pz, Zxp]
  rfl
theorem ZyN {x : Nat} (h : x < 65536) {i5 : Int} (h0 : 0 ≤ i5) (h1 : i5 < 9223372036854775807) : loop (Zxo i5) ((x : Int), 0) = some (.inl (((csn 8 x : Nat) : Int), i5 + 1)) := by
  have e := ZD (B := Zxo i5) (fun k : Int => (((csn k.toNat x : Nat) : Int), k)) (i := 0) (n := 8) (by omega) fun k a b => by
    rw [show (k + 1).toNat = k.toNat + 1 by omega]
    exact Zy1 (ZxP _ h) i5 k a b
  refine Eq.trans e (Zd ?_)
  simp (disch := omega) only [pz, Zxo]
  rfl
def Bys (l : List Int) : Prop := ∀ x ∈ l, 0 ≤ x ∧ x ≤ 255
theorem Zx0 (s : ByteArray) : Bys (byts s) := by
  intro x hx
  obtain ⟨b, _, rfl⟩ := List.mem_map.1 hx
  have := b.toNat_lt
  omega
theorem Zyy (f : Nat → Int → Nat) (hf : ∀ x c, x < 65536 → 0 ≤ c ∧ c ≤ 255 → f x c < 65536) (l : List Int) : ∀ x : Nat, Bys l → x < 65536 → l.foldl f x < 65536 := by
  induction l with
  | nil => intro x _ h; exact h
  | cons c l ih =>
    intro x hl h
    rw [List.foldl_cons]
    exact ih _ (fun y hy => hl y (List.mem_cons_of_mem _ hy)) (hf x c h (hl c (List.mem_cons_self ..)))
theorem Zyc {l : List Int} (h : Bys l) : crN l < 65536 := by
  unfold crN
  exact Zyy _ (fun x c hx hc => ZxP 8 (Nat.xor_lt_two_pow (n := 16) hx (by omega))) l _ h (by omega)
theorem Zyf {l : List Int} {k : Int} (h0 : 0 ≤ k) (h1 : k < (l.length : Int)) : crN (l.take (k + 1).toNat) = csn 8 (crN (l.take k.toNat) ^^^ ((ix l k).toNat * 256)) := by
  unfold crN
  rw [Zbh h0 h1, List.foldl_append, List.foldl_cons, List.foldl_nil]
theorem shl8 {c : Int} (h0 : 0 ≤ c) (h1 : c ≤ 255) : IntKind.i64.wrap (c * 2 ^ min (8 : Int).toNat IntKind.i64.bits) = ((c.toNat * 256 : Nat) : Int) := by
  have e : (2 : Int) ^ min (8 : Int).toNat IntKind.i64.bits = 256 := rfl
  rw [e, Zax (n := c * 256) (by omega) (by omega)]
  omega
theorem Zyg {l : List Int} (h : Bys l) (n : Nat) : Bys (l.take n) := fun x hx => h x (List.mem_of_mem_take hx)
theorem ZyT {s : ByteArray} (hs : s.size ≤ 9000000000000000000) : ZxC s 65535 = some ((crN (byts s) : Nat) : Int) := by
  have hb := Zx0 s
  have hl := Zxs s
  unfold ZxC
  have e := ZD (B := Zxw s) (fun k : Int => (((crN ((byts s).take k.toNat) : Nat) : Int), k)) (i := 0) (n := s.size) (by omega) fun k a b => by
    obtain ⟨c, hc, he⟩ := ZxO (s := s) a b
    have hx := hb _ (ZV (xs := byts s) a (by omega))
    have hk := Zyc (Zyg hb k.toNat)
    have g := ZxM (b := 8) (by omega)
    have sh := shl8 hx.1 hx.2
    rw [Zyf a (by omega)]
    generalize crN ((byts s).take k.toNat) = x at hk
    have hq : (ix (byts s) k).toNat * 256 < 65536 := by omega
    have xr := bxor (a := x) (b := (ix (byts s) k).toNat * 256) (by omega) (by omega) (x := (x : Int)) (y := (((ix (byts s) k).toNat * 256 : Nat) : Int)) rfl rfl
    have e8 := Zyp (x := x ^^^ ((ix (byts s) k).toNat * 256)) (Nat.xor_lt_two_pow (n := 16) hk hq) (i5 := k) a (by omega)
    simp (disch := omega) only [pz, Zxw, hc, he, g, sh, xr, e8]
  refine Eq.trans e (Zd ?_)
  rw [Int.toNat_natCast, ← hl, List.take_length, hl]
  simp (disch := omega) only [pz, Zxw]
theorem Zyz {s : ByteArray} (hs : s.size ≤ 9000000000000000000) : ZxA s 65535 = some ((crN (byts s) : Nat) : Int) := by
  have hb := Zx0 s
  have hl := Zxs s
  have hw : ZL 65535 0 65535 = some true := by simp (disch := omega) only [pz, ZL]
  unfold ZxA
  simp (disch := omega) only [pz, hw]
  have e := ZD (B := Zxy s) (fun k : Int => (((crN ((byts s).take k.toNat) : Nat) : Int), k)) (i := 0) (n := s.size) (by omega) fun k a b => by
    have hx := hb _ (ZV (xs := byts s) a (by omega))
    have hk := Zyc (Zyg hb k.toNat)
    have g := ZxM (b := 8) (by omega)
    have sh := shl8 hx.1 hx.2
    rw [Zyf a (by omega)]
    generalize crN ((byts s).take k.toNat) = x at hk
    have hq : (ix (byts s) k).toNat * 256 < 65536 := by omega
    have xr := bxor (a := x) (b := (ix (byts s) k).toNat * 256) (by omega) (by omega) (x := (x : Int)) (y := (((ix (byts s) k).toNat * 256 : Nat) : Int)) rfl rfl
    have e8 := ZyN (x := x ^^^ ((ix (byts s) k).toNat * 256)) (Nat.xor_lt_two_pow (n := 16) hk hq) (i5 := k) a (by omega)
    simp (disch := omega) only [pz, Zxy, g, sh, xr, e8]
  refine Eq.trans e (Zd ?_)
  rw [Int.toNat_natCast, ← hl, List.take_length, hl]
  simp (disch := omega) only [pz, Zxy]
end Go.Proofs.YtocnokjekoglnaaGreatDoor
namespace Go.Proofs.YtocnokjekoglnaaGreatDoor
set_option linter.unusedVariables false
open Go Go.Vc
set_option linter.unusedSimpArgs false
theorem Zyu {x : Zxh} (hv : ItemV x) (hz : Sz2 x.Object.Rows) (hs : -9223372036854775808 ≤ x.Object.Size ∧ x.Object.Size ≤ 9223372036854775807) :
    ∃ t, ZxJ x = some t ∧ ZxG x.Name x.Object = some t ∧ t.size ≤ 1154482400 := by
  have hn := hz.1
  have ho : Zz.mk x.Object.Kind x.Object.Size x.Object.Rows = x.Object := rfl
  obtain ⟨c, o1, o2⟩ := ZpB hz
  have hc : c = true := by
    have := hv.obj
    unfold ObjV at this
    rw [o1] at this
    exact Option.some.inj this
  subst hc
  obtain ⟨k1, k7⟩ := ZrZ o2
  obtain ⟨t, t1, t2, t3⟩ := Zxd k1 k7 hs (by omega)
  have t2 := t2 o2
  have n10 := hv.nam.s2
  have z32 : (⟨#[32]⟩ : ByteArray).size = 1 := rfl
  have f1 : gFit x.Name ⟨#[32]⟩ = some () := gFitW (by omega)
  have f2 : gFit (x.Name ++ ⟨#[32]⟩) t = some () := gFitW (by rw [ZaG]; omega)
  have hb : ((x.Name ++ ⟨#[32]⟩) ++ t).size ≤ 1154482320 := by rw [ZaG, ZaG]; omega
  unfold ZxJ ZxG
  generalize hbe : (x.Name ++ ⟨#[32]⟩) ++ t = b at hb
  have f3 : gFit b ⟨#[32]⟩ = some () := gFitW (by omega)
  have c1 := ZyT (s := b) (by omega)
  have c2 := Zyz (s := b) (by omega)
  have hl := Zyc (Zx0 b)
  have d1 := Zmj (n := ((crN (byts b) : Nat) : Int)) (by omega) (by omega)
  have d2 := Zof (n := ((crN (byts b) : Nat) : Int)) (by omega) (by omega)
  have dz := ZmC (n := ((crN (byts b) : Nat) : Int)) 8 (by omega) (by omega)
  have f4 : gFit (b ++ ⟨#[32]⟩) (itoaB ((crN (byts b) : Nat) : Int)) = some () := gFitW (by rw [ZaG]; omega)
  refine ⟨(b ++ ⟨#[32]⟩) ++ itoaB ((crN (byts b) : Nat) : Int), ?_, ?_, by rw [ZaG, ZaG]; omega⟩
  · simp (disch := omega) only [pz, ho, t1, f1, f2, hbe, f3, c1, d1, f4]
  · simp (disch := omega) only [pz, ho, t2, f1, f2, hbe, f3, c2, d2, f4]
end Go.Proofs.YtocnokjekoglnaaGreatDoor
namespace Go.Proofs.YtocnokjekoglnaaGreatDoor
set_option linter.unusedVariables false
open Go Go.Vc
set_option linter.unusedSimpArgs false
theorem ZzU : ∀ a b : List UInt8, (Op.bytesLess a b || a == b) = !Op.bytesLess b a
  | [], [] => rfl
  | [], b :: y => rfl
  | a :: x, [] => rfl
  | a :: x, b :: y => by
    have ih := ZzU x y
    show ((decide (a < b) || (a == b && Op.bytesLess x y)) || ((a :: x) == (b :: y))) = !(decide (b < a) || (b == a && Op.bytesLess y x))
    rw [show ((a :: x) == (b :: y)) = (a == b && x == y) from rfl]
    by_cases h : a = b
    · subst h
      have h1 : decide (a < a) = false := by simp
      rw [h1, beq_self_eq_true]
      simpa using ih
    · have h1 : (a == b) = false := by simpa using h
      have h2 : (b == a) = false := by simpa using fun e => h e.symm
      rw [h1, h2]
      simp only [Bool.false_and, Bool.or_false]
      have h3 : a < b ∨ b < a := by
        rcases Nat.lt_or_gt_of_ne (fun e => h (UInt8.toNat_inj.1 e)) with g | g
        · exact .inl (UInt8.lt_iff_toNat_lt.2 g)
        · exact .inr (UInt8.lt_iff_toNat_lt.2 g)
      rcases h3 with g | g
      · have : ¬ b < a := fun g' => by
          have g1 := UInt8.lt_iff_toNat_lt.1 g
          have g2 := UInt8.lt_iff_toNat_lt.1 g'
          omega
        simp [g, this]
      · have : ¬ a < b := fun g' => by
          have g1 := UInt8.lt_iff_toNat_lt.1 g
          have g2 := UInt8.lt_iff_toNat_lt.1 g'
          omega
        simp [g, this]
def Like (a b : Zxh) : Prop := a.Object.Kind = b.Object.Kind ∧ a.Key = b.Key
theorem ZAa (a b : Zxh) : IsQ (ZzM a b) (Like a b) := by
  unfold ZzM Like
  by_cases h : a.Object.Kind = b.Object.Kind
  · simp (disch := omega) only [pz, ]
    exact ⟨_, rfl, by rw [ZxQ]; simp [h]⟩
  · simp (disch := omega) only [pz, ]
    exact IsQ.f fun g => h g.1
theorem ZBg (a b : Zxh) : IsQ (ZzP a b) (Like a b) := ZAa a b
def Szc (c : List Zxh) : Prop := (c.length : Int) ≤ 1048576 ∧ ∀ x ∈ c, Sz2 x.Object.Rows
structure At (c : List Zxh) (i : Int) : Prop where
  item : ItemV (ix c i)
  ord : 0 < i → Op.bytesLess (ix c (i - 1)).Name.toList (ix c i).Name.toList = true
  new : ∀ j, 0 ≤ j → j < i → ¬ Like (ix c i) (ix c j)
structure CatV (c : List Zxh) : Prop where
  at_ : ∀ i, 0 ≤ i → i < (c.length : Int) → At c i
  n : (c.length : Int) ≤ 24
theorem ZAm {c : Zzg} {i : Int} (hs : Szc c.Items) (h0 : 0 ≤ i) (h1 : i < (c.Items.length : Int)) : ∃ b : Bool, Zzv c i = some (bif b then .inl (i + 1) else .inr false) ∧ (b = true ↔ ∀ j, 0 ≤ j → j < i → ¬ Like (ix c.Items i) (ix c.Items j)) := by
  have hN := hs.1
  unfold Zzv
  refine ZcJ (B := ZzA c i) (P := fun j => ¬ Like (ix c.Items i) (ix c.Items j)) (t := .inl (i + 1)) (f := .inr false) (i := 0) (n := i) (by omega) (fun k a b g => ?_) (fun k a b g => ?_) ?_
  · have q := (ZAa (ix c.Items i) (ix c.Items k)).ne g
    simp (disch := omega) only [pz, ZzA, q]
  · have q := (ZAa (ix c.Items i) (ix c.Items k)).eq (Classical.byContradiction g)
    simp (disch := omega) only [pz, ZzA, q]
  · simp (disch := omega) only [pz, ZzA]
theorem ZAB {c : Zzg} (hs : Szc c.Items) : IsQ (ZzC c) (CatV c.Items) := by
  have hN := hs.1
  unfold ZzC
  refine (Zam (P := At c.Items) (n := c.Items.length) (Q := (c.Items.length : Int) ≤ 24) (by omega) ?_ ?_ fun _ => ?_).congr ⟨fun g => ⟨g.1, g.2⟩, fun g => ⟨g.at_, g.n⟩⟩
  · intro i g0 g1 g2
    have q1 := (Zyv (hs.2 _ (ZV g0 g1))).eq g2.item
    obtain ⟨b, n1, n2⟩ := ZAm hs g0 g1
    rw [n2.2 g2.new] at n1
    by_cases hi : 0 < i
    · have ho := g2.ord hi
      simp (disch := omega) only [pz, Zzl, q1, ho, n1]
    · simp (disch := omega) only [pz, Zzl, q1, n1]
  · intro i g0 g1 g2
    by_cases h1 : ItemV (ix c.Items i)
    · have q1 := (Zyv (hs.2 _ (ZV g0 g1))).eq h1
      obtain ⟨b, n1, n2⟩ := ZAm hs g0 g1
      by_cases hi : 0 < i
      · cases ho : Op.bytesLess (ix c.Items (i - 1)).Name.toList (ix c.Items i).Name.toList with
        | false => simp (disch := omega) only [pz, Zzl, q1, ho]
        | true =>
          have : b = false := by
            cases b with
            | false => rfl
            | true => exact absurd ⟨h1, fun _ => ho, n2.1 rfl⟩ g2
          rw [this] at n1
          simp (disch := omega) only [pz, Zzl, q1, ho, n1]
      · have : b = false := by
          cases b with
          | false => rfl
          | true => exact absurd ⟨h1, fun h => absurd h hi, n2.1 rfl⟩ g2
        rw [this] at n1
        simp (disch := omega) only [pz, Zzl, q1, n1]
    · have q1 := (Zyv (hs.2 _ (ZV g0 g1))).ne h1
      simp (disch := omega) only [pz, Zzl, q1]
  · by_cases h : (c.Items.length : Int) ≤ 24
    · rw [Zd (r := true) (by simp (disch := omega) only [pz, Zzl])]; exact IsQ.t h
    · rw [Zd (r := false) (by simp (disch := omega) only [pz, Zzl])]; exact IsQ.f h
theorem ZAj {c : List Zxh} {x : Zxh} {i : Int} (hN : (c.length : Int) ≤ 1048576) (h0 : 0 ≤ i) (h1 : i ≤ (c.length : Int)) : ∃ r : Int, Zzz (c.take i.toNat) x = some r ∧ (r < 0 ↔ ∀ j, 0 ≤ j → j < i → ¬ Like x (ix c j)) := by
  unfold Zzz ZzT
  have hl : (c.take i.toNat).length = i.toNat := by rw [List.length_take]; omega
  have hf : ∀ y ∈ c.take i.toNat, IsQ (Zzn y x) (Like x y) := fun y _ => (ZBg x y).bind_id
  obtain ⟨r, h2, h3⟩ := ZpD (xs := c.take i.toNat) (B := Zzx (c.take i.toNat) (fun y0 => Zzn y0 x)) (f := fun y0 => Zzn y0 x) (q := fun y => Like x y) (by unfold M63; omega) hf
    (fun k y hy => by
      have := ZW hy
      simp (disch := omega) only [pz, Zzx]
      rw [ZM hy])
    (by simp (disch := omega) only [pz, Zzx])
  refine ⟨r, ?_, ?_⟩
  · show (loop (Zzx (c.take i.toNat) (fun y0 => Zzn y0 x)) 0).bind _ = _
    rw [h2]; rfl
  · rcases h3 with ⟨h4, h5⟩ | ⟨k, y, h4, h5, h6, _⟩
    · refine ⟨fun _ j j0 j1 => ?_, fun _ => by omega⟩
      have := h5 (ix c j) (by
        rw [← ZdL (i := i) j0 j1]
        exact ZV j0 (by omega))
      exact this
    · refine ⟨fun h => by omega, fun h => ?_⟩
      have hk := ZW h5
      have e := ZM h5
      rw [ZdL (i := i) (by omega) (by omega)] at e
      rw [← e] at h6
      exact absurd h6 (h k (by omega) (by omega))
theorem ZAl {c : Zzg} (hs : Szc c.Items) : IsQ (ZzK c) (CatV c.Items) := by
  have hN := hs.1
  have ei : ∀ x : Zxh, Zxh.mk x.Name (Zz.mk x.Object.Kind x.Object.Size x.Object.Rows) x.Key = x := fun x => rfl
  unfold ZzK
  have tk : ∀ i : Int, 0 ≤ i → i < (c.Items.length : Int) → gSl c.Items 0 i = some (c.Items.take i.toNat) := fun i a b => by
    rw [Zbs (by omega) (by omega) (by omega)]; rfl
  refine (Zam (P := At c.Items) (n := c.Items.length) (Q := (c.Items.length : Int) ≤ 24) (by omega) ?_ ?_ fun _ => ?_).congr ⟨fun g => ⟨g.1, g.2⟩, fun g => ⟨g.at_, g.n⟩⟩
  · intro i g0 g1 g2
    have q1 := (Zyx (hs.2 _ (ZV g0 g1))).eq g2.item
    obtain ⟨r, n1, n2⟩ := ZAj (x := ix c.Items i) hN g0 (Int.le_of_lt g1)
    have hr := n2.2 g2.new
    have ht := tk i g0 g1
    by_cases hi : 0 < i
    · have ho := g2.ord hi
      have hb := ZzU (ix c.Items i).Name.toList (ix c.Items (i - 1)).Name.toList
      rw [ho] at hb
      simp (disch := omega) only [pz, Zzk, ei, q1, hb, ht, n1]
    · simp (disch := omega) only [pz, Zzk, ei, q1, ht, n1]
  · intro i g0 g1 g2
    have ht := tk i g0 g1
    by_cases h1 : ItemV (ix c.Items i)
    · have q1 := (Zyx (hs.2 _ (ZV g0 g1))).eq h1
      obtain ⟨r, n1, n2⟩ := ZAj (x := ix c.Items i) hN g0 (Int.le_of_lt g1)
      by_cases hi : 0 < i
      · have hb := ZzU (ix c.Items i).Name.toList (ix c.Items (i - 1)).Name.toList
        cases ho : Op.bytesLess (ix c.Items (i - 1)).Name.toList (ix c.Items i).Name.toList with
        | false =>
          rw [ho] at hb
          simp (disch := omega) only [pz, Zzk, ei, q1, hb]
        | true =>
          rw [ho] at hb
          have : ¬ r < 0 := fun h => g2 ⟨h1, fun _ => ho, n2.1 h⟩
          simp (disch := omega) only [pz, Zzk, ei, q1, hb, ht, n1]
      · have : ¬ r < 0 := fun h => g2 ⟨h1, fun h => absurd h hi, n2.1 h⟩
        simp (disch := omega) only [pz, Zzk, ei, q1, ht, n1]
    · have q1 := (Zyx (hs.2 _ (ZV g0 g1))).ne h1
      simp (disch := omega) only [pz, Zzk, ei, q1]
  · by_cases h : (c.Items.length : Int) ≤ 24
    · rw [Zd (r := true) (by simp (disch := omega) only [pz, Zzk])]; exact IsQ.t h
    · rw [Zd (r := false) (by simp (disch := omega) only [pz, Zzk])]; exact IsQ.f h
theorem ZAH {r : List (List Int)} (h : SmL (SmL (fun _ => True)) r) : Sz2 (List.map (List.map fun x => x) r) := by
  have e : List.map (List.map fun x => x) r = r := by simp
  rw [e]
  exact ⟨by have := h.1; omega, fun b hb => by have := (h.2 b hb).1; omega⟩
theorem ZAw {a : Zzh} (h : ZAg a) : Szc (Zzs a).Items := by
  refine ⟨?_, fun x hx => ?_⟩
  · have : (Zzs a).Items.length = a.Items.length := by simp [Zzs]
    have := h.1
    omega
  · obtain ⟨y, hy, rfl⟩ := List.mem_map.1 (show x ∈ a.Items.map Zxn from hx)
    exact ZAH (h.2 y hy)
theorem ZBp {c : Zzg} (h : Szc c.Items) : ZAk c := by
  refine ⟨by unfold M63; have := h.1; omega, fun x hx => ?_⟩
  have hr := h.2 x hx
  exact ⟨by unfold M63; have := hr.1; omega, fun y hy => ⟨by unfold M63; have := hr.2 y hy; omega, fun _ _ => trivial⟩⟩
end Go.Proofs.YtocnokjekoglnaaGreatDoor
namespace Go.Proofs.YtocnokjekoglnaaGreatDoor
set_option linter.unusedVariables false
open Go Go.Vc
set_option linter.unusedSimpArgs false
noncomputable def lnx (x : Zxh) : ByteArray := (ZxJ x).getD ⟨#[]⟩
theorem ZA0 {x : Zxh} (hv : ItemV x) (hz : Sz2 x.Object.Rows) (hs : -9223372036854775808 ≤ x.Object.Size ∧ x.Object.Size ≤ 9223372036854775807) :
    ZxJ x = some (lnx x) ∧ ZxG x.Name x.Object = some (lnx x) ∧ (lnx x).size ≤ 1154482400 := by
  obtain ⟨t, t1, t2, t3⟩ := Zyu hv hz hs
  have e : lnx x = t := by unfold lnx; rw [t1]; rfl
  rw [e]
  exact ⟨t1, t2, t3⟩
noncomputable def sv (pre : ByteArray) (l : List Zxh) : ByteArray := l.foldl (fun out x => out ++ (lnx x ++ ⟨#[10]⟩)) pre
theorem ZAp {pre : ByteArray} {l : List Zxh} {k : Int} (h0 : 0 ≤ k) (h1 : k < (l.length : Int)) : sv pre (l.take (k + 1).toNat) = sv pre (l.take k.toNat) ++ (lnx (ix l k) ++ ⟨#[10]⟩) := by
  unfold sv
  rw [Zbh h0 h1, List.foldl_append, List.foldl_cons, List.foldl_nil]
theorem ZAW {m : Nat} : ∀ (l : List Zxh) (pre : ByteArray), (∀ x ∈ l, (lnx x).size ≤ m) → (sv pre l).size ≤ pre.size + (m + 1) * l.length := by
  intro l
  induction l with
  | nil => intro pre _; exact Nat.le_add_right _ _
  | cons x l ih =>
    intro pre h
    have h1 := ih (pre ++ (lnx x ++ ⟨#[10]⟩)) fun y hy => h y (List.mem_cons_of_mem _ hy)
    have h2 := h x (List.mem_cons_self ..)
    rw [ZaG, ZaG] at h1
    have h3 : (⟨#[10]⟩ : ByteArray).size = 1 := rfl
    rw [List.length_cons, Nat.mul_succ]
    unfold sv at h1 ⊢
    rw [List.foldl_cons]
    omega
theorem ZAO {c : Zzg} (hz : Szc c.Items) (hs : ∀ x ∈ c.Items, -9223372036854775808 ≤ x.Object.Size ∧ x.Object.Size ≤ 9223372036854775807) (hv : CatV c.Items) :
    ∃ t, ZzE c = some t ∧ Zzq c = some (t, 0) := by
  have hn := hv.n
  have hit : ∀ k, 0 ≤ k → k < (c.Items.length : Int) → ZxJ (ix c.Items k) = some (lnx (ix c.Items k)) ∧ ZxG (ix c.Items k).Name (ix c.Items k).Object = some (lnx (ix c.Items k)) ∧ (lnx (ix c.Items k)).size ≤ 1154482400 := fun k a b =>
    ZA0 (hv.at_ k a b).item (hz.2 _ (ZV a b)) (hs _ (ZV a b))
  have hsz : ∀ k : Int, ∀ x ∈ c.Items.take k.toNat, (lnx x).size ≤ 1154482400 := fun k x hx => by
    obtain ⟨i, a, b, rfl⟩ := Z1 (List.mem_of_mem_take hx)
    exact (hit i a b).2.2
  have d1 := Zmj (n := (c.Items.length : Int)) (by omega) (by omega)
  have d2 := Zof (n := (c.Items.length : Int)) (by omega) (by omega)
  have dz := ZmC (n := (c.Items.length : Int)) 8 (by omega) (by omega)
  have z8 : (⟨#[99, 97, 116, 97, 108, 111, 103, 32]⟩ : ByteArray).size = 8 := rfl
  have z1 : (⟨#[10]⟩ : ByteArray).size = 1 := rfl
  have f1 : gFit ⟨#[99, 97, 116, 97, 108, 111, 103, 32]⟩ (itoaB (c.Items.length : Int)) = some () := gFitW (by omega)
  have f2 : gFit (⟨#[99, 97, 116, 97, 108, 111, 103, 32]⟩ ++ itoaB (c.Items.length : Int)) ⟨#[10]⟩ = some () := gFitW (by rw [ZaG]; omega)
  have hp : ((⟨#[99, 97, 116, 97, 108, 111, 103, 32]⟩ ++ itoaB (c.Items.length : Int)) ++ ⟨#[10]⟩).size ≤ 100 := by rw [ZaG, ZaG]; omega
  have hi := (ZAl hz).eq hv
  have hb1 : gBld ⟨#[]⟩ ((⟨#[99, 97, 116, 97, 108, 111, 103, 32]⟩ ++ itoaB (c.Items.length : Int)) ++ ⟨#[10]⟩) = some ((⟨#[99, 97, 116, 97, 108, 111, 103, 32]⟩ ++ itoaB (c.Items.length : Int)) ++ ⟨#[10]⟩) := by
    unfold gBld
    rw [if_pos (by show 0 + _ ≤ _; omega), Zpw]
  unfold ZzE Zzq
  generalize hpe : (⟨#[99, 97, 116, 97, 108, 111, 103, 32]⟩ ++ itoaB (c.Items.length : Int)) ++ ⟨#[10]⟩ = pre at hp hb1
  have hout : ∀ k : Int, k ≤ (c.Items.length : Int) → (sv pre (c.Items.take k.toNat)).size ≤ 40000000000 := fun k hk => by
    have h1 := ZAW (m := 1154482400) (c.Items.take k.toNat) pre (hsz k)
    have h2 : (c.Items.take k.toNat).length ≤ 24 := by rw [List.length_take]; omega
    have h3 := Nat.mul_le_mul_left (1154482400 + 1) h2
    omega
  have e1 := ZD (B := Zzu c) (fun k : Int => (sv pre (c.Items.take k.toNat), k)) (i := 0) (n := c.Items.length) (by omega) fun k a b => by
    obtain ⟨l1, _, l3⟩ := hit k a b
    have ho := hout k (by omega)
    rw [ZAp a b]
    generalize sv pre (c.Items.take k.toNat) = out at ho
    have g1 : gFit (lnx (ix c.Items k)) ⟨#[10]⟩ = some () := gFitW (by omega)
    have g2 : gFit out (lnx (ix c.Items k) ++ ⟨#[10]⟩) = some () := gFitW (by rw [ZaG]; omega)
    simp (disch := omega) only [pz, Zzu, l1, g1, g2]
  have e2 := ZD (B := Zzp c) (fun k : Int => (sv pre (c.Items.take k.toNat), k)) (i := 0) (n := c.Items.length) (by omega) fun k a b => by
    obtain ⟨_, l2, l3⟩ := hit k a b
    have ho := hout k (by omega)
    have eo : ∀ o : Zz, Zz.mk o.Kind o.Size o.Rows = o := fun _ => rfl
    rw [ZAp a b]
    generalize sv pre (c.Items.take k.toNat) = out at ho
    have g1 : gFit (lnx (ix c.Items k)) ⟨#[10]⟩ = some () := gFitW (by omega)
    have g2 : gBld out (lnx (ix c.Items k) ++ ⟨#[10]⟩) = some (out ++ (lnx (ix c.Items k) ++ ⟨#[10]⟩)) := by
      unfold gBld
      rw [if_pos (by rw [ZaG]; omega)]
    simp (disch := omega) only [pz, Zzp, eo, l2, g1, g2]
  rw [Int.toNat_natCast, List.take_length] at e1 e2
  have e0 : sv pre (c.Items.take (0 : Int).toNat) = pre := rfl
  rw [e0] at e1 e2
  have e3 : loop (Zzu c) (pre, 0) = some (sv pre c.Items) := by
    rw [e1]
    exact Zd (by simp (disch := omega) only [pz, Zzu])
  have e4 : loop (Zzp c) (pre, 0) = some (sv pre c.Items, 0) := by
    rw [e2]
    exact Zd (by simp (disch := omega) only [pz, Zzp])
  exact ⟨sv pre c.Items, by simp (disch := omega) only [pz, d1, f1, f2, hpe, e3], by simp (disch := omega) only [pz, hi, ZzN, d2, f1, f2, hpe, hb1, e4]⟩
end Go.Proofs.YtocnokjekoglnaaGreatDoor
namespace Go.Proofs.YtocnokjekoglnaaGreatDoor
set_option linter.unusedVariables false
open Go Go.Vc
set_option linter.unusedSimpArgs false
theorem ZAG {c : Zzg} (hz : Szc c.Items) (hs : ∀ x ∈ c.Items, -9223372036854775808 ≤ x.Object.Size ∧ x.Object.Size ≤ 9223372036854775807) : ∃ r, Zzy c = some r ∧ Zzq c = some r := by
  have ec : Zzg.mk c.Items = c := rfl
  have q1 := ZAB hz
  have q2 := ZAl hz
  by_cases hv : CatV c.Items
  · obtain ⟨t, t1, t2⟩ := ZAO hz hs hv
    have h1 := q1.eq hv
    exact ⟨(t, 0), by unfold Zzy; simp (disch := omega) only [pz, ec, h1, t1], t2⟩
  · have h1 := q1.ne hv
    have h2 := q2.ne hv
    exact ⟨(⟨#[]⟩, 1), by unfold Zzy; simp (disch := omega) only [pz, ec, h1], by unfold Zzq; simp (disch := omega) only [pz, h2]⟩
theorem ZAZ {a : Zzh} (ha : Zz9 a) : ZzO a = some true := by
  unfold ZzO ZzQ
  obtain ⟨r, hr, c⟩ := ZAx a 1048576 ha (by omega) (by omega)
  have e : Zzh.mk a.Items = a := rfl
  rcases c with rfl | ⟨r0, r1, sa⟩
  · simp (disch := omega) only [pz, e, hr]
  · have hz := ZAw sa
    have ht := ZAF sa
    have hs : ∀ x ∈ (Zzs a).Items, -9223372036854775808 ≤ x.Object.Size ∧ x.Object.Size ≤ 9223372036854775807 := fun x hx => by
      have hx2 : x ∈ a.Items.map Zxn := hx
      obtain ⟨y, hy, rfl⟩ := List.mem_map.1 hx2
      exact (ha.2 y hy).2.1.2.1
    generalize Zzs a = x at hz ht hs
    have e2 : Zzg.mk x.Items = x := rfl
    obtain ⟨r, t1, t2⟩ := ZAG hz hs
    have hq2 := (ZBr (ZBp hz)).eq (rfl : x = x)
    have ht2 : (r.1.toList == r.1.toList) = true := by simp
    simp (disch := omega) only [pz, e, hr, ht, t1, e2, t2, ht2, hq2]
end Go.Proofs.YtocnokjekoglnaaGreatDoor
