import Derived.Test.YtmmbnjijjdakmaaGreatDoorPuJe
namespace Go.Proofs.YtmmbnjijjdakmaaGreatDoor
open Go Go.Vc
set_option linter.unusedSimpArgs false
set_option linter.unusedVariables false
def Tb (q : Int) (g : Int → Int) (b : Int) : List Int := tabl q fun j => if j < b then g j else 0
theorem Znd {q b : Int} {g : Int → Int} (h0 : 0 ≤ b) (h1 : b < q) : (Tb q g b).set b.toNat (g b) = Tb q g (b + 1) := by
  apply Zb0 h0 h1
  · intro j j0 j1 j2
    by_cases hj : j < b
    · rw [if_pos hj, if_pos (by omega)]
    · rw [if_neg hj, if_neg (by omega)]
  · rw [if_pos (by omega)]
theorem Zm9 {q : Int} {g : Int → Int} : Tb q g 0 = List.replicate q.toNat 0 := by
  rw [Zj2]
  exact ZX fun j j0 j1 => by rw [if_neg (by omega)]
theorem Zwv {q : Int} {g : Int → Int} : Tb q g q = tabl q g := ZX fun j j0 j1 => by rw [if_pos j1]
theorem ZhO {q b : Int} {g : Int → Int} : (Tb q g b).length = q.toNat := ZI
def iv (q : Int) (inv : List Int) (a b : Int) : List Int := tabl q fun i => if 1 ≤ i ∧ (i < a ∨ (i = a ∧ ix inv a < b)) then ix inv i else 0
def tabs (f : Zc) (q : Int) (inv : List Int) : Zaf :=
  ⟨q, tabl q fun a => tabl q fun b => sumA f a b 1, tabl q fun a => tabl q fun b => sumA f a b (f.Prime - 1), tabl q fun a => tabl q fun b => mulA f a b, tabl q fun i => if 1 ≤ i then ix inv i else 0⟩
theorem ZyF {q a b : Int} {inv : List Int} : (iv q inv a b).length = q.toNat := ZI
theorem ZuH {f : Zc} {q : Int} {inv : List Int} (hF : Ff f q inv) {a : Int} (a0 : 0 ≤ a) (a1 : a < q) {A S M : List (List Int)} (hA : (A.length : Int) = a) (hS : (S.length : Int) = a) (hM : (M.length : Int) = a) :
    loop (ZbU f q a A S M) (0, iv q inv a 0, List.replicate q.toNat 0, List.replicate q.toNat 0, List.replicate q.toNat 0) = some (.inl (a + 1, A ++ [tabl q fun b => sumA f a b 1], S ++ [tabl q fun b => sumA f a b (f.Prime - 1)], M ++ [tabl q fun b => mulA f a b], iv q inv (a + 1) 0)) := by
  have hq2 := hF.q2; have hq64 := hF.q64
  have hgo := ZC (B := ZbU f q a A S M) (fun b => (b, iv q inv a b, Tb q (fun b => sumA f a b 1) b, Tb q (fun b => sumA f a b (f.Prime - 1)) b, Tb q (fun b => mulA f a b) b)) (i := 0) (n := q) (by omega) fun b b0 b1 => by
    have c1 := ZpB hF.fd (a := a) (b := b) (c := 1) (s := 1) a0 (by omega) b0 (by omega) (.inl ⟨rfl, rfl⟩)
    have c2 := ZpB hF.fd (a := a) (b := b) (c := f.Prime - 1) (s := -1) a0 (by omega) b0 (by omega) (.inr ⟨rfl, rfl⟩)
    have c3 := Ztk hF.fd (a := a) (b := b) a0 (by omega) b0 (by omega)
    have s1 := Znd (q := q) (b := b) (g := fun b => sumA f a b 1) b0 b1
    have s2 := Znd (q := q) (b := b) (g := fun b => sumA f a b (f.Prime - 1)) b0 b1
    have s3 := Znd (q := q) (b := b) (g := fun b => mulA f a b) b0 b1
    have l1 : (Tb q (fun b => sumA f a b 1) b).length = q.toNat := ZhO
    have l2 : (Tb q (fun b => sumA f a b (f.Prime - 1)) b).length = q.toNat := ZhO
    have l3 : (Tb q (fun b => mulA f a b) b).length = q.toNat := ZhO
    have l4 : (Tb q (fun b => mulA f a b) (b + 1)).length = q.toNat := ZhO
    have l5 : (iv q inv a b).length = q.toNat := ZyF
    have x3 : ix (Tb q (fun b => mulA f a b) (b + 1)) b = mulA f a b := by
      unfold Tb
      rw [Z0 b0 b1, if_pos (by omega)]
    have hI := hF.inv2 a b a0 a1 b0 b1
    by_cases hm : mulA f a b = 1
    · have hb := hI.1 hm
      have a2 : 1 ≤ a := by
        by_cases h : a = 0
        · subst h
          rw [hF.z1 b b0 b1] at hm
          omega
        · omega
      have s4 : (iv q inv a b).set a.toNat b = iv q inv a (b + 1) := by
        apply Zb0 a0 a1
        · intro j j0 j1 j2
          by_cases hj : 1 ≤ j ∧ (j < a ∨ (j = a ∧ ix inv a < b))
          · rw [if_pos hj, if_pos (by omega)]
          · rw [if_neg hj, if_neg (by omega)]
        · rw [if_pos (by omega), hb]
      simp (disch := omega) only [pz, ZbU, c1, c2, c3, l1, l2, l3, l4, l5, s1, s2, s3, x3, s4]
    · have hb : ¬ b = ix inv a := fun h => hm (hI.2 h)
      have s4 : iv q inv a b = iv q inv a (b + 1) := by
        refine ZX fun j j0 j1 => ?_
        by_cases hj : 1 ≤ j ∧ (j < a ∨ (j = a ∧ ix inv a < b))
        · rw [if_pos hj, if_pos (by omega)]
        · rw [if_neg hj, if_neg (by omega)]
      rw [s4]
      simp (disch := omega) only [pz, ZbU, c1, c2, c3, l1, l2, l3, l4, l5, s1, s2, s3, x3]
  have e0 : ((0 : Int), iv q inv a 0, List.replicate q.toNat (0 : Int), List.replicate q.toNat (0 : Int), List.replicate q.toNat (0 : Int)) = (fun b => (b, iv q inv a b, Tb q (fun b => sumA f a b 1) b, Tb q (fun b => sumA f a b (f.Prime - 1)) b, Tb q (fun b => mulA f a b) b)) 0 := by
    show _ = ((0 : Int), iv q inv a 0, Tb q _ 0, Tb q _ 0, Tb q _ 0)
    rw [Zm9, Zm9, Zm9]
  rw [e0, hgo]
  refine Zd ?_
  have s4 : iv q inv a q = iv q inv (a + 1) 0 := by
    refine ZX fun j j0 j1 => ?_
    by_cases hj : 1 ≤ j ∧ j < a + 1
    · by_cases h : j = a
      · have := hF.inv1 a (by omega) a1
        rw [if_pos (by omega), if_pos (by omega)]
      · rw [if_pos (by omega), if_pos (by omega)]
    · by_cases h : j = a + 1
      · by_cases h' : a + 1 < q
        · have := hF.inv1 (a + 1) (by omega) h'
          rw [if_neg (by omega), if_neg (by omega)]
        · omega
      · rw [if_neg (by omega), if_neg (by omega)]
  simp only [Zwv, s4]
  simp (disch := omega) only [pz, ZbU, gApp1]
theorem ZyY {f : Zc} {q : Int} {inv : List Int} (hF : Ff f q inv) (hs : ZbA f = some q) : Ze4 f = some (tabs f q inv) := by
  have hq2 := hF.q2; have hq64 := hF.q64
  unfold Ze4
  rw [show Zc.mk f.Prime f.Degree f.Poly = f from rfl, hs]
  simp (disch := omega) only [pz, ZcT]
  have ei : List.replicate q.toNat (0 : Int) = iv q inv 0 0 := by
    rw [Zj2]
    exact ZX fun j j0 j1 => by
      by_cases h : j = 0
      · rw [if_neg (by omega)]
      · rw [if_neg (by omega)]
  have hgo := ZC (B := Zeo f q) (fun a => (a, tabl a fun a => tabl q fun b => sumA f a b 1, tabl a fun a => tabl q fun b => sumA f a b (f.Prime - 1), tabl a fun a => tabl q fun b => mulA f a b, iv q inv a 0)) (i := 0) (n := q) (by omega) fun a a0 a1 => by
    have := ZuH hF a0 a1 (A := tabl a fun a => tabl q fun b => sumA f a b 1) (S := tabl a fun a => tabl q fun b => sumA f a b (f.Prime - 1)) (M := tabl a fun a => tabl q fun b => mulA f a b) (by rw [ZI]; omega) (by rw [ZI]; omega) (by rw [ZI]; omega)
    simp (disch := omega) only [pz, Zeo, ZcT, this, ZeB]
  have e0 : ((0 : Int), ([] : List (List Int)), ([] : List (List Int)), ([] : List (List Int)), List.replicate q.toNat (0 : Int)) = (fun a => (a, tabl a fun a => tabl q fun b => sumA f a b 1, tabl a fun a => tabl q fun b => sumA f a b (f.Prime - 1), tabl a fun a => tabl q fun b => mulA f a b, iv q inv a 0)) 0 := by
    rw [ei]; rfl
  rw [e0, hgo]
  refine Zd ?_
  have e1 : iv q inv q 0 = tabl q fun i => if 1 ≤ i then ix inv i else 0 := by
    refine ZX fun j j0 j1 => ?_
    by_cases h : 1 ≤ j
    · rw [if_pos (by omega), if_pos h]
    · rw [if_neg (by omega), if_neg h]
  simp (disch := omega) only [pz, Zeo, e1]
  rfl
end Go.Proofs.YtmmbnjijjdakmaaGreatDoor
namespace Go.Proofs.YtmmbnjijjdakmaaGreatDoor
set_option linter.unusedVariables false
open Go Go.Vc
set_option linter.unusedSimpArgs false
structure Mat (q w : Int) (xs : List (List Int)) : Prop where
  len : ∀ i, 0 ≤ i → i < (xs.length : Int) → ((ix xs i).length : Int) = w
  rng : ∀ i, 0 ≤ i → i < (xs.length : Int) → In q (ix xs i)
  n : (xs.length : Int) ≤ 64
  w1 : w ≤ 64
def scl (f : Zc) (row : List Int) (c : Int) : List Int := tabl row.length fun t => mulA f (ix row t) c
def less (f : Zc) (v w : List Int) (c : Int) : List Int := tabl v.length fun t => sumA f (ix v t) (mulA f (ix w t) c) (f.Prime - 1)
def elim (f : Zc) (c r : Int) (row : List Int) (ys : List (List Int)) : List (List Int) := tabl ys.length fun j => if j = r then row else less f (ix ys j) row (ix (ix ys j) c)
theorem Zrf {f : Zc} {q : Int} {inv : List Int} (hF : Ff f q inv) {e : Int} (h0 : 1 ≤ e) (h1 : e < q) : ZeW f e = some (ix inv e) := by
  have hq := hF.q64
  obtain ⟨i0, i1⟩ := hF.inv1 e h0 h1
  unfold ZeW
  have hgo := ZC (B := Zgz f e) (fun b => b) (i := 1) (n := ix inv e) (by omega) fun b b0 b1 => by
    have hM := ZhX hF.fd (a := e) (b := b) (by omega) (by omega) (by omega) (by omega)
    have hI := hF.inv2 e b (by omega) h1 (by omega) (by omega)
    have hb : ¬ mulA f e b = 1 := fun h => by have := hI.1 h; omega
    simp (disch := omega) only [pz, Zgz, hM]
  rw [hgo]
  refine Zd ?_
  have hM := ZhX hF.fd (a := e) (b := ix inv e) (by omega) (by omega) (by omega) (by omega)
  have hI := (hF.inv2 e (ix inv e) (by omega) h1 (by omega) (by omega)).2 rfl
  simp (disch := omega) only [pz, Zgz, hM]
theorem Zsb {f : Zc} {q : Int} {inv : List Int} (hF : Ff f q inv) {row : List Int} {c : Int} (hr : In q row) (hl : (row.length : Int) ≤ 64) (c0 : 0 ≤ c) (c1 : c < q) : Zgx f row c = some (scl f row c) := by
  have hq := hF.q64
  unfold Zgx
  have hgo := ZC (B := ZdQ f row c) (fun t => (tabl t fun t => mulA f (ix row t) c, t)) (i := 0) (n := row.length) (by omega) fun t t0 t1 => by
    obtain ⟨g1, g2⟩ := hr t t0 t1
    have hM := ZhX hF.fd (a := ix row t) (b := c) (by omega) (by omega) (by omega) (by omega)
    have hl : (tabl t fun t => mulA f (ix row t) c).length = t.toNat := ZI
    simp (disch := omega) only [pz, ZdQ, hM, gApp1, hl, ZeB]
  have e0 : (([] : List Int), (0 : Int)) = (fun t => (tabl t fun t => mulA f (ix row t) c, t)) 0 := rfl
  rw [e0, hgo]
  refine Zd ?_
  simp (disch := omega) only [pz, ZdQ]
  rfl
theorem Zzj {f : Zc} {q : Int} {inv : List Int} (hF : Ff f q inv) {v w : List Int} {c : Int} (hv : In q v) (hw : In q w) (hl : (v.length : Int) ≤ 64) (he : w.length = v.length) (c0 : 0 ≤ c) (c1 : c < q) : Zhe f v w c = some (less f v w c) := by
  have hq := hF.q64; have hp := hF.fd.p2; have hp64 := hF.fd.p64
  unfold Zhe
  have hgo := ZC (B := Zd8 f v w c) (fun t => (tabl t fun t => sumA f (ix v t) (mulA f (ix w t) c) (f.Prime - 1), t)) (i := 0) (n := v.length) (by omega) fun t t0 t1 => by
    obtain ⟨g1, g2⟩ := hv t t0 t1
    obtain ⟨g3, g4⟩ := hw t t0 (by omega)
    have hM := ZhX hF.fd (a := ix w t) (b := c) (by omega) (by omega) (by omega) (by omega)
    obtain ⟨g5, g6⟩ := Zdp hF.fd hF.pw (ix w t) c
    have hS := ZxD hF.fd (a := ix v t) (b := mulA f (ix w t) c) (c := f.Prime - 1) (by omega) (by omega) (by omega) (by omega) (by omega) (by omega)
    have hl : (tabl t fun t => sumA f (ix v t) (mulA f (ix w t) c) (f.Prime - 1)).length = t.toNat := ZI
    simp (disch := omega) only [pz, Zd8, hM, hS, gApp1, hl, ZeB]
  have e0 : (([] : List Int), (0 : Int)) = (fun t => (tabl t fun t => sumA f (ix v t) (mulA f (ix w t) c) (f.Prime - 1), t)) 0 := rfl
  rw [e0, hgo]
  refine Zd ?_
  simp (disch := omega) only [pz, Zd8]
  rfl
theorem Zic {f : Zc} {row : List Int} {c : Int} : (scl f row c).length = row.length := by unfold scl; rw [ZI]; omega
theorem Znz {f : Zc} {v w : List Int} {c : Int} : (less f v w c).length = v.length := by unfold less; rw [ZI]; omega
theorem Zki {f : Zc} {q : Int} {inv : List Int} (hF : Ff f q inv) {row : List Int} {c : Int} : In q (scl f row c) := fun i h0 h1 => by
  rw [Zic] at h1
  unfold scl
  rw [Z0 h0 h1]
  exact Zdp hF.fd hF.pw _ _
theorem Zzx {f : Zc} {q : Int} {inv : List Int} (hF : Ff f q inv) {v w : List Int} {c : Int} : In q (less f v w c) := fun i h0 h1 => by
  rw [Znz] at h1
  unfold less
  rw [Z0 h0 h1]
  exact ZkM hF.fd hF.pw _ _ _
theorem ZeM {f : Zc} {c r : Int} {row : List Int} {ys : List (List Int)} : (elim f c r row ys).length = ys.length := by unfold elim; rw [ZI]; omega
theorem Mat.elim {f : Zc} {q w : Int} {inv : List Int} (hF : Ff f q inv) {c r : Int} {row : List Int} {ys : List (List Int)} (hy : Mat q w ys) (hr : In q row) (hl : (row.length : Int) = w) : Mat q w (elim f c r row ys) := by
  refine ⟨fun i h0 h1 => ?_, fun i h0 h1 => ?_, by rw [ZeM]; exact hy.n, hy.w1⟩
  · rw [ZeM] at h1
    unfold Proofs.YtmmbnjijjdakmaaGreatDoor.elim
    rw [Z0 h0 h1]
    split
    · exact hl
    · rw [Znz]; exact hy.len i h0 h1
  · rw [ZeM] at h1
    unfold Proofs.YtmmbnjijjdakmaaGreatDoor.elim
    rw [Z0 h0 h1]
    split
    · exact hr
    · exact Zzx hF
theorem Mat.set {q w : Int} {xs : List (List Int)} {i : Int} {row : List Int} (h : Mat q w xs) (h0 : 0 ≤ i) (hr : In q row) (hl : (row.length : Int) = w) : Mat q w (xs.set i.toNat row) := by
  refine ⟨fun j j0 j1 => ?_, fun j j0 j1 => ?_, by rw [List.length_set]; exact h.n, h.w1⟩ <;> rw [List.length_set] at j1
  · by_cases e : i = j
    · subst e; rw [Zce h0 j1]; exact hl
    · rw [Zfv h0 j0 e]; exact h.len j j0 j1
  · by_cases e : i = j
    · subst e; rw [Zce h0 j1]; exact hr
    · rw [Zfv h0 j0 e]; exact h.rng j j0 j1
theorem Zty {f : Zc} {q w : Int} {inv : List Int} (hF : Ff f q inv) {piv : List Int} {c i : Int} {xs : List (List Int)} (hx : Mat q w xs) (hc0 : 0 ≤ c) (hc1 : c < w) (hi0 : (piv.length : Int) ≤ i) (hi1 : i < xs.length) (hp : ¬ ix (ix xs i) c = 0) :
    Zak f piv c xs i = some (.inl (piv ++ [c], c + 1, elim f c piv.length (scl f (ix xs i) (ix inv (ix (ix xs i) c))) ((xs.set i.toNat (ix xs piv.length)).set piv.length (scl f (ix xs i) (ix inv (ix (ix xs i) c)))))) := by
  have hq := hF.q64; have hn := hx.n; have hw := hx.w1
  have hli := hx.len i (by omega) hi1
  have hri := hx.rng i (by omega) hi1
  obtain ⟨e0, e1⟩ := hri c hc0 (by omega)
  obtain ⟨v0, v1⟩ := hF.inv1 (ix (ix xs i) c) (by omega) e1
  have hI := Zrf hF (e := ix (ix xs i) c) (by omega) e1
  have hS := Zsb hF (row := ix xs i) (c := ix inv (ix (ix xs i) c)) hri (by omega) (by omega) v1
  have hsl : (xs.set i.toNat (ix xs piv.length)).length = xs.length := List.length_set
  simp (disch := omega) only [pz, Zak, hI, hS]
  generalize hrow : scl f (ix xs i) (ix inv (ix (ix xs i) c)) = row
  have hrl : (row.length : Int) = w := by rw [← hrow, Zic]; exact hli
  have hrr : In q row := by rw [← hrow]; exact Zki hF
  have hy : Mat q w ((xs.set i.toNat (ix xs piv.length)).set piv.length row) := (hx.set (by omega) (hx.rng _ (by omega) (by omega)) (hx.len _ (by omega) (by omega))).set (i := (piv.length : Int)) (by omega) hrr hrl
  have hyr : ix ((xs.set i.toNat (ix xs piv.length)).set piv.length row) (piv.length : Int) = row := Zce (i := (piv.length : Int)) (by omega) (by rw [List.length_set]; omega)
  have hyl : ((xs.set i.toNat (ix xs piv.length)).set piv.length row).length = xs.length := by rw [List.length_set, List.length_set]
  generalize ((xs.set i.toNat (ix xs piv.length)).set piv.length row) = ys at hy hyr hyl ⊢
  have hgo := ZC (B := Zdo f piv c row) (fun j => (j, tabl ys.length fun t => if t < j then (if t = piv.length then row else less f (ix ys t) row (ix (ix ys t) c)) else ix ys t)) (i := 0) (n := ys.length) (by omega) fun j j0 j1 => by
    have hl1 : (tabl ys.length fun t => if t < j then (if t = piv.length then row else less f (ix ys t) row (ix (ix ys t) c)) else ix ys t).length = ys.length := by rw [ZI]; omega
    have hx1 : ix (tabl ys.length fun t => if t < j then (if t = piv.length then row else less f (ix ys t) row (ix (ix ys t) c)) else ix ys t) j = ix ys j := by rw [Z0 j0 j1, if_neg (by omega)]
    by_cases hj : j = piv.length
    · have hs : (tabl ys.length fun t => if t < j then (if t = piv.length then row else less f (ix ys t) row (ix (ix ys t) c)) else ix ys t) = tabl ys.length fun t => if t < j + 1 then (if t = piv.length then row else less f (ix ys t) row (ix (ix ys t) c)) else ix ys t := by
        refine ZX fun t t0 t1 => ?_
        by_cases h : t < j
        · rw [if_pos h, if_pos (show t < j + 1 by omega)]
        · by_cases h' : t = j
          · rw [if_neg h, if_pos (show t < j + 1 by omega), if_pos (by omega), h', hj, hyr]
          · rw [if_neg h, if_neg (show ¬ t < j + 1 by omega)]
      have hl2 : (tabl ys.length fun t => if t < j + 1 then (if t = piv.length then row else less f (ix ys t) row (ix (ix ys t) c)) else ix ys t).length = ys.length := by rw [ZI]; omega
      simp only [hs]
      simp (disch := omega) only [pz, Zdo, hl2]
    · have hlj := hy.len j j0 j1
      have hrj := hy.rng j j0 j1
      obtain ⟨d0, d1⟩ := hrj c hc0 (by omega)
      have hL := Zzj hF (v := ix ys j) (w := row) (c := ix (ix ys j) c) hrj hrr (by omega) (by omega) d0 d1
      have hs : (tabl ys.length fun t => if t < j then (if t = piv.length then row else less f (ix ys t) row (ix (ix ys t) c)) else ix ys t).set j.toNat (less f (ix ys j) row (ix (ix ys j) c)) = tabl ys.length fun t => if t < j + 1 then (if t = piv.length then row else less f (ix ys t) row (ix (ix ys t) c)) else ix ys t := by
        apply Zb0 j0 j1
        · intro t t0 t1 t2
          by_cases h : t < j
          · rw [if_pos h, if_pos (show t < j + 1 by omega)]
          · rw [if_neg h, if_neg (show ¬ t < j + 1 by omega)]
        · rw [if_pos (by omega), if_neg hj]
      simp (disch := omega) only [pz, Zdo, hl1, hx1, hL, hs]
  have e0 : ((0 : Int), ys) = (fun j => (j, tabl ys.length fun t => if t < j then (if t = piv.length then row else less f (ix ys t) row (ix (ix ys t) c)) else ix ys t)) 0 := by
    show _ = ((0 : Int), _)
    congr 1
    refine (Zcd ys).symm.trans (ZX fun t t0 t1 => ?_)
    rw [if_neg (by omega)]
  rw [e0, hgo]
  refine Zd ?_
  have e1 : (tabl ys.length fun t => if t < (ys.length : Int) then (if t = piv.length then row else less f (ix ys t) row (ix (ix ys t) c)) else ix ys t) = elim f c piv.length row ys := ZX fun t t0 t1 => by rw [if_pos t1]
  simp (disch := omega) only [pz, Zdo, e1, ZeM, gApp1]
end Go.Proofs.YtmmbnjijjdakmaaGreatDoor
namespace Go.Proofs.YtmmbnjijjdakmaaGreatDoor
set_option linter.unusedVariables false
open Go Go.Vc
set_option linter.unusedSimpArgs false
theorem Zaw {α : Type} [Inhabited α] {n : Int} {f : Int → α} {i : Int} (h0 : 0 ≤ i) (h1 : i < n) : gIdx (tabl n f) i = some (f i) := by
  rw [Zhs h0 (by rw [ZI]; omega), Z0 h0 h1]
theorem ZrB {f : Zc} {q : Int} {inv : List Int} : (tabs f q inv).qadd = tabl q fun a => tabl q fun b => sumA f a b 1 := rfl
theorem ZoU {f : Zc} {q : Int} {inv : List Int} : (tabs f q inv).qsub = tabl q fun a => tabl q fun b => sumA f a b (f.Prime - 1) := rfl
theorem ZmD {f : Zc} {q : Int} {inv : List Int} : (tabs f q inv).qmul = tabl q fun a => tabl q fun b => mulA f a b := rfl
theorem Zzh {f : Zc} {q : Int} {inv : List Int} : (tabs f q inv).qinv = tabl q fun i => if 1 ≤ i then ix inv i else 0 := rfl
theorem ZuF {f : Zc} {q : Int} {inv : List Int} (hF : Ff f q inv) {v w c : Int} (v0 : 0 ≤ v) (v1 : v < q) (w0 : 0 ≤ w) (w1 : w < q) (c0 : 0 ≤ c) (c1 : c < q) : sumA f v (mulA f (sumA f 0 c (f.Prime - 1)) w) 1 = sumA f v (mulA f w c) (f.Prime - 1) := by
  obtain ⟨m0, m1⟩ := Zdp hF.fd hF.pw w c
  rw [hF.neg c w c0 c1 w0 w1, hF.comm c w c0 c1 w0 w1, hF.sub v _ v0 v1 m0 m1]
theorem ZxM {f : Zc} {q : Int} {inv : List Int} (hF : Ff f q inv) {v w : List Int} {c : Int} (hv : In q v) (hw : In q w) (hl : (v.length : Int) ≤ 64) (he : w.length = v.length) (c0 : 0 ≤ c) (c1 : c < q) :
    ZgM (tabs f q inv) v w (sumA f 0 c (f.Prime - 1)) = some (less f v w c) := by
  have hq := hF.q64
  obtain ⟨n0, n1⟩ := ZkM hF.fd hF.pw 0 c (f.Prime - 1)
  unfold ZgM
  have hgo := ZC (B := Zed (tabs f q inv) w (sumA f 0 c (f.Prime - 1))) (fun t => (t, tabl v.length fun u => if u < t then sumA f (ix v u) (mulA f (ix w u) c) (f.Prime - 1) else ix v u)) (i := 0) (n := v.length) (by omega) fun t t0 t1 => by
    obtain ⟨g1, g2⟩ := hv t t0 t1
    obtain ⟨g3, g4⟩ := hw t t0 (by omega)
    have hl1 : (tabl v.length fun u => if u < t then sumA f (ix v u) (mulA f (ix w u) c) (f.Prime - 1) else ix v u).length = v.length := by rw [ZI]; omega
    have hx1 : ix (tabl v.length fun u => if u < t then sumA f (ix v u) (mulA f (ix w u) c) (f.Prime - 1) else ix v u) t = ix v t := by rw [Z0 t0 t1, if_neg (by omega)]
    obtain ⟨m0, m1⟩ := Zdp hF.fd hF.pw (sumA f 0 c (f.Prime - 1)) (ix w t)
    have hs : (tabl v.length fun u => if u < t then sumA f (ix v u) (mulA f (ix w u) c) (f.Prime - 1) else ix v u).set t.toNat (sumA f (ix v t) (mulA f (sumA f 0 c (f.Prime - 1)) (ix w t)) 1) = tabl v.length fun u => if u < t + 1 then sumA f (ix v u) (mulA f (ix w u) c) (f.Prime - 1) else ix v u := by
      apply Zb0 t0 t1
      · intro u u0 u1 u2
        by_cases h : u < t
        · rw [if_pos h, if_pos (show u < t + 1 by omega)]
        · rw [if_neg h, if_neg (show ¬ u < t + 1 by omega)]
      · rw [if_pos (by omega), ZuF hF g1 g2 g3 g4 c0 c1]
    have i1 : gIdx (tabl v.length fun u => if u < t then sumA f (ix v u) (mulA f (ix w u) c) (f.Prime - 1) else ix v u) t = some (ix v t) := by rw [Zhs t0 (by omega), hx1]
    have i2 : gIdx (tabs f q inv).qadd (ix v t) = some (tabl q fun b => sumA f (ix v t) b 1) := by rw [ZrB, Zaw g1 g2]
    have i3 : gIdx (tabs f q inv).qmul (sumA f 0 c (f.Prime - 1)) = some (tabl q fun b => mulA f (sumA f 0 c (f.Prime - 1)) b) := by rw [ZmD, Zaw n0 n1]
    have i4 : gIdx (tabl q fun b => mulA f (sumA f 0 c (f.Prime - 1)) b) (ix w t) = some (mulA f (sumA f 0 c (f.Prime - 1)) (ix w t)) := Zaw g3 g4
    have i5 : gIdx (tabl q fun b => sumA f (ix v t) b 1) (mulA f (sumA f 0 c (f.Prime - 1)) (ix w t)) = some (sumA f (ix v t) (mulA f (sumA f 0 c (f.Prime - 1)) (ix w t)) 1) := Zaw m0 m1
    simp (disch := omega) only [pz, Zed, hx1, i2, i3, i4, i5, hs]
  have e0 : ((0 : Int), v) = (fun t => (t, tabl v.length fun u => if u < t then sumA f (ix v u) (mulA f (ix w u) c) (f.Prime - 1) else ix v u)) 0 := by
    show _ = ((0 : Int), _)
    congr 1
    refine (Zcd v).symm.trans (ZX fun t t0 t1 => ?_)
    rw [if_neg (by omega)]
  rw [e0, hgo]
  refine Zd ?_
  have e1 : (tabl v.length fun u => if u < (v.length : Int) then sumA f (ix v u) (mulA f (ix w u) c) (f.Prime - 1) else ix v u) = less f v w c := ZX fun t t0 t1 => by rw [if_pos t1]
  simp (disch := omega) only [pz, Zed, e1]
theorem ZuN {f : Zc} {q : Int} {inv : List Int} (hF : Ff f q inv) {v w : List Int} (hv : In q v) (hw : In q w) (he : w.length = v.length) : less f v w 0 = v := by
  refine Eq.trans (ZX fun t t0 t1 => ?_) (Zcd v)
  obtain ⟨g1, g2⟩ := hv t t0 t1
  obtain ⟨g3, g4⟩ := hw t t0 (by omega)
  have hq := hF.q2
  rw [hF.comm _ 0 g3 g4 (by omega) (by omega), hF.z1 _ g3 g4, hF.z2 _ g1 g2]
theorem Zsk {f : Zc} {q w : Int} {inv : List Int} (hF : Ff f q inv) {piv : List Int} {c d : Int} {row : List Int} {ys : List (List Int)} (hy : Mat q w ys) (hc0 : 0 ≤ c) (hc1 : c < w) (hr : (piv.length : Int) < ys.length) (hrl : (row.length : Int) = w) (hrr : In q row) (hyr : ix ys piv.length = row) :
    loop (Za5 (tabs f q inv) piv c d ys) (0, ys) = some (if (piv.length : Int) + 1 = ys.length then .inr (.inr ((elim f c piv.length row ys).take (piv.length + 1), piv ++ [c], d)) else .inr (.inl (piv ++ [c], d, c + 1, elim f c piv.length row ys))) := by
  have hn := hy.n; have hw := hy.w1; have hq := hF.q64; have hq2 := hF.q2
  have hgo := ZC (B := Za5 (tabs f q inv) piv c d ys) (fun j => (j, tabl ys.length fun t => if t < j then (if t = piv.length then row else less f (ix ys t) row (ix (ix ys t) c)) else ix ys t)) (i := 0) (n := ys.length) (by omega) fun j j0 j1 => by
    have hl1 : (tabl ys.length fun t => if t < j then (if t = piv.length then row else less f (ix ys t) row (ix (ix ys t) c)) else ix ys t).length = ys.length := by rw [ZI]; omega
    have hx1 : ix (tabl ys.length fun t => if t < j then (if t = piv.length then row else less f (ix ys t) row (ix (ix ys t) c)) else ix ys t) j = ix ys j := by rw [Z0 j0 j1, if_neg (by omega)]
    have i1 : gIdx (tabl ys.length fun t => if t < j then (if t = piv.length then row else less f (ix ys t) row (ix (ix ys t) c)) else ix ys t) j = some (ix ys j) := by rw [Zhs j0 (by omega), hx1]
    by_cases hj : j = piv.length
    · have hs : (tabl ys.length fun t => if t < j then (if t = piv.length then row else less f (ix ys t) row (ix (ix ys t) c)) else ix ys t) = tabl ys.length fun t => if t < j + 1 then (if t = piv.length then row else less f (ix ys t) row (ix (ix ys t) c)) else ix ys t := by
        refine ZX fun t t0 t1 => ?_
        by_cases h : t < j
        · rw [if_pos h, if_pos (show t < j + 1 by omega)]
        · by_cases h' : t = j
          · rw [if_neg h, if_pos (show t < j + 1 by omega), if_pos (by omega), h', hj, hyr]
          · rw [if_neg h, if_neg (show ¬ t < j + 1 by omega)]
      simp only [hs] at i1 ⊢
      simp (disch := omega) only [pz, Za5, ZcC, i1]
    · have hlj := hy.len j j0 j1
      have hrj := hy.rng j j0 j1
      obtain ⟨d0, d1⟩ := hrj c hc0 (by omega)
      by_cases hz : ix (ix ys j) c = 0
      · have hs : (tabl ys.length fun t => if t < j then (if t = piv.length then row else less f (ix ys t) row (ix (ix ys t) c)) else ix ys t) = tabl ys.length fun t => if t < j + 1 then (if t = piv.length then row else less f (ix ys t) row (ix (ix ys t) c)) else ix ys t := by
          refine ZX fun t t0 t1 => ?_
          by_cases h : t < j
          · rw [if_pos h, if_pos (show t < j + 1 by omega)]
          · by_cases h' : t = j
            · rw [if_neg h, if_pos (show t < j + 1 by omega), if_neg (by omega), h', hz, ZuN hF hrj hrr (by omega)]
            · rw [if_neg h, if_neg (show ¬ t < j + 1 by omega)]
        simp only [hs] at i1 ⊢
        simp (disch := omega) only [pz, Za5, ZcC, i1]
      · have hL := ZxM hF (v := ix ys j) (w := row) (c := ix (ix ys j) c) hrj hrr (by omega) (by omega) d0 d1
        have hs : (tabl ys.length fun t => if t < j then (if t = piv.length then row else less f (ix ys t) row (ix (ix ys t) c)) else ix ys t).set j.toNat (less f (ix ys j) row (ix (ix ys j) c)) = tabl ys.length fun t => if t < j + 1 then (if t = piv.length then row else less f (ix ys t) row (ix (ix ys t) c)) else ix ys t := by
          apply Zb0 j0 j1
          · intro t t0 t1 t2
            by_cases h : t < j
            · rw [if_pos h, if_pos (show t < j + 1 by omega)]
            · rw [if_neg h, if_neg (show ¬ t < j + 1 by omega)]
          · rw [if_pos (by omega), if_neg hj]
        have hx2 : ix (tabl ys.length fun t => if t < j then (if t = piv.length then row else less f (ix ys t) row (ix (ix ys t) c)) else ix ys t) (piv.length : Int) = row := by
          rw [Z0 (by omega) hr]
          by_cases h : (piv.length : Int) < j
          · rw [if_pos h, if_pos rfl]
          · rw [if_neg h, hyr]
        have i3 : gIdx (tabs f q inv).qsub 0 = some (tabl q fun b => sumA f 0 b (f.Prime - 1)) := by rw [ZoU, Zaw (by omega) (by omega)]
        have i4 : gIdx (tabl q fun b => sumA f 0 b (f.Prime - 1)) (ix (ix ys j) c) = some (sumA f 0 (ix (ix ys j) c) (f.Prime - 1)) := Zaw d0 d1
        have i5 : gNe j (piv.length : Int) = some () := by unfold gNe; rw [if_pos hj]
        have he : Zaf.mk (tabs f q inv).qq (tabs f q inv).qadd (tabs f q inv).qsub (tabs f q inv).qmul (tabs f q inv).qinv = tabs f q inv := rfl
        simp (disch := omega) only [pz, Za5, ZcC, hx1, hx2, i3, i4, i5, he, hL, hs]
  have e0 : ((0 : Int), ys) = (fun j => (j, tabl ys.length fun t => if t < j then (if t = piv.length then row else less f (ix ys t) row (ix (ix ys t) c)) else ix ys t)) 0 := by
    show _ = ((0 : Int), _)
    congr 1
    refine (Zcd ys).symm.trans (ZX fun t t0 t1 => ?_)
    rw [if_neg (by omega)]
  rw [e0, hgo]
  refine Zd ?_
  have e1 : (tabl ys.length fun t => if t < (ys.length : Int) then (if t = piv.length then row else less f (ix ys t) row (ix (ix ys t) c)) else ix ys t) = elim f c piv.length row ys := ZX fun t t0 t1 => by rw [if_pos t1]
  have hel : (elim f c piv.length row ys).length = ys.length := ZeM
  have hpl : (piv ++ [c]).length = piv.length + 1 := by simp
  simp only [e1]
  by_cases h : (piv.length : Int) + 1 = ys.length
  · rw [if_pos h]
    have g : gSl (elim f c piv.length row ys) 0 ((piv ++ [c]).length : Int) = some ((elim f c piv.length row ys).take (piv.length + 1)) := by
      rw [ZbF (by omega) (by omega) (by omega), hpl]
      rfl
    simp (disch := omega) only [pz, Za5, gApp1, Zc8, g]
  · rw [if_neg h]
    simp (disch := omega) only [pz, Za5, gApp1, ZeS]
end Go.Proofs.YtmmbnjijjdakmaaGreatDoor
namespace Go.Proofs.YtmmbnjijjdakmaaGreatDoor
set_option linter.unusedVariables false
open Go Go.Vc
set_option linter.unusedSimpArgs false
theorem ZoG {α : Type} [Inhabited α] {xs : List α} {k : Nat} : xs.set k (ix xs (k : Int)) = xs := by
  apply ZcX
  · exact List.length_set
  · intro i i0 i1
    rw [List.length_set] at i1
    by_cases h : (k : Int) = i
    · subst h
      exact Zce (i := (k : Int)) i0 i1
    · exact Zfv (i := (k : Int)) (by omega) i0 h
theorem Zo1 {f : Zc} {q w : Int} {inv : List Int} (hF : Ff f q inv) {piv : List Int} {c d : Int} {xs : List (List Int)} (hx : Mat q w xs) (hc0 : 0 ≤ c) (hc1 : c < w) (hr : (piv.length : Int) < xs.length) (hp : ¬ ix (ix xs piv.length) c = 0) (d0 : 0 ≤ d) (d1 : d < q) :
    Zd5 (tabs f q inv) piv c d xs = some (if (piv.length : Int) + 1 = xs.length
      then .inr ((elim f c piv.length (scl f (ix xs piv.length) (ix inv (ix (ix xs piv.length) c))) (xs.set piv.length (scl f (ix xs piv.length) (ix inv (ix (ix xs piv.length) c))))).take (piv.length + 1), piv ++ [c], mulA f d (ix (ix xs piv.length) c))
      else .inl (piv ++ [c], mulA f d (ix (ix xs piv.length) c), c + 1, elim f c piv.length (scl f (ix xs piv.length) (ix inv (ix (ix xs piv.length) c))) (xs.set piv.length (scl f (ix xs piv.length) (ix inv (ix (ix xs piv.length) c)))))) := by
  have hq := hF.q64; have hn := hx.n; have hw := hx.w1
  have hlr := hx.len piv.length (by omega) hr
  have hrr := hx.rng piv.length (by omega) hr
  obtain ⟨e0, e1⟩ := hrr c hc0 (by omega)
  obtain ⟨v0, v1⟩ := hF.inv1 (ix (ix xs piv.length) c) (by omega) e1
  have i1 : gIdx (tabs f q inv).qmul d = some (tabl q fun b => mulA f d b) := by rw [ZmD, Zaw d0 d1]
  have i2 : gIdx (tabl q fun b => mulA f d b) (ix (ix xs piv.length) c) = some (mulA f d (ix (ix xs piv.length) c)) := Zaw e0 e1
  simp (disch := omega) only [pz, Zd5, i1, i2]
  generalize hR : ix xs piv.length = R at *
  generalize hE : ix R c = e at *
  have hgo := ZC (B := ZdT (tabs f q inv) piv c e (mulA f d e) R) (fun t => (t, xs.set piv.length (tabl R.length fun u => if u < t then mulA f (ix R u) (ix inv e) else ix R u))) (i := 0) (n := R.length) (by omega) fun t t0 t1 => by
    obtain ⟨g1, g2⟩ := hrr t t0 t1
    have hl1 : (tabl R.length fun u => if u < t then mulA f (ix R u) (ix inv e) else ix R u).length = R.length := by rw [ZI]; omega
    have hx1 : ix (tabl R.length fun u => if u < t then mulA f (ix R u) (ix inv e) else ix R u) t = ix R t := by rw [Z0 t0 t1, if_neg (by omega)]
    have hs : (tabl R.length fun u => if u < t then mulA f (ix R u) (ix inv e) else ix R u).set t.toNat (mulA f (ix inv e) (ix R t)) = tabl R.length fun u => if u < t + 1 then mulA f (ix R u) (ix inv e) else ix R u := by
      apply Zb0 t0 t1
      · intro u u0 u1 u2
        by_cases h : u < t
        · rw [if_pos h, if_pos (show u < t + 1 by omega)]
        · rw [if_neg h, if_neg (show ¬ u < t + 1 by omega)]
      · rw [if_pos (by omega), hF.comm _ _ (by omega) v1 g1 g2]
    generalize (tabl R.length fun u => if u < t then mulA f (ix R u) (ix inv e) else ix R u) = A at hl1 hx1 hs ⊢
    have hA : ix (xs.set piv.length A) piv.length = A := Zce (i := (piv.length : Int)) (by omega) hr
    have hAl : (xs.set piv.length A).length = xs.length := List.length_set
    have i3 : gIdx (tabs f q inv).qinv e = some (ix inv e) := by rw [Zzh, Zaw e0 e1, if_pos (by omega)]
    have i4 : gIdx (tabs f q inv).qmul (ix inv e) = some (tabl q fun b => mulA f (ix inv e) b) := by rw [ZmD, Zaw (by omega) v1]
    have i5 : gIdx (tabl q fun b => mulA f (ix inv e) b) (ix R t) = some (mulA f (ix inv e) (ix R t)) := Zaw g1 g2
    simp (disch := omega) only [pz, ZdT, hA, hx1, i3, i4, i5, hs, List.set_set]
  have e0 : ((0 : Int), xs) = (fun t => (t, xs.set piv.length (tabl R.length fun u => if u < t then mulA f (ix R u) (ix inv e) else ix R u))) 0 := by
    show _ = ((0 : Int), xs.set piv.length _)
    congr 1
    have : (tabl R.length fun u => if u < 0 then mulA f (ix R u) (ix inv e) else ix R u) = R := by
      refine Eq.trans (ZX fun t t0 t1 => ?_) (Zcd R)
      rw [if_neg (by omega)]
    rw [this, ← hR, ZoG]
  rw [e0, hgo]
  refine Zd ?_
  have e1 : (tabl R.length fun u => if u < (R.length : Int) then mulA f (ix R u) (ix inv e) else ix R u) = scl f R (ix inv e) := ZX fun t t0 t1 => by rw [if_pos t1]
  simp only [e1]
  have hrl : ((scl f R (ix inv e)).length : Int) = w := by rw [Zic]; exact hlr
  have hir : In q (scl f R (ix inv e)) := Zki hF
  generalize scl f R (ix inv e) = row at hrl hir ⊢
  have hy : Mat q w (xs.set piv.length row) := hx.set (i := (piv.length : Int)) (by omega) hir hrl
  have hyr : ix (xs.set piv.length row) piv.length = row := Zce (i := (piv.length : Int)) (by omega) hr
  have hyl : (xs.set piv.length row).length = xs.length := List.length_set
  have hL := Zsk hF (d := mulA f d e) hy hc0 hc1 (by omega) hrl hir hyr
  rw [hyl] at hL
  simp (disch := omega) only [pz, ZdT]
  rw [hL]
  by_cases h : (piv.length : Int) + 1 = xs.length
  · rw [if_pos h, if_pos h]
  · rw [if_neg h, if_neg h]
theorem ZwL {f : Zc} {q w : Int} {piv : List Int} {c : Int} {xs : List (List Int)} (hx : Mat q w xs) (hc0 : 0 ≤ c) (hc1 : c < w) (hr : (piv.length : Int) ≤ xs.length) :
    ∃ i : Int, (piv.length : Int) ≤ i ∧ i ≤ xs.length ∧ (∀ j, (piv.length : Int) ≤ j → j < i → ix (ix xs j) c = 0) ∧ (i < xs.length → ¬ ix (ix xs i) c = 0) ∧ Zf3 f piv c xs = Zak f piv c xs i := by
  have hn := hx.n
  have key : ∀ (d : Nat) (i : Int), i + d = xs.length → (piv.length : Int) ≤ i → (∀ j, (piv.length : Int) ≤ j → j < i → ix (ix xs j) c = 0) → ∃ i' : Int, (piv.length : Int) ≤ i' ∧ i' ≤ xs.length ∧ (∀ j, (piv.length : Int) ≤ j → j < i' → ix (ix xs j) c = 0) ∧ (i' < xs.length → ¬ ix (ix xs i') c = 0) ∧ loop (Zbq f piv c xs) i = Zak f piv c xs i' := by
    intro d
    induction d with
    | zero =>
      intro i hi hpi ha
      refine ⟨i, hpi, by omega, ha, fun h => by omega, ?_⟩
      have hB : Zbq f piv c xs i = (Zak f piv c xs i).map fun x => .inr x := by
        simp (disch := omega) only [pz, Zbq]
      cases hk : Zak f piv c xs i with
      | none =>
        exfalso
        unfold Zak at hk
        obtain rfl : i = (xs.length : Int) := by omega
        have : ((xs.length : Int) == (xs.length : Int)) = true := by simp
        rw [this] at hk
        cases hk
      | some r => rw [hk] at hB; exact Zd hB
    | succ d ih =>
      intro i hi hpi ha
      have hl := hx.len i (by omega) (by omega)
      by_cases h : ix (ix xs i) c = 0
      · obtain ⟨i', g1, g2, g3, g4, g5⟩ := ih (i + 1) (by omega) (by omega) fun j j0 j1 => by
          by_cases e : j = i
          · rw [e]; exact h
          · exact ha j j0 (by omega)
        refine ⟨i', g1, g2, g3, g4, ?_⟩
        rw [← g5]
        refine ZF ?_
        simp (disch := omega) only [pz, Zbq, h]
      · refine ⟨i, hpi, by omega, ha, fun _ => h, ?_⟩
        have hB : Zbq f piv c xs i = (Zak f piv c xs i).map fun x => .inr x := by
          simp (disch := omega) only [pz, Zbq, h]
        cases hk : Zak f piv c xs i with
        | none =>
          rw [hk] at hB
          cases hl : loop (Zbq f piv c xs) i with
          | none => rfl
          | some r =>
            obtain ⟨m, hm⟩ := Zx hl
            obtain ⟨_, a, _, h1, _⟩ := Zw hm
            rw [hB] at h1
            cases h1
        | some r => rw [hk] at hB; exact Zd hB
  unfold Zf3
  exact key (xs.length - piv.length) piv.length (by omega) (by omega) fun j j0 j1 => by omega
theorem ZqW {q w : Int} {piv : List Int} {c i : Int} {xs : List (List Int)} (hx : Mat q w xs) (hc0 : 0 ≤ c) (hc1 : c < w) (hr : (piv.length : Int) ≤ xs.length) (hi0 : (piv.length : Int) ≤ i) (hi1 : i ≤ xs.length) (hz : ∀ j, (piv.length : Int) ≤ j → j < i → ix (ix xs j) c = 0) (hp : i < xs.length → ¬ ix (ix xs i) c = 0) :
    ZdO (xs.drop piv.length) (fun y0 => Zcs y0 c) = some (if i < xs.length then i - piv.length else -1) := by
  have hn := hx.n
  unfold ZdO
  have hdl : ((xs.drop piv.length).length : Int) = (xs.length : Int) - piv.length := by rw [List.length_drop]; omega
  have hdx : ∀ k, 0 ≤ k → ix (xs.drop piv.length) k = ix xs (piv.length + k) := fun k k0 => Zpm (i := (piv.length : Int)) (by omega) k0
  have hgo := ZC (B := ZbI (xs.drop piv.length) (fun y0 => Zcs y0 c)) (fun k => k) (i := 0) (n := i - piv.length) (by omega) fun k k0 k1 => by
    have hl := hx.len (piv.length + k) (by omega) (by omega)
    have hzk := hz (piv.length + k) (by omega) (by omega)
    simp (disch := omega) only [pz, ZbI, Zcs, hdx, hzk]
  rw [hgo]
  refine Zd ?_
  by_cases h : i < xs.length
  · rw [if_pos h]
    have hl := hx.len i (by omega) h
    have hpi := hp h
    have e : (piv.length : Int) + (i - piv.length) = i := by omega
    simp (disch := omega) only [pz, ZbI, Zcs, hdx, e]
  · rw [if_neg h]
    simp (disch := omega) only [pz, ZbI]
end Go.Proofs.YtmmbnjijjdakmaaGreatDoor
namespace Go.Proofs.YtmmbnjijjdakmaaGreatDoor
set_option linter.unusedVariables false
open Go Go.Vc
set_option linter.unusedSimpArgs false
theorem Zpz {xs : List (List Int)} {k : Nat} (h : k ≤ xs.length) : gSl xs 0 (k : Int) = some (xs.take k) := by
  rw [ZbF (by omega) (by omega) (by omega)]
  simp
theorem Zv7 {f : Zc} {q w : Int} {inv : List Int} (hF : Ff f q inv) : ∀ (n : Nat) (c : Int) (piv : List Int) (xs : List (List Int)) (d : Int), c + n = w → 0 ≤ c → (piv.length : Int) < xs.length → Mat q w xs → 0 ≤ d → d < q →
    ∃ R piv' d', loop (Zbv f w) (piv, c, xs) = some (R, piv') ∧ piv'.length ≤ R.length ∧ R.length = xs.length ∧ Mat q w R ∧ loop (Zbe (tabs f q inv)) (piv, d, c, xs) = some (R.take piv'.length, piv', d') := by
  intro n
  induction n with
  | zero =>
    intro c piv xs d hc c0 hp hx d0 d1
    have hn := hx.n; have hw := hx.w1
    have hl0 := hx.len 0 (by omega) (by omega)
    refine ⟨xs, piv, d, Zd ?_, by omega, rfl, hx, Zd ?_⟩
    · simp (disch := omega) only [pz, Zbv]
    · simp (disch := omega) only [pz, Zbe, Zc8, Zpz]
  | succ n ih =>
    intro c piv xs d hc c0 hp hx d0 d1
    have hn := hx.n; have hw := hx.w1; have hq2 := hF.q2
    have hl0 := hx.len 0 (by omega) (by omega)
    obtain ⟨i, i0, i1, iz, ip, hs⟩ := ZwL (f := f) (piv := piv) hx c0 (by omega) (by omega)
    have hi := ZqW (piv := piv) hx c0 (by omega) (by omega) i0 i1 iz ip
    have hsl : gSl xs (piv.length : Int) (xs.length : Int) = some (xs.drop piv.length) := Zj6 (lo := (piv.length : Int)) (by omega) (by omega)
    have hB : Zbv f w (piv, c, xs) = Zak f piv c xs i := by
      rw [← hs]
      simp (disch := omega) only [pz, Zbv]
    by_cases h : i < xs.length
    · rw [if_pos h] at hi
      have hpi := ip h
      have hB2 := Zty hF (piv := piv) hx c0 (by omega : c < w) i0 h hpi
      rw [hB2] at hB
      rw [ZF hB]
      have hil := hx.len i (by omega) h
      have hir := hx.rng i (by omega) h
      have hrl := hx.len piv.length (by omega) hp
      have hrr := hx.rng piv.length (by omega) hp
      have hrow : In q (scl f (ix xs i) (ix inv (ix (ix xs i) c))) := Zki hF
      have hrowl : ((scl f (ix xs i) (ix inv (ix (ix xs i) c))).length : Int) = w := by rw [Zic]; exact hil
      obtain ⟨m0, m1⟩ := hir c c0 (by omega)
      have hI : ∃ d', 0 ≤ d' ∧ d' < q ∧ Zbe (tabs f q inv) (piv, d, c, xs) = some (if (piv.length : Int) + 1 = xs.length
          then .inr ((elim f c piv.length (scl f (ix xs i) (ix inv (ix (ix xs i) c))) ((xs.set i.toNat (ix xs piv.length)).set piv.length (scl f (ix xs i) (ix inv (ix (ix xs i) c))))).take (piv.length + 1), piv ++ [c], d')
          else .inl (piv ++ [c], d', c + 1, elim f c piv.length (scl f (ix xs i) (ix inv (ix (ix xs i) c))) ((xs.set i.toNat (ix xs piv.length)).set piv.length (scl f (ix xs i) (ix inv (ix (ix xs i) c)))))) := by
        by_cases hir' : i = piv.length
        · subst hir'
          have hk := Zo1 hF (piv := piv) hx c0 (by omega : c < w) hp hpi d0 d1
          obtain ⟨r0, r1⟩ := Zdp hF.fd hF.pw d (ix (ix xs piv.length) c)
          refine ⟨_, r0, r1, ?_⟩
          rw [Int.toNat_natCast, ZoG]
          rw [Int.sub_self] at hi
          rw [← hk]
          simp (disch := omega) only [pz, Zbe, ZdE, hsl, hi]
        · have hzm : Mat q w ((xs.set piv.length (ix xs i)).set i.toNat (ix xs piv.length)) := (hx.set (i := (piv.length : Int)) (by omega) hir hil).set (by omega) hrr hrl
          have hzl : ((xs.set piv.length (ix xs i)).set i.toNat (ix xs piv.length)).length = xs.length := by rw [List.length_set, List.length_set]
          have hzl1 : (xs.set piv.length (ix xs i)).length = xs.length := List.length_set
          have hzr : ix ((xs.set piv.length (ix xs i)).set i.toNat (ix xs piv.length)) piv.length = ix xs i := by
            rw [Zfv (by omega) (by omega) hir']
            exact Zce (i := (piv.length : Int)) (by omega) hp
          have hsc : ∀ row, ((xs.set piv.length (ix xs i)).set i.toNat (ix xs piv.length)).set piv.length row = (xs.set i.toNat (ix xs piv.length)).set piv.length row := fun row => by
            rw [List.set_comm (ix xs i) (ix xs piv.length) (by omega : piv.length ≠ i.toNat), List.set_set]
          obtain ⟨n0, n1⟩ := ZkM hF.fd hF.pw 0 d (f.Prime - 1)
          have hk := Zo1 hF (piv := piv) (d := sumA f 0 d (f.Prime - 1)) hzm c0 (by omega : c < w) (by omega) (by rw [hzr]; exact hpi) n0 n1
          rw [hzr, hzl, hsc] at hk
          obtain ⟨r0, r1⟩ := Zdp hF.fd hF.pw (sumA f 0 d (f.Prime - 1)) (ix (ix xs i) c)
          refine ⟨_, r0, r1, ?_⟩
          rw [← hk]
          have j1 : gIdx (tabs f q inv).qsub 0 = some (tabl q fun b => sumA f 0 b (f.Prime - 1)) := by rw [ZoU, Zaw (by omega) (by omega)]
          have j2 : gIdx (tabl q fun b => sumA f 0 b (f.Prime - 1)) d = some (sumA f 0 d (f.Prime - 1)) := Zaw d0 d1
          have e : (piv.length : Int) + (i - piv.length) = i := by omega
          simp (disch := omega) only [pz, Zbe, ZdE, hsl, hi, e, j1, j2]
      obtain ⟨d', r0, r1, hI⟩ := hI
      have hyl : ((xs.set i.toNat (ix xs piv.length)).set piv.length (scl f (ix xs i) (ix inv (ix (ix xs i) c)))).length = xs.length := by rw [List.length_set, List.length_set]
      have hym : Mat q w ((xs.set i.toNat (ix xs piv.length)).set piv.length (scl f (ix xs i) (ix inv (ix (ix xs i) c)))) := (hx.set (by omega) hrr hrl).set (i := (piv.length : Int)) (by omega) hrow hrowl
      have hEm : Mat q w (elim f c piv.length (scl f (ix xs i) (ix inv (ix (ix xs i) c))) ((xs.set i.toNat (ix xs piv.length)).set piv.length (scl f (ix xs i) (ix inv (ix (ix xs i) c))))) := Mat.elim hF hym hrow hrowl
      have hEl : (elim f c piv.length (scl f (ix xs i) (ix inv (ix (ix xs i) c))) ((xs.set i.toNat (ix xs piv.length)).set piv.length (scl f (ix xs i) (ix inv (ix (ix xs i) c))))).length = xs.length := by rw [ZeM, hyl]
      generalize elim f c piv.length (scl f (ix xs i) (ix inv (ix (ix xs i) c))) ((xs.set i.toNat (ix xs piv.length)).set piv.length (scl f (ix xs i) (ix inv (ix (ix xs i) c)))) = E at hI hEm hEl ⊢
      have hpl : (piv ++ [c]).length = piv.length + 1 := by simp
      by_cases hfull : (piv.length : Int) + 1 = xs.length
      · rw [if_pos hfull] at hI
        refine ⟨E, piv ++ [c], d', Zd ?_, by omega, hEl, hEm, ?_⟩
        · by_cases hcw : c + 1 < w
          · simp (disch := omega) only [pz, Zbv]
          · simp (disch := omega) only [pz, Zbv]
        · rw [hpl]; exact Zd hI
      · rw [if_neg hfull] at hI
        rw [ZF hI]
        obtain ⟨R, piv', d'', g1, g2, g3, g5, g4⟩ := ih (c + 1) (piv ++ [c]) E d' (by omega) (by omega) (by omega) hEm r0 r1
        exact ⟨R, piv', d'', g1, g2, by omega, g5, g4⟩
    · rw [if_neg h] at hi
      have hB2 : Zak f piv c xs i = some (.inl (piv, c + 1, xs)) := by
        obtain rfl : i = (xs.length : Int) := by omega
        simp (disch := omega) only [pz, Zak]
      rw [hB2] at hB
      rw [ZF hB]
      have hI : Zbe (tabs f q inv) (piv, d, c, xs) = some (.inl (piv, 0, c + 1, xs)) := by
        simp (disch := omega) only [pz, Zbe, ZdE, ZeS, hsl, hi]
      rw [ZF hI]
      obtain ⟨R, piv', d'', g1, g2, g3, g5, g4⟩ := ih (c + 1) piv xs 0 (by omega) (by omega) hp hx (by omega) (by omega)
      exact ⟨R, piv', d'', g1, g2, g3, g5, g4⟩
theorem ZvN {m : List (List Int)} (hs : Sz2 m) : ZfE m = some m := by
  unfold ZfE
  have h1 := hs.1
  have hgo := ZC (B := Zes m) (fun k => (m.take k.toNat, k)) (i := 0) (n := m.length) (by omega) fun k h0 h1 => by
    have hr := Znw (hs.2 (ix m k) (ZM h0 h1))
    have hl : (m.take k.toNat).length = k.toNat := by rw [List.length_take]; omega
    simp (disch := omega) only [pz, Zes, hr, gApp1, hl, Zbr]
  have e0 : (([] : List (List Int)), (0 : Int)) = (fun k : Int => (m.take k.toNat, k)) 0 := by simp
  rw [e0, hgo]
  refine Zd ?_
  have e1 : m.take (m.length : Int).toNat = m := by simp
  simp (disch := omega) only [pz, Zes, e1]
theorem Zy9 {f : Zc} {q w : Int} {inv : List Int} (hF : Ff f q inv) {m : List (List Int)} (hs : Sz2 m) (hm : Mat q w m) (hw : 0 ≤ w) (h1 : 1 ≤ (m.length : Int)) :
    ∃ R piv d, Ze7 f m = some R ∧ ZgB (tabs f q inv) m = some (R, piv, d) ∧ R.length ≤ m.length ∧ ∀ x ∈ R, (x.length : Int) ≤ 1048576 := by
  have hq2 := hF.q2
  obtain ⟨R, piv, d, g1, g2, g3, g5, g4⟩ := Zv7 hF w.toNat 0 [] m 1 (by omega) (by omega) (by simp; omega) hm (by omega) (by omega)
  have hl0 := hm.len 0 (by omega) (by omega)
  refine ⟨R.take piv.length, piv, d, ?_, ?_, by rw [List.length_take]; omega, fun x hx => ?_⟩
  · unfold Ze7 Zhu
    rw [ZvN hs]
    simp (disch := omega) only [pz, hl0, g1, Zpz]
  · unfold ZgB
    rw [Zbn hs]
    exact g4
  · obtain ⟨i, a, b, rfl⟩ := Z1 (List.mem_of_mem_take hx)
    have := g5.len i a b
    have := hm.w1
    omega
end Go.Proofs.YtmmbnjijjdakmaaGreatDoor
