import Derived.Test.YtapkemdomnkccaaGreatPuFns
import Derived.Test.YtapkemdomnkccaaGreatPuLib
namespace Go.Proofs.YtapkemdomnkccaaGreat
open Go Go.Vc
set_option linter.unusedSimpArgs false
set_option linter.unusedVariables false
theorem Zte : Sz Zds (OkL I64) (SmL (fun _ => True)) := by
  intro xs left hok h0 h1
  have hM := hok.1
  unfold M63 at hM
  unfold Zds
  rw [Zka h0 h1 (by omega) (by omega)]
  by_cases hlt : left - (xs.length : Int) < 0
  · have : decide (left - (xs.length : Int) < 0) = true := by simpa using hlt
    rw [this]; exact ⟨-1, rfl, .inl rfl⟩
  · have : decide (left - (xs.length : Int) < 0) = false := by simpa using hlt
    rw [this]; exact ⟨_, rfl, .inr ⟨by omega, by omega, by omega, fun _ _ => trivial⟩⟩
theorem Zzx : Sz ZgO (OkL (OkL I64)) (SmL (SmL (fun _ => True))) := by
  refine ZoO (f := Zds) (B := ZfF) Zte (fun xs left => rfl) ?_ ?_
  · intro xs k x l r hx hr
    rw [ZfF, lt_t (ZV hx), Zac hx]
    simp only [cond_true, Option.bind_some]
    rw [show Zds _ l = some r from hr]
    simp only [Option.bind_some]
    cases decide (r < 0) <;> rfl
  · intro xs l
    rw [ZfF, lt_f]; rfl
def ZjC (x : Zal) : Prop := I64 x.Kind ∧ I64 x.Size ∧ (OkL (OkL I64)) x.Rows
def ZlK (x : Zal) : Prop := (SmL (SmL (fun _ => True))) x.Rows
theorem ZAX : Sz ZeU ZjC ZlK := by
  intro x left hok h0 h1
  unfold ZeU
  obtain ⟨k0, k1, k2⟩ := hok
  obtain ⟨r2, e2, c2⟩ := Zzx x.Rows left k2 (by omega) (by omega)
  first | rw [e2] | rw [show ZgO _ _ = some r2 from e2]
  simp only [Option.bind_some]
  rcases c2 with rfl | ⟨l2, g2, s2⟩
  · exact ⟨-1, rfl, .inl rfl⟩
  have d2 : decide (r2 < 0) = false := by simpa using l2
  rw [d2]
  simp only [cond_false]
  exact ⟨_, rfl, .inr ⟨by omega, by omega, s2⟩⟩
def Zh1 (x : Zab) : Prop := OkS x.Name ∧ ZjC x.Object ∧ OkS x.Key
def Zgn (x : Zab) : Prop := ZlK x.Object
theorem Zx7 : Sz ZdG Zh1 Zgn := by
  intro x left hok h0 h1
  unfold ZdG
  obtain ⟨k0, k1, k2⟩ := hok
  have m0 : x.Name.size ≤ 9223372036854775807 := k0
  rw [Zka (left := left) (n := (x.Name.size : Int)) (by omega) (by omega) (by omega) (by omega)]
  by_cases q0 : left - (x.Name.size : Int) < 0
  · have : decide (left - (x.Name.size : Int) < 0) = true := by simpa using q0
    rw [this]; exact ⟨-1, rfl, .inl rfl⟩
  have e0 : decide (left - (x.Name.size : Int) < 0) = false := by simpa using q0
  rw [e0]
  simp only [cond_false]
  obtain ⟨r1, e1, c1⟩ := ZAX x.Object (left - (x.Name.size : Int)) k1 (by omega) (by omega)
  first | rw [e1] | rw [show ZeU _ _ = some r1 from e1]
  simp only [Option.bind_some]
  rcases c1 with rfl | ⟨l1, g1, s1⟩
  · exact ⟨-1, rfl, .inl rfl⟩
  have d1 : decide (r1 < 0) = false := by simpa using l1
  rw [d1]
  simp only [cond_false]
  have m2 : x.Key.size ≤ 9223372036854775807 := k2
  rw [Zka (left := r1) (n := (x.Key.size : Int)) (by omega) (by omega) (by omega) (by omega)]
  by_cases q2 : r1 - (x.Key.size : Int) < 0
  · have : decide (r1 - (x.Key.size : Int) < 0) = true := by simpa using q2
    rw [this]; exact ⟨-1, rfl, .inl rfl⟩
  have e2 : decide (r1 - (x.Key.size : Int) < 0) = false := by simpa using q2
  rw [e2]
  simp only [cond_false]
  exact ⟨_, rfl, .inr ⟨by omega, by omega, s1⟩⟩
theorem Zz0 : Sz Zhu (OkL Zh1) (SmL Zgn) := by
  refine ZoO (f := ZdG) (B := ZgP) Zx7 (fun xs left => rfl) ?_ ?_
  · intro xs k x l r hx hr
    rw [ZgP, lt_t (ZV hx), Zac hx]
    simp only [cond_true, Option.bind_some]
    rw [show ZdG _ l = some r from hr]
    simp only [Option.bind_some]
    cases decide (r < 0) <;> rfl
  · intro xs l
    rw [ZgP, lt_f]; rfl
def Zjr (x : ZU) : Prop := (OkL Zh1) x.Items
def Zol (x : ZU) : Prop := (SmL Zgn) x.Items
theorem Zpx : Sz Zff Zjr Zol := by
  intro x left hok h0 h1
  unfold Zff
  have k0 := hok
  obtain ⟨r0, e0, c0⟩ := Zz0 x.Items left k0 (by omega) (by omega)
  first | rw [e0] | rw [show Zhu _ _ = some r0 from e0]
  simp only [Option.bind_some]
  rcases c0 with rfl | ⟨l0, g0, s0⟩
  · exact ⟨-1, rfl, .inl rfl⟩
  have d0 : decide (r0 < 0) = false := by simpa using l0
  rw [d0]
  simp only [cond_false]
  exact ⟨_, rfl, .inr ⟨by omega, by omega, s0⟩⟩
theorem ZzG {x : List Int} (h : (SmL (fun _ => True)) x) : ZeN x = some ((List.map (fun x => x)) x) := by
  unfold ZeN
  have hl := h.1
  rw [ZdN (by omega) (by omega)]
  refine (Zon (c := (fun x => x)) (g := fun xs => xs) (by unfold M63; omega) ?_ ?_)
  · intro k a xs x0 ha hx
    rw [ZfM, lt_t (ZV ha), Zac ha, Zac hx]
    rfl
  · intro xs
    rw [ZfM, lt_f]; rfl
theorem ZwX {x : List (List Int)} (h : (SmL (SmL (fun _ => True))) x) : ZeZ x = some ((List.map (List.map (fun x => x))) x) := by
  unfold ZeZ
  have hl := h.1
  rw [ZdN (by omega) (by omega)]
  refine (Zon (c := (List.map (fun x => x))) (g := fun xs => xs) (by unfold M63; omega) ?_ ?_)
  · intro k a xs x0 ha hx
    rw [ZhD, lt_t (ZV ha), Zac ha, Zac hx]
    simp only [cond_true, Option.bind_some]
    rw [show ZeN _ = _ from ZzG (h.2 a (List.mem_of_getElem? ha))]
    rfl
  · intro xs
    rw [ZhD, lt_f]; rfl
def ZpR (x : Zal) : Zi := Zi.mk x.Kind x.Size ((List.map (List.map (fun x => x))) x.Rows)
theorem Zyg {x : Zal} (h : ZlK x) : ZeM x = some (ZpR x) := by
  unfold ZeM
  have h2 := h
  rw [show ZeZ _ = _ from ZwX h2]
  simp only [Option.bind_some]
  rfl
def Zh4 (x : Zab) : Zc := Zc.mk x.Name (ZpR x.Object) x.Key
theorem Zvq {x : Zab} (h : Zgn x) : ZdO x = some (Zh4 x) := by
  unfold ZdO
  have h1 := h
  rw [show ZeM _ = _ from Zyg h1]
  simp only [Option.bind_some]
  rfl
theorem ZxC {x : List Zab} (h : (SmL Zgn) x) : Zfi x = some ((List.map Zh4) x) := by
  unfold Zfi
  have hl := h.1
  rw [ZdN (by omega) (by omega)]
  refine (Zon (c := Zh4) (g := fun xs => xs) (by unfold M63; omega) ?_ ?_)
  · intro k a xs x0 ha hx
    rw [ZhJ, lt_t (ZV ha), Zac ha, Zac hx]
    simp only [cond_true, Option.bind_some]
    rw [show ZdO _ = _ from Zvq (h.2 a (List.mem_of_getElem? ha))]
    rfl
  · intro xs
    rw [ZhJ, lt_f]; rfl
def ZdZ (x : ZU) : Zg := Zg.mk ((List.map Zh4) x.Items)
theorem Zqr {x : ZU} (h : Zol x) : ZaT x = some (ZdZ x) := by
  unfold ZaT
  have h0 := h
  rw [show Zfi _ = _ from ZxC h0]
  simp only [Option.bind_some]
  rfl
theorem Zsx {a b : List Int} (h : (OkL (fun _ => True)) a) : IsQ (Zel a b) (a = b) := by
  unfold Zel
  refine Zb8 (B := Zgv a b) h.1 (fun k x y hx hy => ?_) ?_
  · rw [Zgv, lt_t (ZV hx), Zac hx, Zac hy]
    simp only [cond_true, Option.bind_some]
    refine ZaS (c := x == y) (by simp) ?_
    rw [bne]; cases (x == y) <;> rfl
  · rw [Zgv, lt_f]; rfl
theorem ZA1 {a b : List (List Int)} (h : (OkL (OkL (fun _ => True))) a) : IsQ (Zhj a b) (a = b) := by
  unfold Zhj
  refine Zb8 (B := Zg0 a b) h.1 (fun k x y hx hy => ?_) ?_
  · rw [Zg0, lt_t (ZV hx), Zac hx, Zac hy]
    simp only [cond_true, Option.bind_some]
    obtain ⟨c, hc, hq⟩ := Zsx (a := x) (b := y) (h.2 x (List.mem_of_getElem? hx))
    rw [show Zel _ _ = _ from hc]
    simp only [Option.bind_some]
    refine ZaS hq ?_
    cases c <;> rfl
  · rw [Zg0, lt_f]; rfl
def Zr2 (x : Zi) : Prop := (OkL (OkL (fun _ => True))) x.Rows
theorem ZsJ {a b : Zi} (h : Zr2 a) : IsQ (ZhA a b) (a = b) := by
  unfold ZhA
  have h2 := h
  refine q_ne (fun e0 => ?_) (fun hn hq => hn (by rw [hq]))
  refine q_ne (fun e1 => ?_) (fun hn hq => hn (by rw [hq]))
  refine q_sub (ZA1 (a := a.Rows) (b := b.Rows) h2) (fun e2 => ?_) (fun hn hq => hn (by rw [hq]))
  refine IsQ.t ?_
  cases a; cases b; simp_all
def Znn (x : Zc) : Prop := Zr2 x.Object
theorem ZBf {a b : Zc} (h : Znn a) : IsQ (Zer a b) (a = b) := by
  unfold Zer
  have h1 := h
  refine Zo1 (fun e0 => ?_) (fun hn hq => hn (by rw [hq]))
  refine q_sub (ZsJ (a := a.Object) (b := b.Object) h1) (fun e1 => ?_) (fun hn hq => hn (by rw [hq]))
  refine Zo1 (fun e2 => ?_) (fun hn hq => hn (by rw [hq]))
  refine IsQ.t ?_
  cases a; cases b; simp_all
theorem ZzI {a b : List Zc} (h : (OkL Znn) a) : IsQ (Zgm a b) (a = b) := by
  unfold Zgm
  refine Zb8 (B := ZgK a b) h.1 (fun k x y hx hy => ?_) ?_
  · rw [ZgK, lt_t (ZV hx), Zac hx, Zac hy]
    simp only [cond_true, Option.bind_some]
    obtain ⟨c, hc, hq⟩ := ZBf (a := x) (b := y) (h.2 x (List.mem_of_getElem? hx))
    rw [show Zer _ _ = _ from hc]
    simp only [Option.bind_some]
    refine ZaS hq ?_
    cases c <;> rfl
  · rw [ZgK, lt_f]; rfl
def Zp2 (x : Zg) : Prop := (OkL Znn) x.Items
theorem ZlN {a b : Zg} (h : Zp2 a) : IsQ (ZbS a b) (a = b) := by
  unfold ZbS
  have h0 := h
  refine q_sub (ZzI (a := a.Items) (b := b.Items) h0) (fun e0 => ?_) (fun hn hq => hn (by rw [hq]))
  refine IsQ.t ?_
  cases a; cases b; simp_all
theorem ZyQ {a b : List ByteArray} (h : (OkL (fun _ => True)) a) : IsQ (ZcP a b) (a = b) := by
  unfold ZcP
  refine Zb8 (B := ZhS a b) h.1 (fun k x y hx hy => ?_) ?_
  · rw [ZhS, lt_t (ZV hx), Zac hx, Zac hy]
    simp only [cond_true, Option.bind_some]
    refine ZaS (c := x.toList == y.toList) (Za5 x y) ?_
    cases (x.toList == y.toList) <;> rfl
  · rw [ZhS, lt_f]; rfl
end Go.Proofs.YtapkemdomnkccaaGreat
