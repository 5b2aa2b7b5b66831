/- Sizes, copies and equality of the data of the statements: printed by pfam.py. -/
import Derived.Test.YtapkemdomnkccaaGreatPuFns
import Derived.Test.YtapkemdomnkccaaGreatPuLib
namespace Go.Proofs.YtapkemdomnkccaaGreat
open Go Go.Vc
set_option linter.unusedSimpArgs false
set_option linter.unusedVariables false
theorem Zwz : Sz ZcD (OkL I64) (SmL (fun _ => True)) := by
  intro xs left hok h0 h1
  have hM := hok.1
  unfold M63 at hM
  unfold ZcD
  rw [Zhp h0 h1 (by omega) (by omega)]
  by_cases hlt : left - (xs.length : Int) < 0
  · have : decide (left - (xs.length : Int) < 0) = true := by simpa using hlt
    rw [this]; exact ⟨-1, rfl, .inl rfl⟩
  · have : decide (left - (xs.length : Int) < 0) = false := by simpa using hlt
    rw [this]; exact ⟨_, rfl, .inr ⟨by omega, by omega, by omega, fun _ _ => trivial⟩⟩
theorem Zq9 : Sz Ze5 (OkL (OkL I64)) (SmL (SmL (fun _ => True))) := by
  refine ZnK (f := ZcD) (B := ZfE) Zwz (fun xs left => rfl) ?_ ?_
  · intro xs k x l r hx hr
    rw [ZfE, lt_t (ZL hx), Zao hx]
    simp only [cond_true, Option.bind_some]
    rw [show ZcD _ l = some r from hr]
    simp only [Option.bind_some]
    cases decide (r < 0) <;> rfl
  · intro xs l
    rw [ZfE, lt_f]; rfl
def ZhZ (x : Zah) : Prop := I64 x.Kind ∧ I64 x.Size ∧ (OkL (OkL I64)) x.Rows
def ZlC (x : Zah) : Prop := (SmL (SmL (fun _ => True))) x.Rows
theorem Zq8 : Sz ZdY ZhZ ZlC := by
  intro x left hok h0 h1
  unfold ZdY
  obtain ⟨k0, k1, k2⟩ := hok
  obtain ⟨r2, e2, c2⟩ := Zq9 x.Rows left k2 (by omega) (by omega)
  first | rw [e2] | rw [show Ze5 _ _ = some r2 from e2]
  simp only [Option.bind_some]
  rcases c2 with rfl | ⟨l2, g2, s2⟩
  · exact ⟨-1, rfl, .inl rfl⟩
  have d2 : decide (r2 < 0) = false := by simpa using l2
  rw [d2]
  simp only [cond_false]
  exact ⟨_, rfl, .inr ⟨by omega, by omega, s2⟩⟩
def ZeI (x : Z4) : Prop := OkS x.Name ∧ ZhZ x.Object ∧ OkS x.Key
def Zfe (x : Z4) : Prop := ZlC x.Object
theorem ZuW : Sz Zcu ZeI Zfe := by
  intro x left hok h0 h1
  unfold Zcu
  obtain ⟨k0, k1, k2⟩ := hok
  have m0 : x.Name.size ≤ 9223372036854775807 := k0
  rw [Zhp (left := left) (n := (x.Name.size : Int)) (by omega) (by omega) (by omega) (by omega)]
  by_cases q0 : left - (x.Name.size : Int) < 0
  · have : decide (left - (x.Name.size : Int) < 0) = true := by simpa using q0
    rw [this]; exact ⟨-1, rfl, .inl rfl⟩
  have e0 : decide (left - (x.Name.size : Int) < 0) = false := by simpa using q0
  rw [e0]
  simp only [cond_false]
  obtain ⟨r1, e1, c1⟩ := Zq8 x.Object (left - (x.Name.size : Int)) k1 (by omega) (by omega)
  first | rw [e1] | rw [show ZdY _ _ = some r1 from e1]
  simp only [Option.bind_some]
  rcases c1 with rfl | ⟨l1, g1, s1⟩
  · exact ⟨-1, rfl, .inl rfl⟩
  have d1 : decide (r1 < 0) = false := by simpa using l1
  rw [d1]
  simp only [cond_false]
  have m2 : x.Key.size ≤ 9223372036854775807 := k2
  rw [Zhp (left := r1) (n := (x.Key.size : Int)) (by omega) (by omega) (by omega) (by omega)]
  by_cases q2 : r1 - (x.Key.size : Int) < 0
  · have : decide (r1 - (x.Key.size : Int) < 0) = true := by simpa using q2
    rw [this]; exact ⟨-1, rfl, .inl rfl⟩
  have e2 : decide (r1 - (x.Key.size : Int) < 0) = false := by simpa using q2
  rw [e2]
  simp only [cond_false]
  exact ⟨_, rfl, .inr ⟨by omega, by omega, s1⟩⟩
theorem Zp5 : Sz ZfV (OkL ZeI) (SmL Zfe) := by
  refine ZnK (f := Zcu) (B := Zf8) ZuW (fun xs left => rfl) ?_ ?_
  · intro xs k x l r hx hr
    rw [Zf8, lt_t (ZL hx), Zao hx]
    simp only [cond_true, Option.bind_some]
    rw [show Zcu _ l = some r from hr]
    simp only [Option.bind_some]
    cases decide (r < 0) <;> rfl
  · intro xs l
    rw [Zf8, lt_f]; rfl
def ZlO (x : Z3) : Prop := (OkL ZeI) x.Items
def Ziy (x : Z3) : Prop := (SmL Zfe) x.Items
theorem Zxg : Sz Ze4 ZlO Ziy := by
  intro x left hok h0 h1
  unfold Ze4
  have k0 := hok
  obtain ⟨r0, e0, c0⟩ := Zp5 x.Items left k0 (by omega) (by omega)
  first | rw [e0] | rw [show ZfV _ _ = some r0 from e0]
  simp only [Option.bind_some]
  rcases c0 with rfl | ⟨l0, g0, s0⟩
  · exact ⟨-1, rfl, .inl rfl⟩
  have d0 : decide (r0 < 0) = false := by simpa using l0
  rw [d0]
  simp only [cond_false]
  exact ⟨_, rfl, .inr ⟨by omega, by omega, s0⟩⟩
theorem ZvO {x : List Int} (h : (SmL (fun _ => True)) x) : ZdV x = some ((List.map (fun x => x)) x) := by
  unfold ZdV
  have hl := h.1
  rw [Zdj (by omega) (by omega)]
  refine (Zlk (c := (fun x => x)) (g := fun xs => xs) (by unfold M63; omega) ?_ ?_)
  · intro k a xs x0 ha hx
    rw [Zfo, lt_t (ZL ha), Zao ha, Zao hx]
    rfl
  · intro xs
    rw [Zfo, lt_f]; rfl
theorem Zrs {x : List (List Int)} (h : (SmL (SmL (fun _ => True))) x) : Zdz x = some ((List.map (List.map (fun x => x))) x) := by
  unfold Zdz
  have hl := h.1
  rw [Zdj (by omega) (by omega)]
  refine (Zlk (c := (List.map (fun x => x))) (g := fun xs => xs) (by unfold M63; omega) ?_ ?_)
  · intro k a xs x0 ha hx
    rw [Ze2, lt_t (ZL ha), Zao ha, Zao hx]
    simp only [cond_true, Option.bind_some]
    rw [show ZdV _ = _ from ZvO (h.2 a (List.mem_of_getElem? ha))]
    rfl
  · intro xs
    rw [Ze2, lt_f]; rfl
def Zoz (x : Zah) : Zv := Zv.mk x.Kind x.Size ((List.map (List.map (fun x => x))) x.Rows)
theorem Zsw {x : Zah} (h : ZlC x) : ZdA x = some (Zoz x) := by
  unfold ZdA
  have h2 := h
  rw [show Zdz _ = _ from Zrs h2]
  simp only [Option.bind_some]
  rfl
def ZfD (x : Z4) : Zj := Zj.mk x.Name (Zoz x.Object) x.Key
theorem Zsz {x : Z4} (h : Zfe x) : Zer x = some (ZfD x) := by
  unfold Zer
  have h1 := h
  rw [show ZdA _ = _ from Zsw h1]
  simp only [Option.bind_some]
  rfl
theorem Zui {x : List Z4} (h : (SmL Zfe) x) : Zeo x = some ((List.map ZfD) x) := by
  unfold Zeo
  have hl := h.1
  rw [Zdj (by omega) (by omega)]
  refine (Zlk (c := ZfD) (g := fun xs => xs) (by unfold M63; omega) ?_ ?_)
  · intro k a xs x0 ha hx
    rw [ZgD, lt_t (ZL ha), Zao ha, Zao hx]
    simp only [cond_true, Option.bind_some]
    rw [show Zer _ = _ from Zsz (h.2 a (List.mem_of_getElem? ha))]
    rfl
  · intro xs
    rw [ZgD, lt_f]; rfl
def Zf4 (x : Z3) : ZX := ZX.mk ((List.map ZfD) x.Items)
theorem Zq4 {x : Z3} (h : Ziy x) : Zcq x = some (Zf4 x) := by
  unfold Zcq
  have h0 := h
  rw [show Zeo _ = _ from Zui h0]
  simp only [Option.bind_some]
  rfl
theorem Zxb {a b : List Int} (h : (OkL (fun _ => True)) a) : IsQ (Zee a b) (a = b) := by
  unfold Zee
  refine ZcV (B := Zfh a b) h.1 (fun k x y hx hy => ?_) ?_
  · rw [Zfh, lt_t (ZL hx), Zao hx, Zao hy]
    simp only [cond_true, Option.bind_some]
    refine ZaO (c := x == y) (by simp) ?_
    rw [bne]; cases (x == y) <;> rfl
  · rw [Zfh, lt_f]; rfl
theorem Zvv {a b : List (List Int)} (h : (OkL (OkL (fun _ => True))) a) : IsQ (ZfH a b) (a = b) := by
  unfold ZfH
  refine ZcV (B := Zfa a b) h.1 (fun k x y hx hy => ?_) ?_
  · rw [Zfa, lt_t (ZL hx), Zao hx, Zao hy]
    simp only [cond_true, Option.bind_some]
    obtain ⟨c, hc, hq⟩ := Zxb (a := x) (b := y) (h.2 x (List.mem_of_getElem? hx))
    rw [show Zee _ _ = _ from hc]
    simp only [Option.bind_some]
    refine ZaO hq ?_
    cases c <;> rfl
  · rw [Zfa, lt_f]; rfl
def Zpz (x : Zv) : Prop := (OkL (OkL (fun _ => True))) x.Rows
theorem ZxV {a b : Zv} (h : Zpz a) : IsQ (Zf2 a b) (a = b) := by
  unfold Zf2
  have h2 := h
  refine q_ne (fun e0 => ?_) (fun hn hq => hn (by rw [hq]))
  refine q_ne (fun e1 => ?_) (fun hn hq => hn (by rw [hq]))
  refine q_sub (Zvv (a := a.Rows) (b := b.Rows) h2) (fun e2 => ?_) (fun hn hq => hn (by rw [hq]))
  refine IsQ.t ?_
  cases a; cases b; simp_all
def ZkT (x : Zj) : Prop := Zpz x.Object
theorem ZxE {a b : Zj} (h : ZkT a) : IsQ (Zew a b) (a = b) := by
  unfold Zew
  have h1 := h
  refine ZmM (fun e0 => ?_) (fun hn hq => hn (by rw [hq]))
  refine q_sub (ZxV (a := a.Object) (b := b.Object) h1) (fun e1 => ?_) (fun hn hq => hn (by rw [hq]))
  refine ZmM (fun e2 => ?_) (fun hn hq => hn (by rw [hq]))
  refine IsQ.t ?_
  cases a; cases b; simp_all
theorem Zxy {a b : List Zj} (h : (OkL ZkT) a) : IsQ (ZfF a b) (a = b) := by
  unfold ZfF
  refine ZcV (B := ZgP a b) h.1 (fun k x y hx hy => ?_) ?_
  · rw [ZgP, lt_t (ZL hx), Zao hx, Zao hy]
    simp only [cond_true, Option.bind_some]
    obtain ⟨c, hc, hq⟩ := ZxE (a := x) (b := y) (h.2 x (List.mem_of_getElem? hx))
    rw [show Zew _ _ = _ from hc]
    simp only [Option.bind_some]
    refine ZaO hq ?_
    cases c <;> rfl
  · rw [ZgP, lt_f]; rfl
def Znn (x : ZX) : Prop := (OkL ZkT) x.Items
theorem Zsr {a b : ZX} (h : Znn a) : IsQ (Zfw a b) (a = b) := by
  unfold Zfw
  have h0 := h
  refine q_sub (Zxy (a := a.Items) (b := b.Items) h0) (fun e0 => ?_) (fun hn hq => hn (by rw [hq]))
  refine IsQ.t ?_
  cases a; cases b; simp_all
end Go.Proofs.YtapkemdomnkccaaGreat
