import Derived.Test.YtocnokjekoglnaaGreatDoorPuFns
import Derived.Test.YtocnokjekoglnaaGreatDoorPuLib
namespace Go.Proofs.YtocnokjekoglnaaGreatDoor
open Go Go.Vc
set_option linter.unusedSimpArgs false
set_option linter.unusedVariables false
theorem Zsn : Sz ZcK (OkL I64) (SmL (fun _ => True)) := by
  intro xs left hok h0 h1
  have hM := hok.1
  unfold M63 at hM
  unfold ZcK
  rw [ZoA h0 h1 (by omega) (by omega)]
  by_cases hlt : left - (xs.length : Int) < 0
  · have : decide (left - (xs.length : Int) < 0) = true := by simpa using hlt
    rw [this]; exact ⟨-1, rfl, .inl rfl⟩
  · have : decide (left - (xs.length : Int) < 0) = false := by simpa using hlt
    rw [this]; exact ⟨_, rfl, .inr ⟨by omega, by omega, by omega, fun _ _ => trivial⟩⟩
theorem ZuV : Sz Zet (OkL (OkL I64)) (SmL (SmL (fun _ => True))) := by
  refine ZvB (f := ZcK) (B := ZeO) Zsn (fun xs left => rfl) ?_ ?_
  · intro xs k x l r hx hr
    rw [ZeO, lt_t (ZW hx), Zbx hx]
    simp only [cond_true, Option.bind_some]
    rw [show ZcK _ l = some r from hr]
    simp only [Option.bind_some]
    cases decide (r < 0) <;> rfl
  · intro xs l
    rw [ZeO, lt_f]; rfl
def ZlN (x : Z3) : Prop := I64 x.Kind ∧ I64 x.Size ∧ (OkL (OkL I64)) x.Rows
def Zjh (x : Z3) : Prop := (SmL (SmL (fun _ => True))) x.Rows
theorem ZwZ : Sz Zgd ZlN Zjh := by
  intro x left hok h0 h1
  unfold Zgd
  obtain ⟨k0, k1, k2⟩ := hok
  obtain ⟨r2, e2, c2⟩ := ZuV x.Rows left k2 (by omega) (by omega)
  first | rw [e2] | rw [show Zet _ _ = some r2 from e2]
  simp only [Option.bind_some]
  rcases c2 with rfl | ⟨l2, g2, s2⟩
  · exact ⟨-1, rfl, .inl rfl⟩
  have d2 : decide (r2 < 0) = false := by simpa using l2
  rw [d2]
  simp only [cond_false]
  exact ⟨_, rfl, .inr ⟨by omega, by omega, s2⟩⟩
def Zx5 (x : Zxi) : Prop := OkS x.Name ∧ ZlN x.Object ∧ OkS x.Key
def Zyh (x : Zxi) : Prop := Zjh x.Object
theorem Zys : Sz ZxF Zx5 Zyh := by
  intro x left hok h0 h1
  unfold ZxF
  obtain ⟨k0, k1, k2⟩ := hok
  have m0 : x.Name.size ≤ 9223372036854775807 := k0
  rw [ZoA (left := left) (n := (x.Name.size : Int)) (by omega) (by omega) (by omega) (by omega)]
  by_cases q0 : left - (x.Name.size : Int) < 0
  · have : decide (left - (x.Name.size : Int) < 0) = true := by simpa using q0
    rw [this]; exact ⟨-1, rfl, .inl rfl⟩
  have e0 : decide (left - (x.Name.size : Int) < 0) = false := by simpa using q0
  rw [e0]
  simp only [cond_false]
  obtain ⟨r1, e1, c1⟩ := ZwZ x.Object (left - (x.Name.size : Int)) k1 (by omega) (by omega)
  first | rw [e1] | rw [show Zgd _ _ = some r1 from e1]
  simp only [Option.bind_some]
  rcases c1 with rfl | ⟨l1, g1, s1⟩
  · exact ⟨-1, rfl, .inl rfl⟩
  have d1 : decide (r1 < 0) = false := by simpa using l1
  rw [d1]
  simp only [cond_false]
  have m2 : x.Key.size ≤ 9223372036854775807 := k2
  rw [ZoA (left := r1) (n := (x.Key.size : Int)) (by omega) (by omega) (by omega) (by omega)]
  by_cases q2 : r1 - (x.Key.size : Int) < 0
  · have : decide (r1 - (x.Key.size : Int) < 0) = true := by simpa using q2
    rw [this]; exact ⟨-1, rfl, .inl rfl⟩
  have e2 : decide (r1 - (x.Key.size : Int) < 0) = false := by simpa using q2
  rw [e2]
  simp only [cond_false]
  exact ⟨_, rfl, .inr ⟨by omega, by omega, s1⟩⟩
theorem ZAz : Sz ZzG (OkL Zx5) (SmL Zyh) := by
  refine ZvB (f := ZxF) (B := ZzB) Zys (fun xs left => rfl) ?_ ?_
  · intro xs k x l r hx hr
    rw [ZzB, lt_t (ZW hx), Zbx hx]
    simp only [cond_true, Option.bind_some]
    rw [show ZxF _ l = some r from hr]
    simp only [Option.bind_some]
    cases decide (r < 0) <;> rfl
  · intro xs l
    rw [ZzB, lt_f]; rfl
def Zz9 (x : Zzh) : Prop := (OkL Zx5) x.Items
def ZAg (x : Zzh) : Prop := (SmL Zyh) x.Items
theorem ZAx : Sz ZzJ Zz9 ZAg := by
  intro x left hok h0 h1
  unfold ZzJ
  have k0 := hok
  obtain ⟨r0, e0, c0⟩ := ZAz x.Items left k0 (by omega) (by omega)
  first | rw [e0] | rw [show ZzG _ _ = some r0 from e0]
  simp only [Option.bind_some]
  rcases c0 with rfl | ⟨l0, g0, s0⟩
  · exact ⟨-1, rfl, .inl rfl⟩
  have d0 : decide (r0 < 0) = false := by simpa using l0
  rw [d0]
  simp only [cond_false]
  exact ⟨_, rfl, .inr ⟨by omega, by omega, s0⟩⟩
theorem ZwL {x : List Int} (h : (SmL (fun _ => True)) x) : Zd8 x = some ((List.map (fun x => x)) x) := by
  unfold Zd8
  have hl := h.1
  rw [ZeQ (by omega) (by omega)]
  refine (ZoO (c := (fun x => x)) (g := fun xs => xs) (by unfold M63; omega) ?_ ?_)
  · intro k a xs x0 ha hx
    rw [Zfb, lt_t (ZW ha), Zbx ha, Zbx hx]
    rfl
  · intro xs
    rw [Zfb, lt_f]; rfl
theorem ZsR {x : List (List Int)} (h : (SmL (SmL (fun _ => True))) x) : Zeg x = some ((List.map (List.map (fun x => x))) x) := by
  unfold Zeg
  have hl := h.1
  rw [ZeQ (by omega) (by omega)]
  refine (ZoO (c := (List.map (fun x => x))) (g := fun xs => xs) (by unfold M63; omega) ?_ ?_)
  · intro k a xs x0 ha hx
    rw [ZfH, lt_t (ZW ha), Zbx ha, Zbx hx]
    simp only [cond_true, Option.bind_some]
    rw [show Zd8 _ = _ from ZwL (h.2 a (List.mem_of_getElem? ha))]
    rfl
  · intro xs
    rw [ZfH, lt_f]; rfl
def Zbr (x : Z3) : Zz := Zz.mk x.Kind x.Size ((List.map (List.map (fun x => x))) x.Rows)
theorem Zuk {x : Z3} (h : Zjh x) : Zcc x = some (Zbr x) := by
  unfold Zcc
  have h2 := h
  rw [show Zeg _ = _ from ZsR h2]
  simp only [Option.bind_some]
  rfl
def Zxn (x : Zxi) : Zxh := Zxh.mk x.Name (Zbr x.Object) x.Key
theorem Zy8 {x : Zxi} (h : Zyh x) : Zxu x = some (Zxn x) := by
  unfold Zxu
  have h1 := h
  rw [show Zcc _ = _ from Zuk h1]
  simp only [Option.bind_some]
  rfl
theorem ZA9 {x : List Zxi} (h : (SmL Zyh) x) : Zzt x = some ((List.map Zxn) x) := by
  unfold Zzt
  have hl := h.1
  rw [ZeQ (by omega) (by omega)]
  refine (ZoO (c := Zxn) (g := fun xs => xs) (by unfold M63; omega) ?_ ?_)
  · intro k a xs x0 ha hx
    rw [ZzH, lt_t (ZW ha), Zbx ha, Zbx hx]
    simp only [cond_true, Option.bind_some]
    rw [show Zxu _ = _ from Zy8 (h.2 a (List.mem_of_getElem? ha))]
    rfl
  · intro xs
    rw [ZzH, lt_f]; rfl
def Zzs (x : Zzh) : Zzg := Zzg.mk ((List.map Zxn) x.Items)
theorem ZAF {x : Zzh} (h : ZAg x) : Zzr x = some (Zzs x) := by
  unfold Zzr
  have h0 := h
  rw [show Zzt _ = _ from ZA9 h0]
  simp only [Option.bind_some]
  rfl
theorem ZvY {a b : List Int} (h : (OkL (fun _ => True)) a) : IsQ (Zdz a b) (a = b) := by
  unfold Zdz
  refine Zc8 (B := Zgp a b) h.1 (fun k x y hx hy => ?_) ?_
  · rw [Zgp, lt_t (ZW hx), Zbx hx, Zbx hy]
    simp only [cond_true, Option.bind_some]
    refine Zbd (c := x == y) (by simp) ?_
    rw [bne]; cases (x == y) <;> rfl
  · rw [Zgp, lt_f]; rfl
theorem Zo7 {a b : List (List Int)} (h : (OkL (OkL (fun _ => True))) a) : IsQ (ZfP a b) (a = b) := by
  unfold ZfP
  refine Zc8 (B := ZfC a b) h.1 (fun k x y hx hy => ?_) ?_
  · rw [ZfC, lt_t (ZW hx), Zbx hx, Zbx hy]
    simp only [cond_true, Option.bind_some]
    obtain ⟨c, hc, hq⟩ := ZvY (a := x) (b := y) (h.2 x (List.mem_of_getElem? hx))
    rw [show Zdz _ _ = _ from hc]
    simp only [Option.bind_some]
    refine Zbd hq ?_
    cases c <;> rfl
  · rw [ZfC, lt_f]; rfl
def Zv1 (x : Zz) : Prop := (OkL (OkL (fun _ => True))) x.Rows
theorem ZrP {a b : Zz} (h : Zv1 a) : IsQ (Zfk a b) (a = b) := by
  unfold Zfk
  have h2 := h
  refine q_ne (fun e0 => ?_) (fun hn hq => hn (by rw [hq]))
  refine q_ne (fun e1 => ?_) (fun hn hq => hn (by rw [hq]))
  refine q_sub (Zo7 (a := a.Rows) (b := b.Rows) h2) (fun e2 => ?_) (fun hn hq => hn (by rw [hq]))
  refine IsQ.t ?_
  cases a; cases b; simp_all
def Zy3 (x : Zxh) : Prop := Zv1 x.Object
theorem Zzd {a b : Zxh} (h : Zy3 a) : IsQ (ZxB a b) (a = b) := by
  unfold ZxB
  have h1 := h
  refine Zye (fun e0 => ?_) (fun hn hq => hn (by rw [hq]))
  refine q_sub (ZrP (a := a.Object) (b := b.Object) h1) (fun e1 => ?_) (fun hn hq => hn (by rw [hq]))
  refine Zye (fun e2 => ?_) (fun hn hq => hn (by rw [hq]))
  refine IsQ.t ?_
  cases a; cases b; simp_all
theorem ZAQ {a b : List Zxh} (h : (OkL Zy3) a) : IsQ (ZzF a b) (a = b) := by
  unfold ZzF
  refine Zc8 (B := ZzD a b) h.1 (fun k x y hx hy => ?_) ?_
  · rw [ZzD, lt_t (ZW hx), Zbx hx, Zbx hy]
    simp only [cond_true, Option.bind_some]
    obtain ⟨c, hc, hq⟩ := Zzd (a := x) (b := y) (h.2 x (List.mem_of_getElem? hx))
    rw [show ZxB _ _ = _ from hc]
    simp only [Option.bind_some]
    refine Zbd hq ?_
    cases c <;> rfl
  · rw [ZzD, lt_f]; rfl
def ZAk (x : Zzg) : Prop := (OkL Zy3) x.Items
theorem ZBr {a b : Zzg} (h : ZAk a) : IsQ (ZzL a b) (a = b) := by
  unfold ZzL
  have h0 := h
  refine q_sub (ZAQ (a := a.Items) (b := b.Items) h0) (fun e0 => ?_) (fun hn hq => hn (by rw [hq]))
  refine IsQ.t ?_
  cases a; cases b; simp_all
end Go.Proofs.YtocnokjekoglnaaGreatDoor
