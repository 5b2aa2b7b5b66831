/- Sizes, copies and equality of the data of the statements: printed by pfam.py. -/
import Derived.Test.YtapkemdomnkccaaGreatPuFns
import Derived.Test.YtapkemdomnkccaaGreatPuLib
namespace Go.Proofs.YtapkemdomnkccaaGreat
open Go Go.Vc
set_option linter.unusedSimpArgs false
set_option linter.unusedVariables false
theorem Zww : Sz Zb7 (OkL I64) (SmL (fun _ => True)) := by
  intro xs left hok h0 h1
  have hM := hok.1
  unfold M63 at hM
  unfold Zb7
  rw [Zob h0 h1 (by omega) (by omega)]
  by_cases hlt : left - (xs.length : Int) < 0
  · have : decide (left - (xs.length : Int) < 0) = true := by simpa using hlt
    rw [this]; exact ⟨-1, rfl, .inl rfl⟩
  · have : decide (left - (xs.length : Int) < 0) = false := by simpa using hlt
    rw [this]; exact ⟨_, rfl, .inr ⟨by omega, by omega, by omega, fun _ _ => trivial⟩⟩
theorem ZpQ : Sz Zfv (OkL (OkL I64)) (SmL (SmL (fun _ => True))) := by
  refine Zve (f := Zb7) (B := Zge) Zww (fun xs left => rfl) ?_ ?_
  · intro xs k x l r hx hr
    rw [Zge, lt_t (ZV hx), Zak hx]
    simp only [cond_true, Option.bind_some]
    rw [show Zb7 _ l = some r from hr]
    simp only [Option.bind_some]
    cases decide (r < 0) <;> rfl
  · intro xs l
    rw [Zge, lt_f]; rfl
def ZlE (x : ZZ) : Prop := I64 x.Kind ∧ I64 x.Size ∧ (OkL (OkL I64)) x.Rows
def Zkc (x : ZZ) : Prop := (SmL (SmL (fun _ => True))) x.Rows
theorem Zro : Sz Zgf ZlE Zkc := by
  intro x left hok h0 h1
  unfold Zgf
  obtain ⟨k0, k1, k2⟩ := hok
  obtain ⟨r2, e2, c2⟩ := ZpQ x.Rows left k2 (by omega) (by omega)
  first | rw [e2] | rw [show Zfv _ _ = some r2 from e2]
  simp only [Option.bind_some]
  rcases c2 with rfl | ⟨l2, g2, s2⟩
  · exact ⟨-1, rfl, .inl rfl⟩
  have d2 : decide (r2 < 0) = false := by simpa using l2
  rw [d2]
  simp only [cond_false]
  exact ⟨_, rfl, .inr ⟨by omega, by omega, s2⟩⟩
theorem ZwB {x : List Int} (h : (SmL (fun _ => True)) x) : Zc2 x = some ((List.map (fun x => x)) x) := by
  unfold Zc2
  have hl := h.1
  rw [Zgh (by omega) (by omega)]
  refine (Znb (c := (fun x => x)) (g := fun xs => xs) (by unfold M63; omega) ?_ ?_)
  · intro k a xs x0 ha hx
    rw [Zf5, lt_t (ZV ha), Zak ha, Zak hx]
    rfl
  · intro xs
    rw [Zf5, lt_f]; rfl
theorem ZqP {x : List (List Int)} (h : (SmL (SmL (fun _ => True))) x) : Zdz x = some ((List.map (List.map (fun x => x))) x) := by
  unfold Zdz
  have hl := h.1
  rw [Zgh (by omega) (by omega)]
  refine (Znb (c := (List.map (fun x => x))) (g := fun xs => xs) (by unfold M63; omega) ?_ ?_)
  · intro k a xs x0 ha hx
    rw [ZfD, lt_t (ZV ha), Zak ha, Zak hx]
    simp only [cond_true, Option.bind_some]
    rw [show Zc2 _ = _ from ZwB (h.2 a (List.mem_of_getElem? ha))]
    rfl
  · intro xs
    rw [ZfD, lt_f]; rfl
def Ze3 (x : ZZ) : Zx := Zx.mk x.Kind x.Size ((List.map (List.map (fun x => x))) x.Rows)
theorem ZqZ {x : ZZ} (h : Zkc x) : ZbO x = some (Ze3 x) := by
  unfold ZbO
  have h2 := h
  rw [show Zdz _ = _ from ZqP h2]
  simp only [Option.bind_some]
  rfl
theorem ZmN {a b : List Int} (h : (OkL (fun _ => True)) a) : IsQ (Zb1 a b) (a = b) := by
  unfold Zb1
  refine ZcB (B := Zem a b) h.1 (fun k x y hx hy => ?_) ?_
  · rw [Zem, lt_t (ZV hx), Zak hx, Zak hy]
    simp only [cond_true, Option.bind_some]
    refine ZaE (c := x == y) (by simp) ?_
    rw [bne]; cases (x == y) <;> rfl
  · rw [Zem, lt_f]; rfl
def ZlD (x : Zg) : Prop := True
theorem ZoO {a b : Zg} (h : ZlD a) : IsQ (ZdA a b) (a = b) := by
  unfold ZdA
  refine q_ne (fun e0 => ?_) (fun hn hq => hn (by rw [hq]))
  refine q_ne (fun e1 => ?_) (fun hn hq => hn (by rw [hq]))
  refine IsQ.t ?_
  cases a; cases b; simp_all
theorem ZwG {a b : List Zg} (h : (OkL ZlD) a) : IsQ (ZfZ a b) (a = b) := by
  unfold ZfZ
  refine ZcB (B := ZeU a b) h.1 (fun k x y hx hy => ?_) ?_
  · rw [ZeU, lt_t (ZV hx), Zak hx, Zak hy]
    simp only [cond_true, Option.bind_some]
    obtain ⟨c, hc, hq⟩ := ZoO (a := x) (b := y) (h.2 x (List.mem_of_getElem? hx))
    rw [show ZdA _ _ = _ from hc]
    simp only [Option.bind_some]
    refine ZaE hq ?_
    cases c <;> rfl
  · rw [ZeU, lt_f]; rfl
def Zry (x : Zt) : Prop := (OkL (fun _ => True)) x.Colors ∧ (OkL ZlD) x.Edges
theorem ZoM {a b : Zt} (h : Zry a) : IsQ (Zcl a b) (a = b) := by
  unfold Zcl
  obtain ⟨h0, h1⟩ := h
  refine q_sub (ZmN (a := a.Colors) (b := b.Colors) h0) (fun e0 => ?_) (fun hn hq => hn (by rw [hq]))
  refine q_sub (ZwG (a := a.Edges) (b := b.Edges) h1) (fun e1 => ?_) (fun hn hq => hn (by rw [hq]))
  refine IsQ.t ?_
  cases a; cases b; simp_all
theorem Zrn {a b : List (List Int)} (h : (OkL (OkL (fun _ => True))) a) : IsQ (Zfp a b) (a = b) := by
  unfold Zfp
  refine ZcB (B := ZfW a b) h.1 (fun k x y hx hy => ?_) ?_
  · rw [ZfW, lt_t (ZV hx), Zak hx, Zak hy]
    simp only [cond_true, Option.bind_some]
    obtain ⟨c, hc, hq⟩ := ZmN (a := x) (b := y) (h.2 x (List.mem_of_getElem? hx))
    rw [show Zb1 _ _ = _ from hc]
    simp only [Option.bind_some]
    refine ZaE hq ?_
    cases c <;> rfl
  · rw [ZfW, lt_f]; rfl
def Zsm (x : Zx) : Prop := (OkL (OkL (fun _ => True))) x.Rows
theorem Zws {a b : Zx} (h : Zsm a) : IsQ (Zf0 a b) (a = b) := by
  unfold Zf0
  have h2 := h
  refine q_ne (fun e0 => ?_) (fun hn hq => hn (by rw [hq]))
  refine q_ne (fun e1 => ?_) (fun hn hq => hn (by rw [hq]))
  refine q_sub (Zrn (a := a.Rows) (b := b.Rows) h2) (fun e2 => ?_) (fun hn hq => hn (by rw [hq]))
  refine IsQ.t ?_
  cases a; cases b; simp_all
end Go.Proofs.YtapkemdomnkccaaGreat
