/- Sizes, copies and equality of the data of the statements: printed by pfam.py. -/
import Derived.Test.YtapkemdomnkccaaGreatPuFns
import Derived.Test.YtapkemdomnkccaaGreatPuLib
namespace Go.Proofs.YtapkemdomnkccaaGreat
open Go Go.Vc
set_option linter.unusedSimpArgs false
set_option linter.unusedVariables false
theorem Zww : Sz Zb7 (OkL I64) (SmL (fun _ => True)) := by
  intro xs left hok h0 h1
  have hM := hok.1
  unfold M63 at hM
  unfold Zb7
  rw [Zob h0 h1 (by omega) (by omega)]
  by_cases hlt : left - (xs.length : Int) < 0
  · have : decide (left - (xs.length : Int) < 0) = true := by simpa using hlt
    rw [this]; exact ⟨-1, rfl, .inl rfl⟩
  · have : decide (left - (xs.length : Int) < 0) = false := by simpa using hlt
    rw [this]; exact ⟨_, rfl, .inr ⟨by omega, by omega, by omega, fun _ _ => trivial⟩⟩
theorem ZpQ : Sz Zfv (OkL (OkL I64)) (SmL (SmL (fun _ => True))) := by
  refine Zve (f := Zb7) (B := Zge) Zww (fun xs left => rfl) ?_ ?_
  · intro xs k x l r hx hr
    rw [Zge, lt_t (ZV hx), Zak hx]
    simp only [cond_true, Option.bind_some]
    rw [show Zb7 _ l = some r from hr]
    simp only [Option.bind_some]
    cases decide (r < 0) <;> rfl
  · intro xs l
    rw [Zge, lt_f]; rfl
def ZGm (x : ZDj) : Prop := I64 x.Degree ∧ (OkL (OkL I64)) x.Elements
def ZGC (x : ZDj) : Prop := (SmL (SmL (fun _ => True))) x.Elements
theorem ZIn : Sz ZEN ZGm ZGC := by
  intro x left hok h0 h1
  unfold ZEN
  obtain ⟨k0, k1⟩ := hok
  obtain ⟨r1, e1, c1⟩ := ZpQ x.Elements left k1 (by omega) (by omega)
  first | rw [e1] | rw [show Zfv _ _ = some r1 from e1]
  simp only [Option.bind_some]
  rcases c1 with rfl | ⟨l1, g1, s1⟩
  · exact ⟨-1, rfl, .inl rfl⟩
  have d1 : decide (r1 < 0) = false := by simpa using l1
  rw [d1]
  simp only [cond_false]
  exact ⟨_, rfl, .inr ⟨by omega, by omega, s1⟩⟩
theorem ZwB {x : List Int} (h : (SmL (fun _ => True)) x) : Zc2 x = some ((List.map (fun x => x)) x) := by
  unfold Zc2
  have hl := h.1
  rw [Zgh (by omega) (by omega)]
  refine (Znb (c := (fun x => x)) (g := fun xs => xs) (by unfold M63; omega) ?_ ?_)
  · intro k a xs x0 ha hx
    rw [Zf5, lt_t (ZV ha), Zak ha, Zak hx]
    rfl
  · intro xs
    rw [Zf5, lt_f]; rfl
theorem ZqP {x : List (List Int)} (h : (SmL (SmL (fun _ => True))) x) : Zdz x = some ((List.map (List.map (fun x => x))) x) := by
  unfold Zdz
  have hl := h.1
  rw [Zgh (by omega) (by omega)]
  refine (Znb (c := (List.map (fun x => x))) (g := fun xs => xs) (by unfold M63; omega) ?_ ?_)
  · intro k a xs x0 ha hx
    rw [ZfD, lt_t (ZV ha), Zak ha, Zak hx]
    simp only [cond_true, Option.bind_some]
    rw [show Zc2 _ = _ from ZwB (h.2 a (List.mem_of_getElem? ha))]
    rfl
  · intro xs
    rw [ZfD, lt_f]; rfl
def ZFg (x : ZDj) : ZaB := ZaB.mk x.Degree ((List.map (List.map (fun x => x))) x.Elements)
theorem ZKf {x : ZDj} (h : ZGC x) : ZDL x = some (ZFg x) := by
  unfold ZDL
  have h1 := h
  rw [show Zdz _ = _ from ZqP h1]
  simp only [Option.bind_some]
  rfl
theorem ZmN {a b : List Int} (h : (OkL (fun _ => True)) a) : IsQ (Zb1 a b) (a = b) := by
  unfold Zb1
  refine ZcB (B := Zem a b) h.1 (fun k x y hx hy => ?_) ?_
  · rw [Zem, lt_t (ZV hx), Zak hx, Zak hy]
    simp only [cond_true, Option.bind_some]
    refine ZaE (c := x == y) (by simp) ?_
    rw [bne]; cases (x == y) <;> rfl
  · rw [Zem, lt_f]; rfl
theorem Zrn {a b : List (List Int)} (h : (OkL (OkL (fun _ => True))) a) : IsQ (Zfp a b) (a = b) := by
  unfold Zfp
  refine ZcB (B := ZfW a b) h.1 (fun k x y hx hy => ?_) ?_
  · rw [ZfW, lt_t (ZV hx), Zak hx, Zak hy]
    simp only [cond_true, Option.bind_some]
    obtain ⟨c, hc, hq⟩ := ZmN (a := x) (b := y) (h.2 x (List.mem_of_getElem? hx))
    rw [show Zb1 _ _ = _ from hc]
    simp only [Option.bind_some]
    refine ZaE hq ?_
    cases c <;> rfl
  · rw [ZfW, lt_f]; rfl
def ZKg (x : ZaT) : Prop := (OkL (OkL (fun _ => True))) x.Blocks
theorem ZH7 {a b : ZaT} (h : ZKg a) : IsQ (ZD4 a b) (a = b) := by
  unfold ZD4
  have h1 := h
  refine q_ne (fun e0 => ?_) (fun hn hq => hn (by rw [hq]))
  refine q_sub (Zrn (a := a.Blocks) (b := b.Blocks) h1) (fun e1 => ?_) (fun hn hq => hn (by rw [hq]))
  refine IsQ.t ?_
  cases a; cases b; simp_all
def ZJF (x : ZaB) : Prop := (OkL (OkL (fun _ => True))) x.Elements
theorem ZKD {a b : ZaB} (h : ZJF a) : IsQ (ZE7 a b) (a = b) := by
  unfold ZE7
  have h1 := h
  refine q_ne (fun e0 => ?_) (fun hn hq => hn (by rw [hq]))
  refine q_sub (Zrn (a := a.Elements) (b := b.Elements) h1) (fun e1 => ?_) (fun hn hq => hn (by rw [hq]))
  refine IsQ.t ?_
  cases a; cases b; simp_all
end Go.Proofs.YtapkemdomnkccaaGreat
