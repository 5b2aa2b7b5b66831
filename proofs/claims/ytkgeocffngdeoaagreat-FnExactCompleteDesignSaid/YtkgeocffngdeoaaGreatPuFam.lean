/- Sizes, copies and equality of the data of the statements: printed by pfam.py. -/
import Derived.Test.YtkgeocffngdeoaaGreatPuFns
import Derived.Test.YtkgeocffngdeoaaGreatPuLib
namespace Go.Proofs.YtkgeocffngdeoaaGreat
open Go Go.Vc
set_option linter.unusedSimpArgs false
set_option linter.unusedVariables false
theorem sz_Int64S : Sz p_laws_szInt64S (OkL I64) (SmL (fun _ => True)) := by
  intro xs left hok h0 h1
  have hM := hok.1
  unfold M63 at hM
  unfold p_laws_szInt64S
  rw [sz_sub h0 h1 (by omega) (by omega)]
  by_cases hlt : left - (xs.length : Int) < 0
  · have : decide (left - (xs.length : Int) < 0) = true := by simpa using hlt
    rw [this]; exact ⟨-1, rfl, .inl rfl⟩
  · have : decide (left - (xs.length : Int) < 0) = false := by simpa using hlt
    rw [this]; exact ⟨_, rfl, .inr ⟨by omega, by omega, by omega, fun _ _ => trivial⟩⟩
theorem sz_Int64SS : Sz p_laws_szInt64SS (OkL (OkL I64)) (SmL (SmL (fun _ => True))) := by
  refine sz_slice (f := p_laws_szInt64S) (B := p_laws_szInt64SS_b1) sz_Int64S (fun xs left => rfl) ?_ ?_
  · intro xs k x l r hx hr
    rw [p_laws_szInt64SS_b1, lt_t (get_lt' hx), gIdx_of hx]
    simp only [cond_true, Option.bind_some]
    rw [show p_laws_szInt64S _ l = some r from hr]
    simp only [Option.bind_some]
    cases decide (r < 0) <;> rfl
  · intro xs l
    rw [p_laws_szInt64SS_b1, lt_f]; rfl
def Ok_T_laws_Design (x : T_laws_Design) : Prop := I64 x.Points ∧ (OkL (OkL I64)) x.Blocks
def Sm_T_laws_Design (x : T_laws_Design) : Prop := (SmL (SmL (fun _ => True))) x.Blocks
theorem sz_Design : Sz p_laws_szDesign Ok_T_laws_Design Sm_T_laws_Design := by
  intro x left hok h0 h1
  unfold p_laws_szDesign
  obtain ⟨k0, k1⟩ := hok
  obtain ⟨r1, e1, c1⟩ := sz_Int64SS x.Blocks left k1 (by omega) (by omega)
  first | rw [e1] | rw [show p_laws_szInt64SS _ _ = some r1 from e1]
  simp only [Option.bind_some]
  rcases c1 with rfl | ⟨l1, g1, s1⟩
  · exact ⟨-1, rfl, .inl rfl⟩
  have d1 : decide (r1 < 0) = false := by simpa using l1
  rw [d1]
  simp only [cond_false]
  exact ⟨_, rfl, .inr ⟨by omega, by omega, s1⟩⟩
theorem to_Int64S {x : List Int} (h : (SmL (fun _ => True)) x) : p_laws_toInt64S x = some ((List.map (fun x => x)) x) := by
  unfold p_laws_toInt64S
  have hl := h.1
  rw [gMake_of (by omega) (by omega)]
  refine (loop_fill (c := (fun x => x)) (g := fun xs => xs) (by unfold M63; omega) ?_ ?_)
  · intro k a xs x0 ha hx
    rw [p_laws_toInt64S_b1, lt_t (get_lt' ha), gIdx_of ha, gIdx_of hx]
    rfl
  · intro xs
    rw [p_laws_toInt64S_b1, lt_f]; rfl
theorem to_Int64SS {x : List (List Int)} (h : (SmL (SmL (fun _ => True))) x) : p_laws_toInt64SS x = some ((List.map (List.map (fun x => x))) x) := by
  unfold p_laws_toInt64SS
  have hl := h.1
  rw [gMake_of (by omega) (by omega)]
  refine (loop_fill (c := (List.map (fun x => x))) (g := fun xs => xs) (by unfold M63; omega) ?_ ?_)
  · intro k a xs x0 ha hx
    rw [p_laws_toInt64SS_b1, lt_t (get_lt' ha), gIdx_of ha, gIdx_of hx]
    simp only [cond_true, Option.bind_some]
    rw [show p_laws_toInt64S _ = _ from to_Int64S (h.2 a (List.mem_of_getElem? ha))]
    rfl
  · intro xs
    rw [p_laws_toInt64SS_b1, lt_f]; rfl
def cv_T_laws_Design (x : T_laws_Design) : T_impl_Design := T_impl_Design.mk x.Points ((List.map (List.map (fun x => x))) x.Blocks)
theorem to_Design {x : T_laws_Design} (h : Sm_T_laws_Design x) : p_laws_toDesign x = some (cv_T_laws_Design x) := by
  unfold p_laws_toDesign
  have h1 := h
  rw [show p_laws_toInt64SS _ = _ from to_Int64SS h1]
  simp only [Option.bind_some]
  rfl
theorem eq_Int64S {a b : List Int} (h : (OkL (fun _ => True)) a) : IsQ (p_laws_eqInt64S a b) (a = b) := by
  unfold p_laws_eqInt64S
  refine eq_slice (B := p_laws_eqInt64S_b1 a b) h.1 (fun k x y hx hy => ?_) ?_
  · rw [p_laws_eqInt64S_b1, lt_t (get_lt' hx), gIdx_of hx, gIdx_of hy]
    simp only [cond_true, Option.bind_some]
    refine step_of (c := x == y) (by simp) ?_
    rw [bne]; cases (x == y) <;> rfl
  · rw [p_laws_eqInt64S_b1, lt_f]; rfl
theorem eq_Int64SS {a b : List (List Int)} (h : (OkL (OkL (fun _ => True))) a) : IsQ (p_laws_eqInt64SS a b) (a = b) := by
  unfold p_laws_eqInt64SS
  refine eq_slice (B := p_laws_eqInt64SS_b1 a b) h.1 (fun k x y hx hy => ?_) ?_
  · rw [p_laws_eqInt64SS_b1, lt_t (get_lt' hx), gIdx_of hx, gIdx_of hy]
    simp only [cond_true, Option.bind_some]
    obtain ⟨c, hc, hq⟩ := eq_Int64S (a := x) (b := y) (h.2 x (List.mem_of_getElem? hx))
    rw [show p_laws_eqInt64S _ _ = _ from hc]
    simp only [Option.bind_some]
    refine step_of hq ?_
    cases c <;> rfl
  · rw [p_laws_eqInt64SS_b1, lt_f]; rfl
def Lm_T_impl_Design (x : T_impl_Design) : Prop := (OkL (OkL (fun _ => True))) x.Blocks
theorem eq_Design {a b : T_impl_Design} (h : Lm_T_impl_Design a) : IsQ (p_laws_eqDesign a b) (a = b) := by
  unfold p_laws_eqDesign
  have h1 := h
  refine q_ne (fun e0 => ?_) (fun hn hq => hn (by rw [hq]))
  refine q_sub (eq_Int64SS (a := a.Blocks) (b := b.Blocks) h1) (fun e1 => ?_) (fun hn hq => hn (by rw [hq]))
  refine IsQ.t ?_
  cases a; cases b; simp_all
end Go.Proofs.YtkgeocffngdeoaaGreat
