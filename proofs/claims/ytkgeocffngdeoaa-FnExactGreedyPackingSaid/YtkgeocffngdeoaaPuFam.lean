/- Sizes, copies and equality of the data of the statements: printed by pfam.py. -/
import Derived.Test.YtkgeocffngdeoaaPuFns
import Derived.Test.YtkgeocffngdeoaaPuLib
namespace Go.Proofs.Ytkgeocffngdeoaa
open Go Go.Vc
set_option linter.unusedSimpArgs false
set_option linter.unusedVariables false
theorem eq_Int64S {a b : List Int} (h : (OkL (fun _ => True)) a) : IsQ (p_laws_eqInt64S a b) (a = b) := by
  unfold p_laws_eqInt64S
  refine eq_slice (B := p_laws_eqInt64S_b1 a b) h.1 (fun k x y hx hy => ?_) ?_
  · rw [p_laws_eqInt64S_b1, lt_t (get_lt' hx), gIdx_of hx, gIdx_of hy]
    simp only [cond_true, Option.bind_some]
    refine step_of (c := x == y) (by simp) ?_
    rw [bne]; cases (x == y) <;> rfl
  · rw [p_laws_eqInt64S_b1, lt_f]; rfl
theorem eq_Int64SS {a b : List (List Int)} (h : (OkL (OkL (fun _ => True))) a) : IsQ (p_laws_eqInt64SS a b) (a = b) := by
  unfold p_laws_eqInt64SS
  refine eq_slice (B := p_laws_eqInt64SS_b1 a b) h.1 (fun k x y hx hy => ?_) ?_
  · rw [p_laws_eqInt64SS_b1, lt_t (get_lt' hx), gIdx_of hx, gIdx_of hy]
    simp only [cond_true, Option.bind_some]
    obtain ⟨c, hc, hq⟩ := eq_Int64S (a := x) (b := y) (h.2 x (List.mem_of_getElem? hx))
    rw [show p_laws_eqInt64S _ _ = _ from hc]
    simp only [Option.bind_some]
    refine step_of hq ?_
    cases c <;> rfl
  · rw [p_laws_eqInt64SS_b1, lt_f]; rfl
def Lm_T_impl_Design (x : T_impl_Design) : Prop := (OkL (OkL (fun _ => True))) x.Blocks
theorem eq_Design {a b : T_impl_Design} (h : Lm_T_impl_Design a) : IsQ (p_laws_eqDesign a b) (a = b) := by
  unfold p_laws_eqDesign
  have h1 := h
  refine q_ne (fun e0 => ?_) (fun hn hq => hn (by rw [hq]))
  refine q_sub (eq_Int64SS (a := a.Blocks) (b := b.Blocks) h1) (fun e1 => ?_) (fun hn hq => hn (by rw [hq]))
  refine IsQ.t ?_
  cases a; cases b; simp_all
end Go.Proofs.Ytkgeocffngdeoaa
