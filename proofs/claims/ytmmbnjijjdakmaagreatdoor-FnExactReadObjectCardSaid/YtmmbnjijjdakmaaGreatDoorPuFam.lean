import Derived.Test.YtmmbnjijjdakmaaGreatDoorPuFns
import Derived.Test.YtmmbnjijjdakmaaGreatDoorPuLib
namespace Go.Proofs.YtmmbnjijjdakmaaGreatDoor
open Go Go.Vc
set_option linter.unusedSimpArgs false
set_option linter.unusedVariables false
theorem Zwn {a b : List Int} (h : (OkL (fun _ => True)) a) : IsQ (Zel a b) (a = b) := by
  unfold Zel
  refine ZdH (B := Zg5 a b) h.1 (fun k x y hx hy => ?_) ?_
  · rw [Zg5, lt_t (Z2 hx), ZbY hx, ZbY hy]
    simp only [cond_true, Option.bind_some]
    refine Za4 (c := x == y) (by simp) ?_
    rw [bne]; cases (x == y) <;> rfl
  · rw [Zg5, lt_f]; rfl
theorem Zv8 {a b : List (List Int)} (h : (OkL (OkL (fun _ => True))) a) : IsQ (ZgW a b) (a = b) := by
  unfold ZgW
  refine ZdH (B := ZfG a b) h.1 (fun k x y hx hy => ?_) ?_
  · rw [ZfG, lt_t (Z2 hx), ZbY hx, ZbY hy]
    simp only [cond_true, Option.bind_some]
    obtain ⟨c, hc, hq⟩ := Zwn (a := x) (b := y) (h.2 x (List.mem_of_getElem? hx))
    rw [show Zel _ _ = _ from hc]
    simp only [Option.bind_some]
    refine Za4 hq ?_
    cases c <;> rfl
  · rw [ZfG, lt_f]; rfl
def ZyC (x : Zg) : Prop := (OkL (OkL (fun _ => True))) x.Rows
theorem ZvU {a b : Zg} (h : ZyC a) : IsQ (ZeI a b) (a = b) := by
  unfold ZeI
  have h2 := h
  refine q_ne (fun e0 => ?_) (fun hn hq => hn (by rw [hq]))
  refine q_ne (fun e1 => ?_) (fun hn hq => hn (by rw [hq]))
  refine q_sub (Zv8 (a := a.Rows) (b := b.Rows) h2) (fun e2 => ?_) (fun hn hq => hn (by rw [hq]))
  refine IsQ.t ?_
  cases a; cases b; simp_all
end Go.Proofs.YtmmbnjijjdakmaaGreatDoor
