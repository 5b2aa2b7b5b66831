import Derived.Test.YtocnokjekoglnaaGreatCeFns
import Derived.KernelRfl
namespace Go.Proofs.YtocnokjekoglnaaGreat
open Go Go.Vc
set_option linter.unusedSimpArgs false
set_option linter.unusedVariables false
set_option maxRecDepth 100000
noncomputable def bkA (F : Nat) (v : Int) (n : Nat) : Bool := match ZhM F v with
  | some r36 => eqi r36.2 0 && (match ZgN F r36.1 20000 with
    | some r41 => eqi r41.2 0 && (match Zfj F (Za.mk v []) 3 1 20000 with
      | some r48 => eqi r48.2 0 && (eqi r41.1 r48.1 && (match Zce F v 3 1 20000 with
        | some r68 => bif eqi r68.2 0 then lti 0 r41.1 && (Nat.beq (len r68.1.Blocks) n && (match Zdm F r68.1 with | some b => b | none => false)) else eqi r68.2 3 && (lei r41.1 0 && Nat.beq n 100)
        | none => false))
      | none => false)
    | none => false)
  | none => false
noncomputable def bkB (F : Nat) (v k : Int) : Bool := match Zce F v 3 1 20000 with
  | some r68 => (match Zg5 F [k] (v - 3) r68 with | some b => b | none => false)
  | none => false
theorem bkA3 : bkA 400 3 1 = true := by kernel_rfl
theorem bkA4 : bkA 400 4 100 = true := by kernel_rfl
theorem bkA5 : bkA 400 5 100 = true := by kernel_rfl
theorem bkA6 : bkA 400 6 100 = true := by kernel_rfl
noncomputable def bkN (v : Int) : Bool := match Zce 400 v 3 1 20000 with
  | some r68 => eqi r68.2 3
  | none => false
theorem bkN4 : bkN 4 = true := by kernel_rfl
theorem bkN5 : bkN 5 = true := by kernel_rfl
theorem bkN6 : bkN 6 = true := by kernel_rfl
theorem bkB30 : bkB 400 3 0 = true := by kernel_rfl
theorem bkB31 : bkB 400 3 1 = true := by kernel_rfl
end Go.Proofs.YtocnokjekoglnaaGreat
