import Derived.Test.YtmmbnjijjdakmaaGreatDoorPuFns
import Derived.Test.YtmmbnjijjdakmaaGreatDoorPuLib
namespace Go.Proofs.YtmmbnjijjdakmaaGreatDoor
open Go Go.Vc
set_option linter.unusedSimpArgs false
set_option linter.unusedVariables false
theorem Zy1 {a b:List Int} (h:(OkL (fun _=>True)) a):IsQ (Zd9 a b) (a=b):=by
 unfold Zd9
 refine ZfM (B:=Zhf a b) h.1 (fun k x y hx hy=>?_) ?_
 ·rw [Zhf,lt_t (Z5 hx),Zir hx,Zir hy]
  simp only [cond_true,Option.bind_some]
  refine Zb0 (c:=x==y) (by simp) ?_
  rw [bne];cases (x==y)<;>rfl
 ·rw [Zhf,lt_f];rfl
end Go.Proofs.YtmmbnjijjdakmaaGreatDoor
