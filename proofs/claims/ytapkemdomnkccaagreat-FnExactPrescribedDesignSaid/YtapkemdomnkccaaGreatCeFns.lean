/- Printed by cgen.py: twins that the kernel computes. -/
import Derived.Test.YtapkemdomnkccaaGreatPuEv
import Derived.Test.YtapkemdomnkccaaGreatPuFns
namespace Go.Proofs.YtapkemdomnkccaaGreat
open Go Go.Vc
set_option linter.unusedVariables false
set_option linter.unusedSimpArgs false
set_option maxRecDepth 20000
noncomputable def ZdZ (F : Nat) (n0 : Int) (low1 : Int) (high2 : Int) : Option Bool :=
  bif lei (low1) (n0) then
    some (lei (n0) (high2))
  else
    some (false)
theorem Zi9 {F : Nat} (n0 : Int) (low1 : Int) (high2 : Int)  : Le (ZdZ F n0 low1 high2) (ZY n0 low1 high2) := by
  unfold ZdZ ZY
  try simp only [← cw_ok, ← Zp, ← Zq, ← Zl, ← Zm, ← Zk, ← Zn, GT.gt, GE.ge]
  repeat' (with_reducible first | exact Le.rfl | assumption | exact Zo _ _ _ | exact Zu _ _ _ _ | (refine le_if ?_ ?_) | (refine Zs ?_ fun _ => ?_) | (refine Zv ?_) | (refine Zr fun _ => ?_))
noncomputable def ZG8 (F : Nat) (n0 : Int) (k1 : Int) : Int × Int → Option ((Int × Int) ⊕ (Int))
  | (out5, i6) =>
    bif lei (i6) (k1) then
      fbind (cNz i6) fun _ =>
      some (.inl (cw (Int.tdiv (cw (out5 * (cw ((cw (n0 - k1)) + i6)))) i6), cw (i6 + 1)))
    else
      some (.inr (out5))
theorem ZH6 {F : Nat} (n0 : Int) (k1 : Int)  (s_ : _) : Le (ZG8 F n0 k1 s_) (ZFZ n0 k1 s_) := by
  obtain ⟨out5, i6⟩ := s_
  unfold ZG8 ZFZ
  try simp only [← cw_ok, ← Zp, ← Zq, ← Zl, ← Zm, ← Zk, ← Zn, GT.gt, GE.ge]
  repeat' (with_reducible first | exact Le.rfl | assumption | exact Zo _ _ _ | exact Zu _ _ _ _ | (refine le_if ?_ ?_) | (refine Zs ?_ fun _ => ?_) | (refine Zv ?_) | (refine Zr fun _ => ?_))
noncomputable def ZGw (F : Nat) (n0 : Int) (k1 : Int) : Option (Int) :=
  lpF F (ZG8 F n0 k1) (1, 1)
theorem ZIE {F : Nat} (n0 : Int) (k1 : Int)  : Le (ZGw F n0 k1) (ZE8 n0 k1) := by
  unfold ZGw ZE8
  try simp only [← cw_ok, ← Zp, ← Zq, ← Zl, ← Zm, ← Zk, ← Zn, GT.gt, GE.ge]
  repeat' (with_reducible first | exact Le.rfl | assumption | exact ZH6 _ _ _ | exact Zo _ _ _ | exact Zu _ _ _ _ | (refine le_if ?_ ?_) | (refine Zs ?_ fun _ => ?_) | (refine Zv ?_) | (refine Zr fun _ => ?_))
noncomputable def ZGl (F : Nat) (n0 : Int) (k1 : Int) : Option Int :=
  fbind (ZdZ F n0 0 32) fun r8 =>
  bif !r8 then
    some (0)
  else
    fbind (ZdZ F k1 0 n0) fun r13 =>
    bif !r13 then
      some (0)
    else
      ZGw F n0 k1
theorem ZKb {F : Nat} (n0 : Int) (k1 : Int)  : Le (ZGl F n0 k1) (ZDq n0 k1) := by
  unfold ZGl ZDq
  try simp only [← cw_ok, ← Zp, ← Zq, ← Zl, ← Zm, ← Zk, ← Zn, GT.gt, GE.ge]
  repeat' (with_reducible first | exact Le.rfl | assumption | exact Zi9 _ _ _ | exact ZIE _ _ | exact Zo _ _ _ | exact Zu _ _ _ _ | (refine le_if ?_ ?_) | (refine Zs ?_ fun _ => ?_) | (refine Zv ?_) | (refine Zr fun _ => ?_))
noncomputable def ZhI (F : Nat) (n0 : Int) (low1 : Int) (high2 : Int) : Option Bool :=
  bif lei (low1) (n0) then
    some (lei (n0) (high2))
  else
    some (false)
theorem Zou {F : Nat} (n0 : Int) (low1 : Int) (high2 : Int)  : Le (ZhI F n0 low1 high2) (Z0 n0 low1 high2) := by
  unfold ZhI Z0
  try simp only [← cw_ok, ← Zp, ← Zq, ← Zl, ← Zm, ← Zk, ← Zn, GT.gt, GE.ge]
  repeat' (with_reducible first | exact Le.rfl | assumption | exact Zo _ _ _ | exact Zu _ _ _ _ | (refine le_if ?_ ?_) | (refine Zs ?_ fun _ => ?_) | (refine Zv ?_) | (refine Zr fun _ => ?_))
noncomputable def ZGW (F : Nat) (n0 : Int) (k1 : Int) : Int × Int → Option ((Int × Int) ⊕ (Int))
  | (count5, i6) =>
    bif lei (i6) (k1) then
      fbind (cNz i6) fun _ =>
      some (.inl (cw (Int.tdiv (cw (count5 * (cw ((cw (n0 - k1)) + i6)))) i6), cw (i6 + 1)))
    else
      some (.inr (count5))
theorem ZIU {F : Nat} (n0 : Int) (k1 : Int)  (s_ : _) : Le (ZGW F n0 k1 s_) (ZFL n0 k1 s_) := by
  obtain ⟨count5, i6⟩ := s_
  unfold ZGW ZFL
  try simp only [← cw_ok, ← Zp, ← Zq, ← Zl, ← Zm, ← Zk, ← Zn, GT.gt, GE.ge]
  repeat' (with_reducible first | exact Le.rfl | assumption | exact Zo _ _ _ | exact Zu _ _ _ _ | (refine le_if ?_ ?_) | (refine Zs ?_ fun _ => ?_) | (refine Zv ?_) | (refine Zr fun _ => ?_))
noncomputable def ZGi (F : Nat) (n0 : Int) (k1 : Int) : Option (Int) :=
  lpF F (ZGW F n0 k1) (1, 1)
theorem ZKS {F : Nat} (n0 : Int) (k1 : Int)  : Le (ZGi F n0 k1) (ZFp n0 k1) := by
  unfold ZGi ZFp
  try simp only [← cw_ok, ← Zp, ← Zq, ← Zl, ← Zm, ← Zk, ← Zn, GT.gt, GE.ge]
  repeat' (with_reducible first | exact Le.rfl | assumption | exact ZIU _ _ _ | exact Zo _ _ _ | exact Zu _ _ _ _ | (refine le_if ?_ ?_) | (refine Zs ?_ fun _ => ?_) | (refine Zv ?_) | (refine Zr fun _ => ?_))
noncomputable def ZF9 (F : Nat) (n0 : Int) (k1 : Int) : Option Int :=
  fbind (ZhI F n0 0 32) fun r8 =>
  bif !r8 then
    some (0)
  else
    fbind (ZhI F k1 0 n0) fun r13 =>
    bif !r13 then
      some (0)
    else
      ZGi F n0 k1
theorem ZKr {F : Nat} (n0 : Int) (k1 : Int)  : Le (ZF9 F n0 k1) (ZDu n0 k1) := by
  unfold ZF9 ZDu
  try simp only [← cw_ok, ← Zp, ← Zq, ← Zl, ← Zm, ← Zk, ← Zn, GT.gt, GE.ge]
  repeat' (with_reducible first | exact Le.rfl | assumption | exact Zou _ _ _ | exact ZKS _ _ | exact Zo _ _ _ | exact Zu _ _ _ _ | (refine le_if ?_ ?_) | (refine Zs ?_ fun _ => ?_) | (refine Zv ?_) | (refine Zr fun _ => ?_))
end Go.Proofs.YtapkemdomnkccaaGreat
