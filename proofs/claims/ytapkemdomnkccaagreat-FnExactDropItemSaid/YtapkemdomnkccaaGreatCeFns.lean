/- Printed by cgen.py: twins that the kernel computes. -/
import Derived.Test.YtapkemdomnkccaaGreatPuEv
import Derived.Test.YtapkemdomnkccaaGreatPuFns
namespace Go.Proofs.YtapkemdomnkccaaGreat
open Go Go.Vc
set_option linter.unusedVariables false
set_option linter.unusedSimpArgs false
set_option maxRecDepth 20000
noncomputable instance : Frc Zc where
  frc p k := Zc.rec (fun x0 x1 x2 => Frc.frc x0 fun x0 => Frc.frc x1 fun x1 => Frc.frc x2 fun x2 => k (.mk x0 x1 x2)) p
  ok p k := by cases p; show Frc.frc _ _ = _; simp only [Frc.ok]
noncomputable def ZdZ (F : Nat) (n0 : Int) (low1 : Int) (high2 : Int) : Option Bool :=
  bif lei (low1) (n0) then
    some (lei (n0) (high2))
  else
    some (false)
theorem Zi9 {F : Nat} (n0 : Int) (low1 : Int) (high2 : Int)  : Le (ZdZ F n0 low1 high2) (ZY n0 low1 high2) := by
  unfold ZdZ ZY
  try simp only [← cw_ok, ← Zp, ← Zq, ← Zl, ← Zm, ← Zk, ← Zn, GT.gt, GE.ge]
  repeat' (with_reducible first | exact Le.rfl | assumption | exact Zo _ _ _ | exact Zu _ _ _ _ | (refine le_if ?_ ?_) | (refine Zs ?_ fun _ => ?_) | (refine Zv ?_) | (refine Zr fun _ => ?_))
noncomputable def Zi5 (F : Nat) (list0 : List Int) : Option (List Int) :=
  fbind (cApp 8 ([] : List Int) list0) fun l5 =>
  some (l5)
theorem ZpM {F : Nat} (list0 : List Int)  : Le (Zi5 F list0) (ZaO list0) := by
  unfold Zi5 ZaO
  try simp only [← cw_ok, ← Zp, ← Zq, ← Zl, ← Zm, ← Zk, ← Zn, GT.gt, GE.ge]
  repeat' (with_reducible first | exact Le.rfl | assumption | exact Zo _ _ _ | exact Zu _ _ _ _ | (refine le_if ?_ ?_) | (refine Zs ?_ fun _ => ?_) | (refine Zv ?_) | (refine Zr fun _ => ?_))
noncomputable def Zkl (F : Nat) (p4 : Int) : Int × Int → Option ((Int × Int) ⊕ ((Int) ⊕ (Int × Int)))
  | (k5, n6) =>
    bif lti (1) (n6) then
      fbind (cNz p4) fun _ =>
      bif !eqi (Int.tmod n6 p4) (0) then
        some (.inr (.inr ((0, 0))))
      else
        fbind (cNz p4) fun _ =>
        some (.inl (cw (k5 + 1), cw (Int.tdiv n6 p4)))
    else
      some (.inr (.inr ((p4, k5))))
theorem ZtF {F : Nat} (p4 : Int)  (s_ : _) : Le (Zkl F p4 s_) (ZhB p4 s_) := by
  obtain ⟨k5, n6⟩ := s_
  unfold Zkl ZhB
  try simp only [← cw_ok, ← Zp, ← Zq, ← Zl, ← Zm, ← Zk, ← Zn, GT.gt, GE.ge]
  repeat' (with_reducible first | exact Le.rfl | assumption | exact Zo _ _ _ | exact Zu _ _ _ _ | (refine le_if ?_ ?_) | (refine Zs ?_ fun _ => ?_) | (refine Zv ?_) | (refine Zr fun _ => ?_))
noncomputable def Zk9 (F : Nat) (q0 : Int) : Int → Option ((Int) ⊕ (Int × Int))
  | p4 =>
    fbind (cNz p4) fun _ =>
    bif !eqi (Int.tmod q0 p4) (0) then
      some (.inl (cw (p4 + 1)))
    else
      lpF F (Zkl F p4) (0, q0)
theorem ZvK {F : Nat} (q0 : Int)  (s_ : _) : Le (Zk9 F q0 s_) (ZgT q0 s_) := by
  unfold Zk9 ZgT
  try simp only [← cw_ok, ← Zp, ← Zq, ← Zl, ← Zm, ← Zk, ← Zn, GT.gt, GE.ge]
  repeat' (with_reducible first | exact Le.rfl | assumption | exact ZtF _ _ | exact Zo _ _ _ | exact Zu _ _ _ _ | (refine le_if ?_ ?_) | (refine Zs ?_ fun _ => ?_) | (refine Zv ?_) | (refine Zr fun _ => ?_))
noncomputable def Zhs (F : Nat) (q0 : Int) : Option (Int × Int) :=
  fbind (ZdZ F q0 2 64) fun r8 =>
  bif !r8 then
    some ((0, 0))
  else
    lpF F (Zk9 F q0) (2)
theorem Zi {F : Nat} (q0 : Int)  : Le (Zhs F q0) (Za4 q0) := by
  unfold Zhs Za4
  try simp only [← cw_ok, ← Zp, ← Zq, ← Zl, ← Zm, ← Zk, ← Zn, GT.gt, GE.ge]
  repeat' (with_reducible first | exact Le.rfl | assumption | exact Zi9 _ _ _ | exact ZvK _ _ | exact Zo _ _ _ | exact Zu _ _ _ _ | (refine le_if ?_ ?_) | (refine Zs ?_ fun _ => ?_) | (refine Zv ?_) | (refine Zr fun _ => ?_))
noncomputable def ZkX (F : Nat) (p1 : Int) : Int × Int × List Int → Option ((Int × Int × List Int) ⊕ (List Int))
  | (a0_2, n2_2, out7) =>
    bif lti (0) (n2_2) then
      fbind (cNz p1) fun _ =>
      fbind (cApp 8 out7 [Int.tmod a0_2 p1]) fun l18 =>
      fbind (cNz p1) fun _ =>
      some (.inl (cw (Int.tdiv a0_2 p1), cw (n2_2 - 1), l18))
    else
      some (.inr (out7))
theorem Zpn {F : Nat} (p1 : Int)  (s_ : _) : Le (ZkX F p1 s_) (ZbP p1 s_) := by
  obtain ⟨a0_2, n2_2, out7⟩ := s_
  unfold ZkX ZbP
  try simp only [← cw_ok, ← Zp, ← Zq, ← Zl, ← Zm, ← Zk, ← Zn, GT.gt, GE.ge]
  repeat' (with_reducible first | exact Le.rfl | assumption | exact Zo _ _ _ | exact Zu _ _ _ _ | (refine le_if ?_ ?_) | (refine Zs ?_ fun _ => ?_) | (refine Zv ?_) | (refine Zr fun _ => ?_))
noncomputable def ZgL (F : Nat) (a0 : Int) (p1 : Int) (n2 : Int) : Option (List Int) :=
  lpF F (ZkX F p1) (a0, n2, ([] : List Int))
theorem ZlS {F : Nat} (a0 : Int) (p1 : Int) (n2 : Int)  : Le (ZgL F a0 p1 n2) (Zav a0 p1 n2) := by
  unfold ZgL Zav
  try simp only [← cw_ok, ← Zp, ← Zq, ← Zl, ← Zm, ← Zk, ← Zn, GT.gt, GE.ge]
  repeat' (with_reducible first | exact Le.rfl | assumption | exact Zpn _ _ | exact Zo _ _ _ | exact Zu _ _ _ _ | (refine le_if ?_ ?_) | (refine Zs ?_ fun _ => ?_) | (refine Zv ?_) | (refine Zr fun _ => ?_))
noncomputable def ZjH (F : Nat) (p0 : Int) : Int × Int → Option ((Int × Int) ⊕ (Int))
  | (k1_2, out5) =>
    bif lti (0) (k1_2) then
      some (.inl (cw (k1_2 - 1), cw (out5 * p0)))
    else
      some (.inr (out5))
theorem ZtI {F : Nat} (p0 : Int)  (s_ : _) : Le (ZjH F p0 s_) (ZhP p0 s_) := by
  obtain ⟨k1_2, out5⟩ := s_
  unfold ZjH ZhP
  try simp only [← cw_ok, ← Zp, ← Zq, ← Zl, ← Zm, ← Zk, ← Zn, GT.gt, GE.ge]
  repeat' (with_reducible first | exact Le.rfl | assumption | exact Zo _ _ _ | exact Zu _ _ _ _ | (refine le_if ?_ ?_) | (refine Zs ?_ fun _ => ?_) | (refine Zv ?_) | (refine Zr fun _ => ?_))
noncomputable def Zfd (F : Nat) (p0 : Int) (k1 : Int) : Option Int :=
  lpF F (ZjH F p0) (k1, 1)
theorem ZiC {F : Nat} (p0 : Int) (k1 : Int)  : Le (Zfd F p0 k1) (Zck p0 k1) := by
  unfold Zfd Zck
  try simp only [← cw_ok, ← Zp, ← Zq, ← Zl, ← Zm, ← Zk, ← Zn, GT.gt, GE.ge]
  repeat' (with_reducible first | exact Le.rfl | assumption | exact ZtI _ _ | exact Zo _ _ _ | exact Zu _ _ _ _ | (refine le_if ?_ ?_) | (refine Zs ?_ fun _ => ?_) | (refine Zv ?_) | (refine Zr fun _ => ?_))
noncomputable def Zj6 (F : Nat) (y1 : List Int) (y2 : Int) (y9 : Int) (e28 : Int) : Int × List Int → Option ((Int × List Int) ⊕ ((Int × List Int) ⊕ (List Int)))
  | (y11, xs_2) =>
    bif lti (y11) ((y1.length : Int)) then
      fbind (cIdx xs_2 (cw ((cw ((cw (y9 - (y1.length : Int))) + 1)) + y11))) fun e45 =>
      fbind (cIdx y1 y11) fun e52 =>
      fbind (cNz y2) fun _ =>
      fbind (cIdx xs_2 (cw ((cw ((cw (y9 - (y1.length : Int))) + 1)) + y11))) fun e58 =>
      some (.inl (cw (y11 + 1), (xs_2.set (cw ((cw ((cw (y9 - (y1.length : Int))) + 1)) + y11) : Int).toNat (Int.tmod (cw (e45 + (cw ((cw (y2 - e28)) * e52)))) y2))))
    else
      some (.inr (.inl (cw (y9 - 1), xs_2)))
theorem Zvt {F : Nat} (y1 : List Int) (y2 : Int) (y9 : Int) (e28 : Int)  (s_ : _) : Le (Zj6 F y1 y2 y9 e28 s_) (Zb4 y1 y2 y9 e28 s_) := by
  obtain ⟨y11, xs_2⟩ := s_
  unfold Zj6 Zb4
  try simp only [← cw_ok, ← Zp, ← Zq, ← Zl, ← Zm, ← Zk, ← Zn, GT.gt, GE.ge]
  repeat' (with_reducible first | exact Le.rfl | assumption | exact Zo _ _ _ | exact Zu _ _ _ _ | (refine le_if ?_ ?_) | (refine Zs ?_ fun _ => ?_) | (refine Zv ?_) | (refine Zr fun _ => ?_))
noncomputable def Zjp (F : Nat) (y1 : List Int) : List Int → Option ((List Int) ⊕ ((Int × List Int) ⊕ (List Int)))
  | y7 =>
    bif lei ((y1.length : Int)) ((y7.length : Int)) then
      fbind (gSl y7 0 (cw ((y7.length : Int) - 1))) fun l67 =>
      some (.inl (l67))
    else
      some (.inr (.inr (y7)))
theorem Zsq {F : Nat} (y1 : List Int)  (s_ : _) : Le (Zjp F y1 s_) (Zbn y1 s_) := by
  unfold Zjp Zbn
  try simp only [← cw_ok, ← Zp, ← Zq, ← Zl, ← Zm, ← Zk, ← Zn, GT.gt, GE.ge]
  repeat' (with_reducible first | exact Le.rfl | assumption | exact Zo _ _ _ | exact Zu _ _ _ _ | (refine le_if ?_ ?_) | (refine Zs ?_ fun _ => ?_) | (refine Zv ?_) | (refine Zr fun _ => ?_))
noncomputable def Zkt (F : Nat) (y1 : List Int) (y2 : Int) : Int × List Int → Option ((Int × List Int) ⊕ (List Int))
  | (y9, xs) =>
    bif lei ((cw ((y1.length : Int) - 1))) (y9) then
      fbind (cIdx xs y9) fun e28 =>
      lpF F (Zj6 F y1 y2 y9 e28) (0, xs)
    else
      lpF F (Zjp F y1) (xs)
theorem ZrK {F : Nat} (y1 : List Int) (y2 : Int)  (s_ : _) : Le (Zkt F y1 y2 s_) (ZaI y1 y2 s_) := by
  obtain ⟨y9, xs⟩ := s_
  unfold Zkt ZaI
  try simp only [← cw_ok, ← Zp, ← Zq, ← Zl, ← Zm, ← Zk, ← Zn, GT.gt, GE.ge]
  repeat' (with_reducible first | exact Le.rfl | assumption | exact Zvt _ _ _ _ _ | exact Zsq _ _ | exact Zo _ _ _ | exact Zu _ _ _ _ | (refine le_if ?_ ?_) | (refine Zs ?_ fun _ => ?_) | (refine Zv ?_) | (refine Zr fun _ => ?_))
noncomputable def ZiQ (F : Nat) (y0 : List Int) (y1 : List Int) (y2 : Int) : Option (List Int) :=
  fbind (Zi5 F y0) fun r14 =>
  lpF F (Zkt F y1 y2) (cw ((r14.length : Int) - 1), r14)
theorem Zue {F : Nat} (y0 : List Int) (y1 : List Int) (y2 : Int)  : Le (ZiQ F y0 y1 y2) (ZbJ y0 y1 y2) := by
  unfold ZiQ ZbJ
  try simp only [← cw_ok, ← Zp, ← Zq, ← Zl, ← Zm, ← Zk, ← Zn, GT.gt, GE.ge]
  repeat' (with_reducible first | exact Le.rfl | assumption | exact ZpM _ | exact ZrK _ _ _ | exact Zo _ _ _ | exact Zu _ _ _ _ | (refine le_if ?_ ?_) | (refine Zs ?_ fun _ => ?_) | (refine Zv ?_) | (refine Zr fun _ => ?_))
noncomputable def Zip (F : Nat) (list0 : List Int) (p1 : Int) : Int × Int → Option ((Int × Int) ⊕ (Int))
  | (out5, i6) =>
    bif lei (0) (i6) then
      fbind (cIdx list0 i6) fun e19 =>
      some (.inl (cw ((cw (out5 * p1)) + e19), cw (i6 - 1)))
    else
      some (.inr (out5))
theorem ZpD {F : Nat} (list0 : List Int) (p1 : Int)  (s_ : _) : Le (Zip F list0 p1 s_) (Zcx list0 p1 s_) := by
  obtain ⟨out5, i6⟩ := s_
  unfold Zip Zcx
  try simp only [← cw_ok, ← Zp, ← Zq, ← Zl, ← Zm, ← Zk, ← Zn, GT.gt, GE.ge]
  repeat' (with_reducible first | exact Le.rfl | assumption | exact Zo _ _ _ | exact Zu _ _ _ _ | (refine le_if ?_ ?_) | (refine Zs ?_ fun _ => ?_) | (refine Zv ?_) | (refine Zr fun _ => ?_))
noncomputable def Zh7 (F : Nat) (list0 : List Int) (p1 : Int) : Option Int :=
  lpF F (Zip F list0 p1) (0, cw ((list0.length : Int) - 1))
theorem ZtO {F : Nat} (list0 : List Int) (p1 : Int)  : Le (Zh7 F list0 p1) (Zax list0 p1) := by
  unfold Zh7 Zax
  try simp only [← cw_ok, ← Zp, ← Zq, ← Zl, ← Zm, ← Zk, ← Zn, GT.gt, GE.ge]
  repeat' (with_reducible first | exact Le.rfl | assumption | exact ZpD _ _ _ | exact Zo _ _ _ | exact Zu _ _ _ _ | (refine le_if ?_ ?_) | (refine Zs ?_ fun _ => ?_) | (refine Zv ?_) | (refine Zr fun _ => ?_))
noncomputable def ZjY (F : Nat) (poly0 : List Int) (p1 : Int) (d6 : Int) : Int → Option ((Int) ⊕ ((Int) ⊕ (Bool)))
  | n7 =>
    fbind (Zfd F p1 d6) fun r22 =>
    bif lti (n7) (r22) then
      fbind (ZgL F n7 p1 d6) fun r29 =>
      fbind (cApp 8 r29 [1]) fun l31 =>
      fbind (ZiQ F poly0 l31 p1) fun r35 =>
      fbind (Zh7 F r35 p1) fun r38 =>
      bif eqi (r38) (0) then
        some (.inr (.inr (false)))
      else
        some (.inl (cw (n7 + 1)))
    else
      some (.inr (.inl (cw (d6 + 1))))
theorem Zwg {F : Nat} (poly0 : List Int) (p1 : Int) (d6 : Int)  (s_ : _) : Le (ZjY F poly0 p1 d6 s_) (ZhF poly0 p1 d6 s_) := by
  unfold ZjY ZhF
  try simp only [← cw_ok, ← Zp, ← Zq, ← Zl, ← Zm, ← Zk, ← Zn, GT.gt, GE.ge]
  repeat' (with_reducible first | exact Le.rfl | assumption | exact ZiC _ _ | exact ZlS _ _ _ | exact Zue _ _ _ | exact ZtO _ _ | exact Zo _ _ _ | exact Zu _ _ _ _ | (refine le_if ?_ ?_) | (refine Zs ?_ fun _ => ?_) | (refine Zv ?_) | (refine Zr fun _ => ?_))
noncomputable def Zh5 (F : Nat) (poly0 : List Int) (p1 : Int) : Int → Option ((Int) ⊕ (Bool))
  | d6 =>
    bif lei (cw (2 * d6)) ((cw ((poly0.length : Int) - 1))) then
      lpF F (ZjY F poly0 p1 d6) (0)
    else
      some (.inr (true))
theorem Zsd {F : Nat} (poly0 : List Int) (p1 : Int)  (s_ : _) : Le (Zh5 F poly0 p1 s_) (Zhb poly0 p1 s_) := by
  unfold Zh5 Zhb
  try simp only [← cw_ok, ← Zp, ← Zq, ← Zl, ← Zm, ← Zk, ← Zn, GT.gt, GE.ge]
  repeat' (with_reducible first | exact Le.rfl | assumption | exact Zwg _ _ _ _ | exact Zo _ _ _ | exact Zu _ _ _ _ | (refine le_if ?_ ?_) | (refine Zs ?_ fun _ => ?_) | (refine Zv ?_) | (refine Zr fun _ => ?_))
noncomputable def ZgI (F : Nat) (poly0 : List Int) (p1 : Int) : Option Bool :=
  lpF F (Zh5 F poly0 p1) (1)
theorem ZmF {F : Nat} (poly0 : List Int) (p1 : Int)  : Le (ZgI F poly0 p1) (Zd2 poly0 p1) := by
  unfold ZgI Zd2
  try simp only [← cw_ok, ← Zp, ← Zq, ← Zl, ← Zm, ← Zk, ← Zn, GT.gt, GE.ge]
  repeat' (with_reducible first | exact Le.rfl | assumption | exact Zsd _ _ _ | exact Zo _ _ _ | exact Zu _ _ _ _ | (refine le_if ?_ ?_) | (refine Zs ?_ fun _ => ?_) | (refine Zv ?_) | (refine Zr fun _ => ?_))
noncomputable def ZkK (F : Nat) (r9 : Int × Int) : Int → Option ((Int) ⊕ (Zc))
  | n5 =>
    fbind (ZgL F n5 r9.1 r9.2) fun r17 =>
    fbind (cApp 8 r17 [1]) fun l19 =>
    fbind (ZgI F l19 r9.1) fun r22 =>
    bif r22 then
      some (.inr ((Zc.mk r9.1 r9.2 l19)))
    else
      some (.inl (cw (n5 + 1)))
theorem Ztq {F : Nat} (r9 : Int × Int)  (s_ : _) : Le (ZkK F r9 s_) (Zhy r9 s_) := by
  unfold ZkK Zhy
  try simp only [← cw_ok, ← Zp, ← Zq, ← Zl, ← Zm, ← Zk, ← Zn, GT.gt, GE.ge]
  repeat' (with_reducible first | exact Le.rfl | assumption | exact ZlS _ _ _ | exact ZmF _ _ | exact Zo _ _ _ | exact Zu _ _ _ _ | (refine le_if ?_ ?_) | (refine Zs ?_ fun _ => ?_) | (refine Zv ?_) | (refine Zr fun _ => ?_))
noncomputable def ZmY (F : Nat) (q0 : Int) : Option Zc :=
  fbind (Zhs F q0) fun r9 =>
  lpF F (ZkK F r9) (0)
theorem ZT {F : Nat} (q0 : Int)  : Le (ZmY F q0) (Zc5 q0) := by
  unfold ZmY Zc5
  try simp only [← cw_ok, ← Zp, ← Zq, ← Zl, ← Zm, ← Zk, ← Zn, GT.gt, GE.ge]
  repeat' (with_reducible first | exact Le.rfl | assumption | exact Zi _ | exact Ztq _ _ | exact Zo _ _ _ | exact Zu _ _ _ _ | (refine le_if ?_ ?_) | (refine Zs ?_ fun _ => ?_) | (refine Zv ?_) | (refine Zr fun _ => ?_))
noncomputable def ZiI (F : Nat) (y0 : Zc) (r58 : Int × Int) : Int → Option ((Int) ⊕ (Bool))
  | y6 =>
    bif lti (y6) ((y0.Poly.length : Int)) then
      fbind (cIdx y0.Poly y6) fun e81 =>
      fbind (ZdZ F e81 0 (cw (r58.1 - 1))) fun r85 =>
      bif !r85 then
        some (.inr (false))
      else
        some (.inl (cw (y6 + 1)))
    else
      fbind (ZgI F y0.Poly r58.1) fun r92 =>
      some (.inr (r92))
theorem Zty {F : Nat} (y0 : Zc) (r58 : Int × Int)  (s_ : _) : Le (ZiI F y0 r58 s_) (Zhu y0 r58 s_) := by
  unfold ZiI Zhu
  try simp only [← cw_ok, ← Zp, ← Zq, ← Zl, ← Zm, ← Zk, ← Zn, GT.gt, GE.ge]
  repeat' (with_reducible first | exact Le.rfl | assumption | exact Zi9 _ _ _ | exact ZmF _ _ | exact Zo _ _ _ | exact Zu _ _ _ _ | (refine le_if ?_ ?_) | (refine Zs ?_ fun _ => ?_) | (refine Zv ?_) | (refine Zr fun _ => ?_))
noncomputable def ZiN (F : Nat) (y0 : Zc) : Option (Bool) :=
  fbind (Zfd F y0.Prime y0.Degree) fun r55 =>
  fbind (Zhs F r55) fun r58 =>
  bif !eqi (r58.1) (y0.Prime) then
    some (false)
  else
    lpF F (ZiI F y0 r58) (0)
theorem Zuj {F : Nat} (y0 : Zc)  : Le (ZiN F y0) (ZeP y0) := by
  unfold ZiN ZeP
  try simp only [← cw_ok, ← Zp, ← Zq, ← Zl, ← Zm, ← Zk, ← Zn, GT.gt, GE.ge]
  repeat' (with_reducible first | exact Le.rfl | assumption | exact ZiC _ _ | exact Zi _ | exact Zty _ _ _ | exact Zo _ _ _ | exact Zu _ _ _ _ | (refine le_if ?_ ?_) | (refine Zs ?_ fun _ => ?_) | (refine Zv ?_) | (refine Zr fun _ => ?_))
noncomputable def ZlZ (F : Nat) (y0 : Zc) : Option Bool :=
  fbind (ZdZ F y0.Prime 2 64) fun r11 =>
  bif !r11 then
    some (false)
  else
    fbind (ZdZ F y0.Degree 1 6) fun r18 =>
    bif !r18 then
      some (false)
    else
      bif !eqi ((y0.Poly.length : Int)) ((cw (y0.Degree + 1))) then
        some (false)
      else
        fbind (cIdx y0.Poly y0.Degree) fun e43 =>
        bif !eqi (e43) (1) then
          some (false)
        else
          ZiN F y0
theorem ZP {F : Nat} (y0 : Zc)  : Le (ZlZ F y0) (Zc7 y0) := by
  unfold ZlZ Zc7
  try simp only [← cw_ok, ← Zp, ← Zq, ← Zl, ← Zm, ← Zk, ← Zn, GT.gt, GE.ge]
  repeat' (with_reducible first | exact Le.rfl | assumption | exact Zi9 _ _ _ | exact Zuj _ | exact Zo _ _ _ | exact Zu _ _ _ _ | (refine le_if ?_ ?_) | (refine Zs ?_ fun _ => ?_) | (refine Zv ?_) | (refine Zr fun _ => ?_))
noncomputable def ZlR (F : Nat) (f0 : Zc) : Option Int :=
  fbind (Zfd F f0.Prime f0.Degree) fun r11 =>
  some (r11)
theorem ZR {F : Nat} (f0 : Zc)  : Le (ZlR F f0) (ZbF f0) := by
  unfold ZlR ZbF
  try simp only [← cw_ok, ← Zp, ← Zq, ← Zl, ← Zm, ← Zk, ← Zn, GT.gt, GE.ge]
  repeat' (with_reducible first | exact Le.rfl | assumption | exact ZiC _ _ | exact Zo _ _ _ | exact Zu _ _ _ _ | (refine le_if ?_ ?_) | (refine Zs ?_ fun _ => ?_) | (refine Zv ?_) | (refine Zr fun _ => ?_))
noncomputable def ZhI (F : Nat) (n0 : Int) (low1 : Int) (high2 : Int) : Option Bool :=
  bif lei (low1) (n0) then
    some (lei (n0) (high2))
  else
    some (false)
theorem Zou {F : Nat} (n0 : Int) (low1 : Int) (high2 : Int)  : Le (ZhI F n0 low1 high2) (Z0 n0 low1 high2) := by
  unfold ZhI Z0
  try simp only [← cw_ok, ← Zp, ← Zq, ← Zl, ← Zm, ← Zk, ← Zn, GT.gt, GE.ge]
  repeat' (with_reducible first | exact Le.rfl | assumption | exact Zo _ _ _ | exact Zu _ _ _ _ | (refine le_if ?_ ?_) | (refine Zs ?_ fun _ => ?_) | (refine Zv ?_) | (refine Zr fun _ => ?_))
noncomputable def Zfm (F : Nat) (list0 : List Int) : Option Int :=
  some ((list0.length : Int))
theorem ZiA {F : Nat} (list0 : List Int)  : Le (Zfm F list0) (ZI list0) := by
  unfold Zfm ZI
  try simp only [← cw_ok, ← Zp, ← Zq, ← Zl, ← Zm, ← Zk, ← Zn, GT.gt, GE.ge]
  repeat' (with_reducible first | exact Le.rfl | assumption | exact Zo _ _ _ | exact Zu _ _ _ _ | (refine le_if ?_ ?_) | (refine Zs ?_ fun _ => ?_) | (refine Zv ?_) | (refine Zr fun _ => ?_))
noncomputable def Zks (F : Nat) (a0 : List Int) : Option (List Int) := cApp 8 [] a0
theorem Zto {F : Nat} (a0 : List Int)  : Le (Zks F a0) (Zbu a0) := by
  unfold Zks Zbu
  try simp only [← cw_ok, ← Zp, ← Zq, ← Zl, ← Zm, ← Zk, ← Zn, GT.gt, GE.ge]
  repeat' (with_reducible first | exact Le.rfl | assumption | exact Zo _ _ _ | exact Zu _ _ _ _ | (refine le_if ?_ ?_) | (refine Zs ?_ fun _ => ?_) | (refine Zv ?_) | (refine Zr fun _ => ?_))
noncomputable def ZkD (F : Nat) (s0 : List Int) (fn1 : Int → Option Bool) : Int → Option ((Int) ⊕ (Int))
  | y8 =>
    bif lti (y8) ((s0.length : Int)) then
      fbind (cIdx s0 y8) fun e14 =>
      fbind (fn1 e14) fun r16 =>
      bif r16 then
        some (.inr (y8))
      else
        some (.inl (cw (y8 + 1)))
    else
      some (.inr ((-1)))
theorem Zsc {F : Nat} (s0 : List Int) (fn1 : Int → Option Bool) (fn1' : Int → Option Bool) (hfn1 : ∀ u0, Le (fn1 u0) (fn1' u0)) (s_ : _) : Le (ZkD F s0 fn1 s_) (Zcr s0 fn1' s_) := by
  unfold ZkD Zcr
  try simp only [← cw_ok, ← Zp, ← Zq, ← Zl, ← Zm, ← Zk, ← Zn, GT.gt, GE.ge]
  repeat' (with_reducible first | exact Le.rfl | assumption | exact Zo _ _ _ | exact Zu _ _ _ _ | (refine le_if ?_ ?_) | (refine Zs ?_ fun _ => ?_) | (refine Zv ?_) | (refine Zr fun _ => ?_))
  all_goals (first | exact hfn1 _ | skip)
noncomputable def ZkF (F : Nat) (s0 : List Int) (fn1 : Int → Option Bool) : Option Int :=
  lpF F (ZkD F s0 fn1) (0)
theorem Zts {F : Nat} (s0 : List Int) (fn1 : Int → Option Bool) (fn1' : Int → Option Bool) (hfn1 : ∀ u0, Le (fn1 u0) (fn1' u0)) : Le (ZkF F s0 fn1) (ZeW s0 fn1') := by
  unfold ZkF ZeW
  try simp only [← cw_ok, ← Zp, ← Zq, ← Zl, ← Zm, ← Zk, ← Zn, GT.gt, GE.ge]
  repeat' (with_reducible first | exact Le.rfl | assumption | (refine Zsc _ _ _ ?_ _; intros) | exact Zo _ _ _ | exact Zu _ _ _ _ | (refine le_if ?_ ?_) | (refine Zs ?_ fun _ => ?_) | (refine Zv ?_) | (refine Zr fun _ => ?_))
  all_goals (first | exact hfn1 _ | skip)
noncomputable def ZiK (F : Nat) (s0 : List Int) (fn1 : Int → Option Bool) : Option Bool :=
  fbind (ZkF F s0 fn1) fun r7 =>
  some (lei (0) (r7))
theorem Zqj {F : Nat} (s0 : List Int) (fn1 : Int → Option Bool) (fn1' : Int → Option Bool) (hfn1 : ∀ u0, Le (fn1 u0) (fn1' u0)) : Le (ZiK F s0 fn1) (Zap s0 fn1') := by
  unfold ZiK Zap
  try simp only [← cw_ok, ← Zp, ← Zq, ← Zl, ← Zm, ← Zk, ← Zn, GT.gt, GE.ge]
  repeat' (with_reducible first | exact Le.rfl | assumption | (refine Zts _ _ _ ?_; intros) | exact Zo _ _ _ | exact Zu _ _ _ _ | (refine le_if ?_ ?_) | (refine Zs ?_ fun _ => ?_) | (refine Zv ?_) | (refine Zr fun _ => ?_))
  all_goals (first | exact hfn1 _ | skip)
noncomputable def ZlL (F : Nat) (base0 : Int) (e1_2 : Int) (power7 : Int) : Option ((Int × Int) ⊕ (Int)) :=
  some (.inl (cw (e1_2 - 1), cw (power7 * base0)))
theorem Zur {F : Nat} (base0 : Int) (e1_2 : Int) (power7 : Int)  : Le (ZlL F base0 e1_2 power7) (ZcT base0 e1_2 power7) := by
  unfold ZlL ZcT
  try simp only [← cw_ok, ← Zp, ← Zq, ← Zl, ← Zm, ← Zk, ← Zn, GT.gt, GE.ge]
  repeat' (with_reducible first | exact Le.rfl | assumption | exact Zo _ _ _ | exact Zu _ _ _ _ | (refine le_if ?_ ?_) | (refine Zs ?_ fun _ => ?_) | (refine Zv ?_) | (refine Zr fun _ => ?_))
noncomputable def ZjD (F : Nat) (base0 : Int) (limit2 : Int) : Int × Int → Option ((Int × Int) ⊕ (Int))
  | (e1_2, power7) =>
    bif lti (0) (e1_2) then
      bif lei (power7) (limit2) then
        ZlL F base0 e1_2 power7
      else
        some (.inr (power7))
    else
      some (.inr (power7))
theorem Zqa {F : Nat} (base0 : Int) (limit2 : Int)  (s_ : _) : Le (ZjD F base0 limit2 s_) (ZaF base0 limit2 s_) := by
  obtain ⟨e1_2, power7⟩ := s_
  unfold ZjD ZaF
  try simp only [← cw_ok, ← Zp, ← Zq, ← Zl, ← Zm, ← Zk, ← Zn, GT.gt, GE.ge]
  repeat' (with_reducible first | exact Le.rfl | assumption | exact Zur _ _ _ | exact Zo _ _ _ | exact Zu _ _ _ _ | (refine le_if ?_ ?_) | (refine Zs ?_ fun _ => ?_) | (refine Zv ?_) | (refine Zr fun _ => ?_))
noncomputable def Zei (F : Nat) (base0 : Int) (e1 : Int) (limit2 : Int) : Option Int :=
  lpF F (ZjD F base0 limit2) (e1, 1)
theorem Zj4 {F : Nat} (base0 : Int) (e1 : Int) (limit2 : Int)  : Le (Zei F base0 e1 limit2) (Zbv base0 e1 limit2) := by
  unfold Zei Zbv
  try simp only [← cw_ok, ← Zp, ← Zq, ← Zl, ← Zm, ← Zk, ← Zn, GT.gt, GE.ge]
  repeat' (with_reducible first | exact Le.rfl | assumption | exact Zqa _ _ _ | exact Zo _ _ _ | exact Zu _ _ _ _ | (refine le_if ?_ ?_) | (refine Zs ?_ fun _ => ?_) | (refine Zv ?_) | (refine Zr fun _ => ?_))
noncomputable def Zor (F : Nat) (f0 : Zc) : Option Int :=
  fbind (Zei F f0.Prime f0.Degree 64) fun r7 =>
  some (r7)
theorem ZS {F : Nat} (f0 : Zc)  : Le (Zor F f0) (Zbm f0) := by
  unfold Zor Zbm
  try simp only [← cw_ok, ← Zp, ← Zq, ← Zl, ← Zm, ← Zk, ← Zn, GT.gt, GE.ge]
  repeat' (with_reducible first | exact Le.rfl | assumption | exact Zj4 _ _ _ | exact Zo _ _ _ | exact Zu _ _ _ _ | (refine le_if ?_ ?_) | (refine Zs ?_ fun _ => ?_) | (refine Zv ?_) | (refine Zr fun _ => ?_))
noncomputable def Zi2 (F : Nat) (base1 : Int) (l10 : List Int) : Int × Int × List Int → Option ((Int × Int × List Int) ⊕ (List Int))
  | (n0_2, y13, xs) =>
    bif lti (y13) ((l10.length : Int)) then
      fbind (cNz base1) fun _ =>
      fbind (cIdx xs y13) fun e21 =>
      fbind (cNz base1) fun _ =>
      some (.inl (cw (Int.tdiv n0_2 base1), cw (y13 + 1), (xs.set (y13 : Int).toNat (Int.tmod n0_2 base1))))
    else
      some (.inr (xs))
theorem Zo3 {F : Nat} (base1 : Int) (l10 : List Int)  (s_ : _) : Le (Zi2 F base1 l10 s_) (Za9 base1 l10 s_) := by
  obtain ⟨n0_2, y13, xs⟩ := s_
  unfold Zi2 Za9
  try simp only [← cw_ok, ← Zp, ← Zq, ← Zl, ← Zm, ← Zk, ← Zn, GT.gt, GE.ge]
  repeat' (with_reducible first | exact Le.rfl | assumption | exact Zo _ _ _ | exact Zu _ _ _ _ | (refine le_if ?_ ?_) | (refine Zs ?_ fun _ => ?_) | (refine Zv ?_) | (refine Zr fun _ => ?_))
noncomputable def ZeL (F : Nat) (n0 : Int) (base1 : Int) (count2 : Int) : Option (List Int) :=
  fbind (cMake 8 (0 : Int) count2 count2) fun l10 =>
  lpF F (Zi2 F base1 l10) (n0, 0, l10)
theorem Zn1 {F : Nat} (n0 : Int) (base1 : Int) (count2 : Int)  : Le (ZeL F n0 base1 count2) (Zao n0 base1 count2) := by
  unfold ZeL Zao
  try simp only [← cw_ok, ← Zp, ← Zq, ← Zl, ← Zm, ← Zk, ← Zn, GT.gt, GE.ge]
  repeat' (with_reducible first | exact Le.rfl | assumption | exact Zo3 _ _ _ | exact Zo _ _ _ | exact Zu _ _ _ _ | (refine le_if ?_ ?_) | (refine Zs ?_ fun _ => ?_) | (refine Zv ?_) | (refine Zr fun _ => ?_))
noncomputable def Zki (F : Nat) (y1 : List Int) (y2 : Int) (y9 : Int) (e29 : Int) : Int × List Int → Option ((Int × List Int) ⊕ ((Int × List Int) ⊕ (List Int)))
  | (y33, xs_2) =>
    bif lti (y33) ((y1.length : Int)) then
      fbind (cIdx y1 y33) fun e36 =>
      fbind (cIdx xs_2 (cw ((cw (y9 - (cw ((y1.length : Int) - 1)))) + y33))) fun e47 =>
      fbind (cNz y2) fun _ =>
      fbind (cNz y2) fun _ =>
      fbind (cIdx xs_2 (cw ((cw (y9 - (cw ((y1.length : Int) - 1)))) + y33))) fun e59 =>
      some (.inl (cw (y33 + 1), (xs_2.set (cw ((cw (y9 - (cw ((y1.length : Int) - 1)))) + y33) : Int).toNat (Int.tmod (cw ((Int.tmod (cw (e47 - (cw (e29 * e36)))) y2) + y2)) y2))))
    else
      some (.inr (.inl (cw (y9 - 1), xs_2)))
theorem Zsz {F : Nat} (y1 : List Int) (y2 : Int) (y9 : Int) (e29 : Int)  (s_ : _) : Le (Zki F y1 y2 y9 e29 s_) (ZcK y1 y2 y9 e29 s_) := by
  obtain ⟨y33, xs_2⟩ := s_
  unfold Zki ZcK
  try simp only [← cw_ok, ← Zp, ← Zq, ← Zl, ← Zm, ← Zk, ← Zn, GT.gt, GE.ge]
  repeat' (with_reducible first | exact Le.rfl | assumption | exact Zo _ _ _ | exact Zu _ _ _ _ | (refine le_if ?_ ?_) | (refine Zs ?_ fun _ => ?_) | (refine Zv ?_) | (refine Zr fun _ => ?_))
noncomputable def Zin (F : Nat) (y1 : List Int) (y2 : Int) : Int × List Int → Option ((Int × List Int) ⊕ (List Int))
  | (y9, xs) =>
    bif lei ((cw ((y1.length : Int) - 1))) (y9) then
      fbind (cIdx xs y9) fun e29 =>
      lpF F (Zki F y1 y2 y9 e29) (0, xs)
    else
      fbind (gSl xs 0 (if ((xs.length : Int) : Int) < (cw ((y1.length : Int) - 1)) then (xs.length : Int) else cw ((y1.length : Int) - 1))) fun l66 =>
      some (.inr (l66))
theorem ZvG {F : Nat} (y1 : List Int) (y2 : Int)  (s_ : _) : Le (Zin F y1 y2 s_) (ZaJ y1 y2 s_) := by
  obtain ⟨y9, xs⟩ := s_
  unfold Zin ZaJ
  try simp only [← cw_ok, ← Zp, ← Zq, ← Zl, ← Zm, ← Zk, ← Zn, GT.gt, GE.ge]
  repeat' (with_reducible first | exact Le.rfl | assumption | exact Zsz _ _ _ _ _ | exact Zo _ _ _ | exact Zu _ _ _ _ | (refine le_if ?_ ?_) | (refine Zs ?_ fun _ => ?_) | (refine Zv ?_) | (refine Zr fun _ => ?_))
noncomputable def Zix (F : Nat) (y0 : List Int) (y1 : List Int) (y2 : Int) : Option (List Int) :=
  fbind (Zks F y0) fun r15 =>
  lpF F (Zin F y1 y2) (cw ((r15.length : Int) - 1), r15)
theorem ZoT {F : Nat} (y0 : List Int) (y1 : List Int) (y2 : Int)  : Le (Zix F y0 y1 y2) (ZbD y0 y1 y2) := by
  unfold Zix ZbD
  try simp only [← cw_ok, ← Zp, ← Zq, ← Zl, ← Zm, ← Zk, ← Zn, GT.gt, GE.ge]
  repeat' (with_reducible first | exact Le.rfl | assumption | exact Zto _ | exact ZvG _ _ _ | exact Zo _ _ _ | exact Zu _ _ _ _ | (refine le_if ?_ ?_) | (refine Zs ?_ fun _ => ?_) | (refine Zv ?_) | (refine Zr fun _ => ?_))
noncomputable def Zlb (F : Nat) (x0 : Int) : Option Bool :=
  some (!eqi (x0) (0))
theorem ZoN {F : Nat} (x0 : Int)  : Le (Zlb F x0) (Zgk x0) := by
  unfold Zlb Zgk
  try simp only [← cw_ok, ← Zp, ← Zq, ← Zl, ← Zm, ← Zk, ← Zn, GT.gt, GE.ge]
  repeat' (with_reducible first | exact Le.rfl | assumption | exact Zo _ _ _ | exact Zu _ _ _ _ | (refine le_if ?_ ?_) | (refine Zs ?_ fun _ => ?_) | (refine Zv ?_) | (refine Zr fun _ => ?_))
noncomputable def Zkx (F : Nat) (list0 : List Int) : Option Bool :=
  fbind (ZiK F list0 (fun y0 => Zlb F y0)) fun r4 =>
  some (!r4)
theorem ZqQ {F : Nat} (list0 : List Int)  : Le (Zkx F list0) (ZfK list0) := by
  unfold Zkx ZfK
  try simp only [← cw_ok, ← Zp, ← Zq, ← Zl, ← Zm, ← Zk, ← Zn, GT.gt, GE.ge]
  repeat' (with_reducible first | exact Le.rfl | assumption | (refine Zqj _ _ _ ?_; intros) | exact ZoN _ | exact Zo _ _ _ | exact Zu _ _ _ _ | (refine le_if ?_ ?_) | (refine Zs ?_ fun _ => ?_) | (refine Zv ?_) | (refine Zr fun _ => ?_))
noncomputable def Zjx (F : Nat) (poly0 : List Int) (p1 : Int) (d6 : Int) : Int → Option ((Int) ⊕ ((Int) ⊕ (Bool)))
  | n7 =>
    fbind (Zei F p1 d6 64) fun r20 =>
    bif lti (n7) (r20) then
      fbind (ZeL F n7 p1 d6) fun r28 =>
      fbind (cApp 8 r28 [1]) fun l30 =>
      fbind (Zix F poly0 l30 p1) fun r32 =>
      fbind (Zkx F r32) fun r33 =>
      bif r33 then
        some (.inr (.inr (false)))
      else
        some (.inl (cw (n7 + 1)))
    else
      some (.inr (.inl (cw (d6 + 1))))
theorem Zt8 {F : Nat} (poly0 : List Int) (p1 : Int) (d6 : Int)  (s_ : _) : Le (Zjx F poly0 p1 d6 s_) (Zg5 poly0 p1 d6 s_) := by
  unfold Zjx Zg5
  try simp only [← cw_ok, ← Zp, ← Zq, ← Zl, ← Zm, ← Zk, ← Zn, GT.gt, GE.ge]
  repeat' (with_reducible first | exact Le.rfl | assumption | exact Zj4 _ _ _ | exact Zn1 _ _ _ | exact ZoT _ _ _ | exact ZqQ _ | exact Zo _ _ _ | exact Zu _ _ _ _ | (refine le_if ?_ ?_) | (refine Zs ?_ fun _ => ?_) | (refine Zv ?_) | (refine Zr fun _ => ?_))
noncomputable def Zk5 (F : Nat) (poly0 : List Int) (p1 : Int) (r9 : Int) : Int → Option ((Int) ⊕ (Bool))
  | d6 =>
    bif lei (cw (2 * d6)) ((cw (r9 - 1))) then
      lpF F (Zjx F poly0 p1 d6) (0)
    else
      some (.inr (true))
theorem Zqf {F : Nat} (poly0 : List Int) (p1 : Int) (r9 : Int)  (s_ : _) : Le (Zk5 F poly0 p1 r9 s_) (ZhA poly0 p1 r9 s_) := by
  unfold Zk5 ZhA
  try simp only [← cw_ok, ← Zp, ← Zq, ← Zl, ← Zm, ← Zk, ← Zn, GT.gt, GE.ge]
  repeat' (with_reducible first | exact Le.rfl | assumption | exact Zt8 _ _ _ _ | exact Zo _ _ _ | exact Zu _ _ _ _ | (refine le_if ?_ ?_) | (refine Zs ?_ fun _ => ?_) | (refine Zv ?_) | (refine Zr fun _ => ?_))
noncomputable def Zgv (F : Nat) (poly0 : List Int) (p1 : Int) : Option Bool :=
  fbind (Zfm F poly0) fun r9 =>
  lpF F (Zk5 F poly0 p1 r9) (1)
theorem Znx {F : Nat} (poly0 : List Int) (p1 : Int)  : Le (Zgv F poly0 p1) (Zdo poly0 p1) := by
  unfold Zgv Zdo
  try simp only [← cw_ok, ← Zp, ← Zq, ← Zl, ← Zm, ← Zk, ← Zn, GT.gt, GE.ge]
  repeat' (with_reducible first | exact Le.rfl | assumption | exact ZiA _ | exact Zqf _ _ _ _ | exact Zo _ _ _ | exact Zu _ _ _ _ | (refine le_if ?_ ?_) | (refine Zs ?_ fun _ => ?_) | (refine Zv ?_) | (refine Zr fun _ => ?_))
noncomputable def Zlz (F : Nat) (p4 : Int) : Int × List Int → Option ((Int × List Int) ⊕ ((Int × List Int × Int) ⊕ (List Int)))
  | (n0_3, factor3_2) =>
    fbind (cNz p4) fun _ =>
    bif eqi (Int.tmod n0_3 p4) (0) then
      fbind (cApp 8 factor3_2 [p4]) fun l22 =>
      fbind (cNz p4) fun _ =>
      some (.inl (cw (Int.tdiv n0_3 p4), l22))
    else
      some (.inr (.inl (n0_3, factor3_2, cw (p4 + 1))))
theorem Zrc {F : Nat} (p4 : Int)  (s_ : _) : Le (Zlz F p4 s_) (ZbM p4 s_) := by
  obtain ⟨n0_3, factor3_2⟩ := s_
  unfold Zlz ZbM
  try simp only [← cw_ok, ← Zp, ← Zq, ← Zl, ← Zm, ← Zk, ← Zn, GT.gt, GE.ge]
  repeat' (with_reducible first | exact Le.rfl | assumption | exact Zo _ _ _ | exact Zu _ _ _ _ | (refine le_if ?_ ?_) | (refine Zs ?_ fun _ => ?_) | (refine Zv ?_) | (refine Zr fun _ => ?_))
noncomputable def Ziu (F : Nat) : Int × List Int × Int → Option ((Int × List Int × Int) ⊕ (List Int))
  | (n0_2, factor3, p4) =>
    bif lei (cw (p4 * p4)) (n0_2) then
      lpF F (Zlz F p4) (n0_2, factor3)
    else
      bif lti (1) (n0_2) then
        fbind (cApp 8 factor3 [n0_2]) fun l31 =>
        some (.inr (l31))
      else
        some (.inr (factor3))
theorem Zq2 {F : Nat}   (s_ : _) : Le (Ziu F  s_) (ZaC  s_) := by
  obtain ⟨n0_2, factor3, p4⟩ := s_
  unfold Ziu ZaC
  try simp only [← cw_ok, ← Zp, ← Zq, ← Zl, ← Zm, ← Zk, ← Zn, GT.gt, GE.ge]
  repeat' (with_reducible first | exact Le.rfl | assumption | exact Zrc _ _ | exact Zo _ _ _ | exact Zu _ _ _ _ | (refine le_if ?_ ?_) | (refine Zs ?_ fun _ => ?_) | (refine Zv ?_) | (refine Zr fun _ => ?_))
noncomputable def Zg6 (F : Nat) (n0 : Int) : Option (List Int) :=
  fbind (ZhI F n0 1 1000000) fun r6 =>
  bif !r6 then
    some (([] : List Int))
  else
    lpF F (Ziu F) (n0, ([] : List Int), 2)
theorem Zmz {F : Nat} (n0 : Int)  : Le (Zg6 F n0) (Zbx n0) := by
  unfold Zg6 Zbx
  try simp only [← cw_ok, ← Zp, ← Zq, ← Zl, ← Zm, ← Zk, ← Zn, GT.gt, GE.ge]
  repeat' (with_reducible first | exact Le.rfl | assumption | exact Zou _ _ _ | exact Zq2  _ | exact Zo _ _ _ | exact Zu _ _ _ _ | (refine le_if ?_ ?_) | (refine Zs ?_ fun _ => ?_) | (refine Zv ?_) | (refine Zr fun _ => ?_))
noncomputable def Zla (F : Nat) (n0 : Int) : Option Bool :=
  fbind (Zg6 F n0) fun r4 =>
  some (eqi ((r4.length : Int)) (1))
theorem Zp3 {F : Nat} (n0 : Int)  : Le (Zla F n0) (Zec n0) := by
  unfold Zla Zec
  try simp only [← cw_ok, ← Zp, ← Zq, ← Zl, ← Zm, ← Zk, ← Zn, GT.gt, GE.ge]
  repeat' (with_reducible first | exact Le.rfl | assumption | exact Zmz _ | exact Zo _ _ _ | exact Zu _ _ _ _ | (refine le_if ?_ ?_) | (refine Zs ?_ fun _ => ?_) | (refine Zv ?_) | (refine Zr fun _ => ?_))
noncomputable def ZkY (F : Nat) (f0 : Zc) : Int → Option ((Int) ⊕ (Bool))
  | y41 =>
    bif lti (y41) ((f0.Poly.length : Int)) then
      fbind (cIdx f0.Poly y41) fun e43 =>
      fbind (ZhI F e43 0 (cw (f0.Prime - 1))) fun r49 =>
      bif !r49 then
        some (.inr (false))
      else
        some (.inl (cw (y41 + 1)))
    else
      fbind (Zgv F f0.Poly f0.Prime) fun r56 =>
      some (.inr (r56))
theorem Zwq {F : Nat} (f0 : Zc)  (s_ : _) : Le (ZkY F f0 s_) (Zhh f0 s_) := by
  unfold ZkY Zhh
  try simp only [← cw_ok, ← Zp, ← Zq, ← Zl, ← Zm, ← Zk, ← Zn, GT.gt, GE.ge]
  repeat' (with_reducible first | exact Le.rfl | assumption | exact Zou _ _ _ | exact Znx _ _ | exact Zo _ _ _ | exact Zu _ _ _ _ | (refine le_if ?_ ?_) | (refine Zs ?_ fun _ => ?_) | (refine Zv ?_) | (refine Zr fun _ => ?_))
noncomputable def Zir (F : Nat) (f0 : Zc) : Option (Bool) :=
  lpF F (ZkY F f0) (0)
theorem Zux {F : Nat} (f0 : Zc)  : Le (Zir F f0) (Zgj f0) := by
  unfold Zir Zgj
  try simp only [← cw_ok, ← Zp, ← Zq, ← Zl, ← Zm, ← Zk, ← Zn, GT.gt, GE.ge]
  repeat' (with_reducible first | exact Le.rfl | assumption | exact Zwq _ _ | exact Zo _ _ _ | exact Zu _ _ _ _ | (refine le_if ?_ ?_) | (refine Zs ?_ fun _ => ?_) | (refine Zv ?_) | (refine Zr fun _ => ?_))
noncomputable def Zlk (F : Nat) (f0 : Zc) : Option (Bool) :=
  fbind (Zfm F f0.Poly) fun r24 =>
  bif !eqi (r24) ((cw (f0.Degree + 1))) then
    some (false)
  else
    fbind (cIdx f0.Poly f0.Degree) fun e34 =>
    bif !eqi (e34) (1) then
      some (false)
    else
      Zir F f0
theorem ZtS {F : Nat} (f0 : Zc)  : Le (Zlk F f0) (Ze8 f0) := by
  unfold Zlk Ze8
  try simp only [← cw_ok, ← Zp, ← Zq, ← Zl, ← Zm, ← Zk, ← Zn, GT.gt, GE.ge]
  repeat' (with_reducible first | exact Le.rfl | assumption | exact ZiA _ | exact Zux _ | exact Zo _ _ _ | exact Zu _ _ _ _ | (refine le_if ?_ ?_) | (refine Zs ?_ fun _ => ?_) | (refine Zv ?_) | (refine Zr fun _ => ?_))
noncomputable def Zmy (F : Nat) (f0 : Zc) : Option Bool :=
  fbind (Zla F f0.Prime) fun r7 =>
  bif !r7 then
    some (false)
  else
    bif lti (f0.Degree) (1) then
      some (false)
    else
      fbind (Zei F f0.Prime f0.Degree 64) fun r19 =>
      bif lti (64) (r19) then
        some (false)
      else
        Zlk F f0
theorem ZU {F : Nat} (f0 : Zc)  : Le (Zmy F f0) (ZdN f0) := by
  unfold Zmy ZdN
  try simp only [← cw_ok, ← Zp, ← Zq, ← Zl, ← Zm, ← Zk, ← Zn, GT.gt, GE.ge]
  repeat' (with_reducible first | exact Le.rfl | assumption | exact Zp3 _ | exact Zj4 _ _ _ | exact ZtS _ | exact Zo _ _ _ | exact Zu _ _ _ _ | (refine le_if ?_ ?_) | (refine Zs ?_ fun _ => ?_) | (refine Zv ?_) | (refine Zr fun _ => ?_))
noncomputable def ZkS (F : Nat) (r8 : List Int) : Int → Option ((Int) ⊕ (Int × Int))
  | y11 =>
    bif lti (y11) ((r8.length : Int)) then
      fbind (cIdx r8 y11) fun e13 =>
      fbind (cIdx r8 0) fun e17 =>
      bif !eqi (e13) (e17) then
        some (.inr ((0, 0)))
      else
        some (.inl (cw (y11 + 1)))
    else
      bif eqi ((r8.length : Int)) (0) then
        some (.inr ((0, 0)))
      else
        fbind (Zfm F r8) fun r28 =>
        fbind (cIdx r8 0) fun e25 =>
        some (.inr ((e25, r28)))
theorem Zu6 {F : Nat} (r8 : List Int)  (s_ : _) : Le (ZkS F r8 s_) (Za2 r8 s_) := by
  unfold ZkS Za2
  try simp only [← cw_ok, ← Zp, ← Zq, ← Zl, ← Zm, ← Zk, ← Zn, GT.gt, GE.ge]
  repeat' (with_reducible first | exact Le.rfl | assumption | exact ZiA _ | exact Zo _ _ _ | exact Zu _ _ _ _ | (refine le_if ?_ ?_) | (refine Zs ?_ fun _ => ?_) | (refine Zv ?_) | (refine Zr fun _ => ?_))
noncomputable def ZjV (F : Nat) (n0 : Int) : Option (Int × Int) :=
  fbind (Zg6 F n0) fun r8 =>
  lpF F (ZkS F r8) (0)
theorem Zoq {F : Nat} (n0 : Int)  : Le (ZjV F n0) (Zbe n0) := by
  unfold ZjV Zbe
  try simp only [← cw_ok, ← Zp, ← Zq, ← Zl, ← Zm, ← Zk, ← Zn, GT.gt, GE.ge]
  repeat' (with_reducible first | exact Le.rfl | assumption | exact Zmz _ | exact Zu6 _ _ | exact Zo _ _ _ | exact Zu _ _ _ _ | (refine le_if ?_ ?_) | (refine Zs ?_ fun _ => ?_) | (refine Zv ?_) | (refine Zr fun _ => ?_))
noncomputable def Zh9 (F : Nat) (r9 : Int × Int) : Int → Option ((Int) ⊕ (Zc × Int))
  | n6 =>
    fbind (ZeL F n6 r9.1 r9.2) fun r22 =>
    fbind (cApp 8 r22 [1]) fun l24 =>
    fbind (Zgv F l24 r9.1) fun r26 =>
    bif !r26 then
      some (.inl (cw (n6 + 1)))
    else
      fbind (ZeL F n6 r9.1 r9.2) fun r35 =>
      fbind (cApp 8 r35 [1]) fun l37 =>
      some (.inr (((Zc.mk r9.1 r9.2 l37), 0)))
theorem ZvC {F : Nat} (r9 : Int × Int)  (s_ : _) : Le (Zh9 F r9 s_) (ZgU r9 s_) := by
  unfold Zh9 ZgU
  try simp only [← cw_ok, ← Zp, ← Zq, ← Zl, ← Zm, ← Zk, ← Zn, GT.gt, GE.ge]
  repeat' (with_reducible first | exact Le.rfl | assumption | exact Zn1 _ _ _ | exact Znx _ _ | exact Zo _ _ _ | exact Zu _ _ _ _ | (refine le_if ?_ ?_) | (refine Zs ?_ fun _ => ?_) | (refine Zv ?_) | (refine Zr fun _ => ?_))
noncomputable def Zlf (F : Nat) (r9 : Int × Int) : Option (Zc × Int) :=
  lpF F (Zh9 F r9) (0)
theorem ZqG {F : Nat} (r9 : Int × Int)  : Le (Zlf F r9) (Zgb r9) := by
  unfold Zlf Zgb
  try simp only [← cw_ok, ← Zp, ← Zq, ← Zl, ← Zm, ← Zk, ← Zn, GT.gt, GE.ge]
  repeat' (with_reducible first | exact Le.rfl | assumption | exact ZvC _ _ | exact Zo _ _ _ | exact Zu _ _ _ _ | (refine le_if ?_ ?_) | (refine Zs ?_ fun _ => ?_) | (refine Zv ?_) | (refine Zr fun _ => ?_))
noncomputable def Zos (F : Nat) (q0 : Int) : Option (Zc × Int) :=
  fbind (ZjV F q0) fun r9 =>
  bif eqi (r9.1) (0) then
    some (((Zc.mk 0 0 ([] : List Int)), 2))
  else
    bif lti (64) (q0) then
      some (((Zc.mk 0 0 ([] : List Int)), 2))
    else
      Zlf F r9
theorem Zj {F : Nat} (q0 : Int)  : Le (Zos F q0) (ZaU q0) := by
  unfold Zos ZaU
  try simp only [← cw_ok, ← Zp, ← Zq, ← Zl, ← Zm, ← Zk, ← Zn, GT.gt, GE.ge]
  repeat' (with_reducible first | exact Le.rfl | assumption | exact Zoq _ | exact ZqG _ | exact Zo _ _ _ | exact Zu _ _ _ _ | (refine le_if ?_ ?_) | (refine Zs ?_ fun _ => ?_) | (refine Zv ?_) | (refine Zr fun _ => ?_))
end Go.Proofs.YtapkemdomnkccaaGreat
