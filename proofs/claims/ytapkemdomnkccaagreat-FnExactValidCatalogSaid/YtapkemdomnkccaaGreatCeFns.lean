/- Printed by cgen.py: twins that the kernel computes. -/
import Derived.Test.YtapkemdomnkccaaGreatPuEv
import Derived.Test.YtapkemdomnkccaaGreatPuFns
namespace Go.Proofs.YtapkemdomnkccaaGreat
open Go Go.Vc
set_option linter.unusedVariables false
set_option linter.unusedSimpArgs false
set_option maxRecDepth 20000
noncomputable instance : Frc Zc where
  frc p k := Zc.rec (fun x0 x1 x2 => Frc.frc x0 fun x0 => Frc.frc x1 fun x1 => Frc.frc x2 fun x2 => k (.mk x0 x1 x2)) p
  ok p k := by cases p; show Frc.frc _ _ = _; simp only [Frc.ok]
noncomputable def Zda (F : Nat) (n0 : Int) (low1 : Int) (high2 : Int) : Option Bool :=
  bif lei (low1) (n0) then
    some (lei (n0) (high2))
  else
    some (false)
theorem Zji {F : Nat} (n0 : Int) (low1 : Int) (high2 : Int)  : Le (Zda F n0 low1 high2) (ZZ n0 low1 high2) := by
  unfold Zda ZZ
  try simp only [← cw_ok, ← Zq, ← Zs, ← Zl, ← Zm, ← Zk, ← Zp, GT.gt, GE.ge]
  repeat' (with_reducible first | exact Le.rfl | assumption | exact Zr _ _ _ | exact Zo _ _ _ _ | (refine le_if ?_ ?_) | (refine Zt ?_ fun _ => ?_) | (refine Zu ?_) | (refine Zn fun _ => ?_))
noncomputable def Zkg (F : Nat) (list0 : List Int) : Option (List Int) :=
  fbind (cApp 8 ([] : List Int) list0) fun l5 =>
  some (l5)
theorem ZsU {F : Nat} (list0 : List Int)  : Le (Zkg F list0) (ZaM list0) := by
  unfold Zkg ZaM
  try simp only [← cw_ok, ← Zq, ← Zs, ← Zl, ← Zm, ← Zk, ← Zp, GT.gt, GE.ge]
  repeat' (with_reducible first | exact Le.rfl | assumption | exact Zr _ _ _ | exact Zo _ _ _ _ | (refine le_if ?_ ?_) | (refine Zt ?_ fun _ => ?_) | (refine Zu ?_) | (refine Zn fun _ => ?_))
noncomputable def Zmk (F : Nat) (p4 : Int) : Int × Int → Option ((Int × Int) ⊕ ((Int) ⊕ (Int × Int)))
  | (k5, n6) =>
    bif lti (1) (n6) then
      fbind (cNz p4) fun _ =>
      bif !eqi (Int.tmod n6 p4) (0) then
        some (.inr (.inr ((0, 0))))
      else
        fbind (cNz p4) fun _ =>
        some (.inl (cw (k5 + 1), cw (Int.tdiv n6 p4)))
    else
      some (.inr (.inr ((p4, k5))))
theorem Zrr {F : Nat} (p4 : Int)  (s_ : _) : Le (Zmk F p4 s_) (ZhB p4 s_) := by
  obtain ⟨k5, n6⟩ := s_
  unfold Zmk ZhB
  try simp only [← cw_ok, ← Zq, ← Zs, ← Zl, ← Zm, ← Zk, ← Zp, GT.gt, GE.ge]
  repeat' (with_reducible first | exact Le.rfl | assumption | exact Zr _ _ _ | exact Zo _ _ _ _ | (refine le_if ?_ ?_) | (refine Zt ?_ fun _ => ?_) | (refine Zu ?_) | (refine Zn fun _ => ?_))
noncomputable def ZkB (F : Nat) (q0 : Int) : Int → Option ((Int) ⊕ (Int × Int))
  | p4 =>
    fbind (cNz p4) fun _ =>
    bif !eqi (Int.tmod q0 p4) (0) then
      some (.inl (cw (p4 + 1)))
    else
      lpF F (Zmk F p4) (0, q0)
theorem Zqm {F : Nat} (q0 : Int)  (s_ : _) : Le (ZkB F q0 s_) (Zhk q0 s_) := by
  unfold ZkB Zhk
  try simp only [← cw_ok, ← Zq, ← Zs, ← Zl, ← Zm, ← Zk, ← Zp, GT.gt, GE.ge]
  repeat' (with_reducible first | exact Le.rfl | assumption | exact Zrr _ _ | exact Zr _ _ _ | exact Zo _ _ _ _ | (refine le_if ?_ ?_) | (refine Zt ?_ fun _ => ?_) | (refine Zu ?_) | (refine Zn fun _ => ?_))
noncomputable def ZgV (F : Nat) (q0 : Int) : Option (Int × Int) :=
  fbind (Zda F q0 2 64) fun r8 =>
  bif !r8 then
    some ((0, 0))
  else
    lpF F (ZkB F q0) (2)
theorem Zh {F : Nat} (q0 : Int)  : Le (ZgV F q0) (Za0 q0) := by
  unfold ZgV Za0
  try simp only [← cw_ok, ← Zq, ← Zs, ← Zl, ← Zm, ← Zk, ← Zp, GT.gt, GE.ge]
  repeat' (with_reducible first | exact Le.rfl | assumption | exact Zji _ _ _ | exact Zqm _ _ | exact Zr _ _ _ | exact Zo _ _ _ _ | (refine le_if ?_ ?_) | (refine Zt ?_ fun _ => ?_) | (refine Zu ?_) | (refine Zn fun _ => ?_))
noncomputable def Zj3 (F : Nat) (p1 : Int) : Int × Int × List Int → Option ((Int × Int × List Int) ⊕ (List Int))
  | (a0_2, n2_2, out7) =>
    bif lti (0) (n2_2) then
      fbind (cNz p1) fun _ =>
      fbind (cApp 8 out7 [Int.tmod a0_2 p1]) fun l18 =>
      fbind (cNz p1) fun _ =>
      some (.inl (cw (Int.tdiv a0_2 p1), cw (n2_2 - 1), l18))
    else
      some (.inr (out7))
theorem Zqz {F : Nat} (p1 : Int)  (s_ : _) : Le (Zj3 F p1 s_) (ZbN p1 s_) := by
  obtain ⟨a0_2, n2_2, out7⟩ := s_
  unfold Zj3 ZbN
  try simp only [← cw_ok, ← Zq, ← Zs, ← Zl, ← Zm, ← Zk, ← Zp, GT.gt, GE.ge]
  repeat' (with_reducible first | exact Le.rfl | assumption | exact Zr _ _ _ | exact Zo _ _ _ _ | (refine le_if ?_ ?_) | (refine Zt ?_ fun _ => ?_) | (refine Zu ?_) | (refine Zn fun _ => ?_))
noncomputable def Zho (F : Nat) (a0 : Int) (p1 : Int) (n2 : Int) : Option (List Int) :=
  lpF F (Zj3 F p1) (a0, n2, ([] : List Int))
theorem Zn5 {F : Nat} (a0 : Int) (p1 : Int) (n2 : Int)  : Le (Zho F a0 p1 n2) (Zay a0 p1 n2) := by
  unfold Zho Zay
  try simp only [← cw_ok, ← Zq, ← Zs, ← Zl, ← Zm, ← Zk, ← Zp, GT.gt, GE.ge]
  repeat' (with_reducible first | exact Le.rfl | assumption | exact Zqz _ _ | exact Zr _ _ _ | exact Zo _ _ _ _ | (refine le_if ?_ ?_) | (refine Zt ?_ fun _ => ?_) | (refine Zu ?_) | (refine Zn fun _ => ?_))
noncomputable def Zj5 (F : Nat) (p0 : Int) : Int × Int → Option ((Int × Int) ⊕ (Int))
  | (k1_2, out5) =>
    bif lti (0) (k1_2) then
      some (.inl (cw (k1_2 - 1), cw (out5 * p0)))
    else
      some (.inr (out5))
theorem Zv6 {F : Nat} (p0 : Int)  (s_ : _) : Le (Zj5 F p0 s_) (Zhr p0 s_) := by
  obtain ⟨k1_2, out5⟩ := s_
  unfold Zj5 Zhr
  try simp only [← cw_ok, ← Zq, ← Zs, ← Zl, ← Zm, ← Zk, ← Zp, GT.gt, GE.ge]
  repeat' (with_reducible first | exact Le.rfl | assumption | exact Zr _ _ _ | exact Zo _ _ _ _ | (refine le_if ?_ ?_) | (refine Zt ?_ fun _ => ?_) | (refine Zu ?_) | (refine Zn fun _ => ?_))
noncomputable def ZfS (F : Nat) (p0 : Int) (k1 : Int) : Option Int :=
  lpF F (Zj5 F p0) (k1, 1)
theorem Zjy {F : Nat} (p0 : Int) (k1 : Int)  : Le (ZfS F p0 k1) (Zco p0 k1) := by
  unfold ZfS Zco
  try simp only [← cw_ok, ← Zq, ← Zs, ← Zl, ← Zm, ← Zk, ← Zp, GT.gt, GE.ge]
  repeat' (with_reducible first | exact Le.rfl | assumption | exact Zv6 _ _ | exact Zr _ _ _ | exact Zo _ _ _ _ | (refine le_if ?_ ?_) | (refine Zt ?_ fun _ => ?_) | (refine Zu ?_) | (refine Zn fun _ => ?_))
noncomputable def Zln (F : Nat) (y1 : List Int) (y2 : Int) (y9 : Int) (e28 : Int) : Int × List Int → Option ((Int × List Int) ⊕ ((Int × List Int) ⊕ (List Int)))
  | (y11, xs_2) =>
    bif lti (y11) ((y1.length : Int)) then
      fbind (cIdx xs_2 (cw ((cw ((cw (y9 - (y1.length : Int))) + 1)) + y11))) fun e45 =>
      fbind (cIdx y1 y11) fun e52 =>
      fbind (cNz y2) fun _ =>
      fbind (cIdx xs_2 (cw ((cw ((cw (y9 - (y1.length : Int))) + 1)) + y11))) fun e58 =>
      some (.inl (cw (y11 + 1), (xs_2.set (cw ((cw ((cw (y9 - (y1.length : Int))) + 1)) + y11) : Int).toNat (Int.tmod (cw (e45 + (cw ((cw (y2 - e28)) * e52)))) y2))))
    else
      some (.inr (.inl (cw (y9 - 1), xs_2)))
theorem Zul {F : Nat} (y1 : List Int) (y2 : Int) (y9 : Int) (e28 : Int)  (s_ : _) : Le (Zln F y1 y2 y9 e28 s_) (Zcp y1 y2 y9 e28 s_) := by
  obtain ⟨y11, xs_2⟩ := s_
  unfold Zln Zcp
  try simp only [← cw_ok, ← Zq, ← Zs, ← Zl, ← Zm, ← Zk, ← Zp, GT.gt, GE.ge]
  repeat' (with_reducible first | exact Le.rfl | assumption | exact Zr _ _ _ | exact Zo _ _ _ _ | (refine le_if ?_ ?_) | (refine Zt ?_ fun _ => ?_) | (refine Zu ?_) | (refine Zn fun _ => ?_))
noncomputable def ZkL (F : Nat) (y1 : List Int) : List Int → Option ((List Int) ⊕ ((Int × List Int) ⊕ (List Int)))
  | y7 =>
    bif lei ((y1.length : Int)) ((y7.length : Int)) then
      fbind (gSl y7 0 (cw ((y7.length : Int) - 1))) fun l67 =>
      some (.inl (l67))
    else
      some (.inr (.inr (y7)))
theorem ZpX {F : Nat} (y1 : List Int)  (s_ : _) : Le (ZkL F y1 s_) (Zbl y1 s_) := by
  unfold ZkL Zbl
  try simp only [← cw_ok, ← Zq, ← Zs, ← Zl, ← Zm, ← Zk, ← Zp, GT.gt, GE.ge]
  repeat' (with_reducible first | exact Le.rfl | assumption | exact Zr _ _ _ | exact Zo _ _ _ _ | (refine le_if ?_ ?_) | (refine Zt ?_ fun _ => ?_) | (refine Zu ?_) | (refine Zn fun _ => ?_))
noncomputable def Zlu (F : Nat) (y1 : List Int) (y2 : Int) : Int × List Int → Option ((Int × List Int) ⊕ (List Int))
  | (y9, xs) =>
    bif lei ((cw ((y1.length : Int) - 1))) (y9) then
      fbind (cIdx xs y9) fun e28 =>
      lpF F (Zln F y1 y2 y9 e28) (0, xs)
    else
      lpF F (ZkL F y1) (xs)
theorem Zse {F : Nat} (y1 : List Int) (y2 : Int)  (s_ : _) : Le (Zlu F y1 y2 s_) (ZaE y1 y2 s_) := by
  obtain ⟨y9, xs⟩ := s_
  unfold Zlu ZaE
  try simp only [← cw_ok, ← Zq, ← Zs, ← Zl, ← Zm, ← Zk, ← Zp, GT.gt, GE.ge]
  repeat' (with_reducible first | exact Le.rfl | assumption | exact Zul _ _ _ _ _ | exact ZpX _ _ | exact Zr _ _ _ | exact Zo _ _ _ _ | (refine le_if ?_ ?_) | (refine Zt ?_ fun _ => ?_) | (refine Zu ?_) | (refine Zn fun _ => ?_))
noncomputable def Zkv (F : Nat) (y0 : List Int) (y1 : List Int) (y2 : Int) : Option (List Int) :=
  fbind (Zkg F y0) fun r14 =>
  lpF F (Zlu F y1 y2) (cw ((r14.length : Int) - 1), r14)
theorem ZvT {F : Nat} (y0 : List Int) (y1 : List Int) (y2 : Int)  : Le (Zkv F y0 y1 y2) (ZbH y0 y1 y2) := by
  unfold Zkv ZbH
  try simp only [← cw_ok, ← Zq, ← Zs, ← Zl, ← Zm, ← Zk, ← Zp, GT.gt, GE.ge]
  repeat' (with_reducible first | exact Le.rfl | assumption | exact ZsU _ | exact Zse _ _ _ | exact Zr _ _ _ | exact Zo _ _ _ _ | (refine le_if ?_ ?_) | (refine Zt ?_ fun _ => ?_) | (refine Zu ?_) | (refine Zn fun _ => ?_))
noncomputable def Zmt (F : Nat) (list0 : List Int) (p1 : Int) : Int × Int → Option ((Int × Int) ⊕ (Int))
  | (out5, i6) =>
    bif lei (0) (i6) then
      fbind (cIdx list0 i6) fun e19 =>
      some (.inl (cw ((cw (out5 * p1)) + e19), cw (i6 - 1)))
    else
      some (.inr (out5))
theorem ZrD {F : Nat} (list0 : List Int) (p1 : Int)  (s_ : _) : Le (Zmt F list0 p1 s_) (Zch list0 p1 s_) := by
  obtain ⟨out5, i6⟩ := s_
  unfold Zmt Zch
  try simp only [← cw_ok, ← Zq, ← Zs, ← Zl, ← Zm, ← Zk, ← Zp, GT.gt, GE.ge]
  repeat' (with_reducible first | exact Le.rfl | assumption | exact Zr _ _ _ | exact Zo _ _ _ _ | (refine le_if ?_ ?_) | (refine Zt ?_ fun _ => ?_) | (refine Zu ?_) | (refine Zn fun _ => ?_))
noncomputable def ZiK (F : Nat) (list0 : List Int) (p1 : Int) : Option Int :=
  lpF F (Zmt F list0 p1) (0, cw ((list0.length : Int) - 1))
theorem Zrq {F : Nat} (list0 : List Int) (p1 : Int)  : Le (ZiK F list0 p1) (ZaB list0 p1) := by
  unfold ZiK ZaB
  try simp only [← cw_ok, ← Zq, ← Zs, ← Zl, ← Zm, ← Zk, ← Zp, GT.gt, GE.ge]
  repeat' (with_reducible first | exact Le.rfl | assumption | exact ZrD _ _ _ | exact Zr _ _ _ | exact Zo _ _ _ _ | (refine le_if ?_ ?_) | (refine Zt ?_ fun _ => ?_) | (refine Zu ?_) | (refine Zn fun _ => ?_))
noncomputable def ZjU (F : Nat) (poly0 : List Int) (p1 : Int) (d6 : Int) : Int → Option ((Int) ⊕ ((Int) ⊕ (Bool)))
  | n7 =>
    fbind (ZfS F p1 d6) fun r22 =>
    bif lti (n7) (r22) then
      fbind (Zho F n7 p1 d6) fun r29 =>
      fbind (cApp 8 r29 [1]) fun l31 =>
      fbind (Zkv F poly0 l31 p1) fun r35 =>
      fbind (ZiK F r35 p1) fun r38 =>
      bif eqi (r38) (0) then
        some (.inr (.inr (false)))
      else
        some (.inl (cw (n7 + 1)))
    else
      some (.inr (.inl (cw (d6 + 1))))
theorem Zxd {F : Nat} (poly0 : List Int) (p1 : Int) (d6 : Int)  (s_ : _) : Le (ZjU F poly0 p1 d6 s_) (ZhJ poly0 p1 d6 s_) := by
  unfold ZjU ZhJ
  try simp only [← cw_ok, ← Zq, ← Zs, ← Zl, ← Zm, ← Zk, ← Zp, GT.gt, GE.ge]
  repeat' (with_reducible first | exact Le.rfl | assumption | exact Zjy _ _ | exact Zn5 _ _ _ | exact ZvT _ _ _ | exact Zrq _ _ | exact Zr _ _ _ | exact Zo _ _ _ _ | (refine le_if ?_ ?_) | (refine Zt ?_ fun _ => ?_) | (refine Zu ?_) | (refine Zn fun _ => ?_))
noncomputable def Zk0 (F : Nat) (poly0 : List Int) (p1 : Int) : Int → Option ((Int) ⊕ (Bool))
  | d6 =>
    bif lei (cw (2 * d6)) ((cw ((poly0.length : Int) - 1))) then
      lpF F (ZjU F poly0 p1 d6) (0)
    else
      some (.inr (true))
theorem ZwP {F : Nat} (poly0 : List Int) (p1 : Int)  (s_ : _) : Le (Zk0 F poly0 p1 s_) (ZhG poly0 p1 s_) := by
  unfold Zk0 ZhG
  try simp only [← cw_ok, ← Zq, ← Zs, ← Zl, ← Zm, ← Zk, ← Zp, GT.gt, GE.ge]
  repeat' (with_reducible first | exact Le.rfl | assumption | exact Zxd _ _ _ _ | exact Zr _ _ _ | exact Zo _ _ _ _ | (refine le_if ?_ ?_) | (refine Zt ?_ fun _ => ?_) | (refine Zu ?_) | (refine Zn fun _ => ?_))
noncomputable def Zht (F : Nat) (poly0 : List Int) (p1 : Int) : Option Bool :=
  lpF F (Zk0 F poly0 p1) (1)
theorem ZmY {F : Nat} (poly0 : List Int) (p1 : Int)  : Le (Zht F poly0 p1) (Zd2 poly0 p1) := by
  unfold Zht Zd2
  try simp only [← cw_ok, ← Zq, ← Zs, ← Zl, ← Zm, ← Zk, ← Zp, GT.gt, GE.ge]
  repeat' (with_reducible first | exact Le.rfl | assumption | exact ZwP _ _ _ | exact Zr _ _ _ | exact Zo _ _ _ _ | (refine le_if ?_ ?_) | (refine Zt ?_ fun _ => ?_) | (refine Zu ?_) | (refine Zn fun _ => ?_))
noncomputable def ZiO (F : Nat) (r9 : Int × Int) : Int → Option ((Int) ⊕ (Zc))
  | n5 =>
    fbind (Zho F n5 r9.1 r9.2) fun r17 =>
    fbind (cApp 8 r17 [1]) fun l19 =>
    fbind (Zht F l19 r9.1) fun r22 =>
    bif r22 then
      some (.inr ((Zc.mk r9.1 r9.2 l19)))
    else
      some (.inl (cw (n5 + 1)))
theorem Ztx {F : Nat} (r9 : Int × Int)  (s_ : _) : Le (ZiO F r9 s_) (Zhn r9 s_) := by
  unfold ZiO Zhn
  try simp only [← cw_ok, ← Zq, ← Zs, ← Zl, ← Zm, ← Zk, ← Zp, GT.gt, GE.ge]
  repeat' (with_reducible first | exact Le.rfl | assumption | exact Zn5 _ _ _ | exact ZmY _ _ | exact Zr _ _ _ | exact Zo _ _ _ _ | (refine le_if ?_ ?_) | (refine Zt ?_ fun _ => ?_) | (refine Zu ?_) | (refine Zn fun _ => ?_))
noncomputable def Zop (F : Nat) (q0 : Int) : Option Zc :=
  fbind (ZgV F q0) fun r9 =>
  lpF F (ZiO F r9) (0)
theorem ZQ {F : Nat} (q0 : Int)  : Le (Zop F q0) (Zdb q0) := by
  unfold Zop Zdb
  try simp only [← cw_ok, ← Zq, ← Zs, ← Zl, ← Zm, ← Zk, ← Zp, GT.gt, GE.ge]
  repeat' (with_reducible first | exact Le.rfl | assumption | exact Zh _ | exact Ztx _ _ | exact Zr _ _ _ | exact Zo _ _ _ _ | (refine le_if ?_ ?_) | (refine Zt ?_ fun _ => ?_) | (refine Zu ?_) | (refine Zn fun _ => ?_))
noncomputable def ZiF (F : Nat) (y0 : Zc) (r58 : Int × Int) : Int → Option ((Int) ⊕ (Bool))
  | y6 =>
    bif lti (y6) ((y0.Poly.length : Int)) then
      fbind (cIdx y0.Poly y6) fun e81 =>
      fbind (Zda F e81 0 (cw (r58.1 - 1))) fun r85 =>
      bif !r85 then
        some (.inr (false))
      else
        some (.inl (cw (y6 + 1)))
    else
      fbind (Zht F y0.Poly r58.1) fun r92 =>
      some (.inr (r92))
theorem Zqh {F : Nat} (y0 : Zc) (r58 : Int × Int)  (s_ : _) : Le (ZiF F y0 r58 s_) (Zh5 y0 r58 s_) := by
  unfold ZiF Zh5
  try simp only [← cw_ok, ← Zq, ← Zs, ← Zl, ← Zm, ← Zk, ← Zp, GT.gt, GE.ge]
  repeat' (with_reducible first | exact Le.rfl | assumption | exact Zji _ _ _ | exact ZmY _ _ | exact Zr _ _ _ | exact Zo _ _ _ _ | (refine le_if ?_ ?_) | (refine Zt ?_ fun _ => ?_) | (refine Zu ?_) | (refine Zn fun _ => ?_))
noncomputable def ZkF (F : Nat) (y0 : Zc) : Option (Bool) :=
  fbind (ZfS F y0.Prime y0.Degree) fun r55 =>
  fbind (ZgV F r55) fun r58 =>
  bif !eqi (r58.1) (y0.Prime) then
    some (false)
  else
    lpF F (ZiF F y0 r58) (0)
theorem Zrx {F : Nat} (y0 : Zc)  : Le (ZkF F y0) (ZeX y0) := by
  unfold ZkF ZeX
  try simp only [← cw_ok, ← Zq, ← Zs, ← Zl, ← Zm, ← Zk, ← Zp, GT.gt, GE.ge]
  repeat' (with_reducible first | exact Le.rfl | assumption | exact Zjy _ _ | exact Zh _ | exact Zqh _ _ _ | exact Zr _ _ _ | exact Zo _ _ _ _ | (refine le_if ?_ ?_) | (refine Zt ?_ fun _ => ?_) | (refine Zu ?_) | (refine Zn fun _ => ?_))
noncomputable def ZoG (F : Nat) (y0 : Zc) : Option Bool :=
  fbind (Zda F y0.Prime 2 64) fun r11 =>
  bif !r11 then
    some (false)
  else
    fbind (Zda F y0.Degree 1 6) fun r18 =>
    bif !r18 then
      some (false)
    else
      bif !eqi ((y0.Poly.length : Int)) ((cw (y0.Degree + 1))) then
        some (false)
      else
        fbind (cIdx y0.Poly y0.Degree) fun e43 =>
        bif !eqi (e43) (1) then
          some (false)
        else
          ZkF F y0
theorem ZR {F : Nat} (y0 : Zc)  : Le (ZoG F y0) (ZdN y0) := by
  unfold ZoG ZdN
  try simp only [← cw_ok, ← Zq, ← Zs, ← Zl, ← Zm, ← Zk, ← Zp, GT.gt, GE.ge]
  repeat' (with_reducible first | exact Le.rfl | assumption | exact Zji _ _ _ | exact Zrx _ | exact Zr _ _ _ | exact Zo _ _ _ _ | (refine le_if ?_ ?_) | (refine Zt ?_ fun _ => ?_) | (refine Zu ?_) | (refine Zn fun _ => ?_))
noncomputable def Zo7 (F : Nat) (f0 : Zc) : Option Int :=
  fbind (ZfS F f0.Prime f0.Degree) fun r11 =>
  some (r11)
theorem ZP {F : Nat} (f0 : Zc)  : Le (Zo7 F f0) (ZbL f0) := by
  unfold Zo7 ZbL
  try simp only [← cw_ok, ← Zq, ← Zs, ← Zl, ← Zm, ← Zk, ← Zp, GT.gt, GE.ge]
  repeat' (with_reducible first | exact Le.rfl | assumption | exact Zjy _ _ | exact Zr _ _ _ | exact Zo _ _ _ _ | (refine le_if ?_ ?_) | (refine Zt ?_ fun _ => ?_) | (refine Zu ?_) | (refine Zn fun _ => ?_))
noncomputable def Zh9 (F : Nat) (n0 : Int) (low1 : Int) (high2 : Int) : Option Bool :=
  bif lei (low1) (n0) then
    some (lei (n0) (high2))
  else
    some (false)
theorem ZnM {F : Nat} (n0 : Int) (low1 : Int) (high2 : Int)  : Le (Zh9 F n0 low1 high2) (Z0 n0 low1 high2) := by
  unfold Zh9 Z0
  try simp only [← cw_ok, ← Zq, ← Zs, ← Zl, ← Zm, ← Zk, ← Zp, GT.gt, GE.ge]
  repeat' (with_reducible first | exact Le.rfl | assumption | exact Zr _ _ _ | exact Zo _ _ _ _ | (refine le_if ?_ ?_) | (refine Zt ?_ fun _ => ?_) | (refine Zu ?_) | (refine Zn fun _ => ?_))
noncomputable def Zfy (F : Nat) (list0 : List Int) : Option Int :=
  some ((list0.length : Int))
theorem Zjq {F : Nat} (list0 : List Int)  : Le (Zfy F list0) (ZI list0) := by
  unfold Zfy ZI
  try simp only [← cw_ok, ← Zq, ← Zs, ← Zl, ← Zm, ← Zk, ← Zp, GT.gt, GE.ge]
  repeat' (with_reducible first | exact Le.rfl | assumption | exact Zr _ _ _ | exact Zo _ _ _ _ | (refine le_if ?_ ?_) | (refine Zt ?_ fun _ => ?_) | (refine Zu ?_) | (refine Zn fun _ => ?_))
noncomputable def Zi4 (F : Nat) (a0 : List Int) : Option (List Int) := cApp 8 [] a0
theorem Zwo {F : Nat} (a0 : List Int)  : Le (Zi4 F a0) (Zbt a0) := by
  unfold Zi4 Zbt
  try simp only [← cw_ok, ← Zq, ← Zs, ← Zl, ← Zm, ← Zk, ← Zp, GT.gt, GE.ge]
  repeat' (with_reducible first | exact Le.rfl | assumption | exact Zr _ _ _ | exact Zo _ _ _ _ | (refine le_if ?_ ?_) | (refine Zt ?_ fun _ => ?_) | (refine Zu ?_) | (refine Zn fun _ => ?_))
noncomputable def ZiP (F : Nat) (s0 : List Int) (fn1 : Int → Option Bool) : Int → Option ((Int) ⊕ (Int))
  | y8 =>
    bif lti (y8) ((s0.length : Int)) then
      fbind (cIdx s0 y8) fun e14 =>
      fbind (fn1 e14) fun r16 =>
      bif r16 then
        some (.inr (y8))
      else
        some (.inl (cw (y8 + 1)))
    else
      some (.inr ((-1)))
theorem ZrP {F : Nat} (s0 : List Int) (fn1 : Int → Option Bool) (fn1' : Int → Option Bool) (hfn1 : ∀ u0, Le (fn1 u0) (fn1' u0)) (s_ : _) : Le (ZiP F s0 fn1 s_) (ZcC s0 fn1' s_) := by
  unfold ZiP ZcC
  try simp only [← cw_ok, ← Zq, ← Zs, ← Zl, ← Zm, ← Zk, ← Zp, GT.gt, GE.ge]
  repeat' (with_reducible first | exact Le.rfl | assumption | exact Zr _ _ _ | exact Zo _ _ _ _ | (refine le_if ?_ ?_) | (refine Zt ?_ fun _ => ?_) | (refine Zu ?_) | (refine Zn fun _ => ?_))
  all_goals (first | exact hfn1 _ | skip)
noncomputable def Zl1 (F : Nat) (s0 : List Int) (fn1 : Int → Option Bool) : Option Int :=
  lpF F (ZiP F s0 fn1) (0)
theorem ZsL {F : Nat} (s0 : List Int) (fn1 : Int → Option Bool) (fn1' : Int → Option Bool) (hfn1 : ∀ u0, Le (fn1 u0) (fn1' u0)) : Le (Zl1 F s0 fn1) (Ze6 s0 fn1') := by
  unfold Zl1 Ze6
  try simp only [← cw_ok, ← Zq, ← Zs, ← Zl, ← Zm, ← Zk, ← Zp, GT.gt, GE.ge]
  repeat' (with_reducible first | exact Le.rfl | assumption | (refine ZrP _ _ _ ?_ _; intros) | exact Zr _ _ _ | exact Zo _ _ _ _ | (refine le_if ?_ ?_) | (refine Zt ?_ fun _ => ?_) | (refine Zu ?_) | (refine Zn fun _ => ?_))
  all_goals (first | exact hfn1 _ | skip)
noncomputable def Zmz (F : Nat) (s0 : List Int) (fn1 : Int → Option Bool) : Option Bool :=
  fbind (Zl1 F s0 fn1) fun r7 =>
  some (lei (0) (r7))
theorem ZqG {F : Nat} (s0 : List Int) (fn1 : Int → Option Bool) (fn1' : Int → Option Bool) (hfn1 : ∀ u0, Le (fn1 u0) (fn1' u0)) : Le (Zmz F s0 fn1) (Zaq s0 fn1') := by
  unfold Zmz Zaq
  try simp only [← cw_ok, ← Zq, ← Zs, ← Zl, ← Zm, ← Zk, ← Zp, GT.gt, GE.ge]
  repeat' (with_reducible first | exact Le.rfl | assumption | (refine ZsL _ _ _ ?_; intros) | exact Zr _ _ _ | exact Zo _ _ _ _ | (refine le_if ?_ ?_) | (refine Zt ?_ fun _ => ?_) | (refine Zu ?_) | (refine Zn fun _ => ?_))
  all_goals (first | exact hfn1 _ | skip)
noncomputable def Zml (F : Nat) (base0 : Int) (e1_2 : Int) (power7 : Int) : Option ((Int × Int) ⊕ (Int)) :=
  some (.inl (cw (e1_2 - 1), cw (power7 * base0)))
theorem ZxP {F : Nat} (base0 : Int) (e1_2 : Int) (power7 : Int)  : Le (Zml F base0 e1_2 power7) (ZdH base0 e1_2 power7) := by
  unfold Zml ZdH
  try simp only [← cw_ok, ← Zq, ← Zs, ← Zl, ← Zm, ← Zk, ← Zp, GT.gt, GE.ge]
  repeat' (with_reducible first | exact Le.rfl | assumption | exact Zr _ _ _ | exact Zo _ _ _ _ | (refine le_if ?_ ?_) | (refine Zt ?_ fun _ => ?_) | (refine Zu ?_) | (refine Zn fun _ => ?_))
noncomputable def Zli (F : Nat) (base0 : Int) (limit2 : Int) : Int × Int → Option ((Int × Int) ⊕ (Int))
  | (e1_2, power7) =>
    bif lti (0) (e1_2) then
      bif lei (power7) (limit2) then
        Zml F base0 e1_2 power7
      else
        some (.inr (power7))
    else
      some (.inr (power7))
theorem Zqn {F : Nat} (base0 : Int) (limit2 : Int)  (s_ : _) : Le (Zli F base0 limit2 s_) (ZaH base0 limit2 s_) := by
  obtain ⟨e1_2, power7⟩ := s_
  unfold Zli ZaH
  try simp only [← cw_ok, ← Zq, ← Zs, ← Zl, ← Zm, ← Zk, ← Zp, GT.gt, GE.ge]
  repeat' (with_reducible first | exact Le.rfl | assumption | exact ZxP _ _ _ | exact Zr _ _ _ | exact Zo _ _ _ _ | (refine le_if ?_ ?_) | (refine Zt ?_ fun _ => ?_) | (refine Zu ?_) | (refine Zn fun _ => ?_))
noncomputable def Zfc (F : Nat) (base0 : Int) (e1 : Int) (limit2 : Int) : Option Int :=
  lpF F (Zli F base0 limit2) (e1, 1)
theorem Zl2 {F : Nat} (base0 : Int) (e1 : Int) (limit2 : Int)  : Le (Zfc F base0 e1 limit2) (Zbk base0 e1 limit2) := by
  unfold Zfc Zbk
  try simp only [← cw_ok, ← Zq, ← Zs, ← Zl, ← Zm, ← Zk, ← Zp, GT.gt, GE.ge]
  repeat' (with_reducible first | exact Le.rfl | assumption | exact Zqn _ _ _ | exact Zr _ _ _ | exact Zo _ _ _ _ | (refine le_if ?_ ?_) | (refine Zt ?_ fun _ => ?_) | (refine Zu ?_) | (refine Zn fun _ => ?_))
noncomputable def ZoB (F : Nat) (f0 : Zc) : Option Int :=
  fbind (Zfc F f0.Prime f0.Degree 64) fun r7 =>
  some (r7)
theorem ZO {F : Nat} (f0 : Zc)  : Le (ZoB F f0) (ZbC f0) := by
  unfold ZoB ZbC
  try simp only [← cw_ok, ← Zq, ← Zs, ← Zl, ← Zm, ← Zk, ← Zp, GT.gt, GE.ge]
  repeat' (with_reducible first | exact Le.rfl | assumption | exact Zl2 _ _ _ | exact Zr _ _ _ | exact Zo _ _ _ _ | (refine le_if ?_ ?_) | (refine Zt ?_ fun _ => ?_) | (refine Zu ?_) | (refine Zn fun _ => ?_))
noncomputable def Zmc (F : Nat) (base1 : Int) (l10 : List Int) : Int × Int × List Int → Option ((Int × Int × List Int) ⊕ (List Int))
  | (n0_2, y13, xs) =>
    bif lti (y13) ((l10.length : Int)) then
      fbind (cNz base1) fun _ =>
      fbind (cIdx xs y13) fun e21 =>
      fbind (cNz base1) fun _ =>
      some (.inl (cw (Int.tdiv n0_2 base1), cw (y13 + 1), (xs.set (y13 : Int).toNat (Int.tmod n0_2 base1))))
    else
      some (.inr (xs))
theorem ZqO {F : Nat} (base1 : Int) (l10 : List Int)  (s_ : _) : Le (Zmc F base1 l10 s_) (Zbp base1 l10 s_) := by
  obtain ⟨n0_2, y13, xs⟩ := s_
  unfold Zmc Zbp
  try simp only [← cw_ok, ← Zq, ← Zs, ← Zl, ← Zm, ← Zk, ← Zp, GT.gt, GE.ge]
  repeat' (with_reducible first | exact Le.rfl | assumption | exact Zr _ _ _ | exact Zo _ _ _ _ | (refine le_if ?_ ?_) | (refine Zt ?_ fun _ => ?_) | (refine Zu ?_) | (refine Zn fun _ => ?_))
noncomputable def Ze1 (F : Nat) (n0 : Int) (base1 : Int) (count2 : Int) : Option (List Int) :=
  fbind (cMake 8 (0 : Int) count2 count2) fun l10 =>
  lpF F (Zmc F base1 l10) (n0, 0, l10)
theorem ZoZ {F : Nat} (n0 : Int) (base1 : Int) (count2 : Int)  : Le (Ze1 F n0 base1 count2) (Zas n0 base1 count2) := by
  unfold Ze1 Zas
  try simp only [← cw_ok, ← Zq, ← Zs, ← Zl, ← Zm, ← Zk, ← Zp, GT.gt, GE.ge]
  repeat' (with_reducible first | exact Le.rfl | assumption | exact ZqO _ _ _ | exact Zr _ _ _ | exact Zo _ _ _ _ | (refine le_if ?_ ?_) | (refine Zt ?_ fun _ => ?_) | (refine Zu ?_) | (refine Zn fun _ => ?_))
noncomputable def Zjo (F : Nat) (y1 : List Int) (y2 : Int) (y9 : Int) (e29 : Int) : Int × List Int → Option ((Int × List Int) ⊕ ((Int × List Int) ⊕ (List Int)))
  | (y33, xs_2) =>
    bif lti (y33) ((y1.length : Int)) then
      fbind (cIdx y1 y33) fun e36 =>
      fbind (cIdx xs_2 (cw ((cw (y9 - (cw ((y1.length : Int) - 1)))) + y33))) fun e47 =>
      fbind (cNz y2) fun _ =>
      fbind (cNz y2) fun _ =>
      fbind (cIdx xs_2 (cw ((cw (y9 - (cw ((y1.length : Int) - 1)))) + y33))) fun e59 =>
      some (.inl (cw (y33 + 1), (xs_2.set (cw ((cw (y9 - (cw ((y1.length : Int) - 1)))) + y33) : Int).toNat (Int.tmod (cw ((Int.tmod (cw (e47 - (cw (e29 * e36)))) y2) + y2)) y2))))
    else
      some (.inr (.inl (cw (y9 - 1), xs_2)))
theorem Zwu {F : Nat} (y1 : List Int) (y2 : Int) (y9 : Int) (e29 : Int)  (s_ : _) : Le (Zjo F y1 y2 y9 e29 s_) (ZcK y1 y2 y9 e29 s_) := by
  obtain ⟨y33, xs_2⟩ := s_
  unfold Zjo ZcK
  try simp only [← cw_ok, ← Zq, ← Zs, ← Zl, ← Zm, ← Zk, ← Zp, GT.gt, GE.ge]
  repeat' (with_reducible first | exact Le.rfl | assumption | exact Zr _ _ _ | exact Zo _ _ _ _ | (refine le_if ?_ ?_) | (refine Zt ?_ fun _ => ?_) | (refine Zu ?_) | (refine Zn fun _ => ?_))
noncomputable def Zmj (F : Nat) (y1 : List Int) (y2 : Int) : Int × List Int → Option ((Int × List Int) ⊕ (List Int))
  | (y9, xs) =>
    bif lei ((cw ((y1.length : Int) - 1))) (y9) then
      fbind (cIdx xs y9) fun e29 =>
      lpF F (Zjo F y1 y2 y9 e29) (0, xs)
    else
      fbind (gSl xs 0 (if ((xs.length : Int) : Int) < (cw ((y1.length : Int) - 1)) then (xs.length : Int) else cw ((y1.length : Int) - 1))) fun l66 =>
      some (.inr (l66))
theorem ZvN {F : Nat} (y1 : List Int) (y2 : Int)  (s_ : _) : Le (Zmj F y1 y2 s_) (ZaL y1 y2 s_) := by
  obtain ⟨y9, xs⟩ := s_
  unfold Zmj ZaL
  try simp only [← cw_ok, ← Zq, ← Zs, ← Zl, ← Zm, ← Zk, ← Zp, GT.gt, GE.ge]
  repeat' (with_reducible first | exact Le.rfl | assumption | exact Zwu _ _ _ _ _ | exact Zr _ _ _ | exact Zo _ _ _ _ | (refine le_if ?_ ?_) | (refine Zt ?_ fun _ => ?_) | (refine Zu ?_) | (refine Zn fun _ => ?_))
noncomputable def Zk3 (F : Nat) (y0 : List Int) (y1 : List Int) (y2 : Int) : Option (List Int) :=
  fbind (Zi4 F y0) fun r15 =>
  lpF F (Zmj F y1 y2) (cw ((r15.length : Int) - 1), r15)
theorem Zr6 {F : Nat} (y0 : List Int) (y1 : List Int) (y2 : Int)  : Le (Zk3 F y0 y1 y2) (ZbS y0 y1 y2) := by
  unfold Zk3 ZbS
  try simp only [← cw_ok, ← Zq, ← Zs, ← Zl, ← Zm, ← Zk, ← Zp, GT.gt, GE.ge]
  repeat' (with_reducible first | exact Le.rfl | assumption | exact Zwo _ | exact ZvN _ _ _ | exact Zr _ _ _ | exact Zo _ _ _ _ | (refine le_if ?_ ?_) | (refine Zt ?_ fun _ => ?_) | (refine Zu ?_) | (refine Zn fun _ => ?_))
noncomputable def ZkN (F : Nat) (x0 : Int) : Option Bool :=
  some (!eqi (x0) (0))
theorem ZrF {F : Nat} (x0 : Int)  : Le (ZkN F x0) (Zfi x0) := by
  unfold ZkN Zfi
  try simp only [← cw_ok, ← Zq, ← Zs, ← Zl, ← Zm, ← Zk, ← Zp, GT.gt, GE.ge]
  repeat' (with_reducible first | exact Le.rfl | assumption | exact Zr _ _ _ | exact Zo _ _ _ _ | (refine le_if ?_ ?_) | (refine Zt ?_ fun _ => ?_) | (refine Zu ?_) | (refine Zn fun _ => ?_))
noncomputable def Zkc (F : Nat) (list0 : List Int) : Option Bool :=
  fbind (Zmz F list0 (fun y0 => ZkN F y0)) fun r4 =>
  some (!r4)
theorem ZtW {F : Nat} (list0 : List Int)  : Le (Zkc F list0) (ZeR list0) := by
  unfold Zkc ZeR
  try simp only [← cw_ok, ← Zq, ← Zs, ← Zl, ← Zm, ← Zk, ← Zp, GT.gt, GE.ge]
  repeat' (with_reducible first | exact Le.rfl | assumption | (refine ZqG _ _ _ ?_; intros) | exact ZrF _ | exact Zr _ _ _ | exact Zo _ _ _ _ | (refine le_if ?_ ?_) | (refine Zt ?_ fun _ => ?_) | (refine Zu ?_) | (refine Zn fun _ => ?_))
noncomputable def Zld (F : Nat) (poly0 : List Int) (p1 : Int) (d6 : Int) : Int → Option ((Int) ⊕ ((Int) ⊕ (Bool)))
  | n7 =>
    fbind (Zfc F p1 d6 64) fun r20 =>
    bif lti (n7) (r20) then
      fbind (Ze1 F n7 p1 d6) fun r28 =>
      fbind (cApp 8 r28 [1]) fun l30 =>
      fbind (Zk3 F poly0 l30 p1) fun r32 =>
      fbind (Zkc F r32) fun r33 =>
      bif r33 then
        some (.inr (.inr (false)))
      else
        some (.inl (cw (n7 + 1)))
    else
      some (.inr (.inl (cw (d6 + 1))))
theorem Zu4 {F : Nat} (poly0 : List Int) (p1 : Int) (d6 : Int)  (s_ : _) : Le (Zld F poly0 p1 d6 s_) (Zhh poly0 p1 d6 s_) := by
  unfold Zld Zhh
  try simp only [← cw_ok, ← Zq, ← Zs, ← Zl, ← Zm, ← Zk, ← Zp, GT.gt, GE.ge]
  repeat' (with_reducible first | exact Le.rfl | assumption | exact Zl2 _ _ _ | exact ZoZ _ _ _ | exact Zr6 _ _ _ | exact ZtW _ | exact Zr _ _ _ | exact Zo _ _ _ _ | (refine le_if ?_ ?_) | (refine Zt ?_ fun _ => ?_) | (refine Zu ?_) | (refine Zn fun _ => ?_))
noncomputable def Zje (F : Nat) (poly0 : List Int) (p1 : Int) (r9 : Int) : Int → Option ((Int) ⊕ (Bool))
  | d6 =>
    bif lei (cw (2 * d6)) ((cw (r9 - 1))) then
      lpF F (Zld F poly0 p1 d6) (0)
    else
      some (.inr (true))
theorem Zrk {F : Nat} (poly0 : List Int) (p1 : Int) (r9 : Int)  (s_ : _) : Le (Zje F poly0 p1 r9 s_) (Zhl poly0 p1 r9 s_) := by
  unfold Zje Zhl
  try simp only [← cw_ok, ← Zq, ← Zs, ← Zl, ← Zm, ← Zk, ← Zp, GT.gt, GE.ge]
  repeat' (with_reducible first | exact Le.rfl | assumption | exact Zu4 _ _ _ _ | exact Zr _ _ _ | exact Zo _ _ _ _ | (refine le_if ?_ ?_) | (refine Zt ?_ fun _ => ?_) | (refine Zu ?_) | (refine Zn fun _ => ?_))
noncomputable def Zip (F : Nat) (poly0 : List Int) (p1 : Int) : Option Bool :=
  fbind (Zfy F poly0) fun r9 =>
  lpF F (Zje F poly0 p1 r9) (1)
theorem ZnH {F : Nat} (poly0 : List Int) (p1 : Int)  : Le (Zip F poly0 p1) (Zeq poly0 p1) := by
  unfold Zip Zeq
  try simp only [← cw_ok, ← Zq, ← Zs, ← Zl, ← Zm, ← Zk, ← Zp, GT.gt, GE.ge]
  repeat' (with_reducible first | exact Le.rfl | assumption | exact Zjq _ | exact Zrk _ _ _ _ | exact Zr _ _ _ | exact Zo _ _ _ _ | (refine le_if ?_ ?_) | (refine Zt ?_ fun _ => ?_) | (refine Zu ?_) | (refine Zn fun _ => ?_))
noncomputable def Ziw (F : Nat) (p4 : Int) : Int × List Int → Option ((Int × List Int) ⊕ ((Int × List Int × Int) ⊕ (List Int)))
  | (n0_3, factor3_2) =>
    fbind (cNz p4) fun _ =>
    bif eqi (Int.tmod n0_3 p4) (0) then
      fbind (cApp 8 factor3_2 [p4]) fun l22 =>
      fbind (cNz p4) fun _ =>
      some (.inl (cw (Int.tdiv n0_3 p4), l22))
    else
      some (.inr (.inl (n0_3, factor3_2, cw (p4 + 1))))
theorem ZuK {F : Nat} (p4 : Int)  (s_ : _) : Le (Ziw F p4 s_) (Zb5 p4 s_) := by
  obtain ⟨n0_3, factor3_2⟩ := s_
  unfold Ziw Zb5
  try simp only [← cw_ok, ← Zq, ← Zs, ← Zl, ← Zm, ← Zk, ← Zp, GT.gt, GE.ge]
  repeat' (with_reducible first | exact Le.rfl | assumption | exact Zr _ _ _ | exact Zo _ _ _ _ | (refine le_if ?_ ?_) | (refine Zt ?_ fun _ => ?_) | (refine Zu ?_) | (refine Zn fun _ => ?_))
noncomputable def Zmp (F : Nat) : Int × List Int × Int → Option ((Int × List Int × Int) ⊕ (List Int))
  | (n0_2, factor3, p4) =>
    bif lei (cw (p4 * p4)) (n0_2) then
      lpF F (Ziw F p4) (n0_2, factor3)
    else
      bif lti (1) (n0_2) then
        fbind (cApp 8 factor3 [n0_2]) fun l31 =>
        some (.inr (l31))
      else
        some (.inr (factor3))
theorem ZqH {F : Nat}   (s_ : _) : Le (Zmp F  s_) (ZaN  s_) := by
  obtain ⟨n0_2, factor3, p4⟩ := s_
  unfold Zmp ZaN
  try simp only [← cw_ok, ← Zq, ← Zs, ← Zl, ← Zm, ← Zk, ← Zp, GT.gt, GE.ge]
  repeat' (with_reducible first | exact Le.rfl | assumption | exact ZuK _ _ | exact Zr _ _ _ | exact Zo _ _ _ _ | (refine le_if ?_ ?_) | (refine Zt ?_ fun _ => ?_) | (refine Zu ?_) | (refine Zn fun _ => ?_))
noncomputable def ZgQ (F : Nat) (n0 : Int) : Option (List Int) :=
  fbind (Zh9 F n0 1 1000000) fun r6 =>
  bif !r6 then
    some (([] : List Int))
  else
    lpF F (Zmp F) (n0, ([] : List Int), 2)
theorem Znf {F : Nat} (n0 : Int)  : Le (ZgQ F n0) (Zbq n0) := by
  unfold ZgQ Zbq
  try simp only [← cw_ok, ← Zq, ← Zs, ← Zl, ← Zm, ← Zk, ← Zp, GT.gt, GE.ge]
  repeat' (with_reducible first | exact Le.rfl | assumption | exact ZnM _ _ _ | exact ZqH  _ | exact Zr _ _ _ | exact Zo _ _ _ _ | (refine le_if ?_ ?_) | (refine Zt ?_ fun _ => ?_) | (refine Zu ?_) | (refine Zn fun _ => ?_))
noncomputable def Zlw (F : Nat) (n0 : Int) : Option Bool :=
  fbind (ZgQ F n0) fun r4 =>
  some (eqi ((r4.length : Int)) (1))
theorem Zxt {F : Nat} (n0 : Int)  : Le (Zlw F n0) (Zgz n0) := by
  unfold Zlw Zgz
  try simp only [← cw_ok, ← Zq, ← Zs, ← Zl, ← Zm, ← Zk, ← Zp, GT.gt, GE.ge]
  repeat' (with_reducible first | exact Le.rfl | assumption | exact Znf _ | exact Zr _ _ _ | exact Zo _ _ _ _ | (refine le_if ?_ ?_) | (refine Zt ?_ fun _ => ?_) | (refine Zu ?_) | (refine Zn fun _ => ?_))
noncomputable def Zjm (F : Nat) (f0 : Zc) : Int → Option ((Int) ⊕ (Bool))
  | y41 =>
    bif lti (y41) ((f0.Poly.length : Int)) then
      fbind (cIdx f0.Poly y41) fun e43 =>
      fbind (Zh9 F e43 0 (cw (f0.Prime - 1))) fun r49 =>
      bif !r49 then
        some (.inr (false))
      else
        some (.inl (cw (y41 + 1)))
    else
      fbind (Zip F f0.Poly f0.Prime) fun r56 =>
      some (.inr (r56))
theorem Zvy {F : Nat} (f0 : Zc)  (s_ : _) : Le (Zjm F f0 s_) (Zib f0 s_) := by
  unfold Zjm Zib
  try simp only [← cw_ok, ← Zq, ← Zs, ← Zl, ← Zm, ← Zk, ← Zp, GT.gt, GE.ge]
  repeat' (with_reducible first | exact Le.rfl | assumption | exact ZnM _ _ _ | exact ZnH _ _ | exact Zr _ _ _ | exact Zo _ _ _ _ | (refine le_if ?_ ?_) | (refine Zt ?_ fun _ => ?_) | (refine Zu ?_) | (refine Zn fun _ => ?_))
noncomputable def Zlg (F : Nat) (f0 : Zc) : Option (Bool) :=
  lpF F (Zjm F f0) (0)
theorem ZuC {F : Nat} (f0 : Zc)  : Le (Zlg F f0) (Zgv f0) := by
  unfold Zlg Zgv
  try simp only [← cw_ok, ← Zq, ← Zs, ← Zl, ← Zm, ← Zk, ← Zp, GT.gt, GE.ge]
  repeat' (with_reducible first | exact Le.rfl | assumption | exact Zvy _ _ | exact Zr _ _ _ | exact Zo _ _ _ _ | (refine le_if ?_ ?_) | (refine Zt ?_ fun _ => ?_) | (refine Zu ?_) | (refine Zn fun _ => ?_))
noncomputable def Zku (F : Nat) (f0 : Zc) : Option (Bool) :=
  fbind (Zfy F f0.Poly) fun r24 =>
  bif !eqi (r24) ((cw (f0.Degree + 1))) then
    some (false)
  else
    fbind (cIdx f0.Poly f0.Degree) fun e34 =>
    bif !eqi (e34) (1) then
      some (false)
    else
      Zlg F f0
theorem ZxZ {F : Nat} (f0 : Zc)  : Le (Zku F f0) (Zf3 f0) := by
  unfold Zku Zf3
  try simp only [← cw_ok, ← Zq, ← Zs, ← Zl, ← Zm, ← Zk, ← Zp, GT.gt, GE.ge]
  repeat' (with_reducible first | exact Le.rfl | assumption | exact Zjq _ | exact ZuC _ | exact Zr _ _ _ | exact Zo _ _ _ _ | (refine le_if ?_ ?_) | (refine Zt ?_ fun _ => ?_) | (refine Zu ?_) | (refine Zn fun _ => ?_))
noncomputable def ZoV (F : Nat) (f0 : Zc) : Option Bool :=
  fbind (Zlw F f0.Prime) fun r7 =>
  bif !r7 then
    some (false)
  else
    bif lti (f0.Degree) (1) then
      some (false)
    else
      fbind (Zfc F f0.Prime f0.Degree 64) fun r19 =>
      bif lti (64) (r19) then
        some (false)
      else
        Zku F f0
theorem ZS {F : Nat} (f0 : Zc)  : Le (ZoV F f0) (Zdq f0) := by
  unfold ZoV Zdq
  try simp only [← cw_ok, ← Zq, ← Zs, ← Zl, ← Zm, ← Zk, ← Zp, GT.gt, GE.ge]
  repeat' (with_reducible first | exact Le.rfl | assumption | exact Zxt _ | exact Zl2 _ _ _ | exact ZxZ _ | exact Zr _ _ _ | exact Zo _ _ _ _ | (refine le_if ?_ ?_) | (refine Zt ?_ fun _ => ?_) | (refine Zu ?_) | (refine Zn fun _ => ?_))
noncomputable def Zmx (F : Nat) (r8 : List Int) : Int → Option ((Int) ⊕ (Int × Int))
  | y11 =>
    bif lti (y11) ((r8.length : Int)) then
      fbind (cIdx r8 y11) fun e13 =>
      fbind (cIdx r8 0) fun e17 =>
      bif !eqi (e13) (e17) then
        some (.inr ((0, 0)))
      else
        some (.inl (cw (y11 + 1)))
    else
      bif eqi ((r8.length : Int)) (0) then
        some (.inr ((0, 0)))
      else
        fbind (Zfy F r8) fun r28 =>
        fbind (cIdx r8 0) fun e25 =>
        some (.inr ((e25, r28)))
theorem Zti {F : Nat} (r8 : List Int)  (s_ : _) : Le (Zmx F r8 s_) (Za8 r8 s_) := by
  unfold Zmx Za8
  try simp only [← cw_ok, ← Zq, ← Zs, ← Zl, ← Zm, ← Zk, ← Zp, GT.gt, GE.ge]
  repeat' (with_reducible first | exact Le.rfl | assumption | exact Zjq _ | exact Zr _ _ _ | exact Zo _ _ _ _ | (refine le_if ?_ ?_) | (refine Zt ?_ fun _ => ?_) | (refine Zu ?_) | (refine Zn fun _ => ?_))
noncomputable def ZkE (F : Nat) (n0 : Int) : Option (Int × Int) :=
  fbind (ZgQ F n0) fun r8 =>
  lpF F (Zmx F r8) (0)
theorem Zpn {F : Nat} (n0 : Int)  : Le (ZkE F n0) (Zbs n0) := by
  unfold ZkE Zbs
  try simp only [← cw_ok, ← Zq, ← Zs, ← Zl, ← Zm, ← Zk, ← Zp, GT.gt, GE.ge]
  repeat' (with_reducible first | exact Le.rfl | assumption | exact Znf _ | exact Zti _ _ | exact Zr _ _ _ | exact Zo _ _ _ _ | (refine le_if ?_ ?_) | (refine Zt ?_ fun _ => ?_) | (refine Zu ?_) | (refine Zn fun _ => ?_))
noncomputable def ZjQ (F : Nat) (r9 : Int × Int) : Int → Option ((Int) ⊕ (Zc × Int))
  | n6 =>
    fbind (Ze1 F n6 r9.1 r9.2) fun r22 =>
    fbind (cApp 8 r22 [1]) fun l24 =>
    fbind (Zip F l24 r9.1) fun r26 =>
    bif !r26 then
      some (.inl (cw (n6 + 1)))
    else
      fbind (Ze1 F n6 r9.1 r9.2) fun r35 =>
      fbind (cApp 8 r35 [1]) fun l37 =>
      some (.inr (((Zc.mk r9.1 r9.2 l37), 0)))
theorem Zqy {F : Nat} (r9 : Int × Int)  (s_ : _) : Le (ZjQ F r9 s_) (ZhO r9 s_) := by
  unfold ZjQ ZhO
  try simp only [← cw_ok, ← Zq, ← Zs, ← Zl, ← Zm, ← Zk, ← Zp, GT.gt, GE.ge]
  repeat' (with_reducible first | exact Le.rfl | assumption | exact ZoZ _ _ _ | exact ZnH _ _ | exact Zr _ _ _ | exact Zo _ _ _ _ | (refine le_if ?_ ?_) | (refine Zt ?_ fun _ => ?_) | (refine Zu ?_) | (refine Zn fun _ => ?_))
noncomputable def Zj2 (F : Nat) (r9 : Int × Int) : Option (Zc × Int) :=
  lpF F (ZjQ F r9) (0)
theorem ZpC {F : Nat} (r9 : Int × Int)  : Le (Zj2 F r9) (Zgk r9) := by
  unfold Zj2 Zgk
  try simp only [← cw_ok, ← Zq, ← Zs, ← Zl, ← Zm, ← Zk, ← Zp, GT.gt, GE.ge]
  repeat' (with_reducible first | exact Le.rfl | assumption | exact Zqy _ _ | exact Zr _ _ _ | exact Zo _ _ _ _ | (refine le_if ?_ ?_) | (refine Zt ?_ fun _ => ?_) | (refine Zu ?_) | (refine Zn fun _ => ?_))
noncomputable def Zni (F : Nat) (q0 : Int) : Option (Zc × Int) :=
  fbind (ZkE F q0) fun r9 =>
  bif eqi (r9.1) (0) then
    some (((Zc.mk 0 0 ([] : List Int)), 2))
  else
    bif lti (64) (q0) then
      some (((Zc.mk 0 0 ([] : List Int)), 2))
    else
      Zj2 F r9
theorem Zi {F : Nat} (q0 : Int)  : Le (Zni F q0) (Za1 q0) := by
  unfold Zni Za1
  try simp only [← cw_ok, ← Zq, ← Zs, ← Zl, ← Zm, ← Zk, ← Zp, GT.gt, GE.ge]
  repeat' (with_reducible first | exact Le.rfl | assumption | exact Zpn _ | exact ZpC _ | exact Zr _ _ _ | exact Zo _ _ _ _ | (refine le_if ?_ ?_) | (refine Zt ?_ fun _ => ?_) | (refine Zu ?_) | (refine Zn fun _ => ?_))
end Go.Proofs.YtapkemdomnkccaaGreat
