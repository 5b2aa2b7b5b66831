import Derived.Test.YtmmbnjijjdakmaaGreatDoorPuEvS
import Derived.Test.YtmmbnjijjdakmaaGreatDoorPuFns
namespace Go.Proofs.YtmmbnjijjdakmaaGreatDoor
open Go Go.Vc
set_option linter.unusedVariables false
set_option linter.unusedSimpArgs false
set_option maxRecDepth 20000
noncomputable instance : Frc Zc where
  frc p k := Zc.rec (fun x0 x1 x2 => Frc.frc x0 fun x0 => Frc.frc x1 fun x1 => Frc.frc x2 fun x2 => k (.mk x0 x1 x2)) p
  ok p k := by cases p; show Frc.frc _ _ = _; simp only [Frc.ok]
noncomputable def ZeA (F : Nat) (n0 low1 high2 : Int) : Option Bool :=
  bif lei (low1) (n0) then
    some (lei (n0) (high2))
  else
    some (false)
theorem Zlo {F : Nat} (n0 low1 high2 : Int)  : Le (ZeA F n0 low1 high2) (ZH n0 low1 high2) := by
  unfold ZeA ZH
  try simp only [← cw_ok, ← Zp, ← Zu, ← Zm, ← Zk, ← Zl, ← Zv, ← Zn, GT.gt, GE.ge]
  repeat' (with_reducible first | exact Le.rfl | assumption | exact Zr _ _ _ | exact Zo _ _ _ _ | (refine le_if ?_ ?_) | (refine Zs ?_ fun _ => ?_) | (refine Zq ?_) | (refine Zt fun _ => ?_))
noncomputable def Zkh (F : Nat) (p4 : Int) : Int × Int → Option ((Int × Int) ⊕ ((Int) ⊕ (Int × Int)))
  | (k5, n6) =>
    bif lti (1) (n6) then
      fbind (cNz p4) fun _ =>
      bif !eqi (Int.tmod n6 p4) (0) then
        some (.inr (.inr ((0, 0))))
      else
        fbind (cNz p4) fun _ =>
        some (.inl (cw (k5 + 1), cw (Int.tdiv n6 p4)))
    else
      some (.inr (.inr ((p4, k5))))
theorem Zt1 {F : Nat} (p4 : Int)  (s_ : _) : Le (Zkh F p4 s_) (Zhm p4 s_) := by
  obtain ⟨k5, n6⟩ := s_
  unfold Zkh Zhm
  try simp only [← cw_ok, ← Zp, ← Zu, ← Zm, ← Zk, ← Zl, ← Zv, ← Zn, GT.gt, GE.ge]
  repeat' (with_reducible first | exact Le.rfl | assumption | exact Zr _ _ _ | exact Zo _ _ _ _ | (refine le_if ?_ ?_) | (refine Zs ?_ fun _ => ?_) | (refine Zq ?_) | (refine Zt fun _ => ?_))
noncomputable def ZlH (F : Nat) (q0 : Int) : Int → Option ((Int) ⊕ (Int × Int))
  | p4 =>
    fbind (cNz p4) fun _ =>
    bif !eqi (Int.tmod q0 p4) (0) then
      some (.inl (cw (p4 + 1)))
    else
      lpF F (Zkh F p4) (0, q0)
theorem Zyy {F : Nat} (q0 : Int)  (s_ : _) : Le (ZlH F q0 s_) (Zis q0 s_) := by
  unfold ZlH Zis
  try simp only [← cw_ok, ← Zp, ← Zu, ← Zm, ← Zk, ← Zl, ← Zv, ← Zn, GT.gt, GE.ge]
  repeat' (with_reducible first | exact Le.rfl | assumption | exact Zt1 _ _ | exact Zr _ _ _ | exact Zo _ _ _ _ | (refine le_if ?_ ?_) | (refine Zs ?_ fun _ => ?_) | (refine Zq ?_) | (refine Zt fun _ => ?_))
noncomputable def ZhY (F : Nat) (q0 : Int) : Option (Int × Int) :=
  fbind (ZeA F q0 2 64) fun r8 =>
  bif !r8 then
    some ((0, 0))
  else
    lpF F (ZlH F q0) (2)
theorem Zi {F : Nat} (q0 : Int)  : Le (ZhY F q0) (Za6 q0) := by
  unfold ZhY Za6
  try simp only [← cw_ok, ← Zp, ← Zu, ← Zm, ← Zk, ← Zl, ← Zv, ← Zn, GT.gt, GE.ge]
  repeat' (with_reducible first | exact Le.rfl | assumption | exact Zlo _ _ _ | exact Zyy _ _ | exact Zr _ _ _ | exact Zo _ _ _ _ | (refine le_if ?_ ?_) | (refine Zs ?_ fun _ => ?_) | (refine Zq ?_) | (refine Zt fun _ => ?_))
noncomputable def ZjA (F : Nat) (p1 : Int) : Int × Int × List Int → Option ((Int × Int × List Int) ⊕ (List Int))
  | (a0_2, n2_2, out7) =>
    bif lti (0) (n2_2) then
      fbind (cNz p1) fun _ =>
      fbind (cApp 8 out7 [Int.tmod a0_2 p1]) fun l18 =>
      fbind (cNz p1) fun _ =>
      some (.inl (cw (Int.tdiv a0_2 p1), cw (n2_2 - 1), l18))
    else
      some (.inr (out7))
theorem Zrr {F : Nat} (p1 : Int)  (s_ : _) : Le (ZjA F p1 s_) (Zb8 p1 s_) := by
  obtain ⟨a0_2, n2_2, out7⟩ := s_
  unfold ZjA Zb8
  try simp only [← cw_ok, ← Zp, ← Zu, ← Zm, ← Zk, ← Zl, ← Zv, ← Zn, GT.gt, GE.ge]
  repeat' (with_reducible first | exact Le.rfl | assumption | exact Zr _ _ _ | exact Zo _ _ _ _ | (refine le_if ?_ ?_) | (refine Zs ?_ fun _ => ?_) | (refine Zq ?_) | (refine Zt fun _ => ?_))
noncomputable def Zhz (F : Nat) (a0 p1 n2 : Int) : Option (List Int) :=
  lpF F (ZjA F p1) (a0, n2, ([] : List Int))
theorem Zp8 {F : Nat} (a0 p1 n2 : Int)  : Le (Zhz F a0 p1 n2) (ZaH a0 p1 n2) := by
  unfold Zhz ZaH
  try simp only [← cw_ok, ← Zp, ← Zu, ← Zm, ← Zk, ← Zl, ← Zv, ← Zn, GT.gt, GE.ge]
  repeat' (with_reducible first | exact Le.rfl | assumption | exact Zrr _ _ | exact Zr _ _ _ | exact Zo _ _ _ _ | (refine le_if ?_ ?_) | (refine Zs ?_ fun _ => ?_) | (refine Zq ?_) | (refine Zt fun _ => ?_))
noncomputable def ZkP (F : Nat) (p0 : Int) : Int × Int → Option ((Int × Int) ⊕ (Int))
  | (k1_2, out5) =>
    bif lti (0) (k1_2) then
      some (.inl (cw (k1_2 - 1), cw (out5 * p0)))
    else
      some (.inr (out5))
theorem Zun {F : Nat} (p0 : Int)  (s_ : _) : Le (ZkP F p0 s_) (Zi1 p0 s_) := by
  obtain ⟨k1_2, out5⟩ := s_
  unfold ZkP Zi1
  try simp only [← cw_ok, ← Zp, ← Zu, ← Zm, ← Zk, ← Zl, ← Zv, ← Zn, GT.gt, GE.ge]
  repeat' (with_reducible first | exact Le.rfl | assumption | exact Zr _ _ _ | exact Zo _ _ _ _ | (refine le_if ?_ ?_) | (refine Zs ?_ fun _ => ?_) | (refine Zq ?_) | (refine Zt fun _ => ?_))
noncomputable def Zfx (F : Nat) (p0 k1 : Int) : Option Int :=
  lpF F (ZkP F p0) (k1, 1)
theorem Zkc {F : Nat} (p0 k1 : Int)  : Le (Zfx F p0 k1) (ZcK p0 k1) := by
  unfold Zfx ZcK
  try simp only [← cw_ok, ← Zp, ← Zu, ← Zm, ← Zk, ← Zl, ← Zv, ← Zn, GT.gt, GE.ge]
  repeat' (with_reducible first | exact Le.rfl | assumption | exact Zun _ _ | exact Zr _ _ _ | exact Zo _ _ _ _ | (refine le_if ?_ ?_) | (refine Zs ?_ fun _ => ?_) | (refine Zq ?_) | (refine Zt fun _ => ?_))
noncomputable def ZkV (F : Nat) (list0 : List Int) : Option (List Int) :=
  fbind (cApp 8 ([] : List Int) list0) fun l5 =>
  some (l5)
theorem Ztz {F : Nat} (list0 : List Int)  : Le (ZkV F list0) (ZaR list0) := by
  unfold ZkV ZaR
  try simp only [← cw_ok, ← Zp, ← Zu, ← Zm, ← Zk, ← Zl, ← Zv, ← Zn, GT.gt, GE.ge]
  repeat' (with_reducible first | exact Le.rfl | assumption | exact Zr _ _ _ | exact Zo _ _ _ _ | (refine le_if ?_ ?_) | (refine Zs ?_ fun _ => ?_) | (refine Zq ?_) | (refine Zt fun _ => ?_))
noncomputable def Zks (F : Nat) (y1 : List Int) (y2 y9 e28 : Int) : Int × List Int → Option ((Int × List Int) ⊕ ((Int × List Int) ⊕ (List Int)))
  | (y11, xs_2) =>
    bif lti (y11) ((y1.length : Int)) then
      fbind (cIdx xs_2 (cw ((cw ((cw (y9 - (y1.length : Int))) + 1)) + y11))) fun e45 =>
      fbind (cIdx y1 y11) fun e52 =>
      fbind (cNz y2) fun _ =>
      fbind (cIdx xs_2 (cw ((cw ((cw (y9 - (y1.length : Int))) + 1)) + y11))) fun e58 =>
      some (.inl (cw (y11 + 1), (xs_2.set (cw ((cw ((cw (y9 - (y1.length : Int))) + 1)) + y11) : Int).toNat (Int.tmod (cw (e45 + (cw ((cw (y2 - e28)) * e52)))) y2))))
    else
      some (.inr (.inl (cw (y9 - 1), xs_2)))
theorem ZvI {F : Nat} (y1 : List Int) (y2 y9 e28 : Int)  (s_ : _) : Le (Zks F y1 y2 y9 e28 s_) (Zde y1 y2 y9 e28 s_) := by
  obtain ⟨y11, xs_2⟩ := s_
  unfold Zks Zde
  try simp only [← cw_ok, ← Zp, ← Zu, ← Zm, ← Zk, ← Zl, ← Zv, ← Zn, GT.gt, GE.ge]
  repeat' (with_reducible first | exact Le.rfl | assumption | exact Zr _ _ _ | exact Zo _ _ _ _ | (refine le_if ?_ ?_) | (refine Zs ?_ fun _ => ?_) | (refine Zq ?_) | (refine Zt fun _ => ?_))
noncomputable def ZkB (F : Nat) (y1 : List Int) : List Int → Option ((List Int) ⊕ ((Int × List Int) ⊕ (List Int)))
  | y7 =>
    bif lei ((y1.length : Int)) ((y7.length : Int)) then
      fbind (cSl y7 0 (cw ((y7.length : Int) - 1))) fun l67 =>
      some (.inl (l67))
    else
      some (.inr (.inr (y7)))
theorem Zv0 {F : Nat} (y1 : List Int)  (s_ : _) : Le (ZkB F y1 s_) (ZbP y1 s_) := by
  unfold ZkB ZbP
  try simp only [← cw_ok, ← Zp, ← Zu, ← Zm, ← Zk, ← Zl, ← Zv, ← Zn, GT.gt, GE.ge]
  repeat' (with_reducible first | exact Le.rfl | assumption | exact Zr _ _ _ | exact Zo _ _ _ _ | (refine le_if ?_ ?_) | (refine Zs ?_ fun _ => ?_) | (refine Zq ?_) | (refine Zt fun _ => ?_))
noncomputable def ZmW (F : Nat) (y1 : List Int) (y2 : Int) : Int × List Int → Option ((Int × List Int) ⊕ (List Int))
  | (y9, xs) =>
    bif lei ((cw ((y1.length : Int) - 1))) (y9) then
      fbind (cIdx xs y9) fun e28 =>
      lpF F (Zks F y1 y2 y9 e28) (0, xs)
    else
      lpF F (ZkB F y1) (xs)
theorem Zs6 {F : Nat} (y1 : List Int) (y2 : Int)  (s_ : _) : Le (ZmW F y1 y2 s_) (ZaX y1 y2 s_) := by
  obtain ⟨y9, xs⟩ := s_
  unfold ZmW ZaX
  try simp only [← cw_ok, ← Zp, ← Zu, ← Zm, ← Zk, ← Zl, ← Zv, ← Zn, GT.gt, GE.ge]
  repeat' (with_reducible first | exact Le.rfl | assumption | exact ZvI _ _ _ _ _ | exact Zv0 _ _ | exact Zr _ _ _ | exact Zo _ _ _ _ | (refine le_if ?_ ?_) | (refine Zs ?_ fun _ => ?_) | (refine Zq ?_) | (refine Zt fun _ => ?_))
noncomputable def Zlj (F : Nat) (y0 y1 : List Int) (y2 : Int) : Option (List Int) :=
  fbind (ZkV F y0) fun r14 =>
  lpF F (ZmW F y1 y2) (cw ((r14.length : Int) - 1), r14)
theorem Zyf {F : Nat} (y0 y1 : List Int) (y2 : Int)  : Le (Zlj F y0 y1 y2) (Zco y0 y1 y2) := by
  unfold Zlj Zco
  try simp only [← cw_ok, ← Zp, ← Zu, ← Zm, ← Zk, ← Zl, ← Zv, ← Zn, GT.gt, GE.ge]
  repeat' (with_reducible first | exact Le.rfl | assumption | exact Ztz _ | exact Zs6 _ _ _ | exact Zr _ _ _ | exact Zo _ _ _ _ | (refine le_if ?_ ?_) | (refine Zs ?_ fun _ => ?_) | (refine Zq ?_) | (refine Zt fun _ => ?_))
noncomputable def Zmc (F : Nat) (list0 : List Int) (p1 : Int) : Int × Int → Option ((Int × Int) ⊕ (Int))
  | (out5, i6) =>
    bif lei (0) (i6) then
      fbind (cIdx list0 i6) fun e19 =>
      some (.inl (cw ((cw (out5 * p1)) + e19), cw (i6 - 1)))
    else
      some (.inr (out5))
theorem Ztd {F : Nat} (list0 : List Int) (p1 : Int)  (s_ : _) : Le (Zmc F list0 p1 s_) (Zdg list0 p1 s_) := by
  obtain ⟨out5, i6⟩ := s_
  unfold Zmc Zdg
  try simp only [← cw_ok, ← Zp, ← Zu, ← Zm, ← Zk, ← Zl, ← Zv, ← Zn, GT.gt, GE.ge]
  repeat' (with_reducible first | exact Le.rfl | assumption | exact Zr _ _ _ | exact Zo _ _ _ _ | (refine le_if ?_ ?_) | (refine Zs ?_ fun _ => ?_) | (refine Zq ?_) | (refine Zt fun _ => ?_))
noncomputable def ZkN (F : Nat) (list0 : List Int) (p1 : Int) : Option Int :=
  lpF F (Zmc F list0 p1) (0, cw ((list0.length : Int) - 1))
theorem Zxl {F : Nat} (list0 : List Int) (p1 : Int)  : Le (ZkN F list0 p1) (ZaJ list0 p1) := by
  unfold ZkN ZaJ
  try simp only [← cw_ok, ← Zp, ← Zu, ← Zm, ← Zk, ← Zl, ← Zv, ← Zn, GT.gt, GE.ge]
  repeat' (with_reducible first | exact Le.rfl | assumption | exact Ztd _ _ _ | exact Zr _ _ _ | exact Zo _ _ _ _ | (refine le_if ?_ ?_) | (refine Zs ?_ fun _ => ?_) | (refine Zq ?_) | (refine Zt fun _ => ?_))
noncomputable def ZjT (F : Nat) (poly0 : List Int) (p1 d6 : Int) : Int → Option ((Int) ⊕ ((Int) ⊕ (Bool)))
  | n7 =>
    fbind (Zfx F p1 d6) fun r22 =>
    bif lti (n7) (r22) then
      fbind (Zhz F n7 p1 d6) fun r29 =>
      fbind (cApp 8 r29 [1]) fun l31 =>
      fbind (Zlj F poly0 l31 p1) fun r35 =>
      fbind (ZkN F r35 p1) fun r38 =>
      bif eqi (r38) (0) then
        some (.inr (.inr (false)))
      else
        some (.inl (cw (n7 + 1)))
    else
      some (.inr (.inl (cw (d6 + 1))))
theorem Zxm {F : Nat} (poly0 : List Int) (p1 d6 : Int)  (s_ : _) : Le (ZjT F poly0 p1 d6 s_) (Ziq poly0 p1 d6 s_) := by
  unfold ZjT Ziq
  try simp only [← cw_ok, ← Zp, ← Zu, ← Zm, ← Zk, ← Zl, ← Zv, ← Zn, GT.gt, GE.ge]
  repeat' (with_reducible first | exact Le.rfl | assumption | exact Zkc _ _ | exact Zp8 _ _ _ | exact Zyf _ _ _ | exact Zxl _ _ | exact Zr _ _ _ | exact Zo _ _ _ _ | (refine le_if ?_ ?_) | (refine Zs ?_ fun _ => ?_) | (refine Zq ?_) | (refine Zt fun _ => ?_))
noncomputable def ZlS (F : Nat) (poly0 : List Int) (p1 : Int) : Int → Option ((Int) ⊕ (Bool))
  | d6 =>
    bif lei (cw (2 * d6)) ((cw ((poly0.length : Int) - 1))) then
      lpF F (ZjT F poly0 p1 d6) (0)
    else
      some (.inr (true))
theorem ZuG {F : Nat} (poly0 : List Int) (p1 : Int)  (s_ : _) : Le (ZlS F poly0 p1 s_) (Zia poly0 p1 s_) := by
  unfold ZlS Zia
  try simp only [← cw_ok, ← Zp, ← Zu, ← Zm, ← Zk, ← Zl, ← Zv, ← Zn, GT.gt, GE.ge]
  repeat' (with_reducible first | exact Le.rfl | assumption | exact Zxm _ _ _ _ | exact Zr _ _ _ | exact Zo _ _ _ _ | (refine le_if ?_ ?_) | (refine Zs ?_ fun _ => ?_) | (refine Zq ?_) | (refine Zt fun _ => ?_))
noncomputable def Zil (F : Nat) (poly0 : List Int) (p1 : Int) : Option Bool :=
  lpF F (ZlS F poly0 p1) (1)
theorem Zop {F : Nat} (poly0 : List Int) (p1 : Int)  : Le (Zil F poly0 p1) (Zei poly0 p1) := by
  unfold Zil Zei
  try simp only [← cw_ok, ← Zp, ← Zu, ← Zm, ← Zk, ← Zl, ← Zv, ← Zn, GT.gt, GE.ge]
  repeat' (with_reducible first | exact Le.rfl | assumption | exact ZuG _ _ _ | exact Zr _ _ _ | exact Zo _ _ _ _ | (refine le_if ?_ ?_) | (refine Zs ?_ fun _ => ?_) | (refine Zq ?_) | (refine Zt fun _ => ?_))
noncomputable def ZlU (F : Nat) (r9 : Int × Int) : Int → Option ((Int) ⊕ (Zc))
  | n5 =>
    fbind (Zhz F n5 r9.1 r9.2) fun r17 =>
    fbind (cApp 8 r17 [1]) fun l19 =>
    fbind (Zil F l19 r9.1) fun r22 =>
    bif r22 then
      some (.inr ((Zc.mk r9.1 r9.2 l19)))
    else
      some (.inl (cw (n5 + 1)))
theorem Zze {F : Nat} (r9 : Int × Int)  (s_ : _) : Le (ZlU F r9 s_) (Zh0 r9 s_) := by
  unfold ZlU Zh0
  try simp only [← cw_ok, ← Zp, ← Zu, ← Zm, ← Zk, ← Zl, ← Zv, ← Zn, GT.gt, GE.ge]
  repeat' (with_reducible first | exact Le.rfl | assumption | exact Zp8 _ _ _ | exact Zop _ _ | exact Zr _ _ _ | exact Zo _ _ _ _ | (refine le_if ?_ ?_) | (refine Zs ?_ fun _ => ?_) | (refine Zq ?_) | (refine Zt fun _ => ?_))
noncomputable def Zp6 (F : Nat) (q0 : Int) : Option Zc :=
  fbind (ZhY F q0) fun r9 =>
  lpF F (ZlU F r9) (0)
theorem ZV {F : Nat} (q0 : Int)  : Le (Zp6 F q0) (ZeL q0) := by
  unfold Zp6 ZeL
  try simp only [← cw_ok, ← Zp, ← Zu, ← Zm, ← Zk, ← Zl, ← Zv, ← Zn, GT.gt, GE.ge]
  repeat' (with_reducible first | exact Le.rfl | assumption | exact Zi _ | exact Zze _ _ | exact Zr _ _ _ | exact Zo _ _ _ _ | (refine le_if ?_ ?_) | (refine Zs ?_ fun _ => ?_) | (refine Zq ?_) | (refine Zt fun _ => ?_))
noncomputable def ZkC (F : Nat) (y0 : Zc) (r58 : Int × Int) : Int → Option ((Int) ⊕ (Bool))
  | y6 =>
    bif lti (y6) ((y0.Poly.length : Int)) then
      fbind (cIdx y0.Poly y6) fun e81 =>
      fbind (ZeA F e81 0 (cw (r58.1 - 1))) fun r85 =>
      bif !r85 then
        some (.inr (false))
      else
        some (.inl (cw (y6 + 1)))
    else
      fbind (Zil F y0.Poly r58.1) fun r92 =>
      some (.inr (r92))
theorem Zu7 {F : Nat} (y0 : Zc) (r58 : Int × Int)  (s_ : _) : Le (ZkC F y0 r58 s_) (ZiO y0 r58 s_) := by
  unfold ZkC ZiO
  try simp only [← cw_ok, ← Zp, ← Zu, ← Zm, ← Zk, ← Zl, ← Zv, ← Zn, GT.gt, GE.ge]
  repeat' (with_reducible first | exact Le.rfl | assumption | exact Zlo _ _ _ | exact Zop _ _ | exact Zr _ _ _ | exact Zo _ _ _ _ | (refine le_if ?_ ?_) | (refine Zs ?_ fun _ => ?_) | (refine Zq ?_) | (refine Zt fun _ => ?_))
noncomputable def Zk8 (F : Nat) (y0 : Zc) : Option (Bool) :=
  fbind (Zfx F y0.Prime y0.Degree) fun r55 =>
  fbind (ZhY F r55) fun r58 =>
  bif !eqi (r58.1) (y0.Prime) then
    some (false)
  else
    lpF F (ZkC F y0 r58) (0)
theorem ZqS {F : Nat} (y0 : Zc)  : Le (Zk8 F y0) (Zgl y0) := by
  unfold Zk8 Zgl
  try simp only [← cw_ok, ← Zp, ← Zu, ← Zm, ← Zk, ← Zl, ← Zv, ← Zn, GT.gt, GE.ge]
  repeat' (with_reducible first | exact Le.rfl | assumption | exact Zkc _ _ | exact Zi _ | exact Zu7 _ _ _ | exact Zr _ _ _ | exact Zo _ _ _ _ | (refine le_if ?_ ?_) | (refine Zs ?_ fun _ => ?_) | (refine Zq ?_) | (refine Zt fun _ => ?_))
noncomputable def ZqH (F : Nat) (y0 : Zc) : Option Bool :=
  fbind (ZeA F y0.Prime 2 64) fun r11 =>
  bif !r11 then
    some (false)
  else
    fbind (ZeA F y0.Degree 1 6) fun r18 =>
    bif !r18 then
      some (false)
    else
      bif !eqi ((y0.Poly.length : Int)) ((cw (y0.Degree + 1))) then
        some (false)
      else
        fbind (cIdx y0.Poly y0.Degree) fun e43 =>
        bif !eqi (e43) (1) then
          some (false)
        else
          Zk8 F y0
theorem ZT {F : Nat} (y0 : Zc)  : Le (ZqH F y0) (Zdx y0) := by
  unfold ZqH Zdx
  try simp only [← cw_ok, ← Zp, ← Zu, ← Zm, ← Zk, ← Zl, ← Zv, ← Zn, GT.gt, GE.ge]
  repeat' (with_reducible first | exact Le.rfl | assumption | exact Zlo _ _ _ | exact ZqS _ | exact Zr _ _ _ | exact Zo _ _ _ _ | (refine le_if ?_ ?_) | (refine Zs ?_ fun _ => ?_) | (refine Zq ?_) | (refine Zt fun _ => ?_))
noncomputable def Znv (F : Nat) (f0 : Zc) : Option Int :=
  fbind (Zfx F f0.Prime f0.Degree) fun r11 =>
  some (r11)
theorem ZW {F : Nat} (f0 : Zc)  : Le (Znv F f0) (Zcl f0) := by
  unfold Znv Zcl
  try simp only [← cw_ok, ← Zp, ← Zu, ← Zm, ← Zk, ← Zl, ← Zv, ← Zn, GT.gt, GE.ge]
  repeat' (with_reducible first | exact Le.rfl | assumption | exact Zkc _ _ | exact Zr _ _ _ | exact Zo _ _ _ _ | (refine le_if ?_ ?_) | (refine Zs ?_ fun _ => ?_) | (refine Zq ?_) | (refine Zt fun _ => ?_))
noncomputable def Zmf (F : Nat) (s0 : List Int) (fn1 : Int → Option Bool) : Int → Option ((Int) ⊕ (Int))
  | y8 =>
    bif lti (y8) ((s0.length : Int)) then
      fbind (cIdx s0 y8) fun e14 =>
      fbind (fn1 e14) fun r16 =>
      bif r16 then
        some (.inr (y8))
      else
        some (.inl (cw (y8 + 1)))
    else
      some (.inr ((-1)))
theorem Zrl {F : Nat} (s0 : List Int) (fn1 fn1' : Int → Option Bool) (hfn1 : ∀ u0, Le (fn1 u0) (fn1' u0)) (s_ : _) : Le (Zmf F s0 fn1 s_) (ZcM s0 fn1' s_) := by
  unfold Zmf ZcM
  try simp only [← cw_ok, ← Zp, ← Zu, ← Zm, ← Zk, ← Zl, ← Zv, ← Zn, GT.gt, GE.ge]
  repeat' (with_reducible first | exact Le.rfl | assumption | exact Zr _ _ _ | exact Zo _ _ _ _ | (refine le_if ?_ ?_) | (refine Zs ?_ fun _ => ?_) | (refine Zq ?_) | (refine Zt fun _ => ?_))
  all_goals (first | exact hfn1 _ | skip)
noncomputable def ZjI (F : Nat) (s0 : List Int) (fn1 : Int → Option Bool) : Option Int :=
  lpF F (Zmf F s0 fn1) (0)
theorem Zwg {F : Nat} (s0 : List Int) (fn1 fn1' : Int → Option Bool) (hfn1 : ∀ u0, Le (fn1 u0) (fn1' u0)) : Le (ZjI F s0 fn1) (ZgN s0 fn1') := by
  unfold ZjI ZgN
  try simp only [← cw_ok, ← Zp, ← Zu, ← Zm, ← Zk, ← Zl, ← Zv, ← Zn, GT.gt, GE.ge]
  repeat' (with_reducible first | exact Le.rfl | assumption | (refine Zrl _ _ _ ?_ _; intros) | exact Zr _ _ _ | exact Zo _ _ _ _ | (refine le_if ?_ ?_) | (refine Zs ?_ fun _ => ?_) | (refine Zq ?_) | (refine Zt fun _ => ?_))
  all_goals (first | exact hfn1 _ | skip)
noncomputable def Zjm (F : Nat) (s0 : List Int) (fn1 : Int → Option Bool) : Option Bool :=
  fbind (ZjI F s0 fn1) fun r7 =>
  some (lei (0) (r7))
theorem Ztq {F : Nat} (s0 : List Int) (fn1 fn1' : Int → Option Bool) (hfn1 : ∀ u0, Le (fn1 u0) (fn1' u0)) : Le (Zjm F s0 fn1) (Zat s0 fn1') := by
  unfold Zjm Zat
  try simp only [← cw_ok, ← Zp, ← Zu, ← Zm, ← Zk, ← Zl, ← Zv, ← Zn, GT.gt, GE.ge]
  repeat' (with_reducible first | exact Le.rfl | assumption | (refine Zwg _ _ _ ?_; intros) | exact Zr _ _ _ | exact Zo _ _ _ _ | (refine le_if ?_ ?_) | (refine Zs ?_ fun _ => ?_) | (refine Zq ?_) | (refine Zt fun _ => ?_))
  all_goals (first | exact hfn1 _ | skip)
noncomputable def Zh2 (F : Nat) (n0 low1 high2 : Int) : Option Bool :=
  bif lei (low1) (n0) then
    some (lei (n0) (high2))
  else
    some (false)
theorem Zqc {F : Nat} (n0 low1 high2 : Int)  : Le (Zh2 F n0 low1 high2) (ZP n0 low1 high2) := by
  unfold Zh2 ZP
  try simp only [← cw_ok, ← Zp, ← Zu, ← Zm, ← Zk, ← Zl, ← Zv, ← Zn, GT.gt, GE.ge]
  repeat' (with_reducible first | exact Le.rfl | assumption | exact Zr _ _ _ | exact Zo _ _ _ _ | (refine le_if ?_ ?_) | (refine Zs ?_ fun _ => ?_) | (refine Zq ?_) | (refine Zt fun _ => ?_))
noncomputable def Zko (F : Nat) (a0 : List Int) : Option (List Int) := cApp 8 [] a0
theorem Zu4 {F : Nat} (a0 : List Int)  : Le (Zko F a0) (Zbs a0) := by
  unfold Zko Zbs
  try simp only [← cw_ok, ← Zp, ← Zu, ← Zm, ← Zk, ← Zl, ← Zv, ← Zn, GT.gt, GE.ge]
  repeat' (with_reducible first | exact Le.rfl | assumption | exact Zr _ _ _ | exact Zo _ _ _ _ | (refine le_if ?_ ?_) | (refine Zs ?_ fun _ => ?_) | (refine Zq ?_) | (refine Zt fun _ => ?_))
noncomputable def Zff (F : Nat) (list0 : List Int) : Option Int :=
  some ((list0.length : Int))
theorem Zkz {F : Nat} (list0 : List Int)  : Le (Zff F list0) (ZK list0) := by
  unfold Zff ZK
  try simp only [← cw_ok, ← Zp, ← Zu, ← Zm, ← Zk, ← Zl, ← Zv, ← Zn, GT.gt, GE.ge]
  repeat' (with_reducible first | exact Le.rfl | assumption | exact Zr _ _ _ | exact Zo _ _ _ _ | (refine le_if ?_ ?_) | (refine Zs ?_ fun _ => ?_) | (refine Zq ?_) | (refine Zt fun _ => ?_))
noncomputable def Zm3 (F : Nat) (base0 e1_2 power7 : Int) : Option ((Int × Int) ⊕ (Int)) :=
  some (.inl (cw (e1_2 - 1), cw (power7 * base0)))
theorem Zvl {F : Nat} (base0 e1_2 power7 : Int)  : Le (Zm3 F base0 e1_2 power7) (ZdX base0 e1_2 power7) := by
  unfold Zm3 ZdX
  try simp only [← cw_ok, ← Zp, ← Zu, ← Zm, ← Zk, ← Zl, ← Zv, ← Zn, GT.gt, GE.ge]
  repeat' (with_reducible first | exact Le.rfl | assumption | exact Zr _ _ _ | exact Zo _ _ _ _ | (refine le_if ?_ ?_) | (refine Zs ?_ fun _ => ?_) | (refine Zq ?_) | (refine Zt fun _ => ?_))
noncomputable def ZkA (F : Nat) (base0 limit2 : Int) : Int × Int → Option ((Int × Int) ⊕ (Int))
  | (e1_2, power7) =>
    bif lti (0) (e1_2) then
      bif lei (power7) (limit2) then
        Zm3 F base0 e1_2 power7
      else
        some (.inr (power7))
    else
      some (.inr (power7))
theorem ZtW {F : Nat} (base0 limit2 : Int)  (s_ : _) : Le (ZkA F base0 limit2 s_) (ZaK base0 limit2 s_) := by
  obtain ⟨e1_2, power7⟩ := s_
  unfold ZkA ZaK
  try simp only [← cw_ok, ← Zp, ← Zu, ← Zm, ← Zk, ← Zl, ← Zv, ← Zn, GT.gt, GE.ge]
  repeat' (with_reducible first | exact Le.rfl | assumption | exact Zvl _ _ _ | exact Zr _ _ _ | exact Zo _ _ _ _ | (refine le_if ?_ ?_) | (refine Zs ?_ fun _ => ?_) | (refine Zq ?_) | (refine Zt fun _ => ?_))
noncomputable def Zgt (F : Nat) (base0 e1 limit2 : Int) : Option Int :=
  lpF F (ZkA F base0 limit2) (e1, 1)
theorem Zmi {F : Nat} (base0 e1 limit2 : Int)  : Le (Zgt F base0 e1 limit2) (ZbD base0 e1 limit2) := by
  unfold Zgt ZbD
  try simp only [← cw_ok, ← Zp, ← Zu, ← Zm, ← Zk, ← Zl, ← Zv, ← Zn, GT.gt, GE.ge]
  repeat' (with_reducible first | exact Le.rfl | assumption | exact ZtW _ _ _ | exact Zr _ _ _ | exact Zo _ _ _ _ | (refine le_if ?_ ?_) | (refine Zs ?_ fun _ => ?_) | (refine Zq ?_) | (refine Zt fun _ => ?_))
noncomputable def Zoa (F : Nat) (f0 : Zc) : Option Int :=
  fbind (Zgt F f0.Prime f0.Degree 64) fun r7 =>
  some (r7)
theorem ZU {F : Nat} (f0 : Zc)  : Le (Zoa F f0) (ZbA f0) := by
  unfold Zoa ZbA
  try simp only [← cw_ok, ← Zp, ← Zu, ← Zm, ← Zk, ← Zl, ← Zv, ← Zn, GT.gt, GE.ge]
  repeat' (with_reducible first | exact Le.rfl | assumption | exact Zmi _ _ _ | exact Zr _ _ _ | exact Zo _ _ _ _ | (refine le_if ?_ ?_) | (refine Zs ?_ fun _ => ?_) | (refine Zq ?_) | (refine Zt fun _ => ?_))
noncomputable def ZmG (F : Nat) (base1 : Int) (l10 : List Int) : Int × Int × List Int → Option ((Int × Int × List Int) ⊕ (List Int))
  | (n0_2, y13, xs) =>
    bif lti (y13) ((l10.length : Int)) then
      fbind (cNz base1) fun _ =>
      fbind (cIdx xs y13) fun e21 =>
      fbind (cNz base1) fun _ =>
      some (.inl (cw (Int.tdiv n0_2 base1), cw (y13 + 1), (xs.set (y13 : Int).toNat (Int.tmod n0_2 base1))))
    else
      some (.inr (xs))
theorem ZvV {F : Nat} (base1 : Int) (l10 : List Int)  (s_ : _) : Le (ZmG F base1 l10 s_) (Zbl base1 l10 s_) := by
  obtain ⟨n0_2, y13, xs⟩ := s_
  unfold ZmG Zbl
  try simp only [← cw_ok, ← Zp, ← Zu, ← Zm, ← Zk, ← Zl, ← Zv, ← Zn, GT.gt, GE.ge]
  repeat' (with_reducible first | exact Le.rfl | assumption | exact Zr _ _ _ | exact Zo _ _ _ _ | (refine le_if ?_ ?_) | (refine Zs ?_ fun _ => ?_) | (refine Zq ?_) | (refine Zt fun _ => ?_))
noncomputable def Zgu (F : Nat) (n0 base1 count2 : Int) : Option (List Int) :=
  fbind (cMake 8 (0 : Int) count2 count2) fun l10 =>
  lpF F (ZmG F base1 l10) (n0, 0, l10)
theorem ZqC {F : Nat} (n0 base1 count2 : Int)  : Le (Zgu F n0 base1 count2) (Zay n0 base1 count2) := by
  unfold Zgu Zay
  try simp only [← cw_ok, ← Zp, ← Zu, ← Zm, ← Zk, ← Zl, ← Zv, ← Zn, GT.gt, GE.ge]
  repeat' (with_reducible first | exact Le.rfl | assumption | exact ZvV _ _ _ | exact Zr _ _ _ | exact Zo _ _ _ _ | (refine le_if ?_ ?_) | (refine Zs ?_ fun _ => ?_) | (refine Zq ?_) | (refine Zt fun _ => ?_))
noncomputable def Zk3 (F : Nat) (y1 : List Int) (y2 y9 e29 : Int) : Int × List Int → Option ((Int × List Int) ⊕ ((Int × List Int) ⊕ (List Int)))
  | (y33, xs_2) =>
    bif lti (y33) ((y1.length : Int)) then
      fbind (cIdx y1 y33) fun e36 =>
      fbind (cIdx xs_2 (cw ((cw (y9 - (cw ((y1.length : Int) - 1)))) + y33))) fun e47 =>
      fbind (cNz y2) fun _ =>
      fbind (cNz y2) fun _ =>
      fbind (cIdx xs_2 (cw ((cw (y9 - (cw ((y1.length : Int) - 1)))) + y33))) fun e59 =>
      some (.inl (cw (y33 + 1), (xs_2.set (cw ((cw (y9 - (cw ((y1.length : Int) - 1)))) + y33) : Int).toNat (Int.tmod (cw ((Int.tmod (cw (e47 - (cw (e29 * e36)))) y2) + y2)) y2))))
    else
      some (.inr (.inl (cw (y9 - 1), xs_2)))
theorem Zy4 {F : Nat} (y1 : List Int) (y2 y9 e29 : Int)  (s_ : _) : Le (Zk3 F y1 y2 y9 e29 s_) (ZcW y1 y2 y9 e29 s_) := by
  obtain ⟨y33, xs_2⟩ := s_
  unfold Zk3 ZcW
  try simp only [← cw_ok, ← Zp, ← Zu, ← Zm, ← Zk, ← Zl, ← Zv, ← Zn, GT.gt, GE.ge]
  repeat' (with_reducible first | exact Le.rfl | assumption | exact Zr _ _ _ | exact Zo _ _ _ _ | (refine le_if ?_ ?_) | (refine Zs ?_ fun _ => ?_) | (refine Zq ?_) | (refine Zt fun _ => ?_))
noncomputable def ZlF (F : Nat) (y1 : List Int) (y2 : Int) : Int × List Int → Option ((Int × List Int) ⊕ (List Int))
  | (y9, xs) =>
    bif lei ((cw ((y1.length : Int) - 1))) (y9) then
      fbind (cIdx xs y9) fun e29 =>
      lpF F (Zk3 F y1 y2 y9 e29) (0, xs)
    else
      fbind (cSl xs 0 (if ((xs.length : Int) : Int) < (cw ((y1.length : Int) - 1)) then (xs.length : Int) else cw ((y1.length : Int) - 1))) fun l66 =>
      some (.inr (l66))
theorem Zu1 {F : Nat} (y1 : List Int) (y2 : Int)  (s_ : _) : Le (ZlF F y1 y2 s_) (ZaU y1 y2 s_) := by
  obtain ⟨y9, xs⟩ := s_
  unfold ZlF ZaU
  try simp only [← cw_ok, ← Zp, ← Zu, ← Zm, ← Zk, ← Zl, ← Zv, ← Zn, GT.gt, GE.ge]
  repeat' (with_reducible first | exact Le.rfl | assumption | exact Zy4 _ _ _ _ _ | exact Zr _ _ _ | exact Zo _ _ _ _ | (refine le_if ?_ ?_) | (refine Zs ?_ fun _ => ?_) | (refine Zq ?_) | (refine Zt fun _ => ?_))
noncomputable def ZkH (F : Nat) (y0 y1 : List Int) (y2 : Int) : Option (List Int) :=
  fbind (Zko F y0) fun r15 =>
  lpF F (ZlF F y1 y2) (cw ((r15.length : Int) - 1), r15)
theorem Zt3 {F : Nat} (y0 y1 : List Int) (y2 : Int)  : Le (ZkH F y0 y1 y2) (ZbT y0 y1 y2) := by
  unfold ZkH ZbT
  try simp only [← cw_ok, ← Zp, ← Zu, ← Zm, ← Zk, ← Zl, ← Zv, ← Zn, GT.gt, GE.ge]
  repeat' (with_reducible first | exact Le.rfl | assumption | exact Zu4 _ | exact Zu1 _ _ _ | exact Zr _ _ _ | exact Zo _ _ _ _ | (refine le_if ?_ ?_) | (refine Zs ?_ fun _ => ?_) | (refine Zq ?_) | (refine Zt fun _ => ?_))
noncomputable def Zmr (F : Nat) (x0 : Int) : Option Bool :=
  some (!eqi (x0) (0))
theorem ZwS {F : Nat} (x0 : Int)  : Le (Zmr F x0) (ZgT x0) := by
  unfold Zmr ZgT
  try simp only [← cw_ok, ← Zp, ← Zu, ← Zm, ← Zk, ← Zl, ← Zv, ← Zn, GT.gt, GE.ge]
  repeat' (with_reducible first | exact Le.rfl | assumption | exact Zr _ _ _ | exact Zo _ _ _ _ | (refine le_if ?_ ?_) | (refine Zs ?_ fun _ => ?_) | (refine Zq ?_) | (refine Zt fun _ => ?_))
noncomputable def ZmX (F : Nat) (list0 : List Int) : Option Bool :=
  fbind (Zjm F list0 (fun y0 => Zmr F y0)) fun r4 =>
  some (!r4)
theorem ZtC {F : Nat} (list0 : List Int)  : Le (ZmX F list0) (ZfC list0) := by
  unfold ZmX ZfC
  try simp only [← cw_ok, ← Zp, ← Zu, ← Zm, ← Zk, ← Zl, ← Zv, ← Zn, GT.gt, GE.ge]
  repeat' (with_reducible first | exact Le.rfl | assumption | (refine Ztq _ _ _ ?_; intros) | exact ZwS _ | exact Zr _ _ _ | exact Zo _ _ _ _ | (refine le_if ?_ ?_) | (refine Zs ?_ fun _ => ?_) | (refine Zq ?_) | (refine Zt fun _ => ?_))
noncomputable def ZjC (F : Nat) (poly0 : List Int) (p1 d6 : Int) : Int → Option ((Int) ⊕ ((Int) ⊕ (Bool)))
  | n7 =>
    fbind (Zgt F p1 d6 64) fun r20 =>
    bif lti (n7) (r20) then
      fbind (Zgu F n7 p1 d6) fun r28 =>
      fbind (cApp 8 r28 [1]) fun l30 =>
      fbind (ZkH F poly0 l30 p1) fun r32 =>
      fbind (ZmX F r32) fun r33 =>
      bif r33 then
        some (.inr (.inr (false)))
      else
        some (.inl (cw (n7 + 1)))
    else
      some (.inr (.inl (cw (d6 + 1))))
theorem Zrw {F : Nat} (poly0 : List Int) (p1 d6 : Int)  (s_ : _) : Le (ZjC F poly0 p1 d6 s_) (Zip poly0 p1 d6 s_) := by
  unfold ZjC Zip
  try simp only [← cw_ok, ← Zp, ← Zu, ← Zm, ← Zk, ← Zl, ← Zv, ← Zn, GT.gt, GE.ge]
  repeat' (with_reducible first | exact Le.rfl | assumption | exact Zmi _ _ _ | exact ZqC _ _ _ | exact Zt3 _ _ _ | exact ZtC _ | exact Zr _ _ _ | exact Zo _ _ _ _ | (refine le_if ?_ ?_) | (refine Zs ?_ fun _ => ?_) | (refine Zq ?_) | (refine Zt fun _ => ?_))
noncomputable def ZkI (F : Nat) (poly0 : List Int) (p1 r9 : Int) : Int → Option ((Int) ⊕ (Bool))
  | d6 =>
    bif lei (cw (2 * d6)) ((cw (r9 - 1))) then
      lpF F (ZjC F poly0 p1 d6) (0)
    else
      some (.inr (true))
theorem Zvx {F : Nat} (poly0 : List Int) (p1 r9 : Int)  (s_ : _) : Le (ZkI F poly0 p1 r9 s_) (ZhB poly0 p1 r9 s_) := by
  unfold ZkI ZhB
  try simp only [← cw_ok, ← Zp, ← Zu, ← Zm, ← Zk, ← Zl, ← Zv, ← Zn, GT.gt, GE.ge]
  repeat' (with_reducible first | exact Le.rfl | assumption | exact Zrw _ _ _ _ | exact Zr _ _ _ | exact Zo _ _ _ _ | (refine le_if ?_ ?_) | (refine Zs ?_ fun _ => ?_) | (refine Zq ?_) | (refine Zt fun _ => ?_))
noncomputable def ZiA (F : Nat) (poly0 : List Int) (p1 : Int) : Option Bool :=
  fbind (Zff F poly0) fun r9 =>
  lpF F (ZkI F poly0 p1 r9) (1)
theorem ZnW {F : Nat} (poly0 : List Int) (p1 : Int)  : Le (ZiA F poly0 p1) (ZeE poly0 p1) := by
  unfold ZiA ZeE
  try simp only [← cw_ok, ← Zp, ← Zu, ← Zm, ← Zk, ← Zl, ← Zv, ← Zn, GT.gt, GE.ge]
  repeat' (with_reducible first | exact Le.rfl | assumption | exact Zkz _ | exact Zvx _ _ _ _ | exact Zr _ _ _ | exact Zo _ _ _ _ | (refine le_if ?_ ?_) | (refine Zs ?_ fun _ => ?_) | (refine Zq ?_) | (refine Zt fun _ => ?_))
noncomputable def Zmx (F : Nat) (p4 : Int) : Int × List Int → Option ((Int × List Int) ⊕ ((Int × List Int × Int) ⊕ (List Int)))
  | (n0_3, factor3_2) =>
    fbind (cNz p4) fun _ =>
    bif eqi (Int.tmod n0_3 p4) (0) then
      fbind (cApp 8 factor3_2 [p4]) fun l22 =>
      fbind (cNz p4) fun _ =>
      some (.inl (cw (Int.tdiv n0_3 p4), l22))
    else
      some (.inr (.inl (n0_3, factor3_2, cw (p4 + 1))))
theorem Zyh {F : Nat} (p4 : Int)  (s_ : _) : Le (Zmx F p4 s_) (ZbR p4 s_) := by
  obtain ⟨n0_3, factor3_2⟩ := s_
  unfold Zmx ZbR
  try simp only [← cw_ok, ← Zp, ← Zu, ← Zm, ← Zk, ← Zl, ← Zv, ← Zn, GT.gt, GE.ge]
  repeat' (with_reducible first | exact Le.rfl | assumption | exact Zr _ _ _ | exact Zo _ _ _ _ | (refine le_if ?_ ?_) | (refine Zs ?_ fun _ => ?_) | (refine Zq ?_) | (refine Zt fun _ => ?_))
noncomputable def Zjx (F : Nat) : Int × List Int × Int → Option ((Int × List Int × Int) ⊕ (List Int))
  | (n0_2, factor3, p4) =>
    bif lei (cw (p4 * p4)) (n0_2) then
      lpF F (Zmx F p4) (n0_2, factor3)
    else
      bif lti (1) (n0_2) then
        fbind (cApp 8 factor3 [n0_2]) fun l31 =>
        some (.inr (l31))
      else
        some (.inr (factor3))
theorem ZqX {F : Nat}   (s_ : _) : Le (Zjx F  s_) (ZaM  s_) := by
  obtain ⟨n0_2, factor3, p4⟩ := s_
  unfold Zjx ZaM
  try simp only [← cw_ok, ← Zp, ← Zu, ← Zm, ← Zk, ← Zl, ← Zv, ← Zn, GT.gt, GE.ge]
  repeat' (with_reducible first | exact Le.rfl | assumption | exact Zyh _ _ | exact Zr _ _ _ | exact Zo _ _ _ _ | (refine le_if ?_ ?_) | (refine Zs ?_ fun _ => ?_) | (refine Zq ?_) | (refine Zt fun _ => ?_))
noncomputable def Ziy (F : Nat) (n0 : Int) : Option (List Int) :=
  fbind (Zh2 F n0 1 1000000) fun r6 =>
  bif !r6 then
    some (([] : List Int))
  else
    lpF F (Zjx F) (n0, ([] : List Int), 2)
theorem ZnX {F : Nat} (n0 : Int)  : Le (Ziy F n0) (Zbw n0) := by
  unfold Ziy Zbw
  try simp only [← cw_ok, ← Zp, ← Zu, ← Zm, ← Zk, ← Zl, ← Zv, ← Zn, GT.gt, GE.ge]
  repeat' (with_reducible first | exact Le.rfl | assumption | exact Zqc _ _ _ | exact ZqX  _ | exact Zr _ _ _ | exact Zo _ _ _ _ | (refine le_if ?_ ?_) | (refine Zs ?_ fun _ => ?_) | (refine Zq ?_) | (refine Zt fun _ => ?_))
noncomputable def ZlC (F : Nat) (n0 : Int) : Option Bool :=
  fbind (Ziy F n0) fun r4 =>
  some (eqi ((r4.length : Int)) (1))
theorem ZuD {F : Nat} (n0 : Int)  : Le (ZlC F n0) (Zgr n0) := by
  unfold ZlC Zgr
  try simp only [← cw_ok, ← Zp, ← Zu, ← Zm, ← Zk, ← Zl, ← Zv, ← Zn, GT.gt, GE.ge]
  repeat' (with_reducible first | exact Le.rfl | assumption | exact ZnX _ | exact Zr _ _ _ | exact Zo _ _ _ _ | (refine le_if ?_ ?_) | (refine Zs ?_ fun _ => ?_) | (refine Zq ?_) | (refine Zt fun _ => ?_))
noncomputable def ZmP (F : Nat) (f0 : Zc) : Int → Option ((Int) ⊕ (Bool))
  | y41 =>
    bif lti (y41) ((f0.Poly.length : Int)) then
      fbind (cIdx f0.Poly y41) fun e43 =>
      fbind (Zh2 F e43 0 (cw (f0.Prime - 1))) fun r49 =>
      bif !r49 then
        some (.inr (false))
      else
        some (.inl (cw (y41 + 1)))
    else
      fbind (ZiA F f0.Poly f0.Prime) fun r56 =>
      some (.inr (r56))
theorem Ztt {F : Nat} (f0 : Zc)  (s_ : _) : Le (ZmP F f0 s_) (Zhv f0 s_) := by
  unfold ZmP Zhv
  try simp only [← cw_ok, ← Zp, ← Zu, ← Zm, ← Zk, ← Zl, ← Zv, ← Zn, GT.gt, GE.ge]
  repeat' (with_reducible first | exact Le.rfl | assumption | exact Zqc _ _ _ | exact ZnW _ _ | exact Zr _ _ _ | exact Zo _ _ _ _ | (refine le_if ?_ ?_) | (refine Zs ?_ fun _ => ?_) | (refine Zq ?_) | (refine Zt fun _ => ?_))
noncomputable def Zkn (F : Nat) (f0 : Zc) : Option (Bool) :=
  lpF F (ZmP F f0) (0)
theorem ZxJ {F : Nat} (f0 : Zc)  : Le (Zkn F f0) (Zfu f0) := by
  unfold Zkn Zfu
  try simp only [← cw_ok, ← Zp, ← Zu, ← Zm, ← Zk, ← Zl, ← Zv, ← Zn, GT.gt, GE.ge]
  repeat' (with_reducible first | exact Le.rfl | assumption | exact Ztt _ _ | exact Zr _ _ _ | exact Zo _ _ _ _ | (refine le_if ?_ ?_) | (refine Zs ?_ fun _ => ?_) | (refine Zq ?_) | (refine Zt fun _ => ?_))
noncomputable def ZkR (F : Nat) (f0 : Zc) : Option (Bool) :=
  fbind (Zff F f0.Poly) fun r24 =>
  bif !eqi (r24) ((cw (f0.Degree + 1))) then
    some (false)
  else
    fbind (cIdx f0.Poly f0.Degree) fun e34 =>
    bif !eqi (e34) (1) then
      some (false)
    else
      Zkn F f0
theorem Zv9 {F : Nat} (f0 : Zc)  : Le (ZkR F f0) (ZfD f0) := by
  unfold ZkR ZfD
  try simp only [← cw_ok, ← Zp, ← Zu, ← Zm, ← Zk, ← Zl, ← Zv, ← Zn, GT.gt, GE.ge]
  repeat' (with_reducible first | exact Le.rfl | assumption | exact Zkz _ | exact ZxJ _ | exact Zr _ _ _ | exact Zo _ _ _ _ | (refine le_if ?_ ?_) | (refine Zs ?_ fun _ => ?_) | (refine Zq ?_) | (refine Zt fun _ => ?_))
noncomputable def Zom (F : Nat) (f0 : Zc) : Option Bool :=
  fbind (ZlC F f0.Prime) fun r7 =>
  bif !r7 then
    some (false)
  else
    bif lti (f0.Degree) (1) then
      some (false)
    else
      fbind (Zgt F f0.Prime f0.Degree 64) fun r19 =>
      bif lti (64) (r19) then
        some (false)
      else
        ZkR F f0
theorem ZS {F : Nat} (f0 : Zc)  : Le (Zom F f0) (Zez f0) := by
  unfold Zom Zez
  try simp only [← cw_ok, ← Zp, ← Zu, ← Zm, ← Zk, ← Zl, ← Zv, ← Zn, GT.gt, GE.ge]
  repeat' (with_reducible first | exact Le.rfl | assumption | exact ZuD _ | exact Zmi _ _ _ | exact Zv9 _ | exact Zr _ _ _ | exact Zo _ _ _ _ | (refine le_if ?_ ?_) | (refine Zs ?_ fun _ => ?_) | (refine Zq ?_) | (refine Zt fun _ => ?_))
noncomputable def Zjz (F : Nat) (r8 : List Int) : Int → Option ((Int) ⊕ (Int × Int))
  | y11 =>
    bif lti (y11) ((r8.length : Int)) then
      fbind (cIdx r8 y11) fun e13 =>
      fbind (cIdx r8 0) fun e17 =>
      bif !eqi (e13) (e17) then
        some (.inr ((0, 0)))
      else
        some (.inl (cw (y11 + 1)))
    else
      bif eqi ((r8.length : Int)) (0) then
        some (.inr ((0, 0)))
      else
        fbind (Zff F r8) fun r28 =>
        fbind (cIdx r8 0) fun e25 =>
        some (.inr ((e25, r28)))
theorem ZvY {F : Nat} (r8 : List Int)  (s_ : _) : Le (Zjz F r8 s_) (Za3 r8 s_) := by
  unfold Zjz Za3
  try simp only [← cw_ok, ← Zp, ← Zu, ← Zm, ← Zk, ← Zl, ← Zv, ← Zn, GT.gt, GE.ge]
  repeat' (with_reducible first | exact Le.rfl | assumption | exact Zkz _ | exact Zr _ _ _ | exact Zo _ _ _ _ | (refine le_if ?_ ?_) | (refine Zs ?_ fun _ => ?_) | (refine Zq ?_) | (refine Zt fun _ => ?_))
noncomputable def Zmt (F : Nat) (n0 : Int) : Option (Int × Int) :=
  fbind (Ziy F n0) fun r8 =>
  lpF F (Zjz F r8) (0)
theorem Zo7 {F : Nat} (n0 : Int)  : Le (Zmt F n0) (Zbm n0) := by
  unfold Zmt Zbm
  try simp only [← cw_ok, ← Zp, ← Zu, ← Zm, ← Zk, ← Zl, ← Zv, ← Zn, GT.gt, GE.ge]
  repeat' (with_reducible first | exact Le.rfl | assumption | exact ZnX _ | exact ZvY _ _ | exact Zr _ _ _ | exact Zo _ _ _ _ | (refine le_if ?_ ?_) | (refine Zs ?_ fun _ => ?_) | (refine Zq ?_) | (refine Zt fun _ => ?_))
noncomputable def ZlQ (F : Nat) (r9 : Int × Int) : Int → Option ((Int) ⊕ (Zc × Int))
  | n6 =>
    fbind (Zgu F n6 r9.1 r9.2) fun r22 =>
    fbind (cApp 8 r22 [1]) fun l24 =>
    fbind (ZiA F l24 r9.1) fun r26 =>
    bif !r26 then
      some (.inl (cw (n6 + 1)))
    else
      fbind (Zgu F n6 r9.1 r9.2) fun r35 =>
      fbind (cApp 8 r35 [1]) fun l37 =>
      some (.inr (((Zc.mk r9.1 r9.2 l37), 0)))
theorem Zw1 {F : Nat} (r9 : Int × Int)  (s_ : _) : Le (ZlQ F r9 s_) (ZhP r9 s_) := by
  unfold ZlQ ZhP
  try simp only [← cw_ok, ← Zp, ← Zu, ← Zm, ← Zk, ← Zl, ← Zv, ← Zn, GT.gt, GE.ge]
  repeat' (with_reducible first | exact Le.rfl | assumption | exact ZqC _ _ _ | exact ZnW _ _ | exact Zr _ _ _ | exact Zo _ _ _ _ | (refine le_if ?_ ?_) | (refine Zs ?_ fun _ => ?_) | (refine Zq ?_) | (refine Zt fun _ => ?_))
noncomputable def ZmJ (F : Nat) (r9 : Int × Int) : Option (Zc × Int) :=
  lpF F (ZlQ F r9) (0)
theorem Ztu {F : Nat} (r9 : Int × Int)  : Le (ZmJ F r9) (Zfq r9) := by
  unfold ZmJ Zfq
  try simp only [← cw_ok, ← Zp, ← Zu, ← Zm, ← Zk, ← Zl, ← Zv, ← Zn, GT.gt, GE.ge]
  repeat' (with_reducible first | exact Le.rfl | assumption | exact Zw1 _ _ | exact Zr _ _ _ | exact Zo _ _ _ _ | (refine le_if ?_ ?_) | (refine Zs ?_ fun _ => ?_) | (refine Zq ?_) | (refine Zt fun _ => ?_))
noncomputable def ZnV (F : Nat) (q0 : Int) : Option (Zc × Int) :=
  fbind (Zmt F q0) fun r9 =>
  bif eqi (r9.1) (0) then
    some (((Zc.mk 0 0 ([] : List Int)), 2))
  else
    bif lti (64) (q0) then
      some (((Zc.mk 0 0 ([] : List Int)), 2))
    else
      ZmJ F r9
theorem Zj {F : Nat} (q0 : Int)  : Le (ZnV F q0) (Za0 q0) := by
  unfold ZnV Za0
  try simp only [← cw_ok, ← Zp, ← Zu, ← Zm, ← Zk, ← Zl, ← Zv, ← Zn, GT.gt, GE.ge]
  repeat' (with_reducible first | exact Le.rfl | assumption | exact Zo7 _ | exact Ztu _ | exact Zr _ _ _ | exact Zo _ _ _ _ | (refine le_if ?_ ?_) | (refine Zs ?_ fun _ => ?_) | (refine Zq ?_) | (refine Zt fun _ => ?_))
end Go.Proofs.YtmmbnjijjdakmaaGreatDoor
