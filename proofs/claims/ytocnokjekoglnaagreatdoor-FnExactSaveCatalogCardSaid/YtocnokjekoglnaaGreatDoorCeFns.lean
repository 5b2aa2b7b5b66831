import Derived.Test.YtocnokjekoglnaaGreatDoorPuEvS
import Derived.Test.YtocnokjekoglnaaGreatDoorPuFns
namespace Go.Proofs.YtocnokjekoglnaaGreatDoor
open Go Go.Vc
set_option linter.unusedVariables false
set_option linter.unusedSimpArgs false
set_option maxRecDepth 20000
noncomputable instance : Frc Zc where
  frc p k := Zc.rec (fun x0 x1 x2 => Frc.frc x0 fun x0 => Frc.frc x1 fun x1 => Frc.frc x2 fun x2 => k (.mk x0 x1 x2)) p
  ok p k := by cases p; show Frc.frc _ _ = _; simp only [Frc.ok]
noncomputable def Zea (F : Nat) (n0 low1 high2 : Int) : Option Bool :=
  bif lei (low1) (n0) then
    some (lei (n0) (high2))
  else
    some (false)
theorem Zi4 {F : Nat} (n0 low1 high2 : Int)  : Le (Zea F n0 low1 high2) (ZN n0 low1 high2) := by
  unfold Zea ZN
  try simp only [← cw_ok, ← Zs, ← Zp, ← Zl, ← Zj, ← Zk, ← Zr, ← Zq, GT.gt, GE.ge]
  repeat' (with_reducible first | exact Le.rfl | assumption | exact Zo _ _ _ | exact Zm _ _ _ _ | (refine le_if ?_ ?_) | (refine Zu ?_ fun _ => ?_) | (refine Zt ?_) | (refine Zn fun _ => ?_))
noncomputable def Zi1 (F : Nat) (p4 : Int) : Int × Int → Option ((Int × Int) ⊕ ((Int) ⊕ (Int × Int)))
  | (k5, n6) =>
    bif lti (1) (n6) then
      fbind (cNz p4) fun _ =>
      bif !eqi (Int.tmod n6 p4) (0) then
        some (.inr (.inr ((0, 0))))
      else
        fbind (cNz p4) fun _ =>
        some (.inl (cw (k5 + 1), cw (Int.tdiv n6 p4)))
    else
      some (.inr (.inr ((p4, k5))))
theorem Zsm {F : Nat} (p4 : Int)  (s_ : _) : Le (Zi1 F p4 s_) (Zg8 p4 s_) := by
  obtain ⟨k5, n6⟩ := s_
  unfold Zi1 Zg8
  try simp only [← cw_ok, ← Zs, ← Zp, ← Zl, ← Zj, ← Zk, ← Zr, ← Zq, GT.gt, GE.ge]
  repeat' (with_reducible first | exact Le.rfl | assumption | exact Zo _ _ _ | exact Zm _ _ _ _ | (refine le_if ?_ ?_) | (refine Zu ?_ fun _ => ?_) | (refine Zt ?_) | (refine Zn fun _ => ?_))
noncomputable def ZiW (F : Nat) (q0 : Int) : Int → Option ((Int) ⊕ (Int × Int))
  | p4 =>
    fbind (cNz p4) fun _ =>
    bif !eqi (Int.tmod q0 p4) (0) then
      some (.inl (cw (p4 + 1)))
    else
      lpF F (Zi1 F p4) (0, q0)
theorem ZpN {F : Nat} (q0 : Int)  (s_ : _) : Le (ZiW F q0 s_) (ZgB q0 s_) := by
  unfold ZiW ZgB
  try simp only [← cw_ok, ← Zs, ← Zp, ← Zl, ← Zj, ← Zk, ← Zr, ← Zq, GT.gt, GE.ge]
  repeat' (with_reducible first | exact Le.rfl | assumption | exact Zsm _ _ | exact Zo _ _ _ | exact Zm _ _ _ _ | (refine le_if ?_ ?_) | (refine Zu ?_ fun _ => ?_) | (refine Zt ?_) | (refine Zn fun _ => ?_))
noncomputable def ZgS (F : Nat) (q0 : Int) : Option (Int × Int) :=
  fbind (Zea F q0 2 64) fun r8 =>
  bif !r8 then
    some ((0, 0))
  else
    lpF F (ZiW F q0) (2)
theorem Zh {F : Nat} (q0 : Int)  : Le (ZgS F q0) (Zba q0) := by
  unfold ZgS Zba
  try simp only [← cw_ok, ← Zs, ← Zp, ← Zl, ← Zj, ← Zk, ← Zr, ← Zq, GT.gt, GE.ge]
  repeat' (with_reducible first | exact Le.rfl | assumption | exact Zi4 _ _ _ | exact ZpN _ _ | exact Zo _ _ _ | exact Zm _ _ _ _ | (refine le_if ?_ ?_) | (refine Zu ?_ fun _ => ?_) | (refine Zt ?_) | (refine Zn fun _ => ?_))
noncomputable def Zk8 (F : Nat) (p1 : Int) : Int × Int × List Int → Option ((Int × Int × List Int) ⊕ (List Int))
  | (a0_2, n2_2, out7) =>
    bif lti (0) (n2_2) then
      fbind (cNz p1) fun _ =>
      fbind (cApp 8 out7 [Int.tmod a0_2 p1]) fun l18 =>
      fbind (cNz p1) fun _ =>
      some (.inl (cw (Int.tdiv a0_2 p1), cw (n2_2 - 1), l18))
    else
      some (.inr (out7))
theorem ZwE {F : Nat} (p1 : Int)  (s_ : _) : Le (Zk8 F p1 s_) (Zb5 p1 s_) := by
  obtain ⟨a0_2, n2_2, out7⟩ := s_
  unfold Zk8 Zb5
  try simp only [← cw_ok, ← Zs, ← Zp, ← Zl, ← Zj, ← Zk, ← Zr, ← Zq, GT.gt, GE.ge]
  repeat' (with_reducible first | exact Le.rfl | assumption | exact Zo _ _ _ | exact Zm _ _ _ _ | (refine le_if ?_ ?_) | (refine Zu ?_ fun _ => ?_) | (refine Zt ?_) | (refine Zn fun _ => ?_))
noncomputable def ZhE (F : Nat) (a0 p1 n2 : Int) : Option (List Int) :=
  lpF F (Zk8 F p1) (a0, n2, ([] : List Int))
theorem ZnA {F : Nat} (a0 p1 n2 : Int)  : Le (ZhE F a0 p1 n2) (ZaE a0 p1 n2) := by
  unfold ZhE ZaE
  try simp only [← cw_ok, ← Zs, ← Zp, ← Zl, ← Zj, ← Zk, ← Zr, ← Zq, GT.gt, GE.ge]
  repeat' (with_reducible first | exact Le.rfl | assumption | exact ZwE _ _ | exact Zo _ _ _ | exact Zm _ _ _ _ | (refine le_if ?_ ?_) | (refine Zu ?_ fun _ => ?_) | (refine Zt ?_) | (refine Zn fun _ => ?_))
noncomputable def Zjf (F : Nat) (p0 : Int) : Int × Int → Option ((Int × Int) ⊕ (Int))
  | (k1_2, out5) =>
    bif lti (0) (k1_2) then
      some (.inl (cw (k1_2 - 1), cw (out5 * p0)))
    else
      some (.inr (out5))
theorem Zs3 {F : Nat} (p0 : Int)  (s_ : _) : Le (Zjf F p0 s_) (Zhj p0 s_) := by
  obtain ⟨k1_2, out5⟩ := s_
  unfold Zjf Zhj
  try simp only [← cw_ok, ← Zs, ← Zp, ← Zl, ← Zj, ← Zk, ← Zr, ← Zq, GT.gt, GE.ge]
  repeat' (with_reducible first | exact Le.rfl | assumption | exact Zo _ _ _ | exact Zm _ _ _ _ | (refine le_if ?_ ?_) | (refine Zu ?_ fun _ => ?_) | (refine Zt ?_) | (refine Zn fun _ => ?_))
noncomputable def Zfa (F : Nat) (p0 k1 : Int) : Option Int :=
  lpF F (Zjf F p0) (k1, 1)
theorem ZlQ {F : Nat} (p0 k1 : Int)  : Le (Zfa F p0 k1) (ZcU p0 k1) := by
  unfold Zfa ZcU
  try simp only [← cw_ok, ← Zs, ← Zp, ← Zl, ← Zj, ← Zk, ← Zr, ← Zq, GT.gt, GE.ge]
  repeat' (with_reducible first | exact Le.rfl | assumption | exact Zs3 _ _ | exact Zo _ _ _ | exact Zm _ _ _ _ | (refine le_if ?_ ?_) | (refine Zu ?_ fun _ => ?_) | (refine Zt ?_) | (refine Zn fun _ => ?_))
noncomputable def Zkx (F : Nat) (list0 : List Int) : Option (List Int) :=
  fbind (cApp 8 ([] : List Int) list0) fun l5 =>
  some (l5)
theorem ZrE {F : Nat} (list0 : List Int)  : Le (Zkx F list0) (ZaH list0) := by
  unfold Zkx ZaH
  try simp only [← cw_ok, ← Zs, ← Zp, ← Zl, ← Zj, ← Zk, ← Zr, ← Zq, GT.gt, GE.ge]
  repeat' (with_reducible first | exact Le.rfl | assumption | exact Zo _ _ _ | exact Zm _ _ _ _ | (refine le_if ?_ ?_) | (refine Zu ?_ fun _ => ?_) | (refine Zt ?_) | (refine Zn fun _ => ?_))
noncomputable def ZiU (F : Nat) (y1 : List Int) (y2 y9 e28 : Int) : Int × List Int → Option ((Int × List Int) ⊕ ((Int × List Int) ⊕ (List Int)))
  | (y11, xs_2) =>
    bif lti (y11) ((y1.length : Int)) then
      fbind (cIdx xs_2 (cw ((cw ((cw (y9 - (y1.length : Int))) + 1)) + y11))) fun e45 =>
      fbind (cIdx y1 y11) fun e52 =>
      fbind (cNz y2) fun _ =>
      fbind (cIdx xs_2 (cw ((cw ((cw (y9 - (y1.length : Int))) + 1)) + y11))) fun e58 =>
      some (.inl (cw (y11 + 1), (xs_2.set (cw ((cw ((cw (y9 - (y1.length : Int))) + 1)) + y11) : Int).toNat (Int.tmod (cw (e45 + (cw ((cw (y2 - e28)) * e52)))) y2))))
    else
      some (.inr (.inl (cw (y9 - 1), xs_2)))
theorem ZwQ {F : Nat} (y1 : List Int) (y2 y9 e28 : Int)  (s_ : _) : Le (ZiU F y1 y2 y9 e28 s_) (ZcI y1 y2 y9 e28 s_) := by
  obtain ⟨y11, xs_2⟩ := s_
  unfold ZiU ZcI
  try simp only [← cw_ok, ← Zs, ← Zp, ← Zl, ← Zj, ← Zk, ← Zr, ← Zq, GT.gt, GE.ge]
  repeat' (with_reducible first | exact Le.rfl | assumption | exact Zo _ _ _ | exact Zm _ _ _ _ | (refine le_if ?_ ?_) | (refine Zu ?_ fun _ => ?_) | (refine Zt ?_) | (refine Zn fun _ => ?_))
noncomputable def ZjX (F : Nat) (y1 : List Int) : List Int → Option ((List Int) ⊕ ((Int × List Int) ⊕ (List Int)))
  | y7 =>
    bif lei ((y1.length : Int)) ((y7.length : Int)) then
      fbind (cSl y7 0 (cw ((y7.length : Int) - 1))) fun l67 =>
      some (.inl (l67))
    else
      some (.inr (.inr (y7)))
theorem Zwm {F : Nat} (y1 : List Int)  (s_ : _) : Le (ZjX F y1 s_) (Zbj y1 s_) := by
  unfold ZjX Zbj
  try simp only [← cw_ok, ← Zs, ← Zp, ← Zl, ← Zj, ← Zk, ← Zr, ← Zq, GT.gt, GE.ge]
  repeat' (with_reducible first | exact Le.rfl | assumption | exact Zo _ _ _ | exact Zm _ _ _ _ | (refine le_if ?_ ?_) | (refine Zu ?_ fun _ => ?_) | (refine Zt ?_) | (refine Zn fun _ => ?_))
noncomputable def ZkI (F : Nat) (y1 : List Int) (y2 : Int) : Int × List Int → Option ((Int × List Int) ⊕ (List Int))
  | (y9, xs) =>
    bif lei ((cw ((y1.length : Int) - 1))) (y9) then
      fbind (cIdx xs y9) fun e28 =>
      lpF F (ZiU F y1 y2 y9 e28) (0, xs)
    else
      lpF F (ZjX F y1) (xs)
theorem Zro {F : Nat} (y1 : List Int) (y2 : Int)  (s_ : _) : Le (ZkI F y1 y2 s_) (ZaO y1 y2 s_) := by
  obtain ⟨y9, xs⟩ := s_
  unfold ZkI ZaO
  try simp only [← cw_ok, ← Zs, ← Zp, ← Zl, ← Zj, ← Zk, ← Zr, ← Zq, GT.gt, GE.ge]
  repeat' (with_reducible first | exact Le.rfl | assumption | exact ZwQ _ _ _ _ _ | exact Zwm _ _ | exact Zo _ _ _ | exact Zm _ _ _ _ | (refine le_if ?_ ?_) | (refine Zu ?_ fun _ => ?_) | (refine Zt ?_) | (refine Zn fun _ => ?_))
noncomputable def Zkm (F : Nat) (y0 y1 : List Int) (y2 : Int) : Option (List Int) :=
  fbind (Zkx F y0) fun r14 =>
  lpF F (ZkI F y1 y2) (cw ((r14.length : Int) - 1), r14)
theorem Zqs {F : Nat} (y0 y1 : List Int) (y2 : Int)  : Le (Zkm F y0 y1 y2) (ZbH y0 y1 y2) := by
  unfold Zkm ZbH
  try simp only [← cw_ok, ← Zs, ← Zp, ← Zl, ← Zj, ← Zk, ← Zr, ← Zq, GT.gt, GE.ge]
  repeat' (with_reducible first | exact Le.rfl | assumption | exact ZrE _ | exact Zro _ _ _ | exact Zo _ _ _ | exact Zm _ _ _ _ | (refine le_if ?_ ?_) | (refine Zu ?_ fun _ => ?_) | (refine Zt ?_) | (refine Zn fun _ => ?_))
noncomputable def Zlb (F : Nat) (list0 : List Int) (p1 : Int) : Int × Int → Option ((Int × Int) ⊕ (Int))
  | (out5, i6) =>
    bif lei (0) (i6) then
      fbind (cIdx list0 i6) fun e19 =>
      some (.inl (cw ((cw (out5 * p1)) + e19), cw (i6 - 1)))
    else
      some (.inr (out5))
theorem Zr5 {F : Nat} (list0 : List Int) (p1 : Int)  (s_ : _) : Le (Zlb F list0 p1 s_) (ZcE list0 p1 s_) := by
  obtain ⟨out5, i6⟩ := s_
  unfold Zlb ZcE
  try simp only [← cw_ok, ← Zs, ← Zp, ← Zl, ← Zj, ← Zk, ← Zr, ← Zq, GT.gt, GE.ge]
  repeat' (with_reducible first | exact Le.rfl | assumption | exact Zo _ _ _ | exact Zm _ _ _ _ | (refine le_if ?_ ?_) | (refine Zu ?_ fun _ => ?_) | (refine Zt ?_) | (refine Zn fun _ => ?_))
noncomputable def Zlx (F : Nat) (list0 : List Int) (p1 : Int) : Option Int :=
  lpF F (Zlb F list0 p1) (0, cw ((list0.length : Int) - 1))
theorem Zq2 {F : Nat} (list0 : List Int) (p1 : Int)  : Le (Zlx F list0 p1) (ZaA list0 p1) := by
  unfold Zlx ZaA
  try simp only [← cw_ok, ← Zs, ← Zp, ← Zl, ← Zj, ← Zk, ← Zr, ← Zq, GT.gt, GE.ge]
  repeat' (with_reducible first | exact Le.rfl | assumption | exact Zr5 _ _ _ | exact Zo _ _ _ | exact Zm _ _ _ _ | (refine le_if ?_ ?_) | (refine Zu ?_ fun _ => ?_) | (refine Zt ?_) | (refine Zn fun _ => ?_))
noncomputable def Zio (F : Nat) (poly0 : List Int) (p1 d6 : Int) : Int → Option ((Int) ⊕ ((Int) ⊕ (Bool)))
  | n7 =>
    fbind (Zfa F p1 d6) fun r22 =>
    bif lti (n7) (r22) then
      fbind (ZhE F n7 p1 d6) fun r29 =>
      fbind (cApp 8 r29 [1]) fun l31 =>
      fbind (Zkm F poly0 l31 p1) fun r35 =>
      fbind (Zlx F r35 p1) fun r38 =>
      bif eqi (r38) (0) then
        some (.inr (.inr (false)))
      else
        some (.inl (cw (n7 + 1)))
    else
      some (.inr (.inl (cw (d6 + 1))))
theorem Zvj {F : Nat} (poly0 : List Int) (p1 d6 : Int)  (s_ : _) : Le (Zio F poly0 p1 d6 s_) (ZgQ poly0 p1 d6 s_) := by
  unfold Zio ZgQ
  try simp only [← cw_ok, ← Zs, ← Zp, ← Zl, ← Zj, ← Zk, ← Zr, ← Zq, GT.gt, GE.ge]
  repeat' (with_reducible first | exact Le.rfl | assumption | exact ZlQ _ _ | exact ZnA _ _ _ | exact Zqs _ _ _ | exact Zq2 _ _ | exact Zo _ _ _ | exact Zm _ _ _ _ | (refine le_if ?_ ?_) | (refine Zu ?_ fun _ => ?_) | (refine Zt ?_) | (refine Zn fun _ => ?_))
noncomputable def Zjr (F : Nat) (poly0 : List Int) (p1 : Int) : Int → Option ((Int) ⊕ (Bool))
  | d6 =>
    bif lei (cw (2 * d6)) ((cw ((poly0.length : Int) - 1))) then
      lpF F (Zio F poly0 p1 d6) (0)
    else
      some (.inr (true))
theorem Zwx {F : Nat} (poly0 : List Int) (p1 : Int)  (s_ : _) : Le (Zjr F poly0 p1 s_) (Zhh poly0 p1 s_) := by
  unfold Zjr Zhh
  try simp only [← cw_ok, ← Zs, ← Zp, ← Zl, ← Zj, ← Zk, ← Zr, ← Zq, GT.gt, GE.ge]
  repeat' (with_reducible first | exact Le.rfl | assumption | exact Zvj _ _ _ _ | exact Zo _ _ _ | exact Zm _ _ _ _ | (refine le_if ?_ ?_) | (refine Zu ?_ fun _ => ?_) | (refine Zt ?_) | (refine Zn fun _ => ?_))
noncomputable def ZhG (F : Nat) (poly0 : List Int) (p1 : Int) : Option Bool :=
  lpF F (Zjr F poly0 p1) (1)
theorem ZnD {F : Nat} (poly0 : List Int) (p1 : Int)  : Le (ZhG F poly0 p1) (ZdG poly0 p1) := by
  unfold ZhG ZdG
  try simp only [← cw_ok, ← Zs, ← Zp, ← Zl, ← Zj, ← Zk, ← Zr, ← Zq, GT.gt, GE.ge]
  repeat' (with_reducible first | exact Le.rfl | assumption | exact Zwx _ _ _ | exact Zo _ _ _ | exact Zm _ _ _ _ | (refine le_if ?_ ?_) | (refine Zu ?_ fun _ => ?_) | (refine Zt ?_) | (refine Zn fun _ => ?_))
noncomputable def Zic (F : Nat) (r9 : Int × Int) : Int → Option ((Int) ⊕ (Zc))
  | n5 =>
    fbind (ZhE F n5 r9.1 r9.2) fun r17 =>
    fbind (cApp 8 r17 [1]) fun l19 =>
    fbind (ZhG F l19 r9.1) fun r22 =>
    bif r22 then
      some (.inr ((Zc.mk r9.1 r9.2 l19)))
    else
      some (.inl (cw (n5 + 1)))
theorem Zqj {F : Nat} (r9 : Int × Int)  (s_ : _) : Le (Zic F r9 s_) (Zhs r9 s_) := by
  unfold Zic Zhs
  try simp only [← cw_ok, ← Zs, ← Zp, ← Zl, ← Zj, ← Zk, ← Zr, ← Zq, GT.gt, GE.ge]
  repeat' (with_reducible first | exact Le.rfl | assumption | exact ZnA _ _ _ | exact ZnD _ _ | exact Zo _ _ _ | exact Zm _ _ _ _ | (refine le_if ?_ ?_) | (refine Zu ?_ fun _ => ?_) | (refine Zt ?_) | (refine Zn fun _ => ?_))
noncomputable def Zmw (F : Nat) (q0 : Int) : Option Zc :=
  fbind (ZgS F q0) fun r9 =>
  lpF F (Zic F r9) (0)
theorem ZQ {F : Nat} (q0 : Int)  : Le (Zmw F q0) (Zc9 q0) := by
  unfold Zmw Zc9
  try simp only [← cw_ok, ← Zs, ← Zp, ← Zl, ← Zj, ← Zk, ← Zr, ← Zq, GT.gt, GE.ge]
  repeat' (with_reducible first | exact Le.rfl | assumption | exact Zh _ | exact Zqj _ _ | exact Zo _ _ _ | exact Zm _ _ _ _ | (refine le_if ?_ ?_) | (refine Zu ?_ fun _ => ?_) | (refine Zt ?_) | (refine Zn fun _ => ?_))
noncomputable def ZiR (F : Nat) (y0 : Zc) (r58 : Int × Int) : Int → Option ((Int) ⊕ (Bool))
  | y6 =>
    bif lti (y6) ((y0.Poly.length : Int)) then
      fbind (cIdx y0.Poly y6) fun e81 =>
      fbind (Zea F e81 0 (cw (r58.1 - 1))) fun r85 =>
      bif !r85 then
        some (.inr (false))
      else
        some (.inl (cw (y6 + 1)))
    else
      fbind (ZhG F y0.Poly r58.1) fun r92 =>
      some (.inr (r92))
theorem ZsS {F : Nat} (y0 : Zc) (r58 : Int × Int)  (s_ : _) : Le (ZiR F y0 r58 s_) (ZhK y0 r58 s_) := by
  unfold ZiR ZhK
  try simp only [← cw_ok, ← Zs, ← Zp, ← Zl, ← Zj, ← Zk, ← Zr, ← Zq, GT.gt, GE.ge]
  repeat' (with_reducible first | exact Le.rfl | assumption | exact Zi4 _ _ _ | exact ZnD _ _ | exact Zo _ _ _ | exact Zm _ _ _ _ | (refine le_if ?_ ?_) | (refine Zu ?_ fun _ => ?_) | (refine Zt ?_) | (refine Zn fun _ => ?_))
noncomputable def ZiM (F : Nat) (y0 : Zc) : Option (Bool) :=
  fbind (Zfa F y0.Prime y0.Degree) fun r55 =>
  fbind (ZgS F r55) fun r58 =>
  bif !eqi (r58.1) (y0.Prime) then
    some (false)
  else
    lpF F (ZiR F y0 r58) (0)
theorem Zs1 {F : Nat} (y0 : Zc)  : Le (ZiM F y0) (ZfN y0) := by
  unfold ZiM ZfN
  try simp only [← cw_ok, ← Zs, ← Zp, ← Zl, ← Zj, ← Zk, ← Zr, ← Zq, GT.gt, GE.ge]
  repeat' (with_reducible first | exact Le.rfl | assumption | exact ZlQ _ _ | exact Zh _ | exact ZsS _ _ _ | exact Zo _ _ _ | exact Zm _ _ _ _ | (refine le_if ?_ ?_) | (refine Zu ?_ fun _ => ?_) | (refine Zt ?_) | (refine Zn fun _ => ?_))
noncomputable def Zmb (F : Nat) (y0 : Zc) : Option Bool :=
  fbind (Zea F y0.Prime 2 64) fun r11 =>
  bif !r11 then
    some (false)
  else
    fbind (Zea F y0.Degree 1 6) fun r18 =>
    bif !r18 then
      some (false)
    else
      bif !eqi ((y0.Poly.length : Int)) ((cw (y0.Degree + 1))) then
        some (false)
      else
        fbind (cIdx y0.Poly y0.Degree) fun e43 =>
        bif !eqi (e43) (1) then
          some (false)
        else
          ZiM F y0
theorem ZS {F : Nat} (y0 : Zc)  : Le (Zmb F y0) (ZdV y0) := by
  unfold Zmb ZdV
  try simp only [← cw_ok, ← Zs, ← Zp, ← Zl, ← Zj, ← Zk, ← Zr, ← Zq, GT.gt, GE.ge]
  repeat' (with_reducible first | exact Le.rfl | assumption | exact Zi4 _ _ _ | exact Zs1 _ | exact Zo _ _ _ | exact Zm _ _ _ _ | (refine le_if ?_ ?_) | (refine Zu ?_ fun _ => ?_) | (refine Zt ?_) | (refine Zn fun _ => ?_))
noncomputable def ZmD (F : Nat) (f0 : Zc) : Option Int :=
  fbind (Zfa F f0.Prime f0.Degree) fun r11 =>
  some (r11)
theorem ZT {F : Nat} (f0 : Zc)  : Le (ZmD F f0) (ZbY f0) := by
  unfold ZmD ZbY
  try simp only [← cw_ok, ← Zs, ← Zp, ← Zl, ← Zj, ← Zk, ← Zr, ← Zq, GT.gt, GE.ge]
  repeat' (with_reducible first | exact Le.rfl | assumption | exact ZlQ _ _ | exact Zo _ _ _ | exact Zm _ _ _ _ | (refine le_if ?_ ?_) | (refine Zu ?_ fun _ => ?_) | (refine Zt ?_) | (refine Zn fun _ => ?_))
noncomputable def Zhe (F : Nat) (n0 low1 high2 : Int) : Option Bool :=
  bif lei (low1) (n0) then
    some (lei (n0) (high2))
  else
    some (false)
theorem ZmK {F : Nat} (n0 low1 high2 : Int)  : Le (Zhe F n0 low1 high2) (ZL n0 low1 high2) := by
  unfold Zhe ZL
  try simp only [← cw_ok, ← Zs, ← Zp, ← Zl, ← Zj, ← Zk, ← Zr, ← Zq, GT.gt, GE.ge]
  repeat' (with_reducible first | exact Le.rfl | assumption | exact Zo _ _ _ | exact Zm _ _ _ _ | (refine le_if ?_ ?_) | (refine Zu ?_ fun _ => ?_) | (refine Zt ?_) | (refine Zn fun _ => ?_))
noncomputable def ZkY (F : Nat) (a0 : List Int) : Option (List Int) := cApp 8 [] a0
theorem ZvV {F : Nat} (a0 : List Int)  : Le (ZkY F a0) (Zbf a0) := by
  unfold ZkY Zbf
  try simp only [← cw_ok, ← Zs, ← Zp, ← Zl, ← Zj, ← Zk, ← Zr, ← Zq, GT.gt, GE.ge]
  repeat' (with_reducible first | exact Le.rfl | assumption | exact Zo _ _ _ | exact Zm _ _ _ _ | (refine le_if ?_ ?_) | (refine Zu ?_ fun _ => ?_) | (refine Zt ?_) | (refine Zn fun _ => ?_))
noncomputable def Zgz (F : Nat) (list0 : List Int) : Option Int :=
  some ((list0.length : Int))
theorem ZjO {F : Nat} (list0 : List Int)  : Le (Zgz F list0) (ZJ list0) := by
  unfold Zgz ZJ
  try simp only [← cw_ok, ← Zs, ← Zp, ← Zl, ← Zj, ← Zk, ← Zr, ← Zq, GT.gt, GE.ge]
  repeat' (with_reducible first | exact Le.rfl | assumption | exact Zo _ _ _ | exact Zm _ _ _ _ | (refine le_if ?_ ?_) | (refine Zu ?_ fun _ => ?_) | (refine Zt ?_) | (refine Zn fun _ => ?_))
noncomputable def Zib (F : Nat) (s0 : List Int) (fn1 : Int → Option Bool) : Int → Option ((Int) ⊕ (Int))
  | y8 =>
    bif lti (y8) ((s0.length : Int)) then
      fbind (cIdx s0 y8) fun e14 =>
      fbind (fn1 e14) fun r16 =>
      bif r16 then
        some (.inr (y8))
      else
        some (.inl (cw (y8 + 1)))
    else
      some (.inr ((-1)))
theorem ZqL {F : Nat} (s0 : List Int) (fn1 fn1' : Int → Option Bool) (hfn1 : ∀ u0, Le (fn1 u0) (fn1' u0)) (s_ : _) : Le (Zib F s0 fn1 s_) (Zcx s0 fn1' s_) := by
  unfold Zib Zcx
  try simp only [← cw_ok, ← Zs, ← Zp, ← Zl, ← Zj, ← Zk, ← Zr, ← Zq, GT.gt, GE.ge]
  repeat' (with_reducible first | exact Le.rfl | assumption | exact Zo _ _ _ | exact Zm _ _ _ _ | (refine le_if ?_ ?_) | (refine Zu ?_ fun _ => ?_) | (refine Zt ?_) | (refine Zn fun _ => ?_))
  all_goals (first | exact hfn1 _ | skip)
noncomputable def ZiC (F : Nat) (s0 : List Int) (fn1 : Int → Option Bool) : Option Int :=
  lpF F (Zib F s0 fn1) (0)
theorem Zu6 {F : Nat} (s0 : List Int) (fn1 fn1' : Int → Option Bool) (hfn1 : ∀ u0, Le (fn1 u0) (fn1' u0)) : Le (ZiC F s0 fn1) (Zfu s0 fn1') := by
  unfold ZiC Zfu
  try simp only [← cw_ok, ← Zs, ← Zp, ← Zl, ← Zj, ← Zk, ← Zr, ← Zq, GT.gt, GE.ge]
  repeat' (with_reducible first | exact Le.rfl | assumption | (refine ZqL _ _ _ ?_ _; intros) | exact Zo _ _ _ | exact Zm _ _ _ _ | (refine le_if ?_ ?_) | (refine Zu ?_ fun _ => ?_) | (refine Zt ?_) | (refine Zn fun _ => ?_))
  all_goals (first | exact hfn1 _ | skip)
noncomputable def ZjY (F : Nat) (s0 : List Int) (fn1 : Int → Option Bool) : Option Bool :=
  fbind (ZiC F s0 fn1) fun r7 =>
  some (lei (0) (r7))
theorem ZrY {F : Nat} (s0 : List Int) (fn1 fn1' : Int → Option Bool) (hfn1 : ∀ u0, Le (fn1 u0) (fn1' u0)) : Le (ZjY F s0 fn1) (Zap s0 fn1') := by
  unfold ZjY Zap
  try simp only [← cw_ok, ← Zs, ← Zp, ← Zl, ← Zj, ← Zk, ← Zr, ← Zq, GT.gt, GE.ge]
  repeat' (with_reducible first | exact Le.rfl | assumption | (refine Zu6 _ _ _ ?_; intros) | exact Zo _ _ _ | exact Zm _ _ _ _ | (refine le_if ?_ ?_) | (refine Zu ?_ fun _ => ?_) | (refine Zt ?_) | (refine Zn fun _ => ?_))
  all_goals (first | exact hfn1 _ | skip)
noncomputable def ZjB (F : Nat) (base0 e1_2 power7 : Int) : Option ((Int × Int) ⊕ (Int)) :=
  some (.inl (cw (e1_2 - 1), cw (power7 * base0)))
theorem ZoU {F : Nat} (base0 e1_2 power7 : Int)  : Le (ZjB F base0 e1_2 power7) (Zdy base0 e1_2 power7) := by
  unfold ZjB Zdy
  try simp only [← cw_ok, ← Zs, ← Zp, ← Zl, ← Zj, ← Zk, ← Zr, ← Zq, GT.gt, GE.ge]
  repeat' (with_reducible first | exact Le.rfl | assumption | exact Zo _ _ _ | exact Zm _ _ _ _ | (refine le_if ?_ ?_) | (refine Zu ?_ fun _ => ?_) | (refine Zt ?_) | (refine Zn fun _ => ?_))
noncomputable def Zj6 (F : Nat) (base0 limit2 : Int) : Int × Int → Option ((Int × Int) ⊕ (Int))
  | (e1_2, power7) =>
    bif lti (0) (e1_2) then
      bif lei (power7) (limit2) then
        ZjB F base0 e1_2 power7
      else
        some (.inr (power7))
    else
      some (.inr (power7))
theorem ZsE {F : Nat} (base0 limit2 : Int)  (s_ : _) : Le (Zj6 F base0 limit2 s_) (ZaK base0 limit2 s_) := by
  obtain ⟨e1_2, power7⟩ := s_
  unfold Zj6 ZaK
  try simp only [← cw_ok, ← Zs, ← Zp, ← Zl, ← Zj, ← Zk, ← Zr, ← Zq, GT.gt, GE.ge]
  repeat' (with_reducible first | exact Le.rfl | assumption | exact ZoU _ _ _ | exact Zo _ _ _ | exact Zm _ _ _ _ | (refine le_if ?_ ?_) | (refine Zu ?_ fun _ => ?_) | (refine Zt ?_) | (refine Zn fun _ => ?_))
noncomputable def Zes (F : Nat) (base0 e1 limit2 : Int) : Option Int :=
  lpF F (Zj6 F base0 limit2) (e1, 1)
theorem ZkK {F : Nat} (base0 e1 limit2 : Int)  : Le (Zes F base0 e1 limit2) (Zbt base0 e1 limit2) := by
  unfold Zes Zbt
  try simp only [← cw_ok, ← Zs, ← Zp, ← Zl, ← Zj, ← Zk, ← Zr, ← Zq, GT.gt, GE.ge]
  repeat' (with_reducible first | exact Le.rfl | assumption | exact ZsE _ _ _ | exact Zo _ _ _ | exact Zm _ _ _ _ | (refine le_if ?_ ?_) | (refine Zu ?_ fun _ => ?_) | (refine Zt ?_) | (refine Zn fun _ => ?_))
noncomputable def Znl (F : Nat) (f0 : Zc) : Option Int :=
  fbind (Zes F f0.Prime f0.Degree 64) fun r7 =>
  some (r7)
theorem ZU {F : Nat} (f0 : Zc)  : Le (Znl F f0) (Zbl f0) := by
  unfold Znl Zbl
  try simp only [← cw_ok, ← Zs, ← Zp, ← Zl, ← Zj, ← Zk, ← Zr, ← Zq, GT.gt, GE.ge]
  repeat' (with_reducible first | exact Le.rfl | assumption | exact ZkK _ _ _ | exact Zo _ _ _ | exact Zm _ _ _ _ | (refine le_if ?_ ?_) | (refine Zu ?_ fun _ => ?_) | (refine Zt ?_) | (refine Zn fun _ => ?_))
noncomputable def Zlf (F : Nat) (base1 : Int) (l10 : List Int) : Int × Int × List Int → Option ((Int × Int × List Int) ⊕ (List Int))
  | (n0_2, y13, xs) =>
    bif lti (y13) ((l10.length : Int)) then
      fbind (cNz base1) fun _ =>
      fbind (cIdx xs y13) fun e21 =>
      fbind (cNz base1) fun _ =>
      some (.inl (cw (Int.tdiv n0_2 base1), cw (y13 + 1), (xs.set (y13 : Int).toNat (Int.tmod n0_2 base1))))
    else
      some (.inr (xs))
theorem Zo8 {F : Nat} (base1 : Int) (l10 : List Int)  (s_ : _) : Le (Zlf F base1 l10 s_) (ZbE base1 l10 s_) := by
  obtain ⟨n0_2, y13, xs⟩ := s_
  unfold Zlf ZbE
  try simp only [← cw_ok, ← Zs, ← Zp, ← Zl, ← Zj, ← Zk, ← Zr, ← Zq, GT.gt, GE.ge]
  repeat' (with_reducible first | exact Le.rfl | assumption | exact Zo _ _ _ | exact Zm _ _ _ _ | (refine le_if ?_ ?_) | (refine Zu ?_ fun _ => ?_) | (refine Zt ?_) | (refine Zn fun _ => ?_))
noncomputable def Zgh (F : Nat) (n0 base1 count2 : Int) : Option (List Int) :=
  fbind (cMake 8 (0 : Int) count2 count2) fun l10 =>
  lpF F (Zlf F base1 l10) (n0, 0, l10)
theorem Zor {F : Nat} (n0 base1 count2 : Int)  : Le (Zgh F n0 base1 count2) (Zau n0 base1 count2) := by
  unfold Zgh Zau
  try simp only [← cw_ok, ← Zs, ← Zp, ← Zl, ← Zj, ← Zk, ← Zr, ← Zq, GT.gt, GE.ge]
  repeat' (with_reducible first | exact Le.rfl | assumption | exact Zo8 _ _ _ | exact Zo _ _ _ | exact Zm _ _ _ _ | (refine le_if ?_ ?_) | (refine Zu ?_ fun _ => ?_) | (refine Zt ?_) | (refine Zn fun _ => ?_))
noncomputable def Zlp (F : Nat) (y1 : List Int) (y2 y9 e29 : Int) : Int × List Int → Option ((Int × List Int) ⊕ ((Int × List Int) ⊕ (List Int)))
  | (y33, xs_2) =>
    bif lti (y33) ((y1.length : Int)) then
      fbind (cIdx y1 y33) fun e36 =>
      fbind (cIdx xs_2 (cw ((cw (y9 - (cw ((y1.length : Int) - 1)))) + y33))) fun e47 =>
      fbind (cNz y2) fun _ =>
      fbind (cNz y2) fun _ =>
      fbind (cIdx xs_2 (cw ((cw (y9 - (cw ((y1.length : Int) - 1)))) + y33))) fun e59 =>
      some (.inl (cw (y33 + 1), (xs_2.set (cw ((cw (y9 - (cw ((y1.length : Int) - 1)))) + y33) : Int).toNat (Int.tmod (cw ((Int.tmod (cw (e47 - (cw (e29 * e36)))) y2) + y2)) y2))))
    else
      some (.inr (.inl (cw (y9 - 1), xs_2)))
theorem ZtK {F : Nat} (y1 : List Int) (y2 y9 e29 : Int)  (s_ : _) : Le (Zlp F y1 y2 y9 e29 s_) (Zc1 y1 y2 y9 e29 s_) := by
  obtain ⟨y33, xs_2⟩ := s_
  unfold Zlp Zc1
  try simp only [← cw_ok, ← Zs, ← Zp, ← Zl, ← Zj, ← Zk, ← Zr, ← Zq, GT.gt, GE.ge]
  repeat' (with_reducible first | exact Le.rfl | assumption | exact Zo _ _ _ | exact Zm _ _ _ _ | (refine le_if ?_ ?_) | (refine Zu ?_ fun _ => ?_) | (refine Zt ?_) | (refine Zn fun _ => ?_))
noncomputable def Zld (F : Nat) (y1 : List Int) (y2 : Int) : Int × List Int → Option ((Int × List Int) ⊕ (List Int))
  | (y9, xs) =>
    bif lei ((cw ((y1.length : Int) - 1))) (y9) then
      fbind (cIdx xs y9) fun e29 =>
      lpF F (Zlp F y1 y2 y9 e29) (0, xs)
    else
      fbind (cSl xs 0 (if ((xs.length : Int) : Int) < (cw ((y1.length : Int) - 1)) then (xs.length : Int) else cw ((y1.length : Int) - 1))) fun l66 =>
      some (.inr (l66))
theorem Zt2 {F : Nat} (y1 : List Int) (y2 : Int)  (s_ : _) : Le (Zld F y1 y2 s_) (ZaR y1 y2 s_) := by
  obtain ⟨y9, xs⟩ := s_
  unfold Zld ZaR
  try simp only [← cw_ok, ← Zs, ← Zp, ← Zl, ← Zj, ← Zk, ← Zr, ← Zq, GT.gt, GE.ge]
  repeat' (with_reducible first | exact Le.rfl | assumption | exact ZtK _ _ _ _ _ | exact Zo _ _ _ | exact Zm _ _ _ _ | (refine le_if ?_ ?_) | (refine Zu ?_ fun _ => ?_) | (refine Zt ?_) | (refine Zn fun _ => ?_))
noncomputable def ZlJ (F : Nat) (y0 y1 : List Int) (y2 : Int) : Option (List Int) :=
  fbind (ZkY F y0) fun r15 =>
  lpF F (Zld F y1 y2) (cw ((r15.length : Int) - 1), r15)
theorem ZrR {F : Nat} (y0 y1 : List Int) (y2 : Int)  : Le (ZlJ F y0 y1 y2) (Zb9 y0 y1 y2) := by
  unfold ZlJ Zb9
  try simp only [← cw_ok, ← Zs, ← Zp, ← Zl, ← Zj, ← Zk, ← Zr, ← Zq, GT.gt, GE.ge]
  repeat' (with_reducible first | exact Le.rfl | assumption | exact ZvV _ | exact Zt2 _ _ _ | exact Zo _ _ _ | exact Zm _ _ _ _ | (refine le_if ?_ ?_) | (refine Zu ?_ fun _ => ?_) | (refine Zt ?_) | (refine Zn fun _ => ?_))
noncomputable def ZkG (F : Nat) (x0 : Int) : Option Bool :=
  some (!eqi (x0) (0))
theorem Zqh {F : Nat} (x0 : Int)  : Le (ZkG F x0) (ZeD x0) := by
  unfold ZkG ZeD
  try simp only [← cw_ok, ← Zs, ← Zp, ← Zl, ← Zj, ← Zk, ← Zr, ← Zq, GT.gt, GE.ge]
  repeat' (with_reducible first | exact Le.rfl | assumption | exact Zo _ _ _ | exact Zm _ _ _ _ | (refine le_if ?_ ?_) | (refine Zu ?_ fun _ => ?_) | (refine Zt ?_) | (refine Zn fun _ => ?_))
noncomputable def ZlC (F : Nat) (list0 : List Int) : Option Bool :=
  fbind (ZjY F list0 (fun y0 => ZkG F y0)) fun r4 =>
  some (!r4)
theorem Zw9 {F : Nat} (list0 : List Int)  : Le (ZlC F list0) (ZfU list0) := by
  unfold ZlC ZfU
  try simp only [← cw_ok, ← Zs, ← Zp, ← Zl, ← Zj, ← Zk, ← Zr, ← Zq, GT.gt, GE.ge]
  repeat' (with_reducible first | exact Le.rfl | assumption | (refine ZrY _ _ _ ?_; intros) | exact Zqh _ | exact Zo _ _ _ | exact Zm _ _ _ _ | (refine le_if ?_ ?_) | (refine Zu ?_ fun _ => ?_) | (refine Zt ?_) | (refine Zn fun _ => ?_))
noncomputable def ZkQ (F : Nat) (poly0 : List Int) (p1 d6 : Int) : Int → Option ((Int) ⊕ ((Int) ⊕ (Bool)))
  | n7 =>
    fbind (Zes F p1 d6 64) fun r20 =>
    bif lti (n7) (r20) then
      fbind (Zgh F n7 p1 d6) fun r28 =>
      fbind (cApp 8 r28 [1]) fun l30 =>
      fbind (ZlJ F poly0 l30 p1) fun r32 =>
      fbind (ZlC F r32) fun r33 =>
      bif r33 then
        some (.inr (.inr (false)))
      else
        some (.inl (cw (n7 + 1)))
    else
      some (.inr (.inl (cw (d6 + 1))))
theorem Zt1 {F : Nat} (poly0 : List Int) (p1 d6 : Int)  (s_ : _) : Le (ZkQ F poly0 p1 d6 s_) (ZhV poly0 p1 d6 s_) := by
  unfold ZkQ ZhV
  try simp only [← cw_ok, ← Zs, ← Zp, ← Zl, ← Zj, ← Zk, ← Zr, ← Zq, GT.gt, GE.ge]
  repeat' (with_reducible first | exact Le.rfl | assumption | exact ZkK _ _ _ | exact Zor _ _ _ | exact ZrR _ _ _ | exact Zw9 _ | exact Zo _ _ _ | exact Zm _ _ _ _ | (refine le_if ?_ ?_) | (refine Zu ?_ fun _ => ?_) | (refine Zt ?_) | (refine Zn fun _ => ?_))
noncomputable def ZlV (F : Nat) (poly0 : List Int) (p1 r9 : Int) : Int → Option ((Int) ⊕ (Bool))
  | d6 =>
    bif lei (cw (2 * d6)) ((cw (r9 - 1))) then
      lpF F (ZkQ F poly0 p1 d6) (0)
    else
      some (.inr (true))
theorem Zvn {F : Nat} (poly0 : List Int) (p1 r9 : Int)  (s_ : _) : Le (ZlV F poly0 p1 r9 s_) (ZgA poly0 p1 r9 s_) := by
  unfold ZlV ZgA
  try simp only [← cw_ok, ← Zs, ← Zp, ← Zl, ← Zj, ← Zk, ← Zr, ← Zq, GT.gt, GE.ge]
  repeat' (with_reducible first | exact Le.rfl | assumption | exact Zt1 _ _ _ _ | exact Zo _ _ _ | exact Zm _ _ _ _ | (refine le_if ?_ ?_) | (refine Zu ?_ fun _ => ?_) | (refine Zt ?_) | (refine Zn fun _ => ?_))
noncomputable def ZhJ (F : Nat) (poly0 : List Int) (p1 : Int) : Option Bool :=
  fbind (Zgz F poly0) fun r9 =>
  lpF F (ZlV F poly0 p1 r9) (1)
theorem Zok {F : Nat} (poly0 : List Int) (p1 : Int)  : Le (ZhJ F poly0 p1) (ZdC poly0 p1) := by
  unfold ZhJ ZdC
  try simp only [← cw_ok, ← Zs, ← Zp, ← Zl, ← Zj, ← Zk, ← Zr, ← Zq, GT.gt, GE.ge]
  repeat' (with_reducible first | exact Le.rfl | assumption | exact ZjO _ | exact Zvn _ _ _ _ | exact Zo _ _ _ | exact Zm _ _ _ _ | (refine le_if ?_ ?_) | (refine Zu ?_ fun _ => ?_) | (refine Zt ?_) | (refine Zn fun _ => ?_))
noncomputable def Zj8 (F : Nat) (p4 : Int) : Int × List Int → Option ((Int × List Int) ⊕ ((Int × List Int × Int) ⊕ (List Int)))
  | (n0_3, factor3_2) =>
    fbind (cNz p4) fun _ =>
    bif eqi (Int.tmod n0_3 p4) (0) then
      fbind (cApp 8 factor3_2 [p4]) fun l22 =>
      fbind (cNz p4) fun _ =>
      some (.inl (cw (Int.tdiv n0_3 p4), l22))
    else
      some (.inr (.inl (n0_3, factor3_2, cw (p4 + 1))))
theorem Zsz {F : Nat} (p4 : Int)  (s_ : _) : Le (Zj8 F p4 s_) (ZbW p4 s_) := by
  obtain ⟨n0_3, factor3_2⟩ := s_
  unfold Zj8 ZbW
  try simp only [← cw_ok, ← Zs, ← Zp, ← Zl, ← Zj, ← Zk, ← Zr, ← Zq, GT.gt, GE.ge]
  repeat' (with_reducible first | exact Le.rfl | assumption | exact Zo _ _ _ | exact Zm _ _ _ _ | (refine le_if ?_ ?_) | (refine Zu ?_ fun _ => ?_) | (refine Zt ?_) | (refine Zn fun _ => ?_))
noncomputable def ZlR (F : Nat) : Int × List Int × Int → Option ((Int × List Int × Int) ⊕ (List Int))
  | (n0_2, factor3, p4) =>
    bif lei (cw (p4 * p4)) (n0_2) then
      lpF F (Zj8 F p4) (n0_2, factor3)
    else
      bif lti (1) (n0_2) then
        fbind (cApp 8 factor3 [n0_2]) fun l31 =>
        some (.inr (l31))
      else
        some (.inr (factor3))
theorem ZpX {F : Nat}   (s_ : _) : Le (ZlR F  s_) (ZaF  s_) := by
  obtain ⟨n0_2, factor3, p4⟩ := s_
  unfold ZlR ZaF
  try simp only [← cw_ok, ← Zs, ← Zp, ← Zl, ← Zj, ← Zk, ← Zr, ← Zq, GT.gt, GE.ge]
  repeat' (with_reducible first | exact Le.rfl | assumption | exact Zsz _ _ | exact Zo _ _ _ | exact Zm _ _ _ _ | (refine le_if ?_ ?_) | (refine Zu ?_ fun _ => ?_) | (refine Zt ?_) | (refine Zn fun _ => ?_))
noncomputable def ZhI (F : Nat) (n0 : Int) : Option (List Int) :=
  fbind (Zhe F n0 1 1000000) fun r6 =>
  bif !r6 then
    some (([] : List Int))
  else
    lpF F (ZlR F) (n0, ([] : List Int), 2)
theorem ZmP {F : Nat} (n0 : Int)  : Le (ZhI F n0) (ZbB n0) := by
  unfold ZhI ZbB
  try simp only [← cw_ok, ← Zs, ← Zp, ← Zl, ← Zj, ← Zk, ← Zr, ← Zq, GT.gt, GE.ge]
  repeat' (with_reducible first | exact Le.rfl | assumption | exact ZmK _ _ _ | exact ZpX  _ | exact Zo _ _ _ | exact Zm _ _ _ _ | (refine le_if ?_ ?_) | (refine Zu ?_ fun _ => ?_) | (refine Zt ?_) | (refine Zn fun _ => ?_))
noncomputable def ZlP (F : Nat) (n0 : Int) : Option Bool :=
  fbind (ZhI F n0) fun r4 =>
  some (eqi ((r4.length : Int)) (1))
theorem Ztf {F : Nat} (n0 : Int)  : Le (ZlP F n0) (ZeM n0) := by
  unfold ZlP ZeM
  try simp only [← cw_ok, ← Zs, ← Zp, ← Zl, ← Zj, ← Zk, ← Zr, ← Zq, GT.gt, GE.ge]
  repeat' (with_reducible first | exact Le.rfl | assumption | exact ZmP _ | exact Zo _ _ _ | exact Zm _ _ _ _ | (refine le_if ?_ ?_) | (refine Zu ?_ fun _ => ?_) | (refine Zt ?_) | (refine Zn fun _ => ?_))
noncomputable def ZjP (F : Nat) (f0 : Zc) : Int → Option ((Int) ⊕ (Bool))
  | y41 =>
    bif lti (y41) ((f0.Poly.length : Int)) then
      fbind (cIdx f0.Poly y41) fun e43 =>
      fbind (Zhe F e43 0 (cw (f0.Prime - 1))) fun r49 =>
      bif !r49 then
        some (.inr (false))
      else
        some (.inl (cw (y41 + 1)))
    else
      fbind (ZhJ F f0.Poly f0.Prime) fun r56 =>
      some (.inr (r56))
theorem Zrs {F : Nat} (f0 : Zc)  (s_ : _) : Le (ZjP F f0 s_) (ZgP f0 s_) := by
  unfold ZjP ZgP
  try simp only [← cw_ok, ← Zs, ← Zp, ← Zl, ← Zj, ← Zk, ← Zr, ← Zq, GT.gt, GE.ge]
  repeat' (with_reducible first | exact Le.rfl | assumption | exact ZmK _ _ _ | exact Zok _ _ | exact Zo _ _ _ | exact Zm _ _ _ _ | (refine le_if ?_ ?_) | (refine Zu ?_ fun _ => ?_) | (refine Zt ?_) | (refine Zn fun _ => ?_))
noncomputable def Zk6 (F : Nat) (f0 : Zc) : Option (Bool) :=
  lpF F (ZjP F f0) (0)
theorem Ztt {F : Nat} (f0 : Zc)  : Le (Zk6 F f0) (Zfe f0) := by
  unfold Zk6 Zfe
  try simp only [← cw_ok, ← Zs, ← Zp, ← Zl, ← Zj, ← Zk, ← Zr, ← Zq, GT.gt, GE.ge]
  repeat' (with_reducible first | exact Le.rfl | assumption | exact Zrs _ _ | exact Zo _ _ _ | exact Zm _ _ _ _ | (refine le_if ?_ ?_) | (refine Zu ?_ fun _ => ?_) | (refine Zt ?_) | (refine Zn fun _ => ?_))
noncomputable def ZkB (F : Nat) (f0 : Zc) : Option (Bool) :=
  fbind (Zgz F f0.Poly) fun r24 =>
  bif !eqi (r24) ((cw (f0.Degree + 1))) then
    some (false)
  else
    fbind (cIdx f0.Poly f0.Degree) fun e34 =>
    bif !eqi (e34) (1) then
      some (false)
    else
      Zk6 F f0
theorem Zwu {F : Nat} (f0 : Zc)  : Le (ZkB F f0) (Zgr f0) := by
  unfold ZkB Zgr
  try simp only [← cw_ok, ← Zs, ← Zp, ← Zl, ← Zj, ← Zk, ← Zr, ← Zq, GT.gt, GE.ge]
  repeat' (with_reducible first | exact Le.rfl | assumption | exact ZjO _ | exact Ztt _ | exact Zo _ _ _ | exact Zm _ _ _ _ | (refine le_if ?_ ?_) | (refine Zu ?_ fun _ => ?_) | (refine Zt ?_) | (refine Zn fun _ => ?_))
noncomputable def ZoM (F : Nat) (f0 : Zc) : Option Bool :=
  fbind (ZlP F f0.Prime) fun r7 =>
  bif !r7 then
    some (false)
  else
    bif lti (f0.Degree) (1) then
      some (false)
    else
      fbind (Zes F f0.Prime f0.Degree 64) fun r19 =>
      bif lti (64) (r19) then
        some (false)
      else
        ZkB F f0
theorem ZR {F : Nat} (f0 : Zc)  : Le (ZoM F f0) (Zdx f0) := by
  unfold ZoM Zdx
  try simp only [← cw_ok, ← Zs, ← Zp, ← Zl, ← Zj, ← Zk, ← Zr, ← Zq, GT.gt, GE.ge]
  repeat' (with_reducible first | exact Le.rfl | assumption | exact Ztf _ | exact ZkK _ _ _ | exact Zwu _ | exact Zo _ _ _ | exact Zm _ _ _ _ | (refine le_if ?_ ?_) | (refine Zu ?_ fun _ => ?_) | (refine Zt ?_) | (refine Zn fun _ => ?_))
noncomputable def Ziu (F : Nat) (r8 : List Int) : Int → Option ((Int) ⊕ (Int × Int))
  | y11 =>
    bif lti (y11) ((r8.length : Int)) then
      fbind (cIdx r8 y11) fun e13 =>
      fbind (cIdx r8 0) fun e17 =>
      bif !eqi (e13) (e17) then
        some (.inr ((0, 0)))
      else
        some (.inl (cw (y11 + 1)))
    else
      bif eqi ((r8.length : Int)) (0) then
        some (.inr ((0, 0)))
      else
        fbind (Zgz F r8) fun r28 =>
        fbind (cIdx r8 0) fun e25 =>
        some (.inr ((e25, r28)))
theorem ZwM {F : Nat} (r8 : List Int)  (s_ : _) : Le (Ziu F r8 s_) (Za0 r8 s_) := by
  unfold Ziu Za0
  try simp only [← cw_ok, ← Zs, ← Zp, ← Zl, ← Zj, ← Zk, ← Zr, ← Zq, GT.gt, GE.ge]
  repeat' (with_reducible first | exact Le.rfl | assumption | exact ZjO _ | exact Zo _ _ _ | exact Zm _ _ _ _ | (refine le_if ?_ ?_) | (refine Zu ?_ fun _ => ?_) | (refine Zt ?_) | (refine Zn fun _ => ?_))
noncomputable def Zie (F : Nat) (n0 : Int) : Option (Int × Int) :=
  fbind (ZhI F n0) fun r8 =>
  lpF F (Ziu F r8) (0)
theorem ZoC {F : Nat} (n0 : Int)  : Le (Zie F n0) (Zbn n0) := by
  unfold Zie Zbn
  try simp only [← cw_ok, ← Zs, ← Zp, ← Zl, ← Zj, ← Zk, ← Zr, ← Zq, GT.gt, GE.ge]
  repeat' (with_reducible first | exact Le.rfl | assumption | exact ZmP _ | exact ZwM _ _ | exact Zo _ _ _ | exact Zm _ _ _ _ | (refine le_if ?_ ?_) | (refine Zu ?_ fun _ => ?_) | (refine Zt ?_) | (refine Zn fun _ => ?_))
noncomputable def Zll (F : Nat) (r9 : Int × Int) : Int → Option ((Int) ⊕ (Zc × Int))
  | n6 =>
    fbind (Zgh F n6 r9.1 r9.2) fun r22 =>
    fbind (cApp 8 r22 [1]) fun l24 =>
    fbind (ZhJ F l24 r9.1) fun r26 =>
    bif !r26 then
      some (.inl (cw (n6 + 1)))
    else
      fbind (Zgh F n6 r9.1 r9.2) fun r35 =>
      fbind (cApp 8 r35 [1]) fun l37 =>
      some (.inr (((Zc.mk r9.1 r9.2 l37), 0)))
theorem Ztu {F : Nat} (r9 : Int × Int)  (s_ : _) : Le (Zll F r9 s_) (ZgV r9 s_) := by
  unfold Zll ZgV
  try simp only [← cw_ok, ← Zs, ← Zp, ← Zl, ← Zj, ← Zk, ← Zr, ← Zq, GT.gt, GE.ge]
  repeat' (with_reducible first | exact Le.rfl | assumption | exact Zor _ _ _ | exact Zok _ _ | exact Zo _ _ _ | exact Zm _ _ _ _ | (refine le_if ?_ ?_) | (refine Zu ?_ fun _ => ?_) | (refine Zt ?_) | (refine Zn fun _ => ?_))
noncomputable def Ziy (F : Nat) (r9 : Int × Int) : Option (Zc × Int) :=
  lpF F (Zll F r9) (0)
theorem Zo6 {F : Nat} (r9 : Int × Int)  : Le (Ziy F r9) (ZeL r9) := by
  unfold Ziy ZeL
  try simp only [← cw_ok, ← Zs, ← Zp, ← Zl, ← Zj, ← Zk, ← Zr, ← Zq, GT.gt, GE.ge]
  repeat' (with_reducible first | exact Le.rfl | assumption | exact Ztu _ _ | exact Zo _ _ _ | exact Zm _ _ _ _ | (refine le_if ?_ ?_) | (refine Zu ?_ fun _ => ?_) | (refine Zt ?_) | (refine Zn fun _ => ?_))
noncomputable def Znw (F : Nat) (q0 : Int) : Option (Zc × Int) :=
  fbind (Zie F q0) fun r9 =>
  bif eqi (r9.1) (0) then
    some (((Zc.mk 0 0 ([] : List Int)), 2))
  else
    bif lti (64) (q0) then
      some (((Zc.mk 0 0 ([] : List Int)), 2))
    else
      Ziy F r9
theorem Zi {F : Nat} (q0 : Int)  : Le (Znw F q0) (Za7 q0) := by
  unfold Znw Za7
  try simp only [← cw_ok, ← Zs, ← Zp, ← Zl, ← Zj, ← Zk, ← Zr, ← Zq, GT.gt, GE.ge]
  repeat' (with_reducible first | exact Le.rfl | assumption | exact ZoC _ | exact Zo6 _ | exact Zo _ _ _ | exact Zm _ _ _ _ | (refine le_if ?_ ?_) | (refine Zu ?_ fun _ => ?_) | (refine Zt ?_) | (refine Zn fun _ => ?_))
end Go.Proofs.YtocnokjekoglnaaGreatDoor
