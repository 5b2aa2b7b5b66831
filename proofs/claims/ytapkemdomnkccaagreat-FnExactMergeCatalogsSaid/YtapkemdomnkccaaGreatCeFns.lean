import Derived.Test.YtapkemdomnkccaaGreatPuEv
import Derived.Test.YtapkemdomnkccaaGreatPuFns
namespace Go.Proofs.YtapkemdomnkccaaGreat
open Go Go.Vc
set_option linter.unusedVariables false
set_option linter.unusedSimpArgs false
set_option maxRecDepth 20000
noncomputable instance : Frc Ze where
  frc p k := Ze.rec (fun x0 x1 x2 => Frc.frc x0 fun x0 => Frc.frc x1 fun x1 => Frc.frc x2 fun x2 => k (.mk x0 x1 x2)) p
  ok p k := by cases p; show Frc.frc _ _ = _; simp only [Frc.ok]
noncomputable def ZeY (F : Nat) (n0 low1 high2 : Int) : Option Bool :=
  bif lei (low1) (n0) then
    some (lei (n0) (high2))
  else
    some (false)
theorem ZkD {F : Nat} (n0 low1 high2 : Int)  : Le (ZeY F n0 low1 high2) (Z7 n0 low1 high2) := by
  unfold ZeY Z7
  try simp only [← cw_ok, ← Zs, ← Zw, ← Zo, ← Zq, ← Zn, ← Zr, GT.gt, GE.ge]
  repeat' (with_reducible first | exact Le.rfl | assumption | exact Zx _ _ _ | exact Zu _ _ _ _ | (refine le_if ?_ ?_) | (refine Zy ?_ fun _ => ?_) | (refine Zv ?_) | (refine Zt fun _ => ?_))
noncomputable def ZlX (F : Nat) (list0 : List Int) : Option (List Int) :=
  fbind (cApp 8 ([] : List Int) list0) fun l5 =>
  some (l5)
theorem Zzy {F : Nat} (list0 : List Int)  : Le (ZlX F list0) (Za4 list0) := by
  unfold ZlX Za4
  try simp only [← cw_ok, ← Zs, ← Zw, ← Zo, ← Zq, ← Zn, ← Zr, GT.gt, GE.ge]
  repeat' (with_reducible first | exact Le.rfl | assumption | exact Zx _ _ _ | exact Zu _ _ _ _ | (refine le_if ?_ ?_) | (refine Zy ?_ fun _ => ?_) | (refine Zv ?_) | (refine Zt fun _ => ?_))
noncomputable def Zms (F : Nat) (p4 : Int) : Int × Int → Option ((Int × Int) ⊕ ((Int) ⊕ (Int × Int)))
  | (k5, n6) =>
    bif lti (1) (n6) then
      fbind (cNz p4) fun _ =>
      bif !eqi (Int.tmod n6 p4) (0) then
        some (.inr (.inr ((0, 0))))
      else
        fbind (cNz p4) fun _ =>
        some (.inl (cw (k5 + 1), cw (Int.tdiv n6 p4)))
    else
      some (.inr (.inr ((p4, k5))))
theorem Ztx {F : Nat} (p4 : Int)  (s_ : _) : Le (Zms F p4 s_) (Zil p4 s_) := by
  obtain ⟨k5, n6⟩ := s_
  unfold Zms Zil
  try simp only [← cw_ok, ← Zs, ← Zw, ← Zo, ← Zq, ← Zn, ← Zr, GT.gt, GE.ge]
  repeat' (with_reducible first | exact Le.rfl | assumption | exact Zx _ _ _ | exact Zu _ _ _ _ | (refine le_if ?_ ?_) | (refine Zy ?_ fun _ => ?_) | (refine Zv ?_) | (refine Zt fun _ => ?_))
noncomputable def ZnI (F : Nat) (q0 : Int) : Int → Option ((Int) ⊕ (Int × Int))
  | p4 =>
    fbind (cNz p4) fun _ =>
    bif !eqi (Int.tmod q0 p4) (0) then
      some (.inl (cw (p4 + 1)))
    else
      lpF F (Zms F p4) (0, q0)
theorem Zu5 {F : Nat} (q0 : Int)  (s_ : _) : Le (ZnI F q0 s_) (ZjH q0 s_) := by
  unfold ZnI ZjH
  try simp only [← cw_ok, ← Zs, ← Zw, ← Zo, ← Zq, ← Zn, ← Zr, GT.gt, GE.ge]
  repeat' (with_reducible first | exact Le.rfl | assumption | exact Ztx _ _ | exact Zx _ _ _ | exact Zu _ _ _ _ | (refine le_if ?_ ?_) | (refine Zy ?_ fun _ => ?_) | (refine Zv ?_) | (refine Zt fun _ => ?_))
noncomputable def ZiC (F : Nat) (q0 : Int) : Option (Int × Int) :=
  fbind (ZeY F q0 2 64) fun r8 =>
  bif !r8 then
    some ((0, 0))
  else
    lpF F (ZnI F q0) (2)
theorem Zk {F : Nat} (q0 : Int)  : Le (ZiC F q0) (Zbk q0) := by
  unfold ZiC Zbk
  try simp only [← cw_ok, ← Zs, ← Zw, ← Zo, ← Zq, ← Zn, ← Zr, GT.gt, GE.ge]
  repeat' (with_reducible first | exact Le.rfl | assumption | exact ZkD _ _ _ | exact Zu5 _ _ | exact Zx _ _ _ | exact Zu _ _ _ _ | (refine le_if ?_ ?_) | (refine Zy ?_ fun _ => ?_) | (refine Zv ?_) | (refine Zt fun _ => ?_))
noncomputable def ZmL (F : Nat) (p1 : Int) : Int × Int × List Int → Option ((Int × Int × List Int) ⊕ (List Int))
  | (a0_2, n2_2, out7) =>
    bif lti (0) (n2_2) then
      fbind (cNz p1) fun _ =>
      fbind (cApp 8 out7 [Int.tmod a0_2 p1]) fun l18 =>
      fbind (cNz p1) fun _ =>
      some (.inl (cw (Int.tdiv a0_2 p1), cw (n2_2 - 1), l18))
    else
      some (.inr (out7))
theorem Zyw {F : Nat} (p1 : Int)  (s_ : _) : Le (ZmL F p1 s_) (Zca p1 s_) := by
  obtain ⟨a0_2, n2_2, out7⟩ := s_
  unfold ZmL Zca
  try simp only [← cw_ok, ← Zs, ← Zw, ← Zo, ← Zq, ← Zn, ← Zr, GT.gt, GE.ge]
  repeat' (with_reducible first | exact Le.rfl | assumption | exact Zx _ _ _ | exact Zu _ _ _ _ | (refine le_if ?_ ?_) | (refine Zy ?_ fun _ => ?_) | (refine Zv ?_) | (refine Zt fun _ => ?_))
noncomputable def ZiU (F : Nat) (a0 p1 n2 : Int) : Option (List Int) :=
  lpF F (ZmL F p1) (a0, n2, ([] : List Int))
theorem Zqk {F : Nat} (a0 p1 n2 : Int)  : Le (ZiU F a0 p1 n2) (ZaP a0 p1 n2) := by
  unfold ZiU ZaP
  try simp only [← cw_ok, ← Zs, ← Zw, ← Zo, ← Zq, ← Zn, ← Zr, GT.gt, GE.ge]
  repeat' (with_reducible first | exact Le.rfl | assumption | exact Zyw _ _ | exact Zx _ _ _ | exact Zu _ _ _ _ | (refine le_if ?_ ?_) | (refine Zy ?_ fun _ => ?_) | (refine Zv ?_) | (refine Zt fun _ => ?_))
noncomputable def Zki (F : Nat) (p0 : Int) : Int × Int → Option ((Int × Int) ⊕ (Int))
  | (k1_2, out5) =>
    bif lti (0) (k1_2) then
      some (.inl (cw (k1_2 - 1), cw (out5 * p0)))
    else
      some (.inr (out5))
theorem ZyR {F : Nat} (p0 : Int)  (s_ : _) : Le (Zki F p0 s_) (ZjE p0 s_) := by
  obtain ⟨k1_2, out5⟩ := s_
  unfold Zki ZjE
  try simp only [← cw_ok, ← Zs, ← Zw, ← Zo, ← Zq, ← Zn, ← Zr, GT.gt, GE.ge]
  repeat' (with_reducible first | exact Le.rfl | assumption | exact Zx _ _ _ | exact Zu _ _ _ _ | (refine le_if ?_ ?_) | (refine Zy ?_ fun _ => ?_) | (refine Zv ?_) | (refine Zt fun _ => ?_))
noncomputable def ZfY (F : Nat) (p0 k1 : Int) : Option Int :=
  lpF F (Zki F p0) (k1, 1)
theorem ZnR {F : Nat} (p0 k1 : Int)  : Le (ZfY F p0 k1) (ZdA p0 k1) := by
  unfold ZfY ZdA
  try simp only [← cw_ok, ← Zs, ← Zw, ← Zo, ← Zq, ← Zn, ← Zr, GT.gt, GE.ge]
  repeat' (with_reducible first | exact Le.rfl | assumption | exact ZyR _ _ | exact Zx _ _ _ | exact Zu _ _ _ _ | (refine le_if ?_ ?_) | (refine Zy ?_ fun _ => ?_) | (refine Zv ?_) | (refine Zt fun _ => ?_))
noncomputable def Zk4 (F : Nat) (y1 : List Int) (y2 y9 e28 : Int) : Int × List Int → Option ((Int × List Int) ⊕ ((Int × List Int) ⊕ (List Int)))
  | (y11, xs_2) =>
    bif lti (y11) ((y1.length : Int)) then
      fbind (cIdx xs_2 (cw ((cw ((cw (y9 - (y1.length : Int))) + 1)) + y11))) fun e45 =>
      fbind (cIdx y1 y11) fun e52 =>
      fbind (cNz y2) fun _ =>
      fbind (cIdx xs_2 (cw ((cw ((cw (y9 - (y1.length : Int))) + 1)) + y11))) fun e58 =>
      some (.inl (cw (y11 + 1), (xs_2.set (cw ((cw ((cw (y9 - (y1.length : Int))) + 1)) + y11) : Int).toNat (Int.tmod (cw (e45 + (cw ((cw (y2 - e28)) * e52)))) y2))))
    else
      some (.inr (.inl (cw (y9 - 1), xs_2)))
theorem Zve {F : Nat} (y1 : List Int) (y2 y9 e28 : Int)  (s_ : _) : Le (Zk4 F y1 y2 y9 e28 s_) (ZcM y1 y2 y9 e28 s_) := by
  obtain ⟨y11, xs_2⟩ := s_
  unfold Zk4 ZcM
  try simp only [← cw_ok, ← Zs, ← Zw, ← Zo, ← Zq, ← Zn, ← Zr, GT.gt, GE.ge]
  repeat' (with_reducible first | exact Le.rfl | assumption | exact Zx _ _ _ | exact Zu _ _ _ _ | (refine le_if ?_ ?_) | (refine Zy ?_ fun _ => ?_) | (refine Zv ?_) | (refine Zt fun _ => ?_))
noncomputable def ZnZ (F : Nat) (y1 : List Int) : List Int → Option ((List Int) ⊕ ((Int × List Int) ⊕ (List Int)))
  | y7 =>
    bif lei ((y1.length : Int)) ((y7.length : Int)) then
      fbind (gSl y7 0 (cw ((y7.length : Int) - 1))) fun l67 =>
      some (.inl (l67))
    else
      some (.inr (.inr (y7)))
theorem ZuJ {F : Nat} (y1 : List Int)  (s_ : _) : Le (ZnZ F y1 s_) (ZbD y1 s_) := by
  unfold ZnZ ZbD
  try simp only [← cw_ok, ← Zs, ← Zw, ← Zo, ← Zq, ← Zn, ← Zr, GT.gt, GE.ge]
  repeat' (with_reducible first | exact Le.rfl | assumption | exact Zx _ _ _ | exact Zu _ _ _ _ | (refine le_if ?_ ?_) | (refine Zy ?_ fun _ => ?_) | (refine Zv ?_) | (refine Zt fun _ => ?_))
noncomputable def Zmd (F : Nat) (y1 : List Int) (y2 : Int) : Int × List Int → Option ((Int × List Int) ⊕ (List Int))
  | (y9, xs) =>
    bif lei ((cw ((y1.length : Int) - 1))) (y9) then
      fbind (cIdx xs y9) fun e28 =>
      lpF F (Zk4 F y1 y2 y9 e28) (0, xs)
    else
      lpF F (ZnZ F y1) (xs)
theorem Zym {F : Nat} (y1 : List Int) (y2 : Int)  (s_ : _) : Le (Zmd F y1 y2 s_) (Zbc y1 y2 s_) := by
  obtain ⟨y9, xs⟩ := s_
  unfold Zmd Zbc
  try simp only [← cw_ok, ← Zs, ← Zw, ← Zo, ← Zq, ← Zn, ← Zr, GT.gt, GE.ge]
  repeat' (with_reducible first | exact Le.rfl | assumption | exact Zve _ _ _ _ _ | exact ZuJ _ _ | exact Zx _ _ _ | exact Zu _ _ _ _ | (refine le_if ?_ ?_) | (refine Zy ?_ fun _ => ?_) | (refine Zv ?_) | (refine Zt fun _ => ?_))
noncomputable def Znx (F : Nat) (y0 y1 : List Int) (y2 : Int) : Option (List Int) :=
  fbind (ZlX F y0) fun r14 =>
  lpF F (Zmd F y1 y2) (cw ((r14.length : Int) - 1), r14)
theorem Zxk {F : Nat} (y0 y1 : List Int) (y2 : Int)  : Le (Znx F y0 y1 y2) (Zcf y0 y1 y2) := by
  unfold Znx Zcf
  try simp only [← cw_ok, ← Zs, ← Zw, ← Zo, ← Zq, ← Zn, ← Zr, GT.gt, GE.ge]
  repeat' (with_reducible first | exact Le.rfl | assumption | exact Zzy _ | exact Zym _ _ _ | exact Zx _ _ _ | exact Zu _ _ _ _ | (refine le_if ?_ ?_) | (refine Zy ?_ fun _ => ?_) | (refine Zv ?_) | (refine Zt fun _ => ?_))
noncomputable def ZnL (F : Nat) (list0 : List Int) (p1 : Int) : Int × Int → Option ((Int × Int) ⊕ (Int))
  | (out5, i6) =>
    bif lei (0) (i6) then
      fbind (cIdx list0 i6) fun e19 =>
      some (.inl (cw ((cw (out5 * p1)) + e19), cw (i6 - 1)))
    else
      some (.inr (out5))
theorem Zu1 {F : Nat} (list0 : List Int) (p1 : Int)  (s_ : _) : Le (ZnL F list0 p1 s_) (ZcE list0 p1 s_) := by
  obtain ⟨out5, i6⟩ := s_
  unfold ZnL ZcE
  try simp only [← cw_ok, ← Zs, ← Zw, ← Zo, ← Zq, ← Zn, ← Zr, GT.gt, GE.ge]
  repeat' (with_reducible first | exact Le.rfl | assumption | exact Zx _ _ _ | exact Zu _ _ _ _ | (refine le_if ?_ ?_) | (refine Zy ?_ fun _ => ?_) | (refine Zv ?_) | (refine Zt fun _ => ?_))
noncomputable def Zl4 (F : Nat) (list0 : List Int) (p1 : Int) : Option Int :=
  lpF F (ZnL F list0 p1) (0, cw ((list0.length : Int) - 1))
theorem Zu7 {F : Nat} (list0 : List Int) (p1 : Int)  : Le (Zl4 F list0 p1) (ZaU list0 p1) := by
  unfold Zl4 ZaU
  try simp only [← cw_ok, ← Zs, ← Zw, ← Zo, ← Zq, ← Zn, ← Zr, GT.gt, GE.ge]
  repeat' (with_reducible first | exact Le.rfl | assumption | exact Zu1 _ _ _ | exact Zx _ _ _ | exact Zu _ _ _ _ | (refine le_if ?_ ?_) | (refine Zy ?_ fun _ => ?_) | (refine Zv ?_) | (refine Zt fun _ => ?_))
noncomputable def Znp (F : Nat) (poly0 : List Int) (p1 d6 : Int) : Int → Option ((Int) ⊕ ((Int) ⊕ (Bool)))
  | n7 =>
    fbind (ZfY F p1 d6) fun r22 =>
    bif lti (n7) (r22) then
      fbind (ZiU F n7 p1 d6) fun r29 =>
      fbind (cApp 8 r29 [1]) fun l31 =>
      fbind (Znx F poly0 l31 p1) fun r35 =>
      fbind (Zl4 F r35 p1) fun r38 =>
      bif eqi (r38) (0) then
        some (.inr (.inr (false)))
      else
        some (.inl (cw (n7 + 1)))
    else
      some (.inr (.inl (cw (d6 + 1))))
theorem ZAA {F : Nat} (poly0 : List Int) (p1 d6 : Int)  (s_ : _) : Le (Znp F poly0 p1 d6 s_) (Zij poly0 p1 d6 s_) := by
  unfold Znp Zij
  try simp only [← cw_ok, ← Zs, ← Zw, ← Zo, ← Zq, ← Zn, ← Zr, GT.gt, GE.ge]
  repeat' (with_reducible first | exact Le.rfl | assumption | exact ZnR _ _ | exact Zqk _ _ _ | exact Zxk _ _ _ | exact Zu7 _ _ | exact Zx _ _ _ | exact Zu _ _ _ _ | (refine le_if ?_ ?_) | (refine Zy ?_ fun _ => ?_) | (refine Zv ?_) | (refine Zt fun _ => ?_))
noncomputable def Zl1 (F : Nat) (poly0 : List Int) (p1 : Int) : Int → Option ((Int) ⊕ (Bool))
  | d6 =>
    bif lei (cw (2 * d6)) ((cw ((poly0.length : Int) - 1))) then
      lpF F (Znp F poly0 p1 d6) (0)
    else
      some (.inr (true))
theorem Zv3 {F : Nat} (poly0 : List Int) (p1 : Int)  (s_ : _) : Le (Zl1 F poly0 p1 s_) (ZiS poly0 p1 s_) := by
  unfold Zl1 ZiS
  try simp only [← cw_ok, ← Zs, ← Zw, ← Zo, ← Zq, ← Zn, ← Zr, GT.gt, GE.ge]
  repeat' (with_reducible first | exact Le.rfl | assumption | exact ZAA _ _ _ _ | exact Zx _ _ _ | exact Zu _ _ _ _ | (refine le_if ?_ ?_) | (refine Zy ?_ fun _ => ?_) | (refine Zv ?_) | (refine Zt fun _ => ?_))
noncomputable def ZiP (F : Nat) (poly0 : List Int) (p1 : Int) : Option Bool :=
  lpF F (Zl1 F poly0 p1) (1)
theorem Zrm {F : Nat} (poly0 : List Int) (p1 : Int)  : Le (ZiP F poly0 p1) (ZeR poly0 p1) := by
  unfold ZiP ZeR
  try simp only [← cw_ok, ← Zs, ← Zw, ← Zo, ← Zq, ← Zn, ← Zr, GT.gt, GE.ge]
  repeat' (with_reducible first | exact Le.rfl | assumption | exact Zv3 _ _ _ | exact Zx _ _ _ | exact Zu _ _ _ _ | (refine le_if ?_ ?_) | (refine Zy ?_ fun _ => ?_) | (refine Zv ?_) | (refine Zt fun _ => ?_))
noncomputable def ZmS (F : Nat) (r9 : Int × Int) : Int → Option ((Int) ⊕ (Ze))
  | n5 =>
    fbind (ZiU F n5 r9.1 r9.2) fun r17 =>
    fbind (cApp 8 r17 [1]) fun l19 =>
    fbind (ZiP F l19 r9.1) fun r22 =>
    bif r22 then
      some (.inr ((Ze.mk r9.1 r9.2 l19)))
    else
      some (.inl (cw (n5 + 1)))
theorem Zzw {F : Nat} (r9 : Int × Int)  (s_ : _) : Le (ZmS F r9 s_) (ZiO r9 s_) := by
  unfold ZmS ZiO
  try simp only [← cw_ok, ← Zs, ← Zw, ← Zo, ← Zq, ← Zn, ← Zr, GT.gt, GE.ge]
  repeat' (with_reducible first | exact Le.rfl | assumption | exact Zqk _ _ _ | exact Zrm _ _ | exact Zx _ _ _ | exact Zu _ _ _ _ | (refine le_if ?_ ?_) | (refine Zy ?_ fun _ => ?_) | (refine Zv ?_) | (refine Zt fun _ => ?_))
noncomputable def Zp3 (F : Nat) (q0 : Int) : Option Ze :=
  fbind (ZiC F q0) fun r9 =>
  lpF F (ZmS F r9) (0)
theorem Z1 {F : Nat} (q0 : Int)  : Le (Zp3 F q0) (Ze9 q0) := by
  unfold Zp3 Ze9
  try simp only [← cw_ok, ← Zs, ← Zw, ← Zo, ← Zq, ← Zn, ← Zr, GT.gt, GE.ge]
  repeat' (with_reducible first | exact Le.rfl | assumption | exact Zk _ | exact Zzw _ _ | exact Zx _ _ _ | exact Zu _ _ _ _ | (refine le_if ?_ ?_) | (refine Zy ?_ fun _ => ?_) | (refine Zv ?_) | (refine Zt fun _ => ?_))
noncomputable def Zkd (F : Nat) (y0 : Ze) (r58 : Int × Int) : Int → Option ((Int) ⊕ (Bool))
  | y6 =>
    bif lti (y6) ((y0.Poly.length : Int)) then
      fbind (cIdx y0.Poly y6) fun e81 =>
      fbind (ZeY F e81 0 (cw (r58.1 - 1))) fun r85 =>
      bif !r85 then
        some (.inr (false))
      else
        some (.inl (cw (y6 + 1)))
    else
      fbind (ZiP F y0.Poly r58.1) fun r92 =>
      some (.inr (r92))
theorem ZA3 {F : Nat} (y0 : Ze) (r58 : Int × Int)  (s_ : _) : Le (Zkd F y0 r58 s_) (Zj1 y0 r58 s_) := by
  unfold Zkd Zj1
  try simp only [← cw_ok, ← Zs, ← Zw, ← Zo, ← Zq, ← Zn, ← Zr, GT.gt, GE.ge]
  repeat' (with_reducible first | exact Le.rfl | assumption | exact ZkD _ _ _ | exact Zrm _ _ | exact Zx _ _ _ | exact Zu _ _ _ _ | (refine le_if ?_ ?_) | (refine Zy ?_ fun _ => ?_) | (refine Zv ?_) | (refine Zt fun _ => ?_))
noncomputable def Zme (F : Nat) (y0 : Ze) : Option (Bool) :=
  fbind (ZfY F y0.Prime y0.Degree) fun r55 =>
  fbind (ZiC F r55) fun r58 =>
  bif !eqi (r58.1) (y0.Prime) then
    some (false)
  else
    lpF F (Zkd F y0 r58) (0)
theorem ZtP {F : Nat} (y0 : Ze)  : Le (Zme F y0) (Zg6 y0) := by
  unfold Zme Zg6
  try simp only [← cw_ok, ← Zs, ← Zw, ← Zo, ← Zq, ← Zn, ← Zr, GT.gt, GE.ge]
  repeat' (with_reducible first | exact Le.rfl | assumption | exact ZnR _ _ | exact Zk _ | exact ZA3 _ _ _ | exact Zx _ _ _ | exact Zu _ _ _ _ | (refine le_if ?_ ?_) | (refine Zy ?_ fun _ => ?_) | (refine Zv ?_) | (refine Zt fun _ => ?_))
noncomputable def ZpF (F : Nat) (y0 : Ze) : Option Bool :=
  fbind (ZeY F y0.Prime 2 64) fun r11 =>
  bif !r11 then
    some (false)
  else
    fbind (ZeY F y0.Degree 1 6) fun r18 =>
    bif !r18 then
      some (false)
    else
      bif !eqi ((y0.Poly.length : Int)) ((cw (y0.Degree + 1))) then
        some (false)
      else
        fbind (cIdx y0.Poly y0.Degree) fun e43 =>
        bif !eqi (e43) (1) then
          some (false)
        else
          Zme F y0
theorem ZZ {F : Nat} (y0 : Ze)  : Le (ZpF F y0) (ZdQ y0) := by
  unfold ZpF ZdQ
  try simp only [← cw_ok, ← Zs, ← Zw, ← Zo, ← Zq, ← Zn, ← Zr, GT.gt, GE.ge]
  repeat' (with_reducible first | exact Le.rfl | assumption | exact ZkD _ _ _ | exact ZtP _ | exact Zx _ _ _ | exact Zu _ _ _ _ | (refine le_if ?_ ?_) | (refine Zy ?_ fun _ => ?_) | (refine Zv ?_) | (refine Zt fun _ => ?_))
noncomputable def Zpr (F : Nat) (f0 : Ze) : Option Int :=
  fbind (ZfY F f0.Prime f0.Degree) fun r11 =>
  some (r11)
theorem ZY {F : Nat} (f0 : Ze)  : Le (Zpr F f0) (Zck f0) := by
  unfold Zpr Zck
  try simp only [← cw_ok, ← Zs, ← Zw, ← Zo, ← Zq, ← Zn, ← Zr, GT.gt, GE.ge]
  repeat' (with_reducible first | exact Le.rfl | assumption | exact ZnR _ _ | exact Zx _ _ _ | exact Zu _ _ _ _ | (refine le_if ?_ ?_) | (refine Zy ?_ fun _ => ?_) | (refine Zv ?_) | (refine Zt fun _ => ?_))
noncomputable def Zjo (F : Nat) (n0 low1 high2 : Int) : Option Bool :=
  bif lei (low1) (n0) then
    some (lei (n0) (high2))
  else
    some (false)
theorem Zrz {F : Nat} (n0 low1 high2 : Int)  : Le (Zjo F n0 low1 high2) (Z9 n0 low1 high2) := by
  unfold Zjo Z9
  try simp only [← cw_ok, ← Zs, ← Zw, ← Zo, ← Zq, ← Zn, ← Zr, GT.gt, GE.ge]
  repeat' (with_reducible first | exact Le.rfl | assumption | exact Zx _ _ _ | exact Zu _ _ _ _ | (refine le_if ?_ ?_) | (refine Zy ?_ fun _ => ?_) | (refine Zv ?_) | (refine Zt fun _ => ?_))
noncomputable def Zg8 (F : Nat) (list0 : List Int) : Option Int :=
  some ((list0.length : Int))
theorem Zmc {F : Nat} (list0 : List Int)  : Le (Zg8 F list0) (ZR list0) := by
  unfold Zg8 ZR
  try simp only [← cw_ok, ← Zs, ← Zw, ← Zo, ← Zq, ← Zn, ← Zr, GT.gt, GE.ge]
  repeat' (with_reducible first | exact Le.rfl | assumption | exact Zx _ _ _ | exact Zu _ _ _ _ | (refine le_if ?_ ?_) | (refine Zy ?_ fun _ => ?_) | (refine Zv ?_) | (refine Zt fun _ => ?_))
noncomputable def ZlV (F : Nat) (a0 : List Int) : Option (List Int) := cApp 8 [] a0
theorem Zy2 {F : Nat} (a0 : List Int)  : Le (ZlV F a0) (ZbG a0) := by
  unfold ZlV ZbG
  try simp only [← cw_ok, ← Zs, ← Zw, ← Zo, ← Zq, ← Zn, ← Zr, GT.gt, GE.ge]
  repeat' (with_reducible first | exact Le.rfl | assumption | exact Zx _ _ _ | exact Zu _ _ _ _ | (refine le_if ?_ ?_) | (refine Zy ?_ fun _ => ?_) | (refine Zv ?_) | (refine Zt fun _ => ?_))
noncomputable def Zn2 (F : Nat) (s0 : List Int) (fn1 : Int → Option Bool) : Int → Option ((Int) ⊕ (Int))
  | y8 =>
    bif lti (y8) ((s0.length : Int)) then
      fbind (cIdx s0 y8) fun e14 =>
      fbind (fn1 e14) fun r16 =>
      bif r16 then
        some (.inr (y8))
      else
        some (.inl (cw (y8 + 1)))
    else
      some (.inr ((-1)))
theorem Zux {F : Nat} (s0 : List Int) (fn1 fn1' : Int → Option Bool) (hfn1 : ∀ u0, Le (fn1 u0) (fn1' u0)) (s_ : _) : Le (Zn2 F s0 fn1 s_) (ZdJ s0 fn1' s_) := by
  unfold Zn2 ZdJ
  try simp only [← cw_ok, ← Zs, ← Zw, ← Zo, ← Zq, ← Zn, ← Zr, GT.gt, GE.ge]
  repeat' (with_reducible first | exact Le.rfl | assumption | exact Zx _ _ _ | exact Zu _ _ _ _ | (refine le_if ?_ ?_) | (refine Zy ?_ fun _ => ?_) | (refine Zv ?_) | (refine Zt fun _ => ?_))
  all_goals (first | exact hfn1 _ | skip)
noncomputable def ZmP (F : Nat) (s0 : List Int) (fn1 : Int → Option Bool) : Option Int :=
  lpF F (Zn2 F s0 fn1) (0)
theorem Zze {F : Nat} (s0 : List Int) (fn1 fn1' : Int → Option Bool) (hfn1 : ∀ u0, Le (fn1 u0) (fn1' u0)) : Le (ZmP F s0 fn1) (ZfZ s0 fn1') := by
  unfold ZmP ZfZ
  try simp only [← cw_ok, ← Zs, ← Zw, ← Zo, ← Zq, ← Zn, ← Zr, GT.gt, GE.ge]
  repeat' (with_reducible first | exact Le.rfl | assumption | (refine Zux _ _ _ ?_ _; intros) | exact Zx _ _ _ | exact Zu _ _ _ _ | (refine le_if ?_ ?_) | (refine Zy ?_ fun _ => ?_) | (refine Zv ?_) | (refine Zt fun _ => ?_))
  all_goals (first | exact hfn1 _ | skip)
noncomputable def Zlr (F : Nat) (s0 : List Int) (fn1 : Int → Option Bool) : Option Bool :=
  fbind (ZmP F s0 fn1) fun r7 =>
  some (lei (0) (r7))
theorem ZAO {F : Nat} (s0 : List Int) (fn1 fn1' : Int → Option Bool) (hfn1 : ∀ u0, Le (fn1 u0) (fn1' u0)) : Le (Zlr F s0 fn1) (ZaF s0 fn1') := by
  unfold Zlr ZaF
  try simp only [← cw_ok, ← Zs, ← Zw, ← Zo, ← Zq, ← Zn, ← Zr, GT.gt, GE.ge]
  repeat' (with_reducible first | exact Le.rfl | assumption | (refine Zze _ _ _ ?_; intros) | exact Zx _ _ _ | exact Zu _ _ _ _ | (refine le_if ?_ ?_) | (refine Zy ?_ fun _ => ?_) | (refine Zv ?_) | (refine Zt fun _ => ?_))
  all_goals (first | exact hfn1 _ | skip)
noncomputable def ZnJ (F : Nat) (base0 e1_2 power7 : Int) : Option ((Int × Int) ⊕ (Int)) :=
  some (.inl (cw (e1_2 - 1), cw (power7 * base0)))
theorem ZwO {F : Nat} (base0 e1_2 power7 : Int)  : Le (ZnJ F base0 e1_2 power7) (Zfq base0 e1_2 power7) := by
  unfold ZnJ Zfq
  try simp only [← cw_ok, ← Zs, ← Zw, ← Zo, ← Zq, ← Zn, ← Zr, GT.gt, GE.ge]
  repeat' (with_reducible first | exact Le.rfl | assumption | exact Zx _ _ _ | exact Zu _ _ _ _ | (refine le_if ?_ ?_) | (refine Zy ?_ fun _ => ?_) | (refine Zv ?_) | (refine Zt fun _ => ?_))
noncomputable def ZlS (F : Nat) (base0 limit2 : Int) : Int × Int → Option ((Int × Int) ⊕ (Int))
  | (e1_2, power7) =>
    bif lti (0) (e1_2) then
      bif lei (power7) (limit2) then
        ZnJ F base0 e1_2 power7
      else
        some (.inr (power7))
    else
      some (.inr (power7))
theorem ZAt {F : Nat} (base0 limit2 : Int)  (s_ : _) : Le (ZlS F base0 limit2 s_) (Za0 base0 limit2 s_) := by
  obtain ⟨e1_2, power7⟩ := s_
  unfold ZlS Za0
  try simp only [← cw_ok, ← Zs, ← Zw, ← Zo, ← Zq, ← Zn, ← Zr, GT.gt, GE.ge]
  repeat' (with_reducible first | exact Le.rfl | assumption | exact ZwO _ _ _ | exact Zx _ _ _ | exact Zu _ _ _ _ | (refine le_if ?_ ?_) | (refine Zy ?_ fun _ => ?_) | (refine Zv ?_) | (refine Zt fun _ => ?_))
noncomputable def Zfx (F : Nat) (base0 e1 limit2 : Int) : Option Int :=
  lpF F (ZlS F base0 limit2) (e1, 1)
theorem ZmU {F : Nat} (base0 e1 limit2 : Int)  : Le (Zfx F base0 e1 limit2) (Zbz base0 e1 limit2) := by
  unfold Zfx Zbz
  try simp only [← cw_ok, ← Zs, ← Zw, ← Zo, ← Zq, ← Zn, ← Zr, GT.gt, GE.ge]
  repeat' (with_reducible first | exact Le.rfl | assumption | exact ZAt _ _ _ | exact Zx _ _ _ | exact Zu _ _ _ _ | (refine le_if ?_ ?_) | (refine Zy ?_ fun _ => ?_) | (refine Zv ?_) | (refine Zt fun _ => ?_))
noncomputable def Zqy (F : Nat) (f0 : Ze) : Option Int :=
  fbind (Zfx F f0.Prime f0.Degree 64) fun r7 =>
  some (r7)
theorem Z0 {F : Nat} (f0 : Ze)  : Le (Zqy F f0) (ZbP f0) := by
  unfold Zqy ZbP
  try simp only [← cw_ok, ← Zs, ← Zw, ← Zo, ← Zq, ← Zn, ← Zr, GT.gt, GE.ge]
  repeat' (with_reducible first | exact Le.rfl | assumption | exact ZmU _ _ _ | exact Zx _ _ _ | exact Zu _ _ _ _ | (refine le_if ?_ ?_) | (refine Zy ?_ fun _ => ?_) | (refine Zv ?_) | (refine Zt fun _ => ?_))
noncomputable def ZkW (F : Nat) (base1 : Int) (l10 : List Int) : Int × Int × List Int → Option ((Int × Int × List Int) ⊕ (List Int))
  | (n0_2, y13, xs) =>
    bif lti (y13) ((l10.length : Int)) then
      fbind (cNz base1) fun _ =>
      fbind (cIdx xs y13) fun e21 =>
      fbind (cNz base1) fun _ =>
      some (.inl (cw (Int.tdiv n0_2 base1), cw (y13 + 1), (xs.set (y13 : Int).toNat (Int.tmod n0_2 base1))))
    else
      some (.inr (xs))
theorem ZwL {F : Nat} (base1 : Int) (l10 : List Int)  (s_ : _) : Le (ZkW F base1 l10 s_) (ZbI base1 l10 s_) := by
  obtain ⟨n0_2, y13, xs⟩ := s_
  unfold ZkW ZbI
  try simp only [← cw_ok, ← Zs, ← Zw, ← Zo, ← Zq, ← Zn, ← Zr, GT.gt, GE.ge]
  repeat' (with_reducible first | exact Le.rfl | assumption | exact Zx _ _ _ | exact Zu _ _ _ _ | (refine le_if ?_ ?_) | (refine Zy ?_ fun _ => ?_) | (refine Zv ?_) | (refine Zt fun _ => ?_))
noncomputable def ZhT (F : Nat) (n0 base1 count2 : Int) : Option (List Int) :=
  fbind (cMake 8 (0 : Int) count2 count2) fun l10 =>
  lpF F (ZkW F base1 l10) (n0, 0, l10)
theorem ZpS {F : Nat} (n0 base1 count2 : Int)  : Le (ZhT F n0 base1 count2) (ZaK n0 base1 count2) := by
  unfold ZhT ZaK
  try simp only [← cw_ok, ← Zs, ← Zw, ← Zo, ← Zq, ← Zn, ← Zr, GT.gt, GE.ge]
  repeat' (with_reducible first | exact Le.rfl | assumption | exact ZwL _ _ _ | exact Zx _ _ _ | exact Zu _ _ _ _ | (refine le_if ?_ ?_) | (refine Zy ?_ fun _ => ?_) | (refine Zv ?_) | (refine Zt fun _ => ?_))
noncomputable def ZkC (F : Nat) (y1 : List Int) (y2 y9 e29 : Int) : Int × List Int → Option ((Int × List Int) ⊕ ((Int × List Int) ⊕ (List Int)))
  | (y33, xs_2) =>
    bif lti (y33) ((y1.length : Int)) then
      fbind (cIdx y1 y33) fun e36 =>
      fbind (cIdx xs_2 (cw ((cw (y9 - (cw ((y1.length : Int) - 1)))) + y33))) fun e47 =>
      fbind (cNz y2) fun _ =>
      fbind (cNz y2) fun _ =>
      fbind (cIdx xs_2 (cw ((cw (y9 - (cw ((y1.length : Int) - 1)))) + y33))) fun e59 =>
      some (.inl (cw (y33 + 1), (xs_2.set (cw ((cw (y9 - (cw ((y1.length : Int) - 1)))) + y33) : Int).toNat (Int.tmod (cw ((Int.tmod (cw (e47 - (cw (e29 * e36)))) y2) + y2)) y2))))
    else
      some (.inr (.inl (cw (y9 - 1), xs_2)))
theorem Zxm {F : Nat} (y1 : List Int) (y2 y9 e29 : Int)  (s_ : _) : Le (ZkC F y1 y2 y9 e29 s_) (ZcW y1 y2 y9 e29 s_) := by
  obtain ⟨y33, xs_2⟩ := s_
  unfold ZkC ZcW
  try simp only [← cw_ok, ← Zs, ← Zw, ← Zo, ← Zq, ← Zn, ← Zr, GT.gt, GE.ge]
  repeat' (with_reducible first | exact Le.rfl | assumption | exact Zx _ _ _ | exact Zu _ _ _ _ | (refine le_if ?_ ?_) | (refine Zy ?_ fun _ => ?_) | (refine Zv ?_) | (refine Zt fun _ => ?_))
noncomputable def Zn6 (F : Nat) (y1 : List Int) (y2 : Int) : Int × List Int → Option ((Int × List Int) ⊕ (List Int))
  | (y9, xs) =>
    bif lei ((cw ((y1.length : Int) - 1))) (y9) then
      fbind (cIdx xs y9) fun e29 =>
      lpF F (ZkC F y1 y2 y9 e29) (0, xs)
    else
      fbind (gSl xs 0 (if ((xs.length : Int) : Int) < (cw ((y1.length : Int) - 1)) then (xs.length : Int) else cw ((y1.length : Int) - 1))) fun l66 =>
      some (.inr (l66))
theorem ZsP {F : Nat} (y1 : List Int) (y2 : Int)  (s_ : _) : Le (Zn6 F y1 y2 s_) (Za7 y1 y2 s_) := by
  obtain ⟨y9, xs⟩ := s_
  unfold Zn6 Za7
  try simp only [← cw_ok, ← Zs, ← Zw, ← Zo, ← Zq, ← Zn, ← Zr, GT.gt, GE.ge]
  repeat' (with_reducible first | exact Le.rfl | assumption | exact Zxm _ _ _ _ _ | exact Zx _ _ _ | exact Zu _ _ _ _ | (refine le_if ?_ ?_) | (refine Zy ?_ fun _ => ?_) | (refine Zv ?_) | (refine Zt fun _ => ?_))
noncomputable def ZmC (F : Nat) (y0 y1 : List Int) (y2 : Int) : Option (List Int) :=
  fbind (ZlV F y0) fun r15 =>
  lpF F (Zn6 F y1 y2) (cw ((r15.length : Int) - 1), r15)
theorem ZyK {F : Nat} (y0 y1 : List Int) (y2 : Int)  : Le (ZmC F y0 y1 y2) (ZcB y0 y1 y2) := by
  unfold ZmC ZcB
  try simp only [← cw_ok, ← Zs, ← Zw, ← Zo, ← Zq, ← Zn, ← Zr, GT.gt, GE.ge]
  repeat' (with_reducible first | exact Le.rfl | assumption | exact Zy2 _ | exact ZsP _ _ _ | exact Zx _ _ _ | exact Zu _ _ _ _ | (refine le_if ?_ ?_) | (refine Zy ?_ fun _ => ?_) | (refine Zv ?_) | (refine Zt fun _ => ?_))
noncomputable def Zlx (F : Nat) (x0 : Int) : Option Bool :=
  some (!eqi (x0) (0))
theorem ZuD {F : Nat} (x0 : Int)  : Le (Zlx F x0) (ZfP x0) := by
  unfold Zlx ZfP
  try simp only [← cw_ok, ← Zs, ← Zw, ← Zo, ← Zq, ← Zn, ← Zr, GT.gt, GE.ge]
  repeat' (with_reducible first | exact Le.rfl | assumption | exact Zx _ _ _ | exact Zu _ _ _ _ | (refine le_if ?_ ?_) | (refine Zy ?_ fun _ => ?_) | (refine Zv ?_) | (refine Zt fun _ => ?_))
noncomputable def Zlm (F : Nat) (list0 : List Int) : Option Bool :=
  fbind (Zlr F list0 (fun y0 => Zlx F y0)) fun r4 =>
  some (!r4)
theorem ZsM {F : Nat} (list0 : List Int)  : Le (Zlm F list0) (ZhX list0) := by
  unfold Zlm ZhX
  try simp only [← cw_ok, ← Zs, ← Zw, ← Zo, ← Zq, ← Zn, ← Zr, GT.gt, GE.ge]
  repeat' (with_reducible first | exact Le.rfl | assumption | (refine ZAO _ _ _ ?_; intros) | exact ZuD _ | exact Zx _ _ _ | exact Zu _ _ _ _ | (refine le_if ?_ ?_) | (refine Zy ?_ fun _ => ?_) | (refine Zv ?_) | (refine Zt fun _ => ?_))
noncomputable def Zlo (F : Nat) (poly0 : List Int) (p1 d6 : Int) : Int → Option ((Int) ⊕ ((Int) ⊕ (Bool)))
  | n7 =>
    fbind (Zfx F p1 d6 64) fun r20 =>
    bif lti (n7) (r20) then
      fbind (ZhT F n7 p1 d6) fun r28 =>
      fbind (cApp 8 r28 [1]) fun l30 =>
      fbind (ZmC F poly0 l30 p1) fun r32 =>
      fbind (Zlm F r32) fun r33 =>
      bif r33 then
        some (.inr (.inr (false)))
      else
        some (.inl (cw (n7 + 1)))
    else
      some (.inr (.inl (cw (d6 + 1))))
theorem Zzf {F : Nat} (poly0 : List Int) (p1 d6 : Int)  (s_ : _) : Le (Zlo F poly0 p1 d6 s_) (Zjs poly0 p1 d6 s_) := by
  unfold Zlo Zjs
  try simp only [← cw_ok, ← Zs, ← Zw, ← Zo, ← Zq, ← Zn, ← Zr, GT.gt, GE.ge]
  repeat' (with_reducible first | exact Le.rfl | assumption | exact ZmU _ _ _ | exact ZpS _ _ _ | exact ZyK _ _ _ | exact ZsM _ | exact Zx _ _ _ | exact Zu _ _ _ _ | (refine le_if ?_ ?_) | (refine Zy ?_ fun _ => ?_) | (refine Zv ?_) | (refine Zt fun _ => ?_))
noncomputable def ZmB (F : Nat) (poly0 : List Int) (p1 r9 : Int) : Int → Option ((Int) ⊕ (Bool))
  | d6 =>
    bif lei (cw (2 * d6)) ((cw (r9 - 1))) then
      lpF F (Zlo F poly0 p1 d6) (0)
    else
      some (.inr (true))
theorem ZzD {F : Nat} (poly0 : List Int) (p1 r9 : Int)  (s_ : _) : Le (ZmB F poly0 p1 r9 s_) (ZiA poly0 p1 r9 s_) := by
  unfold ZmB ZiA
  try simp only [← cw_ok, ← Zs, ← Zw, ← Zo, ← Zq, ← Zn, ← Zr, GT.gt, GE.ge]
  repeat' (with_reducible first | exact Le.rfl | assumption | exact Zzf _ _ _ _ | exact Zx _ _ _ | exact Zu _ _ _ _ | (refine le_if ?_ ?_) | (refine Zy ?_ fun _ => ?_) | (refine Zv ?_) | (refine Zt fun _ => ?_))
noncomputable def Zjh (F : Nat) (poly0 : List Int) (p1 : Int) : Option Bool :=
  fbind (Zg8 F poly0) fun r9 =>
  lpF F (ZmB F poly0 p1 r9) (1)
theorem Zqh {F : Nat} (poly0 : List Int) (p1 : Int)  : Le (Zjh F poly0 p1) (ZdV poly0 p1) := by
  unfold Zjh ZdV
  try simp only [← cw_ok, ← Zs, ← Zw, ← Zo, ← Zq, ← Zn, ← Zr, GT.gt, GE.ge]
  repeat' (with_reducible first | exact Le.rfl | assumption | exact Zmc _ | exact ZzD _ _ _ _ | exact Zx _ _ _ | exact Zu _ _ _ _ | (refine le_if ?_ ?_) | (refine Zy ?_ fun _ => ?_) | (refine Zv ?_) | (refine Zt fun _ => ?_))
noncomputable def ZkF (F : Nat) (p4 : Int) : Int × List Int → Option ((Int × List Int) ⊕ ((Int × List Int × Int) ⊕ (List Int)))
  | (n0_3, factor3_2) =>
    fbind (cNz p4) fun _ =>
    bif eqi (Int.tmod n0_3 p4) (0) then
      fbind (cApp 8 factor3_2 [p4]) fun l22 =>
      fbind (cNz p4) fun _ =>
      some (.inl (cw (Int.tdiv n0_3 p4), l22))
    else
      some (.inr (.inl (n0_3, factor3_2, cw (p4 + 1))))
theorem Zs1 {F : Nat} (p4 : Int)  (s_ : _) : Le (ZkF F p4 s_) (Zcd p4 s_) := by
  obtain ⟨n0_3, factor3_2⟩ := s_
  unfold ZkF Zcd
  try simp only [← cw_ok, ← Zs, ← Zw, ← Zo, ← Zq, ← Zn, ← Zr, GT.gt, GE.ge]
  repeat' (with_reducible first | exact Le.rfl | assumption | exact Zx _ _ _ | exact Zu _ _ _ _ | (refine le_if ?_ ?_) | (refine Zy ?_ fun _ => ?_) | (refine Zv ?_) | (refine Zt fun _ => ?_))
noncomputable def Zns (F : Nat) : Int × List Int × Int → Option ((Int × List Int × Int) ⊕ (List Int))
  | (n0_2, factor3, p4) =>
    bif lei (cw (p4 * p4)) (n0_2) then
      lpF F (ZkF F p4) (n0_2, factor3)
    else
      bif lti (1) (n0_2) then
        fbind (cApp 8 factor3 [n0_2]) fun l31 =>
        some (.inr (l31))
      else
        some (.inr (factor3))
theorem ZzV {F : Nat}   (s_ : _) : Le (Zns F  s_) (Zbb  s_) := by
  obtain ⟨n0_2, factor3, p4⟩ := s_
  unfold Zns Zbb
  try simp only [← cw_ok, ← Zs, ← Zw, ← Zo, ← Zq, ← Zn, ← Zr, GT.gt, GE.ge]
  repeat' (with_reducible first | exact Le.rfl | assumption | exact Zs1 _ _ | exact Zx _ _ _ | exact Zu _ _ _ _ | (refine le_if ?_ ?_) | (refine Zy ?_ fun _ => ?_) | (refine Zv ?_) | (refine Zt fun _ => ?_))
noncomputable def Zji (F : Nat) (n0 : Int) : Option (List Int) :=
  fbind (Zjo F n0 1 1000000) fun r6 =>
  bif !r6 then
    some (([] : List Int))
  else
    lpF F (Zns F) (n0, ([] : List Int), 2)
theorem ZrJ {F : Nat} (n0 : Int)  : Le (Zji F n0) (ZbH n0) := by
  unfold Zji ZbH
  try simp only [← cw_ok, ← Zs, ← Zw, ← Zo, ← Zq, ← Zn, ← Zr, GT.gt, GE.ge]
  repeat' (with_reducible first | exact Le.rfl | assumption | exact Zrz _ _ _ | exact ZzV  _ | exact Zx _ _ _ | exact Zu _ _ _ _ | (refine le_if ?_ ?_) | (refine Zy ?_ fun _ => ?_) | (refine Zv ?_) | (refine Zt fun _ => ?_))
noncomputable def ZkT (F : Nat) (n0 : Int) : Option Bool :=
  fbind (Zji F n0) fun r4 =>
  some (eqi ((r4.length : Int)) (1))
theorem Zys {F : Nat} (n0 : Int)  : Le (ZkT F n0) (Zf2 n0) := by
  unfold ZkT Zf2
  try simp only [← cw_ok, ← Zs, ← Zw, ← Zo, ← Zq, ← Zn, ← Zr, GT.gt, GE.ge]
  repeat' (with_reducible first | exact Le.rfl | assumption | exact ZrJ _ | exact Zx _ _ _ | exact Zu _ _ _ _ | (refine le_if ?_ ?_) | (refine Zy ?_ fun _ => ?_) | (refine Zv ?_) | (refine Zt fun _ => ?_))
noncomputable def Zli (F : Nat) (f0 : Ze) : Int → Option ((Int) ⊕ (Bool))
  | y41 =>
    bif lti (y41) ((f0.Poly.length : Int)) then
      fbind (cIdx f0.Poly y41) fun e43 =>
      fbind (Zjo F e43 0 (cw (f0.Prime - 1))) fun r49 =>
      bif !r49 then
        some (.inr (false))
      else
        some (.inl (cw (y41 + 1)))
    else
      fbind (Zjh F f0.Poly f0.Prime) fun r56 =>
      some (.inr (r56))
theorem ZvF {F : Nat} (f0 : Ze)  (s_ : _) : Le (Zli F f0 s_) (Zj0 f0 s_) := by
  unfold Zli Zj0
  try simp only [← cw_ok, ← Zs, ← Zw, ← Zo, ← Zq, ← Zn, ← Zr, GT.gt, GE.ge]
  repeat' (with_reducible first | exact Le.rfl | assumption | exact Zrz _ _ _ | exact Zqh _ _ | exact Zx _ _ _ | exact Zu _ _ _ _ | (refine le_if ?_ ?_) | (refine Zy ?_ fun _ => ?_) | (refine Zv ?_) | (refine Zt fun _ => ?_))
noncomputable def ZmI (F : Nat) (f0 : Ze) : Option (Bool) :=
  lpF F (Zli F f0) (0)
theorem ZvJ {F : Nat} (f0 : Ze)  : Le (ZmI F f0) (ZhM f0) := by
  unfold ZmI ZhM
  try simp only [← cw_ok, ← Zs, ← Zw, ← Zo, ← Zq, ← Zn, ← Zr, GT.gt, GE.ge]
  repeat' (with_reducible first | exact Le.rfl | assumption | exact ZvF _ _ | exact Zx _ _ _ | exact Zu _ _ _ _ | (refine le_if ?_ ?_) | (refine Zy ?_ fun _ => ?_) | (refine Zv ?_) | (refine Zt fun _ => ?_))
noncomputable def Zmg (F : Nat) (f0 : Ze) : Option (Bool) :=
  fbind (Zg8 F f0.Poly) fun r24 =>
  bif !eqi (r24) ((cw (f0.Degree + 1))) then
    some (false)
  else
    fbind (cIdx f0.Poly f0.Degree) fun e34 =>
    bif !eqi (e34) (1) then
      some (false)
    else
      ZmI F f0
theorem ZxS {F : Nat} (f0 : Ze)  : Le (Zmg F f0) (Zge f0) := by
  unfold Zmg Zge
  try simp only [← cw_ok, ← Zs, ← Zw, ← Zo, ← Zq, ← Zn, ← Zr, GT.gt, GE.ge]
  repeat' (with_reducible first | exact Le.rfl | assumption | exact Zmc _ | exact ZvJ _ | exact Zx _ _ _ | exact Zu _ _ _ _ | (refine le_if ?_ ?_) | (refine Zy ?_ fun _ => ?_) | (refine Zv ?_) | (refine Zt fun _ => ?_))
noncomputable def ZqJ (F : Nat) (f0 : Ze) : Option Bool :=
  fbind (ZkT F f0.Prime) fun r7 =>
  bif !r7 then
    some (false)
  else
    bif lti (f0.Degree) (1) then
      some (false)
    else
      fbind (Zfx F f0.Prime f0.Degree 64) fun r19 =>
      bif lti (64) (r19) then
        some (false)
      else
        Zmg F f0
theorem Z3 {F : Nat} (f0 : Ze)  : Le (ZqJ F f0) (ZeP f0) := by
  unfold ZqJ ZeP
  try simp only [← cw_ok, ← Zs, ← Zw, ← Zo, ← Zq, ← Zn, ← Zr, GT.gt, GE.ge]
  repeat' (with_reducible first | exact Le.rfl | assumption | exact Zys _ | exact ZmU _ _ _ | exact ZxS _ | exact Zx _ _ _ | exact Zu _ _ _ _ | (refine le_if ?_ ?_) | (refine Zy ?_ fun _ => ?_) | (refine Zv ?_) | (refine Zt fun _ => ?_))
noncomputable def Zku (F : Nat) (r8 : List Int) : Int → Option ((Int) ⊕ (Int × Int))
  | y11 =>
    bif lti (y11) ((r8.length : Int)) then
      fbind (cIdx r8 y11) fun e13 =>
      fbind (cIdx r8 0) fun e17 =>
      bif !eqi (e13) (e17) then
        some (.inr ((0, 0)))
      else
        some (.inl (cw (y11 + 1)))
    else
      bif eqi ((r8.length : Int)) (0) then
        some (.inr ((0, 0)))
      else
        fbind (Zg8 F r8) fun r28 =>
        fbind (cIdx r8 0) fun e25 =>
        some (.inr ((e25, r28)))
theorem Zzi {F : Nat} (r8 : List Int)  (s_ : _) : Le (Zku F r8 s_) (Zbf r8 s_) := by
  unfold Zku Zbf
  try simp only [← cw_ok, ← Zs, ← Zw, ← Zo, ← Zq, ← Zn, ← Zr, GT.gt, GE.ge]
  repeat' (with_reducible first | exact Le.rfl | assumption | exact Zmc _ | exact Zx _ _ _ | exact Zu _ _ _ _ | (refine le_if ?_ ?_) | (refine Zy ?_ fun _ => ?_) | (refine Zv ?_) | (refine Zt fun _ => ?_))
noncomputable def Zl9 (F : Nat) (n0 : Int) : Option (Int × Int) :=
  fbind (Zji F n0) fun r8 =>
  lpF F (Zku F r8) (0)
theorem Zrg {F : Nat} (n0 : Int)  : Le (Zl9 F n0) (ZbQ n0) := by
  unfold Zl9 ZbQ
  try simp only [← cw_ok, ← Zs, ← Zw, ← Zo, ← Zq, ← Zn, ← Zr, GT.gt, GE.ge]
  repeat' (with_reducible first | exact Le.rfl | assumption | exact ZrJ _ | exact Zzi _ _ | exact Zx _ _ _ | exact Zu _ _ _ _ | (refine le_if ?_ ?_) | (refine Zy ?_ fun _ => ?_) | (refine Zv ?_) | (refine Zt fun _ => ?_))
noncomputable def Zk2 (F : Nat) (r9 : Int × Int) : Int → Option ((Int) ⊕ (Ze × Int))
  | n6 =>
    fbind (ZhT F n6 r9.1 r9.2) fun r22 =>
    fbind (cApp 8 r22 [1]) fun l24 =>
    fbind (Zjh F l24 r9.1) fun r26 =>
    bif !r26 then
      some (.inl (cw (n6 + 1)))
    else
      fbind (ZhT F n6 r9.1 r9.2) fun r35 =>
      fbind (cApp 8 r35 [1]) fun l37 =>
      some (.inr (((Ze.mk r9.1 r9.2 l37), 0)))
theorem ZA5 {F : Nat} (r9 : Int × Int)  (s_ : _) : Le (Zk2 F r9 s_) (Zip r9 s_) := by
  unfold Zk2 Zip
  try simp only [← cw_ok, ← Zs, ← Zw, ← Zo, ← Zq, ← Zn, ← Zr, GT.gt, GE.ge]
  repeat' (with_reducible first | exact Le.rfl | assumption | exact ZpS _ _ _ | exact Zqh _ _ | exact Zx _ _ _ | exact Zu _ _ _ _ | (refine le_if ?_ ?_) | (refine Zy ?_ fun _ => ?_) | (refine Zv ?_) | (refine Zt fun _ => ?_))
noncomputable def ZkR (F : Nat) (r9 : Int × Int) : Option (Ze × Int) :=
  lpF F (Zk2 F r9) (0)
theorem Zvz {F : Nat} (r9 : Int × Int)  : Le (ZkR F r9) (ZhB r9) := by
  unfold ZkR ZhB
  try simp only [← cw_ok, ← Zs, ← Zw, ← Zo, ← Zq, ← Zn, ← Zr, GT.gt, GE.ge]
  repeat' (with_reducible first | exact Le.rfl | assumption | exact ZA5 _ _ | exact Zx _ _ _ | exact Zu _ _ _ _ | (refine le_if ?_ ?_) | (refine Zy ?_ fun _ => ?_) | (refine Zv ?_) | (refine Zt fun _ => ?_))
noncomputable def ZpL (F : Nat) (q0 : Int) : Option (Ze × Int) :=
  fbind (Zl9 F q0) fun r9 =>
  bif eqi (r9.1) (0) then
    some (((Ze.mk 0 0 ([] : List Int)), 2))
  else
    bif lti (64) (q0) then
      some (((Ze.mk 0 0 ([] : List Int)), 2))
    else
      ZkR F r9
theorem Zl {F : Nat} (q0 : Int)  : Le (ZpL F q0) (Zbv q0) := by
  unfold ZpL Zbv
  try simp only [← cw_ok, ← Zs, ← Zw, ← Zo, ← Zq, ← Zn, ← Zr, GT.gt, GE.ge]
  repeat' (with_reducible first | exact Le.rfl | assumption | exact Zrg _ | exact Zvz _ | exact Zx _ _ _ | exact Zu _ _ _ _ | (refine le_if ?_ ?_) | (refine Zy ?_ fun _ => ?_) | (refine Zv ?_) | (refine Zt fun _ => ?_))
end Go.Proofs.YtapkemdomnkccaaGreat
