import Derived.Test.YtocnokjekoglnaaGreatPuEv
import Derived.Test.YtocnokjekoglnaaGreatPuFns
namespace Go.Proofs.YtocnokjekoglnaaGreat
open Go Go.Vc
set_option linter.unusedVariables false
set_option linter.unusedSimpArgs false
set_option maxRecDepth 20000
noncomputable instance : Frc Zb where
  frc p k := Zb.rec (fun x0 x1 => Frc.frc x0 fun x0 => Frc.frc x1 fun x1 => k (.mk x0 x1)) p
  ok p k := by cases p; show Frc.frc _ _ = _; simp only [Frc.ok]
noncomputable def Zfo (F : Nat) (a0 b1 : List Int) : Option (Int) :=
  bif lti ((a0.length : Int)) ((b1.length : Int)) then
    some ((-1))
  else
    bif lti ((b1.length : Int)) ((a0.length : Int)) then
      some (1)
    else
      some (0)
theorem ZoV {F : Nat} (a0 b1 : List Int)  : Le (Zfo F a0 b1) (ZaO a0 b1) := by
  unfold Zfo ZaO
  try simp only [← cw_ok, ← Zz, ← Zy, ← Zs, ← Zt, ← Zu, ← Zw, GT.gt, GE.ge]
  repeat' (with_reducible first | exact Le.rfl | assumption | exact ZA _ _ _ | exact Zv _ _ _ _ | (refine le_if ?_ ?_) | (refine ZB ?_ fun _ => ?_) | (refine ZD ?_) | (refine Zx fun _ => ?_))
noncomputable def Zgi (F : Nat) (a0 b1 : List Int) (i5 : Int) : Option ((Int) ⊕ (Int)) :=
  fbind (cIdx a0 i5) fun e20 =>
  fbind (cIdx b1 i5) fun e24 =>
  bif lti (e20) (e24) then
    some (.inr ((-1)))
  else
    fbind (cIdx a0 i5) fun e29 =>
    fbind (cIdx b1 i5) fun e33 =>
    bif lti (e33) (e29) then
      some (.inr (1))
    else
      some (.inl (cw (i5 + 1)))
theorem ZqS {F : Nat} (a0 b1 : List Int) (i5 : Int)  : Le (Zgi F a0 b1 i5) (Za3 a0 b1 i5) := by
  unfold Zgi Za3
  try simp only [← cw_ok, ← Zz, ← Zy, ← Zs, ← Zt, ← Zu, ← Zw, GT.gt, GE.ge]
  repeat' (with_reducible first | exact Le.rfl | assumption | exact ZA _ _ _ | exact Zv _ _ _ _ | (refine le_if ?_ ?_) | (refine ZB ?_ fun _ => ?_) | (refine ZD ?_) | (refine Zx fun _ => ?_))
noncomputable def Zf5 (F : Nat) (a0 b1 : List Int) : Int → Option ((Int) ⊕ (Int))
  | i5 =>
    bif lti (i5) ((a0.length : Int)) then
      bif lti (i5) ((b1.length : Int)) then
        Zgi F a0 b1 i5
      else
        fmap (Zfo F a0 b1) fun x => .inr (x)
    else
      fmap (Zfo F a0 b1) fun x => .inr (x)
theorem ZpT {F : Nat} (a0 b1 : List Int)  (s_ : _) : Le (Zf5 F a0 b1 s_) (Zak a0 b1 s_) := by
  unfold Zf5 Zak
  try simp only [← cw_ok, ← Zz, ← Zy, ← Zs, ← Zt, ← Zu, ← Zw, GT.gt, GE.ge]
  repeat' (with_reducible first | exact Le.rfl | assumption | exact ZqS _ _ _ | exact ZoV _ _ | exact ZA _ _ _ | exact Zv _ _ _ _ | (refine le_if ?_ ?_) | (refine ZB ?_ fun _ => ?_) | (refine ZD ?_) | (refine Zx fun _ => ?_))
noncomputable def Zhc (F : Nat) (a0 b1 : List Int) : Option Int :=
  lpF F (Zf5 F a0 b1) (0)
theorem Zpu {F : Nat} (a0 b1 : List Int)  : Le (Zhc F a0 b1) (ZaL a0 b1) := by
  unfold Zhc ZaL
  try simp only [← cw_ok, ← Zz, ← Zy, ← Zs, ← Zt, ← Zu, ← Zw, GT.gt, GE.ge]
  repeat' (with_reducible first | exact Le.rfl | assumption | exact ZpT _ _ _ | exact ZA _ _ _ | exact Zv _ _ _ _ | (refine le_if ?_ ?_) | (refine ZB ?_ fun _ => ?_) | (refine ZD ?_) | (refine Zx fun _ => ?_))
noncomputable def ZdS (F : Nat) (lists0 : List (List Int)) (i7 : Int) (out5_2 : List (List Int)) (done6_2 : Bool) : Option ((List (List Int) × Bool × Int) ⊕ (List (List Int))) :=
  fbind (cIdx lists0 i7) fun e37 =>
  fbind (cApp 24 out5_2 [e37]) fun l40 =>
  some (.inl (l40, done6_2, cw (i7 + 1)))
theorem Zl7 {F : Nat} (lists0 : List (List Int)) (i7 : Int) (out5_2 : List (List Int)) (done6_2 : Bool)  : Le (ZdS F lists0 i7 out5_2 done6_2) (Zbt lists0 i7 out5_2 done6_2) := by
  unfold ZdS Zbt
  try simp only [← cw_ok, ← Zz, ← Zy, ← Zs, ← Zt, ← Zu, ← Zw, GT.gt, GE.ge]
  repeat' (with_reducible first | exact Le.rfl | assumption | exact ZA _ _ _ | exact Zv _ _ _ _ | (refine le_if ?_ ?_) | (refine ZB ?_ fun _ => ?_) | (refine ZD ?_) | (refine Zx fun _ => ?_))
noncomputable def Zfk (F : Nat) (lists0 : List (List Int)) (x1 : List Int) (out5 : List (List Int)) (done6 : Bool) (i7 r21 : Int) (y27 : Bool) : Option ((List (List Int) × Bool × Int) ⊕ (List (List Int))) :=
  bif y27 then
    bif lti (0) (r21) then
      fbind (cApp 24 out5 [x1]) fun l33 =>
      ZdS F lists0 i7 l33 true
    else
      ZdS F lists0 i7 out5 true
  else
    ZdS F lists0 i7 out5 done6
theorem Zm6 {F : Nat} (lists0 : List (List Int)) (x1 : List Int) (out5 : List (List Int)) (done6 : Bool) (i7 r21 : Int) (y27 : Bool)  : Le (Zfk F lists0 x1 out5 done6 i7 r21 y27) (ZcE lists0 x1 out5 done6 i7 r21 y27) := by
  unfold Zfk ZcE
  try simp only [← cw_ok, ← Zz, ← Zy, ← Zs, ← Zt, ← Zu, ← Zw, GT.gt, GE.ge]
  repeat' (with_reducible first | exact Le.rfl | assumption | exact Zl7 _ _ _ _ | exact ZA _ _ _ | exact Zv _ _ _ _ | (refine le_if ?_ ?_) | (refine ZB ?_ fun _ => ?_) | (refine ZD ?_) | (refine Zx fun _ => ?_))
noncomputable def ZhQ (F : Nat) (lists0 : List (List Int)) (x1 : List Int) : List (List Int) × Bool × Int → Option ((List (List Int) × Bool × Int) ⊕ (List (List Int)))
  | (out5, done6, i7) =>
    bif lti (i7) ((lists0.length : Int)) then
      fbind (cIdx lists0 i7) fun e18 =>
      fbind (Zhc F e18 x1) fun r21 =>
      bif !done6 then
        Zfk F lists0 x1 out5 done6 i7 r21 (lei (0) (r21))
      else
        Zfk F lists0 x1 out5 done6 i7 r21 false
    else
      bif !done6 then
        fbind (cApp 24 out5 [x1]) fun l46 =>
        some (.inr (l46))
      else
        some (.inr (out5))
theorem Zlh {F : Nat} (lists0 : List (List Int)) (x1 : List Int)  (s_ : _) : Le (ZhQ F lists0 x1 s_) (Zdi lists0 x1 s_) := by
  obtain ⟨out5, done6, i7⟩ := s_
  unfold ZhQ Zdi
  try simp only [← cw_ok, ← Zz, ← Zy, ← Zs, ← Zt, ← Zu, ← Zw, GT.gt, GE.ge]
  repeat' (with_reducible first | exact Le.rfl | assumption | exact Zpu _ _ | exact Zm6 _ _ _ _ _ _ _ | exact ZA _ _ _ | exact Zv _ _ _ _ | (refine le_if ?_ ?_) | (refine ZB ?_ fun _ => ?_) | (refine ZD ?_) | (refine Zx fun _ => ?_))
noncomputable def ZgJ (F : Nat) (lists0 : List (List Int)) (x1 : List Int) : Option (List (List Int)) :=
  lpF F (ZhQ F lists0 x1) (([] : List (List Int)), false, 0)
theorem ZnI {F : Nat} (lists0 : List (List Int)) (x1 : List Int)  : Le (ZgJ F lists0 x1) (ZdY lists0 x1) := by
  unfold ZgJ ZdY
  try simp only [← cw_ok, ← Zz, ← Zy, ← Zs, ← Zt, ← Zu, ← Zw, GT.gt, GE.ge]
  repeat' (with_reducible first | exact Le.rfl | assumption | exact Zlh _ _ _ | exact ZA _ _ _ | exact Zv _ _ _ _ | (refine le_if ?_ ?_) | (refine ZB ?_ fun _ => ?_) | (refine ZD ?_) | (refine Zx fun _ => ?_))
noncomputable def Zgn (F : Nat) (degree0 : Int) (list1 : List (List Int)) : List (List Int) × Int → Option ((List (List Int) × Int) ⊕ (Zb))
  | (out5, i6) =>
    bif lti (i6) ((list1.length : Int)) then
      fbind (cIdx list1 i6) fun e17 =>
      fbind (ZgJ F out5 e17) fun r19 =>
      some (.inl (r19, cw (i6 + 1)))
    else
      some (.inr ((Zb.mk degree0 out5)))
theorem ZlR {F : Nat} (degree0 : Int) (list1 : List (List Int))  (s_ : _) : Le (Zgn F degree0 list1 s_) (Zc4 degree0 list1 s_) := by
  obtain ⟨out5, i6⟩ := s_
  unfold Zgn Zc4
  try simp only [← cw_ok, ← Zz, ← Zy, ← Zs, ← Zt, ← Zu, ← Zw, GT.gt, GE.ge]
  repeat' (with_reducible first | exact Le.rfl | assumption | exact ZnI _ _ | exact ZA _ _ _ | exact Zv _ _ _ _ | (refine le_if ?_ ?_) | (refine ZB ?_ fun _ => ?_) | (refine ZD ?_) | (refine Zx fun _ => ?_))
noncomputable def Zhx (F : Nat) (degree0 : Int) (list1 : List (List Int)) : Option Zb :=
  lpF F (Zgn F degree0 list1) (([] : List (List Int)), 0)
theorem ZnD {F : Nat} (degree0 : Int) (list1 : List (List Int))  : Le (Zhx F degree0 list1) (ZdV degree0 list1) := by
  unfold Zhx ZdV
  try simp only [← cw_ok, ← Zz, ← Zy, ← Zs, ← Zt, ← Zu, ← Zw, GT.gt, GE.ge]
  repeat' (with_reducible first | exact Le.rfl | assumption | exact ZlR _ _ _ | exact ZA _ _ _ | exact Zv _ _ _ _ | (refine le_if ?_ ?_) | (refine ZB ?_ fun _ => ?_) | (refine ZD ?_) | (refine Zx fun _ => ?_))
noncomputable def ZgK (F : Nat) (n0 : Int) (factor1 : List Int) (i6 : Int) (list5_2 : List (List Int)) (b7 : Int) : List Int × Int → Option ((List Int × Int) ⊕ ((List (List Int) × Int) ⊕ ((List (List Int) × Int) ⊕ (Zb))))
  | (p8, x9) =>
    bif lti (x9) (n0) then
      fbind (cIdx factor1 i6) fun e31 =>
      fbind (cNz n0) fun _ =>
      fbind (cApp 8 p8 [Int.tmod (cw ((cw (e31 * x9)) + b7)) n0]) fun l40 =>
      some (.inl (l40, cw (x9 + 1)))
    else
      fbind (cApp 24 list5_2 [p8]) fun l44 =>
      some (.inr (.inl (l44, cw (b7 + 1))))
theorem ZlK {F : Nat} (n0 : Int) (factor1 : List Int) (i6 : Int) (list5_2 : List (List Int)) (b7 : Int)  (s_ : _) : Le (ZgK F n0 factor1 i6 list5_2 b7 s_) (Zd8 n0 factor1 i6 list5_2 b7 s_) := by
  obtain ⟨p8, x9⟩ := s_
  unfold ZgK Zd8
  try simp only [← cw_ok, ← Zz, ← Zy, ← Zs, ← Zt, ← Zu, ← Zw, GT.gt, GE.ge]
  repeat' (with_reducible first | exact Le.rfl | assumption | exact ZA _ _ _ | exact Zv _ _ _ _ | (refine le_if ?_ ?_) | (refine ZB ?_ fun _ => ?_) | (refine ZD ?_) | (refine Zx fun _ => ?_))
noncomputable def ZgS (F : Nat) (n0 : Int) (factor1 : List Int) (i6 : Int) : List (List Int) × Int → Option ((List (List Int) × Int) ⊕ ((List (List Int) × Int) ⊕ (Zb)))
  | (list5_2, b7) =>
    bif lti (b7) (n0) then
      lpF F (ZgK F n0 factor1 i6 list5_2 b7) (([] : List Int), 0)
    else
      some (.inr (.inl (list5_2, cw (i6 + 1))))
theorem Zk9 {F : Nat} (n0 : Int) (factor1 : List Int) (i6 : Int)  (s_ : _) : Le (ZgS F n0 factor1 i6 s_) (Zdu n0 factor1 i6 s_) := by
  obtain ⟨list5_2, b7⟩ := s_
  unfold ZgS Zdu
  try simp only [← cw_ok, ← Zz, ← Zy, ← Zs, ← Zt, ← Zu, ← Zw, GT.gt, GE.ge]
  repeat' (with_reducible first | exact Le.rfl | assumption | exact ZlK _ _ _ _ _ _ | exact ZA _ _ _ | exact Zv _ _ _ _ | (refine le_if ?_ ?_) | (refine ZB ?_ fun _ => ?_) | (refine ZD ?_) | (refine Zx fun _ => ?_))
noncomputable def ZfE (F : Nat) (n0 : Int) (factor1 : List Int) : List (List Int) × Int → Option ((List (List Int) × Int) ⊕ (Zb))
  | (list5, i6) =>
    bif lti (i6) ((factor1.length : Int)) then
      lpF F (ZgS F n0 factor1 i6) (list5, 0)
    else
      fbind (Zhx F n0 list5) fun r47 =>
      some (.inr ((Zb.mk r47.Degree r47.Elements)))
theorem ZqT {F : Nat} (n0 : Int) (factor1 : List Int)  (s_ : _) : Le (ZfE F n0 factor1 s_) (Zdl n0 factor1 s_) := by
  obtain ⟨list5, i6⟩ := s_
  unfold ZfE Zdl
  try simp only [← cw_ok, ← Zz, ← Zy, ← Zs, ← Zt, ← Zu, ← Zw, GT.gt, GE.ge]
  repeat' (with_reducible first | exact Le.rfl | assumption | exact Zk9 _ _ _ _ | exact ZnD _ _ | exact ZA _ _ _ | exact Zv _ _ _ _ | (refine le_if ?_ ?_) | (refine ZB ?_ fun _ => ?_) | (refine ZD ?_) | (refine Zx fun _ => ?_))
noncomputable def ZeG (F : Nat) (n0 : Int) (factor1 : List Int) : Option Zb :=
  lpF F (ZfE F n0 factor1) (([] : List (List Int)), 0)
theorem ZjM {F : Nat} (n0 : Int) (factor1 : List Int)  : Le (ZeG F n0 factor1) (ZaR n0 factor1) := by
  unfold ZeG ZaR
  try simp only [← cw_ok, ← Zz, ← Zy, ← Zs, ← Zt, ← Zu, ← Zw, GT.gt, GE.ge]
  repeat' (with_reducible first | exact Le.rfl | assumption | exact ZqT _ _ _ | exact ZA _ _ _ | exact Zv _ _ _ _ | (refine le_if ?_ ?_) | (refine ZB ?_ fun _ => ?_) | (refine ZD ?_) | (refine Zx fun _ => ?_))
noncomputable def ZeH (F : Nat) (n0 low1 high2 : Int) : Option Bool :=
  bif lei (low1) (n0) then
    some (lei (n0) (high2))
  else
    some (false)
theorem Zks {F : Nat} (n0 low1 high2 : Int)  : Le (ZeH F n0 low1 high2) (Za6 n0 low1 high2) := by
  unfold ZeH Za6
  try simp only [← cw_ok, ← Zz, ← Zy, ← Zs, ← Zt, ← Zu, ← Zw, GT.gt, GE.ge]
  repeat' (with_reducible first | exact Le.rfl | assumption | exact ZA _ _ _ | exact Zv _ _ _ _ | (refine le_if ?_ ?_) | (refine ZB ?_ fun _ => ?_) | (refine ZD ?_) | (refine Zx fun _ => ?_))
noncomputable def Zgr (F : Nat) (n0 : Int) : Int → Option ((Int) ⊕ (Bool))
  | d3 =>
    bif lei (cw (d3 * d3)) (n0) then
      fbind (cNz d3) fun _ =>
      bif eqi (Int.tmod n0 d3) (0) then
        some (.inr (false))
      else
        some (.inl (cw (d3 + 1)))
    else
      some (.inr (true))
theorem ZoF {F : Nat} (n0 : Int)  (s_ : _) : Le (Zgr F n0 s_) (ZeY n0 s_) := by
  unfold Zgr ZeY
  try simp only [← cw_ok, ← Zz, ← Zy, ← Zs, ← Zt, ← Zu, ← Zw, GT.gt, GE.ge]
  repeat' (with_reducible first | exact Le.rfl | assumption | exact ZA _ _ _ | exact Zv _ _ _ _ | (refine le_if ?_ ?_) | (refine ZB ?_ fun _ => ?_) | (refine ZD ?_) | (refine Zx fun _ => ?_))
noncomputable def Zgt (F : Nat) (n0 : Int) : Option Bool :=
  fbind (ZeH F n0 2 1000000) fun r5 =>
  bif !r5 then
    some (false)
  else
    lpF F (Zgr F n0) (2)
theorem ZpJ {F : Nat} (n0 : Int)  : Le (Zgt F n0) (Zdc n0) := by
  unfold Zgt Zdc
  try simp only [← cw_ok, ← Zz, ← Zy, ← Zs, ← Zt, ← Zu, ← Zw, GT.gt, GE.ge]
  repeat' (with_reducible first | exact Le.rfl | assumption | exact Zks _ _ _ | exact ZoF _ _ | exact ZA _ _ _ | exact Zv _ _ _ _ | (refine le_if ?_ ?_) | (refine ZB ?_ fun _ => ?_) | (refine ZD ?_) | (refine Zx fun _ => ?_))
noncomputable def ZeO (F : Nat) (m2 a0_2 e1_2 out7_2 : Int) : Option ((Int × Int × Int) ⊕ (Int)) :=
  fbind (cNz m2) fun _ =>
  fbind (cNz 2) fun _ =>
  some (.inl (Int.tmod (cw (a0_2 * a0_2)) m2, cw (Int.tdiv e1_2 2), out7_2))
theorem Zol {F : Nat} (m2 a0_2 e1_2 out7_2 : Int)  : Le (ZeO F m2 a0_2 e1_2 out7_2) (ZbU m2 a0_2 e1_2 out7_2) := by
  unfold ZeO ZbU
  try simp only [← cw_ok, ← Zz, ← Zy, ← Zs, ← Zt, ← Zu, ← Zw, GT.gt, GE.ge]
  repeat' (with_reducible first | exact Le.rfl | assumption | exact ZA _ _ _ | exact Zv _ _ _ _ | (refine le_if ?_ ?_) | (refine ZB ?_ fun _ => ?_) | (refine ZD ?_) | (refine Zx fun _ => ?_))
noncomputable def ZgO (F : Nat) (m2 : Int) : Int × Int × Int → Option ((Int × Int × Int) ⊕ (Int))
  | (a0_2, e1_2, out7) =>
    bif lti (0) (e1_2) then
      fbind (cNz 2) fun _ =>
      bif eqi (Int.tmod e1_2 2) (1) then
        fbind (cNz m2) fun _ =>
        ZeO F m2 a0_2 e1_2 (Int.tmod (cw (out7 * a0_2)) m2)
      else
        ZeO F m2 a0_2 e1_2 out7
    else
      some (.inr (out7))
theorem ZoY {F : Nat} (m2 : Int)  (s_ : _) : Le (ZgO F m2 s_) (ZeZ m2 s_) := by
  obtain ⟨a0_2, e1_2, out7⟩ := s_
  unfold ZgO ZeZ
  try simp only [← cw_ok, ← Zz, ← Zy, ← Zs, ← Zt, ← Zu, ← Zw, GT.gt, GE.ge]
  repeat' (with_reducible first | exact Le.rfl | assumption | exact Zol _ _ _ _ | exact ZA _ _ _ | exact Zv _ _ _ _ | (refine le_if ?_ ?_) | (refine ZB ?_ fun _ => ?_) | (refine ZD ?_) | (refine Zx fun _ => ?_))
noncomputable def Zhz (F : Nat) (a0 e1 m2 : Int) : Option Int :=
  fbind (cNz m2) fun _ =>
  lpF F (ZgO F m2) (a0, e1, Int.tmod 1 m2)
theorem ZoK {F : Nat} (a0 e1 m2 : Int)  : Le (Zhz F a0 e1 m2) (Zer a0 e1 m2) := by
  unfold Zhz Zer
  try simp only [← cw_ok, ← Zz, ← Zy, ← Zs, ← Zt, ← Zu, ← Zw, GT.gt, GE.ge]
  repeat' (with_reducible first | exact Le.rfl | assumption | exact ZoY _ _ | exact ZA _ _ _ | exact Zv _ _ _ _ | (refine le_if ?_ ?_) | (refine ZB ?_ fun _ => ?_) | (refine ZD ?_) | (refine Zx fun _ => ?_))
noncomputable def Zhg (F : Nat) (p0 e1 : Int) : List Int × Int → Option ((List Int × Int) ⊕ (Zb × Int))
  | (factor6, a7) =>
    bif lti (a7) (p0) then
      fbind (Zhz F a7 e1 p0) fun r44 =>
      bif eqi (r44) (1) then
        fbind (cApp 8 factor6 [a7]) fun l49 =>
        some (.inl (l49, cw (a7 + 1)))
      else
        some (.inl (factor6, cw (a7 + 1)))
    else
      fbind (ZeG F p0 factor6) fun r52 =>
      some (.inr (((Zb.mk r52.Degree r52.Elements), 0)))
theorem ZqK {F : Nat} (p0 e1 : Int)  (s_ : _) : Le (Zhg F p0 e1 s_) (Zd2 p0 e1 s_) := by
  obtain ⟨factor6, a7⟩ := s_
  unfold Zhg Zd2
  try simp only [← cw_ok, ← Zz, ← Zy, ← Zs, ← Zt, ← Zu, ← Zw, GT.gt, GE.ge]
  repeat' (with_reducible first | exact Le.rfl | assumption | exact ZoK _ _ _ | exact ZjM _ _ | exact ZA _ _ _ | exact Zv _ _ _ _ | (refine le_if ?_ ?_) | (refine ZB ?_ fun _ => ?_) | (refine ZD ?_) | (refine Zx fun _ => ?_))
noncomputable def ZhI (F : Nat) (p0 e1 : Int) : Option (Zb × Int) :=
  bif lti (720) (cw (p0 * e1)) then
    some (((Zb.mk 0 ([] : List (List Int))), 5))
  else
    lpF F (Zhg F p0 e1) (([] : List Int), 1)
theorem Zn3 {F : Nat} (p0 e1 : Int)  : Le (ZhI F p0 e1) (ZdW p0 e1) := by
  unfold ZhI ZdW
  try simp only [← cw_ok, ← Zz, ← Zy, ← Zs, ← Zt, ← Zu, ← Zw, GT.gt, GE.ge]
  repeat' (with_reducible first | exact Le.rfl | assumption | exact ZqK _ _ _ | exact ZA _ _ _ | exact Zv _ _ _ _ | (refine le_if ?_ ?_) | (refine ZB ?_ fun _ => ?_) | (refine ZD ?_) | (refine Zx fun _ => ?_))
noncomputable def Zgx (F : Nat) (p0 e1 : Int) : Option (Zb × Int) :=
  fbind (Zgt F p0) fun r9 =>
  bif !r9 then
    some (((Zb.mk 0 ([] : List (List Int))), 2))
  else
    bif lti (32) (p0) then
      some (((Zb.mk 0 ([] : List (List Int))), 2))
    else
      fbind (ZeH F e1 1 (cw (p0 - 1))) fun r19 =>
      bif !r19 then
        some (((Zb.mk 0 ([] : List (List Int))), 2))
      else
        fbind (cNz e1) fun _ =>
        bif !eqi (Int.tmod (cw (p0 - 1)) e1) (0) then
          some (((Zb.mk 0 ([] : List (List Int))), 2))
        else
          ZhI F p0 e1
theorem Zo9 {F : Nat} (p0 e1 : Int)  : Le (Zgx F p0 e1) (Zbp p0 e1) := by
  unfold Zgx Zbp
  try simp only [← cw_ok, ← Zz, ← Zy, ← Zs, ← Zt, ← Zu, ← Zw, GT.gt, GE.ge]
  repeat' (with_reducible first | exact Le.rfl | assumption | exact ZpJ _ | exact Zks _ _ _ | exact Zn3 _ _ | exact ZA _ _ _ | exact Zv _ _ _ _ | (refine le_if ?_ ?_) | (refine ZB ?_ fun _ => ?_) | (refine ZD ?_) | (refine Zx fun _ => ?_))
noncomputable def ZgC (F : Nat) (n0 a1 b2 : Int) : List Int × Int → Option ((List Int × Int) ⊕ (List Int))
  | (out7, x8) =>
    bif lti (x8) (n0) then
      fbind (cNz n0) fun _ =>
      fbind (cApp 8 out7 [Int.tmod (cw ((cw (a1 * x8)) + b2)) n0]) fun l24 =>
      some (.inl (l24, cw (x8 + 1)))
    else
      some (.inr (out7))
theorem ZkY {F : Nat} (n0 a1 b2 : Int)  (s_ : _) : Le (ZgC F n0 a1 b2 s_) (Zdy n0 a1 b2 s_) := by
  obtain ⟨out7, x8⟩ := s_
  unfold ZgC Zdy
  try simp only [← cw_ok, ← Zz, ← Zy, ← Zs, ← Zt, ← Zu, ← Zw, GT.gt, GE.ge]
  repeat' (with_reducible first | exact Le.rfl | assumption | exact ZA _ _ _ | exact Zv _ _ _ _ | (refine le_if ?_ ?_) | (refine ZB ?_ fun _ => ?_) | (refine ZD ?_) | (refine Zx fun _ => ?_))
noncomputable def ZgV (F : Nat) (n0 a1 b2 : Int) : Option (List Int) :=
  lpF F (ZgC F n0 a1 b2) (([] : List Int), 0)
theorem Zoy {F : Nat} (n0 a1 b2 : Int)  : Le (ZgV F n0 a1 b2) (Zaw n0 a1 b2) := by
  unfold ZgV Zaw
  try simp only [← cw_ok, ← Zz, ← Zy, ← Zs, ← Zt, ← Zu, ← Zw, GT.gt, GE.ge]
  repeat' (with_reducible first | exact Le.rfl | assumption | exact ZkY _ _ _ _ | exact ZA _ _ _ | exact Zv _ _ _ _ | (refine le_if ?_ ?_) | (refine ZB ?_ fun _ => ?_) | (refine ZD ?_) | (refine Zx fun _ => ?_))
noncomputable def Zfw (F : Nat) (n0 low1 high2 : Int) : Option Bool :=
  bif lei (low1) (n0) then
    some (lei (n0) (high2))
  else
    some (false)
theorem ZlP {F : Nat} (n0 low1 high2 : Int)  : Le (Zfw F n0 low1 high2) (ZL n0 low1 high2) := by
  unfold Zfw ZL
  try simp only [← cw_ok, ← Zz, ← Zy, ← Zs, ← Zt, ← Zu, ← Zw, GT.gt, GE.ge]
  repeat' (with_reducible first | exact Le.rfl | assumption | exact ZA _ _ _ | exact Zv _ _ _ _ | (refine le_if ?_ ?_) | (refine ZB ?_ fun _ => ?_) | (refine ZD ?_) | (refine Zx fun _ => ?_))
noncomputable def ZfY (F : Nat) (n0 k1 : Int) : Int × Int → Option ((Int × Int) ⊕ (Int))
  | (count5, i6) =>
    bif lei (i6) (k1) then
      fbind (cNz i6) fun _ =>
      some (.inl (cw (Int.tdiv (cw (count5 * (cw ((cw (n0 - k1)) + i6)))) i6), cw (i6 + 1)))
    else
      some (.inr (count5))
theorem Zma {F : Nat} (n0 k1 : Int)  (s_ : _) : Le (ZfY F n0 k1 s_) (Zfp n0 k1 s_) := by
  obtain ⟨count5, i6⟩ := s_
  unfold ZfY Zfp
  try simp only [← cw_ok, ← Zz, ← Zy, ← Zs, ← Zt, ← Zu, ← Zw, GT.gt, GE.ge]
  repeat' (with_reducible first | exact Le.rfl | assumption | exact ZA _ _ _ | exact Zv _ _ _ _ | (refine le_if ?_ ?_) | (refine ZB ?_ fun _ => ?_) | (refine ZD ?_) | (refine Zx fun _ => ?_))
noncomputable def Zg1 (F : Nat) (n0 k1 : Int) : Option (Int) :=
  lpF F (ZfY F n0 k1) (1, 1)
theorem Zmn {F : Nat} (n0 k1 : Int)  : Le (Zg1 F n0 k1) (Zdx n0 k1) := by
  unfold Zg1 Zdx
  try simp only [← cw_ok, ← Zz, ← Zy, ← Zs, ← Zt, ← Zu, ← Zw, GT.gt, GE.ge]
  repeat' (with_reducible first | exact Le.rfl | assumption | exact Zma _ _ _ | exact ZA _ _ _ | exact Zv _ _ _ _ | (refine le_if ?_ ?_) | (refine ZB ?_ fun _ => ?_) | (refine ZD ?_) | (refine Zx fun _ => ?_))
noncomputable def ZgX (F : Nat) (n0 k1 : Int) : Option Int :=
  fbind (Zfw F n0 0 32) fun r8 =>
  bif !r8 then
    some (0)
  else
    fbind (Zfw F k1 0 n0) fun r13 =>
    bif !r13 then
      some (0)
    else
      Zg1 F n0 k1
theorem Zmv {F : Nat} (n0 k1 : Int)  : Le (ZgX F n0 k1) (Zat n0 k1) := by
  unfold ZgX Zat
  try simp only [← cw_ok, ← Zz, ← Zy, ← Zs, ← Zt, ← Zu, ← Zw, GT.gt, GE.ge]
  repeat' (with_reducible first | exact Le.rfl | assumption | exact ZlP _ _ _ | exact Zmn _ _ | exact ZA _ _ _ | exact Zv _ _ _ _ | (refine le_if ?_ ?_) | (refine ZB ?_ fun _ => ?_) | (refine ZD ?_) | (refine Zx fun _ => ?_))
end Go.Proofs.YtocnokjekoglnaaGreat
