import Derived.Test.YtocnokjekoglnaaGreatPuEvS
import Derived.Test.YtocnokjekoglnaaGreatPuFns
namespace Go.Proofs.YtocnokjekoglnaaGreat
open Go Go.Vc
set_option linter.unusedVariables false
set_option linter.unusedSimpArgs false
set_option maxRecDepth 20000
noncomputable instance : Frc Zr where
  frc p k := Zr.rec (fun x0 x1 => Frc.frc x0 fun x0 => Frc.frc x1 fun x1 => k (.mk x0 x1)) p
  ok p k := by cases p; show Frc.frc _ _ = _; simp only [Frc.ok]
noncomputable instance : Frc Zs where
  frc p k := Zs.rec (fun x0 x1 => Frc.frc x0 fun x0 => Frc.frc x1 fun x1 => k (.mk x0 x1)) p
  ok p k := by cases p; show Frc.frc _ _ = _; simp only [Frc.ok]
noncomputable instance : Frc Zo where
  frc p k := Zo.rec (fun x0 x1 x2 x3 x4 x5 x6 x7 => Frc.frc x0 fun x0 => Frc.frc x1 fun x1 => Frc.frc x2 fun x2 => Frc.frc x3 fun x3 => Frc.frc x4 fun x4 => Frc.frc x5 fun x5 => Frc.frc x6 fun x6 => Frc.frc x7 fun x7 => k (.mk x0 x1 x2 x3 x4 x5 x6 x7)) p
  ok p k := by cases p; show Frc.frc _ _ = _; simp only [Frc.ok]
noncomputable instance : Frc Za where
  frc p k := Za.rec (fun x0 x1 => Frc.frc x0 fun x0 => Frc.frc x1 fun x1 => k (.mk x0 x1)) p
  ok p k := by cases p; show Frc.frc _ _ = _; simp only [Frc.ok]
noncomputable instance : Frc Zn where
  frc p k := Zn.rec (fun x0 x1 x2 x3 x4 x5 x6 x7 x8 x9 => Frc.frc x0 fun x0 => Frc.frc x1 fun x1 => Frc.frc x2 fun x2 => Frc.frc x3 fun x3 => Frc.frc x4 fun x4 => Frc.frc x5 fun x5 => Frc.frc x6 fun x6 => Frc.frc x7 fun x7 => Frc.frc x8 fun x8 => Frc.frc x9 fun x9 => k (.mk x0 x1 x2 x3 x4 x5 x6 x7 x8 x9)) p
  ok p k := by cases p; show Frc.frc _ _ = _; simp only [Frc.ok]
noncomputable instance : Frc Zz where
  frc p k := Zz.rec (fun x0 x1 x2 x3 x4 => Frc.frc x0 fun x0 => Frc.frc x1 fun x1 => Frc.frc x2 fun x2 => Frc.frc x3 fun x3 => Frc.frc x4 fun x4 => k (.mk x0 x1 x2 x3 x4)) p
  ok p k := by cases p; show Frc.frc _ _ = _; simp only [Frc.ok]
noncomputable def Zgg (F : Nat) (code0 : List Int) (k1 n2 : Int) : Option (Int) :=
  fbind (cIdx code0 k1) fun e17 =>
  fbind (cNz n2) fun _ =>
  some (Int.tmod (cw e17) n2)
theorem ZoH {F : Nat} (code0 : List Int) (k1 n2 : Int)  : Le (Zgg F code0 k1 n2) (ZV code0 k1 n2) := by
  unfold Zgg ZV
  try simp only [← cw_ok, ← Zl, ← Zj, ← Zd, ← Zb, ← Zc, ← Zk, ← Zm, GT.gt, GE.ge]
  repeat' (with_reducible first | exact Le.rfl | assumption | exact Zg _ _ _ | exact Zf _ _ _ _ | (refine le_if ?_ ?_) | (refine Zh ?_ fun _ => ?_) | (refine Zi ?_) | (refine Ze fun _ => ?_))
noncomputable def ZgS (F : Nat) (code0 : List Int) (k1 n2 : Int) : Option Int :=
  bif lei (n2) (1) then
    some (0)
  else
    bif lei ((code0.length : Int)) (k1) then
      some (0)
    else
      Zgg F code0 k1 n2
theorem Zm1 {F : Nat} (code0 : List Int) (k1 n2 : Int)  : Le (ZgS F code0 k1 n2) (ZN code0 k1 n2) := by
  unfold ZgS ZN
  try simp only [← cw_ok, ← Zl, ← Zj, ← Zd, ← Zb, ← Zc, ← Zk, ← Zm, GT.gt, GE.ge]
  repeat' (with_reducible first | exact Le.rfl | assumption | exact ZoH _ _ _ | exact Zg _ _ _ | exact Zf _ _ _ _ | (refine le_if ?_ ?_) | (refine Zh ?_ fun _ => ?_) | (refine Zi ?_) | (refine Ze fun _ => ?_))
noncomputable def ZJ (F : Nat) (n0 low1 high2 : Int) : Option Bool :=
  bif lei (low1) (n0) then
    some (lei (n0) (high2))
  else
    some (false)
theorem ZU {F : Nat} (n0 low1 high2 : Int)  : Le (ZJ F n0 low1 high2) (ZF n0 low1 high2) := by
  unfold ZJ ZF
  try simp only [← cw_ok, ← Zl, ← Zj, ← Zd, ← Zb, ← Zc, ← Zk, ← Zm, GT.gt, GE.ge]
  repeat' (with_reducible first | exact Le.rfl | assumption | exact Zg _ _ _ | exact Zf _ _ _ _ | (refine le_if ?_ ?_) | (refine Zh ?_ fun _ => ?_) | (refine Zi ?_) | (refine Ze fun _ => ?_))
noncomputable def Zhg (F : Nat) (n0 k1 : Int) : Int × Int → Option ((Int × Int) ⊕ (Int))
  | (count5, i6) =>
    bif lei (i6) (k1) then
      fbind (cNz i6) fun _ =>
      some (.inl (cw (Int.tdiv (cw (count5 * (cw ((cw (n0 - k1)) + i6)))) i6), cw (i6 + 1)))
    else
      some (.inr (count5))
theorem ZoT {F : Nat} (n0 k1 : Int)  (s_ : _) : Le (Zhg F n0 k1 s_) (Zd0 n0 k1 s_) := by
  obtain ⟨count5, i6⟩ := s_
  unfold Zhg Zd0
  try simp only [← cw_ok, ← Zl, ← Zj, ← Zd, ← Zb, ← Zc, ← Zk, ← Zm, GT.gt, GE.ge]
  repeat' (with_reducible first | exact Le.rfl | assumption | exact Zg _ _ _ | exact Zf _ _ _ _ | (refine le_if ?_ ?_) | (refine Zh ?_ fun _ => ?_) | (refine Zi ?_) | (refine Ze fun _ => ?_))
noncomputable def Zhy (F : Nat) (n0 k1 : Int) : Option (Int) :=
  lpF F (Zhg F n0 k1) (1, 1)
theorem Zk1 {F : Nat} (n0 k1 : Int)  : Le (Zhy F n0 k1) (Zb7 n0 k1) := by
  unfold Zhy Zb7
  try simp only [← cw_ok, ← Zl, ← Zj, ← Zd, ← Zb, ← Zc, ← Zk, ← Zm, GT.gt, GE.ge]
  repeat' (with_reducible first | exact Le.rfl | assumption | exact ZoT _ _ _ | exact Zg _ _ _ | exact Zf _ _ _ _ | (refine le_if ?_ ?_) | (refine Zh ?_ fun _ => ?_) | (refine Zi ?_) | (refine Ze fun _ => ?_))
noncomputable def ZaH (F : Nat) (n0 k1 : Int) : Option Int :=
  fbind (ZJ F n0 0 32) fun r8 =>
  bif !r8 then
    some (0)
  else
    fbind (ZJ F k1 0 n0) fun r13 =>
    bif !r13 then
      some (0)
    else
      Zhy F n0 k1
theorem Zep {F : Nat} (n0 k1 : Int)  : Le (ZaH F n0 k1) (Z6 n0 k1) := by
  unfold ZaH Z6
  try simp only [← cw_ok, ← Zl, ← Zj, ← Zd, ← Zb, ← Zc, ← Zk, ← Zm, GT.gt, GE.ge]
  repeat' (with_reducible first | exact Le.rfl | assumption | exact ZU _ _ _ | exact Zk1 _ _ | exact Zg _ _ _ | exact Zf _ _ _ _ | (refine le_if ?_ ?_) | (refine Zh ?_ fun _ => ?_) | (refine Zi ?_) | (refine Ze fun _ => ?_))
noncomputable def Zgf (F : Nat) (set0 : List Int) (n1 : Int) : Int × Int → Option ((Int × Int) ⊕ (Bool))
  | (last5, y10) =>
    bif lti (y10) ((set0.length : Int)) then
      fbind (cIdx set0 y10) fun e12 =>
      bif lei (e12) (last5) then
        some (.inr (false))
      else
        bif lei (n1) (e12) then
          some (.inr (false))
        else
          some (.inl (e12, cw (y10 + 1)))
    else
      fbind (ZJ F n1 0 32) fun r25 =>
      some (.inr (r25))
theorem ZnL {F : Nat} (set0 : List Int) (n1 : Int)  (s_ : _) : Le (Zgf F set0 n1 s_) (Zc5 set0 n1 s_) := by
  obtain ⟨last5, y10⟩ := s_
  unfold Zgf Zc5
  try simp only [← cw_ok, ← Zl, ← Zj, ← Zd, ← Zb, ← Zc, ← Zk, ← Zm, GT.gt, GE.ge]
  repeat' (with_reducible first | exact Le.rfl | assumption | exact ZU _ _ _ | exact Zg _ _ _ | exact Zf _ _ _ _ | (refine le_if ?_ ?_) | (refine Zh ?_ fun _ => ?_) | (refine Zi ?_) | (refine Ze fun _ => ?_))
noncomputable def ZbB (F : Nat) (set0 : List Int) (n1 : Int) : Option Bool :=
  lpF F (Zgf F set0 n1) ((-1), 0)
theorem ZhY {F : Nat} (set0 : List Int) (n1 : Int)  : Le (ZbB F set0 n1) (Zan set0 n1) := by
  unfold ZbB Zan
  try simp only [← cw_ok, ← Zl, ← Zj, ← Zd, ← Zb, ← Zc, ← Zk, ← Zm, GT.gt, GE.ge]
  repeat' (with_reducible first | exact Le.rfl | assumption | exact ZnL _ _ _ | exact Zg _ _ _ | exact Zf _ _ _ _ | (refine le_if ?_ ?_) | (refine Zh ?_ fun _ => ?_) | (refine Zi ?_) | (refine Ze fun _ => ?_))
noncomputable def ZcI (F : Nat) (list0 : List Int) : Option Int :=
  some ((list0.length : Int))
theorem Zhw {F : Nat} (list0 : List Int)  : Le (ZcI F list0) (Zag list0) := by
  unfold ZcI Zag
  try simp only [← cw_ok, ← Zl, ← Zj, ← Zd, ← Zb, ← Zc, ← Zk, ← Zm, GT.gt, GE.ge]
  repeat' (with_reducible first | exact Le.rfl | assumption | exact Zg _ _ _ | exact Zf _ _ _ _ | (refine le_if ?_ ?_) | (refine Zh ?_ fun _ => ?_) | (refine Zi ?_) | (refine Ze fun _ => ?_))
noncomputable def Zfg (F : Nat) (n0 : Int) (set1 : List Int) (y17 e20 : Int) : Int × Int → Option ((Int × Int) ⊕ ((Int × Int × Int) ⊕ (Int × Int)))
  | (rank6_2, y10) =>
    bif lti (y10) (e20) then
      fbind (ZcI F set1) fun r34 =>
      fbind (ZaH F (cw ((cw (n0 - 1)) - y10)) (cw ((cw (r34 - 1)) - y17))) fun r38 =>
      some (.inl (cw (rank6_2 + r38), cw (y10 + 1)))
    else
      some (.inr (.inl (rank6_2, cw (e20 + 1), cw (y17 + 1))))
theorem ZnU {F : Nat} (n0 : Int) (set1 : List Int) (y17 e20 : Int)  (s_ : _) : Le (Zfg F n0 set1 y17 e20 s_) (Zc2 n0 set1 y17 e20 s_) := by
  obtain ⟨rank6_2, y10⟩ := s_
  unfold Zfg Zc2
  try simp only [← cw_ok, ← Zl, ← Zj, ← Zd, ← Zb, ← Zc, ← Zk, ← Zm, GT.gt, GE.ge]
  repeat' (with_reducible first | exact Le.rfl | assumption | exact Zhw _ | exact Zep _ _ | exact Zg _ _ _ | exact Zf _ _ _ _ | (refine le_if ?_ ?_) | (refine Zh ?_ fun _ => ?_) | (refine Zi ?_) | (refine Ze fun _ => ?_))
noncomputable def Zhd (F : Nat) (n0 : Int) (set1 : List Int) : Int × Int × Int → Option ((Int × Int × Int) ⊕ (Int × Int))
  | (rank6, from7, y17) =>
    bif lti (y17) ((set1.length : Int)) then
      fbind (cIdx set1 y17) fun e20 =>
      lpF F (Zfg F n0 set1 y17 e20) (rank6, from7)
    else
      some (.inr ((rank6, 0)))
theorem Zlp {F : Nat} (n0 : Int) (set1 : List Int)  (s_ : _) : Le (Zhd F n0 set1 s_) (Zc7 n0 set1 s_) := by
  obtain ⟨rank6, from7, y17⟩ := s_
  unfold Zhd Zc7
  try simp only [← cw_ok, ← Zl, ← Zj, ← Zd, ← Zb, ← Zc, ← Zk, ← Zm, GT.gt, GE.ge]
  repeat' (with_reducible first | exact Le.rfl | assumption | exact ZnU _ _ _ _ _ | exact Zg _ _ _ | exact Zf _ _ _ _ | (refine le_if ?_ ?_) | (refine Zh ?_ fun _ => ?_) | (refine Zi ?_) | (refine Ze fun _ => ?_))
noncomputable def ZgI (F : Nat) (n0 : Int) (set1 : List Int) : Option (Int × Int) :=
  fbind (ZbB F set1 n0) fun r13 =>
  bif !r13 then
    some ((0, 1))
  else
    lpF F (Zhd F n0 set1) (0, 0, 0)
theorem Zkr {F : Nat} (n0 : Int) (set1 : List Int)  : Le (ZgI F n0 set1) (Zcc n0 set1) := by
  unfold ZgI Zcc
  try simp only [← cw_ok, ← Zl, ← Zj, ← Zd, ← Zb, ← Zc, ← Zk, ← Zm, GT.gt, GE.ge]
  repeat' (with_reducible first | exact Le.rfl | assumption | exact ZhY _ _ | exact Zlp _ _ _ | exact Zg _ _ _ | exact Zf _ _ _ _ | (refine le_if ?_ ?_) | (refine Zh ?_ fun _ => ?_) | (refine Zi ?_) | (refine Ze fun _ => ?_))
noncomputable def ZcG (F : Nat) (a0 b1 y2 : Int) : Option Int :=
  fbind (ZgI F y2 ([a0, b1] : List Int)) fun r13 =>
  some (r13.1)
theorem Zpo {F : Nat} (a0 b1 y2 : Int)  : Le (ZcG F a0 b1 y2) (Zaf a0 b1 y2) := by
  unfold ZcG Zaf
  try simp only [← cw_ok, ← Zl, ← Zj, ← Zd, ← Zb, ← Zc, ← Zk, ← Zm, GT.gt, GE.ge]
  repeat' (with_reducible first | exact Le.rfl | assumption | exact Zkr _ _ | exact Zg _ _ _ | exact Zf _ _ _ _ | (refine le_if ?_ ?_) | (refine Zh ?_ fun _ => ?_) | (refine Zi ?_) | (refine Ze fun _ => ?_))
noncomputable def Zhu (F : Nat) (l6 : List Int) : Int × List Int → Option ((Int × List Int) ⊕ (List Int))
  | (y9, xs) =>
    bif lti (y9) ((l6.length : Int)) then
      fbind (cIdx xs y9) fun e15 =>
      some (.inl (cw (y9 + 1), (xs.set (y9 : Int).toNat y9)))
    else
      some (.inr (xs))
theorem Zps {F : Nat} (l6 : List Int)  (s_ : _) : Le (Zhu F l6 s_) (Zbu l6 s_) := by
  obtain ⟨y9, xs⟩ := s_
  unfold Zhu Zbu
  try simp only [← cw_ok, ← Zl, ← Zj, ← Zd, ← Zb, ← Zc, ← Zk, ← Zm, GT.gt, GE.ge]
  repeat' (with_reducible first | exact Le.rfl | assumption | exact Zg _ _ _ | exact Zf _ _ _ _ | (refine le_if ?_ ?_) | (refine Zh ?_ fun _ => ?_) | (refine Zi ?_) | (refine Ze fun _ => ?_))
noncomputable def ZeF (F : Nat) (n0 : Int) : Option (List Int) :=
  fbind (cMake 8 (0 : Int) n0 n0) fun l6 =>
  lpF F (Zhu F l6) (0, l6)
theorem Zmc {F : Nat} (n0 : Int)  : Le (ZeF F n0) (Zbw n0) := by
  unfold ZeF Zbw
  try simp only [← cw_ok, ← Zl, ← Zj, ← Zd, ← Zb, ← Zc, ← Zk, ← Zm, GT.gt, GE.ge]
  repeat' (with_reducible first | exact Le.rfl | assumption | exact Zps _ _ | exact Zg _ _ _ | exact Zf _ _ _ _ | (refine le_if ?_ ?_) | (refine Zh ?_ fun _ => ?_) | (refine Zi ?_) | (refine Ze fun _ => ?_))
noncomputable def Za4 (F : Nat) (a0 : List Int) : Option (List Int) := cApp 8 [] a0
theorem ZfN {F : Nat} (a0 : List Int)  : Le (Za4 F a0) (Zac a0) := by
  unfold Za4 Zac
  try simp only [← cw_ok, ← Zl, ← Zj, ← Zd, ← Zb, ← Zc, ← Zk, ← Zm, GT.gt, GE.ge]
  repeat' (with_reducible first | exact Le.rfl | assumption | exact Zg _ _ _ | exact Zf _ _ _ _ | (refine le_if ?_ ?_) | (refine Zh ?_ fun _ => ?_) | (refine Zi ?_) | (refine Ze fun _ => ?_))
noncomputable def ZeE (F : Nat) (set1 : List Int) (r15 i7 : Int) : Int × List Int → Option ((Int × List Int) ⊕ ((Int) ⊕ ((List Int) × Bool)))
  | (j9, xs) =>
    bif lti (j9) (r15) then
      fbind (cIdx set1 i7) fun e44 =>
      fbind (cIdx xs j9) fun e51 =>
      some (.inl (cw (j9 + 1), (xs.set (j9 : Int).toNat (cw ((cw ((cw (e44 + 1)) + j9)) - i7)))))
    else
      some (.inr (.inr ((xs, true))))
theorem Zm9 {F : Nat} (set1 : List Int) (r15 i7 : Int)  (s_ : _) : Le (ZeE F set1 r15 i7 s_) (ZcC set1 r15 i7 s_) := by
  obtain ⟨j9, xs⟩ := s_
  unfold ZeE ZcC
  try simp only [← cw_ok, ← Zl, ← Zj, ← Zd, ← Zb, ← Zc, ← Zk, ← Zm, GT.gt, GE.ge]
  repeat' (with_reducible first | exact Le.rfl | assumption | exact Zg _ _ _ | exact Zf _ _ _ _ | (refine le_if ?_ ?_) | (refine Zh ?_ fun _ => ?_) | (refine Zi ?_) | (refine Ze fun _ => ?_))
noncomputable def ZgD (F : Nat) (n0 : Int) (set1 : List Int) (r15 : Int) : Int → Option ((Int) ⊕ ((List Int) × Bool))
  | i7 =>
    bif lei (0) (i7) then
      fbind (cIdx set1 i7) fun e24 =>
      bif eqi (e24) ((cw ((cw (n0 - r15)) + i7))) then
        some (.inl (cw (i7 - 1)))
      else
        fbind (Za4 F set1) fun r33 =>
        lpF F (ZeE F set1 r15 i7) (i7, r33)
    else
      some (.inr ((([] : List Int), false)))
theorem Zol {F : Nat} (n0 : Int) (set1 : List Int) (r15 : Int)  (s_ : _) : Le (ZgD F n0 set1 r15 s_) (Zc3 n0 set1 r15 s_) := by
  unfold ZgD Zc3
  try simp only [← cw_ok, ← Zl, ← Zj, ← Zd, ← Zb, ← Zc, ← Zk, ← Zm, GT.gt, GE.ge]
  repeat' (with_reducible first | exact Le.rfl | assumption | exact ZfN _ | exact Zm9 _ _ _ _ | exact Zg _ _ _ | exact Zf _ _ _ _ | (refine le_if ?_ ?_) | (refine Zh ?_ fun _ => ?_) | (refine Zi ?_) | (refine Ze fun _ => ?_))
noncomputable def Zhn (F : Nat) (n0 : Int) (set1 : List Int) : Option ((List Int) × Bool) :=
  fbind (ZbB F set1 n0) fun r12 =>
  bif !r12 then
    some ((([] : List Int), false))
  else
    fbind (ZcI F set1) fun r15 =>
    lpF F (ZgD F n0 set1 r15) (cw (r15 - 1))
theorem ZnQ {F : Nat} (n0 : Int) (set1 : List Int)  : Le (Zhn F n0 set1) (Zcd n0 set1) := by
  unfold Zhn Zcd
  try simp only [← cw_ok, ← Zl, ← Zj, ← Zd, ← Zb, ← Zc, ← Zk, ← Zm, GT.gt, GE.ge]
  repeat' (with_reducible first | exact Le.rfl | assumption | exact ZhY _ _ | exact Zhw _ | exact Zol _ _ _ _ | exact Zg _ _ _ | exact Zf _ _ _ _ | (refine le_if ?_ ?_) | (refine Zh ?_ fun _ => ?_) | (refine Zi ?_) | (refine Ze fun _ => ?_))
noncomputable def ZhO (F : Nat) (n0 : Int) : List (List Int) × List Int × Bool → Option ((List (List Int) × List Int × Bool) ⊕ (List (List Int)))
  | (list5, set6, more7) =>
    bif more7 then
      fbind (cApp 24 list5 [set6]) fun l17 =>
      fbind (Zhn F n0 set6) fun r21 =>
      some (.inl (l17, r21.1, r21.2))
    else
      some (.inr (list5))
theorem Zn9 {F : Nat} (n0 : Int)  (s_ : _) : Le (ZhO F n0 s_) (Zbb n0 s_) := by
  obtain ⟨list5, set6, more7⟩ := s_
  unfold ZhO Zbb
  try simp only [← cw_ok, ← Zl, ← Zj, ← Zd, ← Zb, ← Zc, ← Zk, ← Zm, GT.gt, GE.ge]
  repeat' (with_reducible first | exact Le.rfl | assumption | exact ZnQ _ _ | exact Zg _ _ _ | exact Zf _ _ _ _ | (refine le_if ?_ ?_) | (refine Zh ?_ fun _ => ?_) | (refine Zi ?_) | (refine Ze fun _ => ?_))
noncomputable def ZbE (F : Nat) (n0 k1 : Int) : Option (List (List Int)) :=
  fbind (ZeF F k1) fun r9 =>
  lpF F (ZhO F n0) (([] : List (List Int)), r9, lei (k1) (n0))
theorem Zfq {F : Nat} (n0 k1 : Int)  : Le (ZbE F n0 k1) (Zaq n0 k1) := by
  unfold ZbE Zaq
  try simp only [← cw_ok, ← Zl, ← Zj, ← Zd, ← Zb, ← Zc, ← Zk, ← Zm, GT.gt, GE.ge]
  repeat' (with_reducible first | exact Le.rfl | assumption | exact Zmc _ | exact Zn9 _ _ | exact Zg _ _ _ | exact Zf _ _ _ _ | (refine le_if ?_ ?_) | (refine Zh ?_ fun _ => ?_) | (refine Zi ?_) | (refine Ze fun _ => ?_))
noncomputable def ZfM (F : Nat) (points0 r14 : Int) (r17 : List (List Int)) : Int × List (List Int) → Option ((Int × List (List Int)) ⊕ (Zr × Int))
  | (y19, xs) =>
    bif lti (y19) ((r17.length : Int)) then
      fbind (cIdx r17 y19) fun e21 =>
      fbind (cIdx e21 0) fun e27 =>
      fbind (cIdx e21 1) fun e30 =>
      fbind (ZcG F e27 e30 points0) fun r32 =>
      fbind (cIdx e21 0) fun e35 =>
      fbind (cIdx e21 2) fun e38 =>
      fbind (ZcG F e35 e38 points0) fun r40 =>
      fbind (cIdx e21 1) fun e43 =>
      fbind (cIdx e21 2) fun e46 =>
      fbind (ZcG F e43 e46 points0) fun r48 =>
      fbind (cApp 24 xs [([r32, r40, r48] : List Int)]) fun l51 =>
      some (.inl (cw (y19 + 1), l51))
    else
      some (.inr (((Zr.mk r14 xs), 0)))
theorem Zob {F : Nat} (points0 r14 : Int) (r17 : List (List Int))  (s_ : _) : Le (ZfM F points0 r14 r17 s_) (ZbH points0 r14 r17 s_) := by
  obtain ⟨y19, xs⟩ := s_
  unfold ZfM ZbH
  try simp only [← cw_ok, ← Zl, ← Zj, ← Zd, ← Zb, ← Zc, ← Zk, ← Zm, GT.gt, GE.ge]
  repeat' (with_reducible first | exact Le.rfl | assumption | exact Zpo _ _ _ | exact Zg _ _ _ | exact Zf _ _ _ _ | (refine le_if ?_ ?_) | (refine Zh ?_ fun _ => ?_) | (refine Zi ?_) | (refine Ze fun _ => ?_))
noncomputable def ZhM (F : Nat) (points0 : Int) : Option (Zr × Int) :=
  fbind (ZJ F points0 3 11) fun r9 =>
  bif !r9 then
    some (((Zr.mk 0 ([] : List (List Int))), 2))
  else
    fbind (ZaH F points0 2) fun r14 =>
    fbind (ZbE F points0 3) fun r17 =>
    lpF F (ZfM F points0 r14 r17) (0, ([] : List (List Int)))
theorem Zj3 {F : Nat} (points0 : Int)  : Le (ZhM F points0) (Zam points0) := by
  unfold ZhM Zam
  try simp only [← cw_ok, ← Zl, ← Zj, ← Zd, ← Zb, ← Zc, ← Zk, ← Zm, GT.gt, GE.ge]
  repeat' (with_reducible first | exact Le.rfl | assumption | exact ZU _ _ _ | exact Zep _ _ | exact Zfq _ _ | exact Zob _ _ _ _ | exact Zg _ _ _ | exact Zf _ _ _ _ | (refine le_if ?_ ?_) | (refine Zh ?_ fun _ => ?_) | (refine Zi ?_) | (refine Ze fun _ => ?_))
noncomputable def ZdU (F : Nat) (n0 : Int) : Option Bool :=
  fbind (ZJ F n0 1 20000) fun r4 =>
  some (r4)
theorem ZjJ {F : Nat} (n0 : Int)  : Le (ZdU F n0) (ZaW n0) := by
  unfold ZdU ZaW
  try simp only [← cw_ok, ← Zl, ← Zj, ← Zd, ← Zb, ← Zc, ← Zk, ← Zm, GT.gt, GE.ge]
  repeat' (with_reducible first | exact Le.rfl | assumption | exact ZU _ _ _ | exact Zg _ _ _ | exact Zf _ _ _ _ | (refine le_if ?_ ?_) | (refine Zh ?_ fun _ => ?_) | (refine Zi ?_) | (refine Ze fun _ => ?_))
noncomputable def ZhW (F : Nat) (s0 : List (List Int)) (fn1 : (List Int) → Option Bool) : Int → Option ((Int) ⊕ (Int))
  | y8 =>
    bif lti (y8) ((s0.length : Int)) then
      fbind (cIdx s0 y8) fun e14 =>
      fbind (fn1 e14) fun r16 =>
      bif r16 then
        some (.inr (y8))
      else
        some (.inl (cw (y8 + 1)))
    else
      some (.inr ((-1)))
theorem Zn5 {F : Nat} (s0 : List (List Int)) (fn1 fn1' : (List Int) → Option Bool) (hfn1 : ∀ u0, Le (fn1 u0) (fn1' u0)) (s_ : _) : Le (ZhW F s0 fn1 s_) (ZdX s0 fn1' s_) := by
  unfold ZhW ZdX
  try simp only [← cw_ok, ← Zl, ← Zj, ← Zd, ← Zb, ← Zc, ← Zk, ← Zm, GT.gt, GE.ge]
  repeat' (with_reducible first | exact Le.rfl | assumption | exact Zg _ _ _ | exact Zf _ _ _ _ | (refine le_if ?_ ?_) | (refine Zh ?_ fun _ => ?_) | (refine Zi ?_) | (refine Ze fun _ => ?_))
  all_goals (first | exact hfn1 _ | skip)
noncomputable def Zgz (F : Nat) (s0 : List (List Int)) (fn1 : (List Int) → Option Bool) : Option Int :=
  lpF F (ZhW F s0 fn1) (0)
theorem ZkG {F : Nat} (s0 : List (List Int)) (fn1 fn1' : (List Int) → Option Bool) (hfn1 : ∀ u0, Le (fn1 u0) (fn1' u0)) : Le (Zgz F s0 fn1) (Zcg s0 fn1') := by
  unfold Zgz Zcg
  try simp only [← cw_ok, ← Zl, ← Zj, ← Zd, ← Zb, ← Zc, ← Zk, ← Zm, GT.gt, GE.ge]
  repeat' (with_reducible first | exact Le.rfl | assumption | (refine Zn5 _ _ _ ?_ _; intros) | exact Zg _ _ _ | exact Zf _ _ _ _ | (refine le_if ?_ ?_) | (refine Zh ?_ fun _ => ?_) | (refine Zi ?_) | (refine Ze fun _ => ?_))
  all_goals (first | exact hfn1 _ | skip)
noncomputable def ZcA (F : Nat) (s0 : List (List Int)) (fn1 : (List Int) → Option Bool) : Option Bool :=
  fbind (Zgz F s0 fn1) fun r7 =>
  some (lei (0) (r7))
theorem Zgu {F : Nat} (s0 : List (List Int)) (fn1 fn1' : (List Int) → Option Bool) (hfn1 : ∀ u0, Le (fn1 u0) (fn1' u0)) : Le (ZcA F s0 fn1) (Zao s0 fn1') := by
  unfold ZcA Zao
  try simp only [← cw_ok, ← Zl, ← Zj, ← Zd, ← Zb, ← Zc, ← Zk, ← Zm, GT.gt, GE.ge]
  repeat' (with_reducible first | exact Le.rfl | assumption | (refine ZkG _ _ _ ?_; intros) | exact Zg _ _ _ | exact Zf _ _ _ _ | (refine le_if ?_ ?_) | (refine Zh ?_ fun _ => ?_) | (refine Zi ?_) | (refine Ze fun _ => ?_))
  all_goals (first | exact hfn1 _ | skip)
noncomputable def Zg0 (F : Nat) (list0 : List Int) (n1 : Int) : Int × Int → Option ((Int × Int) ⊕ (Bool))
  | (last5, y10) =>
    bif lti (y10) ((list0.length : Int)) then
      fbind (cIdx list0 y10) fun e12 =>
      fbind (ZJ F e12 (cw (last5 + 1)) (cw (n1 - 1))) fun r19 =>
      bif !r19 then
        some (.inr (false))
      else
        some (.inl (e12, cw (y10 + 1)))
    else
      some (.inr (true))
theorem Zpi {F : Nat} (list0 : List Int) (n1 : Int)  (s_ : _) : Le (Zg0 F list0 n1 s_) (Zd7 list0 n1 s_) := by
  obtain ⟨last5, y10⟩ := s_
  unfold Zg0 Zd7
  try simp only [← cw_ok, ← Zl, ← Zj, ← Zd, ← Zb, ← Zc, ← Zk, ← Zm, GT.gt, GE.ge]
  repeat' (with_reducible first | exact Le.rfl | assumption | exact ZU _ _ _ | exact Zg _ _ _ | exact Zf _ _ _ _ | (refine le_if ?_ ?_) | (refine Zh ?_ fun _ => ?_) | (refine Zi ?_) | (refine Ze fun _ => ?_))
noncomputable def ZhD (F : Nat) (list0 : List Int) (n1 : Int) : Option Bool :=
  lpF F (Zg0 F list0 n1) ((-1), 0)
theorem ZlC {F : Nat} (list0 : List Int) (n1 : Int)  : Le (ZhD F list0 n1) (Zbe list0 n1) := by
  unfold ZhD Zbe
  try simp only [← cw_ok, ← Zl, ← Zj, ← Zd, ← Zb, ← Zc, ← Zk, ← Zm, GT.gt, GE.ge]
  repeat' (with_reducible first | exact Le.rfl | assumption | exact Zpi _ _ _ | exact Zg _ _ _ | exact Zf _ _ _ _ | (refine le_if ?_ ?_) | (refine Zh ?_ fun _ => ?_) | (refine Zi ?_) | (refine Ze fun _ => ?_))
noncomputable def ZfS (F : Nat) (o0 : List Int) (y1 : Zr) : Option Bool :=
  bif eqi ((o0.length : Int)) (0) then
    some (true)
  else
    fbind (ZhD F o0 y1.Items) fun r11 =>
    some (!r11)
theorem Zna {F : Nat} (o0 : List Int) (y1 : Zr)  : Le (ZfS F o0 y1) (ZbJ o0 y1) := by
  unfold ZfS ZbJ
  try simp only [← cw_ok, ← Zl, ← Zj, ← Zd, ← Zb, ← Zc, ← Zk, ← Zm, GT.gt, GE.ge]
  repeat' (with_reducible first | exact Le.rfl | assumption | exact ZlC _ _ | exact Zg _ _ _ | exact Zf _ _ _ _ | (refine le_if ?_ ?_) | (refine Zh ?_ fun _ => ?_) | (refine Zi ?_) | (refine Ze fun _ => ?_))
noncomputable def ZfJ (F : Nat) (c0 : Zr) : Option (Bool) :=
  fbind (ZcA F c0.Options (fun y0 => ZfS F y0 (Zr.mk c0.Items c0.Options))) fun r16 =>
  some (!r16)
theorem Zpk {F : Nat} (c0 : Zr)  : Le (ZfJ F c0) (ZbQ c0) := by
  unfold ZfJ ZbQ
  try simp only [← cw_ok, ← Zl, ← Zj, ← Zd, ← Zb, ← Zc, ← Zk, ← Zm, GT.gt, GE.ge]
  repeat' (with_reducible first | exact Le.rfl | assumption | (refine Zgu _ _ _ ?_; intros) | exact Zna _ _ | exact Zg _ _ _ | exact Zf _ _ _ _ | (refine le_if ?_ ?_) | (refine Zh ?_ fun _ => ?_) | (refine Zi ?_) | (refine Ze fun _ => ?_))
noncomputable def Zdu (F : Nat) (c0 : Zr) : Option Bool :=
  fbind (ZJ F c0.Items 1 64) fun r5 =>
  bif !r5 then
    some (false)
  else
    bif lti (256) ((c0.Options.length : Int)) then
      some (false)
    else
      ZfJ F c0
theorem ZjF {F : Nat} (c0 : Zr)  : Le (Zdu F c0) (ZaS c0) := by
  unfold Zdu ZaS
  try simp only [← cw_ok, ← Zl, ← Zj, ← Zd, ← Zb, ← Zc, ← Zk, ← Zm, GT.gt, GE.ge]
  repeat' (with_reducible first | exact Le.rfl | assumption | exact ZU _ _ _ | exact Zpk _ | exact Zg _ _ _ | exact Zf _ _ _ _ | (refine le_if ?_ ?_) | (refine Zh ?_ fun _ => ?_) | (refine Zi ?_) | (refine Ze fun _ => ?_))
noncomputable def Zga (F : Nat) (s0 : List Int) (v1 : Int) : Int → Option ((Int) ⊕ (Int))
  | y8 =>
    bif lti (y8) ((s0.length : Int)) then
      fbind (cIdx s0 y8) fun e14 =>
      bif eqi (v1) (e14) then
        some (.inr (y8))
      else
        some (.inl (cw (y8 + 1)))
    else
      some (.inr ((-1)))
theorem ZkR {F : Nat} (s0 : List Int) (v1 : Int)  (s_ : _) : Le (Zga F s0 v1 s_) (Zd1 s0 v1 s_) := by
  unfold Zga Zd1
  try simp only [← cw_ok, ← Zl, ← Zj, ← Zd, ← Zb, ← Zc, ← Zk, ← Zm, GT.gt, GE.ge]
  repeat' (with_reducible first | exact Le.rfl | assumption | exact Zg _ _ _ | exact Zf _ _ _ _ | (refine le_if ?_ ?_) | (refine Zh ?_ fun _ => ?_) | (refine Zi ?_) | (refine Ze fun _ => ?_))
noncomputable def Zgr (F : Nat) (s0 : List Int) (v1 : Int) : Option Int :=
  lpF F (Zga F s0 v1) (0)
theorem Zn1 {F : Nat} (s0 : List Int) (v1 : Int)  : Le (Zgr F s0 v1) (Zbr s0 v1) := by
  unfold Zgr Zbr
  try simp only [← cw_ok, ← Zl, ← Zj, ← Zd, ← Zb, ← Zc, ← Zk, ← Zm, GT.gt, GE.ge]
  repeat' (with_reducible first | exact Le.rfl | assumption | exact ZkR _ _ _ | exact Zg _ _ _ | exact Zf _ _ _ _ | (refine le_if ?_ ?_) | (refine Zh ?_ fun _ => ?_) | (refine Zi ?_) | (refine Ze fun _ => ?_))
noncomputable def Zcr (F : Nat) (s0 : List Int) (v1 : Int) : Option Bool :=
  fbind (Zgr F s0 v1) fun r7 =>
  some (lei (0) (r7))
theorem ZjR {F : Nat} (s0 : List Int) (v1 : Int)  : Le (Zcr F s0 v1) (Zad s0 v1) := by
  unfold Zcr Zad
  try simp only [← cw_ok, ← Zl, ← Zj, ← Zd, ← Zb, ← Zc, ← Zk, ← Zm, GT.gt, GE.ge]
  repeat' (with_reducible first | exact Le.rfl | assumption | exact Zn1 _ _ | exact Zg _ _ _ | exact Zf _ _ _ _ | (refine le_if ?_ ?_) | (refine Zh ?_ fun _ => ?_) | (refine Zi ?_) | (refine Ze fun _ => ?_))
noncomputable def ZgU (F : Nat) (c0 : Zr) (item1 : Int) : List Int × Int → Option ((List Int × Int) ⊕ ((List Int) × Int))
  | (list6, y21) =>
    bif lti (y21) ((c0.Options.length : Int)) then
      fbind (cIdx c0.Options y21) fun e24 =>
      fbind (Zcr F e24 item1) fun r28 =>
      bif r28 then
        fbind (cApp 8 list6 [y21]) fun l32 =>
        some (.inl (l32, cw (y21 + 1)))
      else
        some (.inl (list6, cw (y21 + 1)))
    else
      some (.inr ((list6, 0)))
theorem Znb {F : Nat} (c0 : Zr) (item1 : Int)  (s_ : _) : Le (ZgU F c0 item1 s_) (Za7 c0 item1 s_) := by
  obtain ⟨list6, y21⟩ := s_
  unfold ZgU Za7
  try simp only [← cw_ok, ← Zl, ← Zj, ← Zd, ← Zb, ← Zc, ← Zk, ← Zm, GT.gt, GE.ge]
  repeat' (with_reducible first | exact Le.rfl | assumption | exact ZjR _ _ | exact Zg _ _ _ | exact Zf _ _ _ _ | (refine le_if ?_ ?_) | (refine Zh ?_ fun _ => ?_) | (refine Zi ?_) | (refine Ze fun _ => ?_))
noncomputable def Zhz (F : Nat) (c0 : Zr) (item1 : Int) : Option ((List Int) × Int) :=
  fbind (Zdu F (Zr.mk c0.Items c0.Options)) fun r10 =>
  bif !r10 then
    some ((([] : List Int), 1))
  else
    fbind (ZJ F item1 0 (cw (c0.Items - 1))) fun r16 =>
    bif !r16 then
      some ((([] : List Int), 2))
    else
      lpF F (ZgU F c0 item1) (([] : List Int), 0)
theorem Zmj {F : Nat} (c0 : Zr) (item1 : Int)  : Le (Zhz F c0 item1) (Zbp c0 item1) := by
  unfold Zhz Zbp
  try simp only [← cw_ok, ← Zl, ← Zj, ← Zd, ← Zb, ← Zc, ← Zk, ← Zm, GT.gt, GE.ge]
  repeat' (with_reducible first | exact Le.rfl | assumption | exact ZjF _ | exact ZU _ _ _ | exact Znb _ _ _ | exact Zg _ _ _ | exact Zf _ _ _ _ | (refine le_if ?_ ?_) | (refine Zh ?_ fun _ => ?_) | (refine Zi ?_) | (refine Ze fun _ => ?_))
noncomputable def Zgm (F : Nat) (x0 : List Int) : Option (List Int) := cSortI x0
theorem Zla {F : Nat} (x0 : List Int) : Le (Zgm F x0) (Zbj x0) := by unfold Zgm Zbj; exact Zmv x0
noncomputable def ZaB (F : Nat) (c0 : Zs) : Option (Bool × Zs) :=
  bif eqi (c0.qleft) (0) then
    some ((false, (Zs.mk c0.qleft true)))
  else
    some ((true, (Zs.mk (cw (c0.qleft - 1)) c0.qspent)))
theorem Zii {F : Nat} (c0 : Zs)  : Le (ZaB F c0) (ZY c0) := by
  unfold ZaB ZY
  try simp only [← cw_ok, ← Zl, ← Zj, ← Zd, ← Zb, ← Zc, ← Zk, ← Zm, GT.gt, GE.ge]
  repeat' (with_reducible first | exact Le.rfl | assumption | exact Zg _ _ _ | exact Zf _ _ _ _ | (refine le_if ?_ ?_) | (refine Zh ?_ fun _ => ?_) | (refine Zi ?_) | (refine Ze fun _ => ?_))
noncomputable def Zf8 (F : Nat) (s0 : List Bool) (v1 : Bool) : Int → Option ((Int) ⊕ (Int))
  | y8 =>
    bif lti (y8) ((s0.length : Int)) then
      fbind (cIdx s0 y8) fun e14 =>
      bif v1 == e14 then
        some (.inr (y8))
      else
        some (.inl (cw (y8 + 1)))
    else
      some (.inr ((-1)))
theorem Zm6 {F : Nat} (s0 : List Bool) (v1 : Bool)  (s_ : _) : Le (Zf8 F s0 v1 s_) (Zd9 s0 v1 s_) := by
  unfold Zf8 Zd9
  try simp only [← cw_ok, ← Zl, ← Zj, ← Zd, ← Zb, ← Zc, ← Zk, ← Zm, GT.gt, GE.ge]
  repeat' (with_reducible first | exact Le.rfl | assumption | exact Zg _ _ _ | exact Zf _ _ _ _ | (refine le_if ?_ ?_) | (refine Zh ?_ fun _ => ?_) | (refine Zi ?_) | (refine Ze fun _ => ?_))
noncomputable def ZeG (F : Nat) (s0 : List Bool) (v1 : Bool) : Option Int :=
  lpF F (Zf8 F s0 v1) (0)
theorem Zkd {F : Nat} (s0 : List Bool) (v1 : Bool)  : Le (ZeG F s0 v1) (ZcK s0 v1) := by
  unfold ZeG ZcK
  try simp only [← cw_ok, ← Zl, ← Zj, ← Zd, ← Zb, ← Zc, ← Zk, ← Zm, GT.gt, GE.ge]
  repeat' (with_reducible first | exact Le.rfl | assumption | exact Zm6 _ _ _ | exact Zg _ _ _ | exact Zf _ _ _ _ | (refine le_if ?_ ?_) | (refine Zh ?_ fun _ => ?_) | (refine Zi ?_) | (refine Ze fun _ => ?_))
noncomputable def Zfa (F : Nat) (s0 : List Bool) (v1 : Bool) : Option Bool :=
  fbind (ZeG F s0 v1) fun r7 =>
  some (lei (0) (r7))
theorem ZlT {F : Nat} (s0 : List Bool) (v1 : Bool)  : Le (Zfa F s0 v1) (ZcB s0 v1) := by
  unfold Zfa ZcB
  try simp only [← cw_ok, ← Zl, ← Zj, ← Zd, ← Zb, ← Zc, ← Zk, ← Zm, GT.gt, GE.ge]
  repeat' (with_reducible first | exact Le.rfl | assumption | exact Zkd _ _ | exact Zg _ _ _ | exact Zf _ _ _ _ | (refine le_if ?_ ?_) | (refine Zh ?_ fun _ => ?_) | (refine Zi ?_) | (refine Ze fun _ => ?_))
noncomputable def Ze3 (F : Nat) (s0 : List Int) (fn1 : Int → Option Bool) : Int → Option ((Int) ⊕ (Int))
  | y8 =>
    bif lti (y8) ((s0.length : Int)) then
      fbind (cIdx s0 y8) fun e14 =>
      fbind (fn1 e14) fun r16 =>
      bif r16 then
        some (.inr (y8))
      else
        some (.inl (cw (y8 + 1)))
    else
      some (.inr ((-1)))
theorem Zl9 {F : Nat} (s0 : List Int) (fn1 fn1' : Int → Option Bool) (hfn1 : ∀ u0, Le (fn1 u0) (fn1' u0)) (s_ : _) : Le (Ze3 F s0 fn1 s_) (Zew s0 fn1' s_) := by
  unfold Ze3 Zew
  try simp only [← cw_ok, ← Zl, ← Zj, ← Zd, ← Zb, ← Zc, ← Zk, ← Zm, GT.gt, GE.ge]
  repeat' (with_reducible first | exact Le.rfl | assumption | exact Zg _ _ _ | exact Zf _ _ _ _ | (refine le_if ?_ ?_) | (refine Zh ?_ fun _ => ?_) | (refine Zi ?_) | (refine Ze fun _ => ?_))
  all_goals (first | exact hfn1 _ | skip)
noncomputable def ZeX (F : Nat) (s0 : List Int) (fn1 : Int → Option Bool) : Option Int :=
  lpF F (Ze3 F s0 fn1) (0)
theorem Zog {F : Nat} (s0 : List Int) (fn1 fn1' : Int → Option Bool) (hfn1 : ∀ u0, Le (fn1 u0) (fn1' u0)) : Le (ZeX F s0 fn1) (Zb4 s0 fn1') := by
  unfold ZeX Zb4
  try simp only [← cw_ok, ← Zl, ← Zj, ← Zd, ← Zb, ← Zc, ← Zk, ← Zm, GT.gt, GE.ge]
  repeat' (with_reducible first | exact Le.rfl | assumption | (refine Zl9 _ _ _ ?_ _; intros) | exact Zg _ _ _ | exact Zf _ _ _ _ | (refine le_if ?_ ?_) | (refine Zh ?_ fun _ => ?_) | (refine Zi ?_) | (refine Ze fun _ => ?_))
  all_goals (first | exact hfn1 _ | skip)
noncomputable def Zeb (F : Nat) (s0 : List Int) (fn1 : Int → Option Bool) : Option Bool :=
  fbind (ZeX F s0 fn1) fun r7 =>
  some (lei (0) (r7))
theorem Zi1 {F : Nat} (s0 : List Int) (fn1 fn1' : Int → Option Bool) (hfn1 : ∀ u0, Le (fn1 u0) (fn1' u0)) : Le (Zeb F s0 fn1) (Za1 s0 fn1') := by
  unfold Zeb Za1
  try simp only [← cw_ok, ← Zl, ← Zj, ← Zd, ← Zb, ← Zc, ← Zk, ← Zm, GT.gt, GE.ge]
  repeat' (with_reducible first | exact Le.rfl | assumption | (refine Zog _ _ _ ?_; intros) | exact Zg _ _ _ | exact Zf _ _ _ _ | (refine le_if ?_ ?_) | (refine Zh ?_ fun _ => ?_) | (refine Zi ?_) | (refine Ze fun _ => ?_))
  all_goals (first | exact hfn1 _ | skip)
noncomputable def Zfb (F : Nat) (x0 : Int) (y1 : Zo) : Option Bool :=
  fbind (cIdx y1.qcovered x0) fun e9 =>
  some (e9)
theorem Zpr {F : Nat} (x0 : Int) (y1 : Zo)  : Le (Zfb F x0 y1) (Zba x0 y1) := by
  unfold Zfb Zba
  try simp only [← cw_ok, ← Zl, ← Zj, ← Zd, ← Zb, ← Zc, ← Zk, ← Zm, GT.gt, GE.ge]
  repeat' (with_reducible first | exact Le.rfl | assumption | exact Zg _ _ _ | exact Zf _ _ _ _ | (refine le_if ?_ ?_) | (refine Zh ?_ fun _ => ?_) | (refine Zi ?_) | (refine Ze fun _ => ?_))
noncomputable def ZfF (F : Nat) (c0 : Zo) (option1 : Int) : Option Bool :=
  fbind (cIdx c0.qproblem.Options option1) fun e11 =>
  fbind (Zeb F e11 (fun y0 => Zfb F y0 c0)) fun r14 =>
  some (!r14)
theorem ZoS {F : Nat} (c0 : Zo) (option1 : Int)  : Le (ZfF F c0 option1) (ZbL c0 option1) := by
  unfold ZfF ZbL
  try simp only [← cw_ok, ← Zl, ← Zj, ← Zd, ← Zb, ← Zc, ← Zk, ← Zm, GT.gt, GE.ge]
  repeat' (with_reducible first | exact Le.rfl | assumption | (refine Zi1 _ _ _ ?_; intros) | exact Zpr _ _ | exact Zg _ _ _ | exact Zf _ _ _ _ | (refine le_if ?_ ?_) | (refine Zh ?_ fun _ => ?_) | (refine Zi ?_) | (refine Ze fun _ => ?_))
noncomputable def Zg8 (F : Nat) (c0 : Zo) (best3 : List Int) (found4 : Bool) (y15 : Int) (e26 : List Int) : List Int × Int → Option ((List Int × Int) ⊕ ((List Int × Bool × Int) ⊕ (List Int)))
  | (list7, y29) =>
    bif lti (y29) ((e26.length : Int)) then
      fbind (cIdx e26 y29) fun e31 =>
      fbind (ZfF F c0 e31) fun r35 =>
      bif r35 then
        fbind (cApp 8 list7 [e31]) fun l39 =>
        some (.inl (l39, cw (y29 + 1)))
      else
        some (.inl (list7, cw (y29 + 1)))
    else
      bif !found4 then
        some (.inr (.inl (list7, true, cw (y15 + 1))))
      else
        bif lti ((list7.length : Int)) ((best3.length : Int)) then
          some (.inr (.inl (list7, true, cw (y15 + 1))))
        else
          some (.inr (.inl (best3, found4, cw (y15 + 1))))
theorem ZkK {F : Nat} (c0 : Zo) (best3 : List Int) (found4 : Bool) (y15 : Int) (e26 : List Int)  (s_ : _) : Le (Zg8 F c0 best3 found4 y15 e26 s_) (Zby c0 best3 found4 y15 e26 s_) := by
  obtain ⟨list7, y29⟩ := s_
  unfold Zg8 Zby
  try simp only [← cw_ok, ← Zl, ← Zj, ← Zd, ← Zb, ← Zc, ← Zk, ← Zm, GT.gt, GE.ge]
  repeat' (with_reducible first | exact Le.rfl | assumption | exact ZoS _ _ | exact Zg _ _ _ | exact Zf _ _ _ _ | (refine le_if ?_ ?_) | (refine Zh ?_ fun _ => ?_) | (refine Zi ?_) | (refine Ze fun _ => ?_))
noncomputable def Zhk (F : Nat) (c0 : Zo) : List Int × Bool × Int → Option ((List Int × Bool × Int) ⊕ (List Int))
  | (best3, found4, y15) =>
    bif lti (y15) ((c0.qcovered.length : Int)) then
      fbind (cIdx c0.qcovered y15) fun e18 =>
      bif e18 then
        some (.inl (best3, found4, cw (y15 + 1)))
      else
        fbind (cIdx c0.qwith y15) fun e26 =>
        lpF F (Zg8 F c0 best3 found4 y15 e26) (([] : List Int), 0)
    else
      some (.inr (best3))
theorem ZoP {F : Nat} (c0 : Zo)  (s_ : _) : Le (Zhk F c0 s_) (ZbM c0 s_) := by
  obtain ⟨best3, found4, y15⟩ := s_
  unfold Zhk ZbM
  try simp only [← cw_ok, ← Zl, ← Zj, ← Zd, ← Zb, ← Zc, ← Zk, ← Zm, GT.gt, GE.ge]
  repeat' (with_reducible first | exact Le.rfl | assumption | exact ZkK _ _ _ _ _ _ | exact Zg _ _ _ | exact Zf _ _ _ _ | (refine le_if ?_ ?_) | (refine Zh ?_ fun _ => ?_) | (refine Zi ?_) | (refine Ze fun _ => ?_))
noncomputable def Zfn (F : Nat) (c0 : Zo) : Option (List Int) :=
  lpF F (Zhk F c0) (([] : List Int), false, 0)
theorem Zmx {F : Nat} (c0 : Zo)  : Le (Zfn F c0) (Zck c0) := by
  unfold Zfn Zck
  try simp only [← cw_ok, ← Zl, ← Zj, ← Zd, ← Zb, ← Zc, ← Zk, ← Zm, GT.gt, GE.ge]
  repeat' (with_reducible first | exact Le.rfl | assumption | exact ZoP _ _ | exact Zg _ _ _ | exact Zf _ _ _ _ | (refine le_if ?_ ?_) | (refine Zh ?_ fun _ => ?_) | (refine Zi ?_) | (refine Ze fun _ => ?_))
noncomputable def Zgn (F : Nat) (c0 : Zo) (in2 : Bool) (e14 : List Int) : Int × List Bool → Option ((Int × List Bool) ⊕ (Zo))
  | (y17, xs) =>
    bif lti (y17) ((e14.length : Int)) then
      fbind (cIdx e14 y17) fun e19 =>
      fbind (cIdx xs e19) fun e27 =>
      some (.inl (cw (y17 + 1), (xs.set (e19 : Int).toNat in2)))
    else
      some (.inr ((Zo.mk (Zs.mk c0.qcounter.qleft c0.qcounter.qspent) (Zr.mk c0.qproblem.Items c0.qproblem.Options) c0.qwith c0.qfirst xs c0.qchosen c0.qnodes c0.qfound)))
theorem Znm {F : Nat} (c0 : Zo) (in2 : Bool) (e14 : List Int)  (s_ : _) : Le (Zgn F c0 in2 e14 s_) (ZbA c0 in2 e14 s_) := by
  obtain ⟨y17, xs⟩ := s_
  unfold Zgn ZbA
  try simp only [← cw_ok, ← Zl, ← Zj, ← Zd, ← Zb, ← Zc, ← Zk, ← Zm, GT.gt, GE.ge]
  repeat' (with_reducible first | exact Le.rfl | assumption | exact Zg _ _ _ | exact Zf _ _ _ _ | (refine le_if ?_ ?_) | (refine Zh ?_ fun _ => ?_) | (refine Zi ?_) | (refine Ze fun _ => ?_))
noncomputable def Zdr (F : Nat) (c0 : Zo) (option1 : Int) (in2 : Bool) : Option Zo :=
  fbind (cIdx c0.qproblem.Options option1) fun e14 =>
  lpF F (Zgn F c0 in2 e14) (0, c0.qcovered)
theorem ZlD {F : Nat} (c0 : Zo) (option1 : Int) (in2 : Bool)  : Le (Zdr F c0 option1 in2) (ZaJ c0 option1 in2) := by
  unfold Zdr ZaJ
  try simp only [← cw_ok, ← Zl, ← Zj, ← Zd, ← Zb, ← Zc, ← Zk, ← Zm, GT.gt, GE.ge]
  repeat' (with_reducible first | exact Le.rfl | assumption | exact Znm _ _ _ _ | exact Zg _ _ _ | exact Zf _ _ _ _ | (refine le_if ?_ ?_) | (refine Zh ?_ fun _ => ?_) | (refine Zi ?_) | (refine Ze fun _ => ?_))
noncomputable def Ze9 (F : Nat) (rf_impl_coverer_search : Zo → Option Zo) (y0 : Zo) (r62 : List Int) : Int × Int × Bool × Int × Bool × Int × List (List Int) × List Bool × List Int × List (List Int) → Option ((Int × Int × Bool × Int × Bool × Int × List (List Int) × List Bool × List Int × List (List Int)) ⊕ (Zo))
  | (y64, q_3, q_4, q_5, q_6, q_7, xs, xs_2, xs_3, xs_4) =>
    bif lti (y64) ((r62.length : Int)) then
      fbind (cIdx r62 y64) fun e66 =>
      fbind (Zdr F (Zo.mk (Zs.mk q_3 q_4) (Zr.mk q_5 y0.qproblem.Options) xs q_6 xs_2 xs_3 q_7 xs_4) e66 true) fun r70 =>
      fbind (cApp 8 r70.qchosen [e66]) fun l78 =>
      fbind (rf_impl_coverer_search (Zo.mk (Zs.mk r70.qcounter.qleft r70.qcounter.qspent) (Zr.mk r70.qproblem.Items y0.qproblem.Options) r70.qwith r70.qfirst r70.qcovered l78 r70.qnodes r70.qfound)) fun r82 =>
      fbind (cSl r82.qchosen 0 (cw ((r82.qchosen.length : Int) - 1))) fun l94 =>
      fbind (Zdr F (Zo.mk (Zs.mk r82.qcounter.qleft r82.qcounter.qspent) (Zr.mk r82.qproblem.Items y0.qproblem.Options) r82.qwith r82.qfirst r82.qcovered l94 r82.qnodes r82.qfound) e66 false) fun r99 =>
      some (.inl (cw (y64 + 1), r99.qcounter.qleft, r99.qcounter.qspent, r99.qproblem.Items, r99.qfirst, r99.qnodes, r99.qwith, r99.qcovered, r99.qchosen, r99.qfound))
    else
      some (.inr ((Zo.mk (Zs.mk q_3 q_4) (Zr.mk q_5 y0.qproblem.Options) xs q_6 xs_2 xs_3 q_7 xs_4)))
theorem ZnB {F : Nat} (rf_impl_coverer_search : Zo → Option Zo) (y0 : Zo) (r62 : List Int) (rf_impl_coverer_search' : Zo → Option Zo) (hrf_impl_coverer_search : ∀ u0, Le (rf_impl_coverer_search u0) (rf_impl_coverer_search' u0)) (s_ : _) : Le (Ze9 F rf_impl_coverer_search y0 r62 s_) (ZcJ rf_impl_coverer_search' y0 r62 s_) := by
  obtain ⟨y64, q_3, q_4, q_5, q_6, q_7, xs, xs_2, xs_3, xs_4⟩ := s_
  unfold Ze9 ZcJ
  try simp only [← cw_ok, ← Zl, ← Zj, ← Zd, ← Zb, ← Zc, ← Zk, ← Zm, GT.gt, GE.ge]
  repeat' (with_reducible first | exact Le.rfl | assumption | exact ZlD _ _ _ | exact Zg _ _ _ | exact Zf _ _ _ _ | (refine le_if ?_ ?_) | (refine Zh ?_ fun _ => ?_) | (refine Zi ?_) | (refine Ze fun _ => ?_))
  all_goals (first | exact hrf_impl_coverer_search _ | skip)
noncomputable def Zde (F : Nat) (rf_impl_coverer_search : Zo → Option Zo) (y0 : Zo) (q : Int) (q_2 : Bool) : Option (Zo) :=
  fbind (Zfa F y0.qcovered false) fun r42 =>
  bif !r42 then
    fbind (Za4 F y0.qchosen) fun r48 =>
    fbind (Zgm F r48) fun r50 =>
    fbind (cApp 24 y0.qfound [r50]) fun l58 =>
    some ((Zo.mk (Zs.mk q q_2) (Zr.mk y0.qproblem.Items y0.qproblem.Options) y0.qwith y0.qfirst y0.qcovered y0.qchosen (cw (y0.qnodes + 1)) l58))
  else
    fbind (Zfn F (Zo.mk (Zs.mk q q_2) (Zr.mk y0.qproblem.Items y0.qproblem.Options) y0.qwith y0.qfirst y0.qcovered y0.qchosen (cw (y0.qnodes + 1)) y0.qfound)) fun r62 =>
    lpF F (Ze9 F rf_impl_coverer_search y0 r62) (0, q, q_2, y0.qproblem.Items, y0.qfirst, cw (y0.qnodes + 1), y0.qwith, y0.qcovered, y0.qchosen, y0.qfound)
theorem Zmq {F : Nat} (rf_impl_coverer_search : Zo → Option Zo) (y0 : Zo) (q : Int) (q_2 : Bool) (rf_impl_coverer_search' : Zo → Option Zo) (hrf_impl_coverer_search : ∀ u0, Le (rf_impl_coverer_search u0) (rf_impl_coverer_search' u0)) : Le (Zde F rf_impl_coverer_search y0 q q_2) (Zay rf_impl_coverer_search' y0 q q_2) := by
  unfold Zde Zay
  try simp only [← cw_ok, ← Zl, ← Zj, ← Zd, ← Zb, ← Zc, ← Zk, ← Zm, GT.gt, GE.ge]
  repeat' (with_reducible first | exact Le.rfl | assumption | exact ZlT _ _ | exact ZfN _ | exact Zla _ | exact Zmx _ | (refine ZnB _ _ _ _ ?_ _; intros) | exact Zg _ _ _ | exact Zf _ _ _ _ | (refine le_if ?_ ?_) | (refine Zh ?_ fun _ => ?_) | (refine Zi ?_) | (refine Ze fun _ => ?_))
  all_goals (first | exact hrf_impl_coverer_search _ | skip)
noncomputable def cq_impl_coverer_search (F : Nat) (rf_impl_coverer_search : Zo → Option Zo) (y0 : Zo) : Option Zo :=
  bif y0.qcounter.qspent then
    some ((Zo.mk (Zs.mk y0.qcounter.qleft y0.qcounter.qspent) (Zr.mk y0.qproblem.Items y0.qproblem.Options) y0.qwith y0.qfirst y0.qcovered y0.qchosen y0.qnodes y0.qfound))
  else
    bif y0.qfirst then
      bif lti (0) ((y0.qfound.length : Int)) then
        some ((Zo.mk (Zs.mk y0.qcounter.qleft y0.qcounter.qspent) (Zr.mk y0.qproblem.Items y0.qproblem.Options) y0.qwith y0.qfirst y0.qcovered y0.qchosen y0.qnodes y0.qfound))
      else
        fbind (ZaB F (Zs.mk y0.qcounter.qleft y0.qcounter.qspent)) fun r28 =>
        bif !r28.1 then
          some ((Zo.mk (Zs.mk r28.2.qleft r28.2.qspent) (Zr.mk y0.qproblem.Items y0.qproblem.Options) y0.qwith y0.qfirst y0.qcovered y0.qchosen y0.qnodes y0.qfound))
        else
          Zde F rf_impl_coverer_search y0 r28.2.qleft r28.2.qspent
    else
      fbind (ZaB F (Zs.mk y0.qcounter.qleft y0.qcounter.qspent)) fun r28_2 =>
      bif !r28_2.1 then
        some ((Zo.mk (Zs.mk r28_2.2.qleft r28_2.2.qspent) (Zr.mk y0.qproblem.Items y0.qproblem.Options) y0.qwith y0.qfirst y0.qcovered y0.qchosen y0.qnodes y0.qfound))
      else
        Zde F rf_impl_coverer_search y0 r28_2.2.qleft r28_2.2.qspent
theorem leq_impl_coverer_search {F : Nat} (rf_impl_coverer_search : Zo → Option Zo) (y0 : Zo) (rf_impl_coverer_search' : Zo → Option Zo) (hrf_impl_coverer_search : ∀ u0, Le (rf_impl_coverer_search u0) (rf_impl_coverer_search' u0)) : Le (cq_impl_coverer_search F rf_impl_coverer_search y0) (q_impl_coverer_search rf_impl_coverer_search' y0) := by
  unfold cq_impl_coverer_search q_impl_coverer_search
  try simp only [← cw_ok, ← Zl, ← Zj, ← Zd, ← Zb, ← Zc, ← Zk, ← Zm, GT.gt, GE.ge]
  repeat' (with_reducible first | exact Le.rfl | assumption | exact Zii _ | (refine Zmq _ _ _ _ _ ?_; intros) | exact Zg _ _ _ | exact Zf _ _ _ _ | (refine le_if ?_ ?_) | (refine Zh ?_ fun _ => ?_) | (refine Zi ?_) | (refine Ze fun _ => ?_))
  all_goals (first | exact hrf_impl_coverer_search _ | skip)
noncomputable def cn_impl_coverer_search (F : Nat) : Nat → (Zo → Option Zo) := Nat.rec (fun _ => none) fun _ ih => cq_impl_coverer_search F ih
theorem len_impl_coverer_search {F : Nat} : ∀ n m, n ≤ m → ∀ u0, Le (cn_impl_coverer_search F n u0) (pn_impl_coverer_search m u0)
  | 0, _, _, _ => fun _ h => by cases h
  | n + 1, 0, h, _ => absurd h (by omega)
  | n + 1, m + 1, h, u0 => leq_impl_coverer_search _ _ _ (len_impl_coverer_search n m (by omega))
noncomputable def Zh9 (F : Nat) : Zo → Option Zo := cn_impl_coverer_search F 64
theorem Zkq {F : Nat} (u0 : _) : Le (Zh9 F u0) (ZfB u0) := len_impl_coverer_search 64 fuel (by unfold fuel; omega) u0
noncomputable def Ze7 (F : Nat) (c0 : Zr) (budget1 : Int) (first2 : Bool) (l24 : List Bool) : Int × List (List Int) → Option ((Int × List (List Int)) ⊕ ((Option Zo) × Int))
  | (y29, xs) =>
    bif lti (y29) (c0.Items) then
      fbind (Zhz F (Zr.mk c0.Items c0.Options) y29) fun r35 =>
      fbind (cApp 24 xs [r35.1]) fun l45 =>
      some (.inl (cw (y29 + 1), l45))
    else
      fbind (Zh9 F (Zo.mk (Zs.mk budget1 false) (Zr.mk c0.Items c0.Options) xs first2 l24 ([] : List Int) 0 ([] : List (List Int)))) fun r50 =>
      bif r50.qcounter.qspent then
        some (.inr ((none, 5)))
      else
        some (.inr (((some (Zo.mk (Zs.mk r50.qcounter.qleft r50.qcounter.qspent) (Zr.mk r50.qproblem.Items c0.Options) r50.qwith r50.qfirst r50.qcovered r50.qchosen r50.qnodes r50.qfound)), 0)))
theorem ZoA {F : Nat} (c0 : Zr) (budget1 : Int) (first2 : Bool) (l24 : List Bool)  (s_ : _) : Le (Ze7 F c0 budget1 first2 l24 s_) (Zb3 c0 budget1 first2 l24 s_) := by
  obtain ⟨y29, xs⟩ := s_
  unfold Ze7 Zb3
  try simp only [← cw_ok, ← Zl, ← Zj, ← Zd, ← Zb, ← Zc, ← Zk, ← Zm, GT.gt, GE.ge]
  repeat' (with_reducible first | exact Le.rfl | assumption | exact Zmj _ _ | exact Zkq _ | exact Zg _ _ _ | exact Zf _ _ _ _ | (refine le_if ?_ ?_) | (refine Zh ?_ fun _ => ?_) | (refine Zi ?_) | (refine Ze fun _ => ?_))
noncomputable def Zhs (F : Nat) (c0 : Zr) (budget1 : Int) (first2 : Bool) : Option ((Option Zo) × Int) :=
  fbind (Zdu F (Zr.mk c0.Items c0.Options)) fun r13 =>
  bif !r13 then
    some ((none, 1))
  else
    fbind (ZdU F budget1) fun r16 =>
    bif !r16 then
      some ((none, 2))
    else
      fbind (cMake 1 false c0.Items c0.Items) fun l24 =>
      lpF F (Ze7 F c0 budget1 first2 l24) (0, ([] : List (List Int)))
theorem Zia {F : Nat} (c0 : Zr) (budget1 : Int) (first2 : Bool)  : Le (Zhs F c0 budget1 first2) (Zbn c0 budget1 first2) := by
  unfold Zhs Zbn
  try simp only [← cw_ok, ← Zl, ← Zj, ← Zd, ← Zb, ← Zc, ← Zk, ← Zm, GT.gt, GE.ge]
  repeat' (with_reducible first | exact Le.rfl | assumption | exact ZjF _ | exact ZjJ _ | exact ZoA _ _ _ _ _ | exact Zg _ _ _ | exact Zf _ _ _ _ | (refine le_if ?_ ?_) | (refine Zh ?_ fun _ => ?_) | (refine Zi ?_) | (refine Ze fun _ => ?_))
noncomputable def Ze5 (F : Nat) (c0 : Zr) (budget1 : Int) : Option ((List (List Int)) × Int) :=
  fbind (Zhs F (Zr.mk c0.Items c0.Options) budget1 false) fun r11 =>
  (match r11 with
  | (none, c11) =>
    bif !eqi (c11) (0) then
      some ((([] : List (List Int)), c11))
    else
      none
  | (some d11, c11) =>
    bif !eqi (c11) (0) then
      some ((([] : List (List Int)), c11))
    else
      some ((d11.qfound, 0))
  )
theorem Zm0 {F : Nat} (c0 : Zr) (budget1 : Int)  : Le (Ze5 F c0 budget1) (ZbK c0 budget1) := by
  unfold Ze5 ZbK
  try simp only [← cw_ok, ← Zl, ← Zj, ← Zd, ← Zb, ← Zc, ← Zk, ← Zm, GT.gt, GE.ge]
  repeat' (with_reducible first | exact Le.rfl | assumption | exact Zia _ _ _ | exact Zg _ _ _ | exact Zf _ _ _ _ | (refine le_if ?_ ?_) | (refine Zh ?_ fun _ => ?_) | (refine Zi ?_) | (refine Ze fun _ => ?_))
  all_goals (rename_i r_; obtain ⟨_ | _, _⟩ := r_ <;> dsimp only)
  repeat' (with_reducible first | exact Le.rfl | assumption | exact Zia _ _ _ | exact Zg _ _ _ | exact Zf _ _ _ _ | (refine le_if ?_ ?_) | (refine Zh ?_ fun _ => ?_) | (refine Zi ?_) | (refine Ze fun _ => ?_))
noncomputable def Zfs (F : Nat) (list0 : List (List Int)) : Option Int :=
  some ((list0.length : Int))
theorem ZlL {F : Nat} (list0 : List (List Int))  : Le (Zfs F list0) (ZcF list0) := by
  unfold Zfs ZcF
  try simp only [← cw_ok, ← Zl, ← Zj, ← Zd, ← Zb, ← Zc, ← Zk, ← Zm, GT.gt, GE.ge]
  repeat' (with_reducible first | exact Le.rfl | assumption | exact Zg _ _ _ | exact Zf _ _ _ _ | (refine le_if ?_ ?_) | (refine Zh ?_ fun _ => ?_) | (refine Zi ?_) | (refine Ze fun _ => ?_))
noncomputable def ZgN (F : Nat) (c0 : Zr) (budget1 : Int) : Option (Int × Int) :=
  fbind (Ze5 F (Zr.mk c0.Items c0.Options) budget1) fun r11 =>
  fbind (Zfs F r11.1) fun r15 =>
  some ((r15, r11.2))
theorem Zl4 {F : Nat} (c0 : Zr) (budget1 : Int)  : Le (ZgN F c0 budget1) (Z1 c0 budget1) := by
  unfold ZgN Z1
  try simp only [← cw_ok, ← Zl, ← Zj, ← Zd, ← Zb, ← Zc, ← Zk, ← Zm, GT.gt, GE.ge]
  repeat' (with_reducible first | exact Le.rfl | assumption | exact Zm0 _ _ | exact ZlL _ | exact Zg _ _ _ | exact Zf _ _ _ _ | (refine le_if ?_ ?_) | (refine Zh ?_ fun _ => ?_) | (refine Zi ?_) | (refine Ze fun _ => ?_))
noncomputable def ZcW (F : Nat) (x0 : Int) : Option Bool :=
  some (!eqi (x0) (x0))
theorem Zpu {F : Nat} (x0 : Int)  : Le (ZcW F x0) (Za0 x0) := by
  unfold ZcW Za0
  try simp only [← cw_ok, ← Zl, ← Zj, ← Zd, ← Zb, ← Zc, ← Zk, ← Zm, GT.gt, GE.ge]
  repeat' (with_reducible first | exact Le.rfl | assumption | exact Zg _ _ _ | exact Zf _ _ _ _ | (refine le_if ?_ ?_) | (refine Zh ?_ fun _ => ?_) | (refine Zi ?_) | (refine Ze fun _ => ?_))
noncomputable def Zfr (F : Nat) (x0 y1 : Int) : Option Int :=
  fbind (ZcW F x0) fun r8 =>
  fbind (ZcW F y1) fun r10 =>
  bif r8 then
    bif r10 then
      some (0)
    else
      some ((-1))
  else
    bif r10 then
      some (1)
    else
      bif lti (x0) (y1) then
        some ((-1))
      else
        bif lti (y1) (x0) then
          some (1)
        else
          some (0)
theorem ZnR {F : Nat} (x0 y1 : Int)  : Le (Zfr F x0 y1) (Za5 x0 y1) := by
  unfold Zfr Za5
  try simp only [← cw_ok, ← Zl, ← Zj, ← Zd, ← Zb, ← Zc, ← Zk, ← Zm, GT.gt, GE.ge]
  repeat' (with_reducible first | exact Le.rfl | assumption | exact Zpu _ | exact Zg _ _ _ | exact Zf _ _ _ _ | (refine le_if ?_ ?_) | (refine Zh ?_ fun _ => ?_) | (refine Zi ?_) | (refine Ze fun _ => ?_))
noncomputable def ZgT (F : Nat) (s0 s1 : List Int) : Int → Option ((Int) ⊕ (Int))
  | y11 =>
    bif lti (y11) ((s0.length : Int)) then
      fbind (cIdx s0 y11) fun e14 =>
      bif lei ((s1.length : Int)) (y11) then
        some (.inr (1))
      else
        fbind (cIdx s1 y11) fun e22 =>
        fbind (Zfr F e14 e22) fun r26 =>
        bif !eqi (r26) (0) then
          some (.inr (r26))
        else
          some (.inl (cw (y11 + 1)))
    else
      bif lti ((s0.length : Int)) ((s1.length : Int)) then
        some (.inr ((-1)))
      else
        some (.inr (0))
theorem ZkI {F : Nat} (s0 s1 : List Int)  (s_ : _) : Le (ZgT F s0 s1 s_) (ZdY s0 s1 s_) := by
  unfold ZgT ZdY
  try simp only [← cw_ok, ← Zl, ← Zj, ← Zd, ← Zb, ← Zc, ← Zk, ← Zm, GT.gt, GE.ge]
  repeat' (with_reducible first | exact Le.rfl | assumption | exact ZnR _ _ | exact Zg _ _ _ | exact Zf _ _ _ _ | (refine le_if ?_ ?_) | (refine Zh ?_ fun _ => ?_) | (refine Zi ?_) | (refine Ze fun _ => ?_))
noncomputable def ZcV (F : Nat) (s0 s1 : List Int) : Option Int :=
  lpF F (ZgT F s0 s1) (0)
theorem Ziq {F : Nat} (s0 s1 : List Int)  : Le (ZcV F s0 s1) (ZaL s0 s1) := by
  unfold ZcV ZaL
  try simp only [← cw_ok, ← Zl, ← Zj, ← Zd, ← Zb, ← Zc, ← Zk, ← Zm, GT.gt, GE.ge]
  repeat' (with_reducible first | exact Le.rfl | assumption | exact ZkI _ _ _ | exact Zg _ _ _ | exact Zf _ _ _ _ | (refine le_if ?_ ?_) | (refine Zh ?_ fun _ => ?_) | (refine Zi ?_) | (refine Ze fun _ => ?_))
noncomputable def ZhU (F : Nat) (block0 : List Int) (points1 : Int) : Option Bool :=
  bif lti (0) ((block0.length : Int)) then
    fbind (ZbB F block0 points1) fun r11 =>
    some (r11)
  else
    some (false)
theorem Zne {F : Nat} (block0 : List Int) (points1 : Int)  : Le (ZhU F block0 points1) (ZbS block0 points1) := by
  unfold ZhU ZbS
  try simp only [← cw_ok, ← Zl, ← Zj, ← Zd, ← Zb, ← Zc, ← Zk, ← Zm, GT.gt, GE.ge]
  repeat' (with_reducible first | exact Le.rfl | assumption | exact ZhY _ _ | exact Zg _ _ _ | exact Zf _ _ _ _ | (refine le_if ?_ ?_) | (refine Zh ?_ fun _ => ?_) | (refine Zi ?_) | (refine Ze fun _ => ?_))
noncomputable def Zf4 (F : Nat) (b0 : List Int) (y1 : Int) : Option Bool :=
  fbind (ZhU F b0 y1) fun r6 =>
  some (!r6)
theorem ZnN {F : Nat} (b0 : List Int) (y1 : Int)  : Le (Zf4 F b0 y1) (ZbO b0 y1) := by
  unfold Zf4 ZbO
  try simp only [← cw_ok, ← Zl, ← Zj, ← Zd, ← Zb, ← Zc, ← Zk, ← Zm, GT.gt, GE.ge]
  repeat' (with_reducible first | exact Le.rfl | assumption | exact Zne _ _ | exact Zg _ _ _ | exact Zf _ _ _ _ | (refine le_if ?_ ?_) | (refine Zh ?_ fun _ => ?_) | (refine Zi ?_) | (refine Ze fun _ => ?_))
noncomputable def Zff (F : Nat) (blocks0 : List (List Int)) (points1 : Int) : Option Bool :=
  fbind (ZJ F points1 1 32) fun r6 =>
  bif r6 then
    fbind (ZcA F blocks0 (fun y0 => Zf4 F y0 points1)) fun r10 =>
    some (!r10)
  else
    some (false)
theorem Zls {F : Nat} (blocks0 : List (List Int)) (points1 : Int)  : Le (Zff F blocks0 points1) (Zct blocks0 points1) := by
  unfold Zff Zct
  try simp only [← cw_ok, ← Zl, ← Zj, ← Zd, ← Zb, ← Zc, ← Zk, ← Zm, GT.gt, GE.ge]
  repeat' (with_reducible first | exact Le.rfl | assumption | exact ZU _ _ _ | (refine Zgu _ _ _ ?_; intros) | exact ZnN _ _ | exact Zg _ _ _ | exact Zf _ _ _ _ | (refine le_if ?_ ?_) | (refine Zh ?_ fun _ => ?_) | (refine Zi ?_) | (refine Ze fun _ => ?_))
noncomputable def ZeR (F : Nat) (x0 : List (List Int)) (fn1 : (List Int) → (List Int) → Option Int) : Int → Option ((Int) ⊕ (Bool))
  | i5 =>
    bif lti (0) (i5) then
      fbind (cIdx x0 i5) fun e16 =>
      fbind (cIdx x0 (cw (i5 - 1))) fun e21 =>
      fbind (fn1 e16 e21) fun r23 =>
      bif lti (r23) (0) then
        some (.inr (false))
      else
        some (.inl (cw (i5 - 1)))
    else
      some (.inr (true))
theorem ZoY {F : Nat} (x0 : List (List Int)) (fn1 fn1' : (List Int) → (List Int) → Option Int) (hfn1 : ∀ u0 u1, Le (fn1 u0 u1) (fn1' u0 u1)) (s_ : _) : Le (ZeR F x0 fn1 s_) (Zdj x0 fn1' s_) := by
  unfold ZeR Zdj
  try simp only [← cw_ok, ← Zl, ← Zj, ← Zd, ← Zb, ← Zc, ← Zk, ← Zm, GT.gt, GE.ge]
  repeat' (with_reducible first | exact Le.rfl | assumption | exact Zg _ _ _ | exact Zf _ _ _ _ | (refine le_if ?_ ?_) | (refine Zh ?_ fun _ => ?_) | (refine Zi ?_) | (refine Ze fun _ => ?_))
  all_goals (first | exact hfn1 _ _ | skip)
noncomputable def Zfv (F : Nat) (x0 : List (List Int)) (fn1 : (List Int) → (List Int) → Option Int) : Option Bool :=
  lpF F (ZeR F x0 fn1) (cw ((x0.length : Int) - 1))
theorem Zph {F : Nat} (x0 : List (List Int)) (fn1 fn1' : (List Int) → (List Int) → Option Int) (hfn1 : ∀ u0 u1, Le (fn1 u0 u1) (fn1' u0 u1)) : Le (Zfv F x0 fn1) (Zbf x0 fn1') := by
  unfold Zfv Zbf
  try simp only [← cw_ok, ← Zl, ← Zj, ← Zd, ← Zb, ← Zc, ← Zk, ← Zm, GT.gt, GE.ge]
  repeat' (with_reducible first | exact Le.rfl | assumption | (refine ZoY _ _ _ ?_ _; intros) | exact Zg _ _ _ | exact Zf _ _ _ _ | (refine le_if ?_ ?_) | (refine Zh ?_ fun _ => ?_) | (refine Zi ?_) | (refine Ze fun _ => ?_))
  all_goals (first | exact hfn1 _ _ | skip)
noncomputable def Zcq (F : Nat) (d0 : Za) : Option Bool :=
  fbind (Zff F d0.Blocks d0.Points) fun r7 =>
  bif r7 then
    bif lei ((d0.Blocks.length : Int)) (128) then
      fbind (Zfv F d0.Blocks (fun y0 y1 => ZcV F y0 y1)) fun r17 =>
      some (r17)
    else
      some (false)
  else
    some (false)
theorem Zd3 {F : Nat} (d0 : Za)  : Le (Zcq F d0) (Zar d0) := by
  unfold Zcq Zar
  try simp only [← cw_ok, ← Zl, ← Zj, ← Zd, ← Zb, ← Zc, ← Zk, ← Zm, GT.gt, GE.ge]
  repeat' (with_reducible first | exact Le.rfl | assumption | exact Zls _ _ | (refine Zph _ _ _ ?_; intros) | exact Ziq _ _ | exact Zg _ _ _ | exact Zf _ _ _ _ | (refine le_if ?_ ?_) | (refine Zh ?_ fun _ => ?_) | (refine Zi ?_) | (refine Ze fun _ => ?_))
noncomputable def Zhq (F : Nat) (n0 : Int) (fn1 : Int → Int → Option Int) (a5 : List (List Int)) (x6 : Int) : List Int × Int → Option ((List Int × Int) ⊕ ((List (List Int) × Int) ⊕ (List (List Int))))
  | (row7, y8) =>
    bif lti (y8) (n0) then
      fbind (fn1 x6 y8) fun r23 =>
      fbind (cApp 8 row7 [r23]) fun l25 =>
      some (.inl (l25, cw (y8 + 1)))
    else
      fbind (cApp 24 a5 [row7]) fun l29 =>
      some (.inr (.inl (l29, cw (x6 + 1))))
theorem Znc {F : Nat} (n0 : Int) (fn1 : Int → Int → Option Int) (a5 : List (List Int)) (x6 : Int) (fn1' : Int → Int → Option Int) (hfn1 : ∀ u0 u1, Le (fn1 u0 u1) (fn1' u0 u1)) (s_ : _) : Le (Zhq F n0 fn1 a5 x6 s_) (Zci n0 fn1' a5 x6 s_) := by
  obtain ⟨row7, y8⟩ := s_
  unfold Zhq Zci
  try simp only [← cw_ok, ← Zl, ← Zj, ← Zd, ← Zb, ← Zc, ← Zk, ← Zm, GT.gt, GE.ge]
  repeat' (with_reducible first | exact Le.rfl | assumption | exact Zg _ _ _ | exact Zf _ _ _ _ | (refine le_if ?_ ?_) | (refine Zh ?_ fun _ => ?_) | (refine Zi ?_) | (refine Ze fun _ => ?_))
  all_goals (first | exact hfn1 _ _ | skip)
noncomputable def ZgJ (F : Nat) (n0 : Int) (fn1 : Int → Int → Option Int) : List (List Int) × Int → Option ((List (List Int) × Int) ⊕ (List (List Int)))
  | (a5, x6) =>
    bif lti (x6) (n0) then
      lpF F (Zhq F n0 fn1 a5 x6) (([] : List Int), 0)
    else
      some (.inr (a5))
theorem Zli {F : Nat} (n0 : Int) (fn1 fn1' : Int → Int → Option Int) (hfn1 : ∀ u0 u1, Le (fn1 u0 u1) (fn1' u0 u1)) (s_ : _) : Le (ZgJ F n0 fn1 s_) (Zbs n0 fn1' s_) := by
  obtain ⟨a5, x6⟩ := s_
  unfold ZgJ Zbs
  try simp only [← cw_ok, ← Zl, ← Zj, ← Zd, ← Zb, ← Zc, ← Zk, ← Zm, GT.gt, GE.ge]
  repeat' (with_reducible first | exact Le.rfl | assumption | (refine Znc _ _ _ _ _ ?_ _; intros) | exact Zg _ _ _ | exact Zf _ _ _ _ | (refine le_if ?_ ?_) | (refine Zh ?_ fun _ => ?_) | (refine Zi ?_) | (refine Ze fun _ => ?_))
  all_goals (first | exact hfn1 _ _ | skip)
noncomputable def Zhm (F : Nat) (n0 : Int) (fn1 : Int → Int → Option Int) : Option (List (List Int)) :=
  lpF F (ZgJ F n0 fn1) (([] : List (List Int)), 0)
theorem ZkZ {F : Nat} (n0 : Int) (fn1 fn1' : Int → Int → Option Int) (hfn1 : ∀ u0 u1, Le (fn1 u0 u1) (fn1' u0 u1)) : Le (Zhm F n0 fn1) (Zcx n0 fn1') := by
  unfold Zhm Zcx
  try simp only [← cw_ok, ← Zl, ← Zj, ← Zd, ← Zb, ← Zc, ← Zk, ← Zm, GT.gt, GE.ge]
  repeat' (with_reducible first | exact Le.rfl | assumption | (refine Zli _ _ _ ?_ _; intros) | exact Zg _ _ _ | exact Zf _ _ _ _ | (refine le_if ?_ ?_) | (refine Zh ?_ fun _ => ?_) | (refine Zi ?_) | (refine Ze fun _ => ?_))
  all_goals (first | exact hfn1 _ _ | skip)
noncomputable def ZhQ (F : Nat) (x0 y1 : Int) : Option Int :=
  some (0)
theorem Zoq {F : Nat} (x0 y1 : Int)  : Le (ZhQ F x0 y1) (ZbI x0 y1) := by
  unfold ZhQ ZbI
  try simp only [← cw_ok, ← Zl, ← Zj, ← Zd, ← Zb, ← Zc, ← Zk, ← Zm, GT.gt, GE.ge]
  repeat' (with_reducible first | exact Le.rfl | assumption | exact Zg _ _ _ | exact Zf _ _ _ _ | (refine le_if ?_ ?_) | (refine Zh ?_ fun _ => ?_) | (refine Zi ?_) | (refine Ze fun _ => ?_))
noncomputable def Zdl (F : Nat) (n0 : Int) : Option (List (List Int)) :=
  fbind (Zhm F n0 (fun y0 y1 => ZhQ F y0 y1)) fun r4 =>
  some (r4)
theorem ZjL {F : Nat} (n0 : Int)  : Le (Zdl F n0) (ZaC n0) := by
  unfold Zdl ZaC
  try simp only [← cw_ok, ← Zl, ← Zj, ← Zd, ← Zb, ← Zc, ← Zk, ← Zm, GT.gt, GE.ge]
  repeat' (with_reducible first | exact Le.rfl | assumption | (refine ZkZ _ _ _ ?_; intros) | exact Zoq _ _ | exact Zg _ _ _ | exact Zf _ _ _ _ | (refine le_if ?_ ?_) | (refine Zh ?_ fun _ => ?_) | (refine Zi ?_) | (refine Ze fun _ => ?_))
noncomputable def ZfQ (F : Nat) (y25 e28 : Int) (l33 : List Int) : Int × List (List Int) → Option ((Int × List (List Int)) ⊕ ((Int × List (List Int)) ⊕ ((Int × List (List Int)) ⊕ (List Int))))
  | (y35, xs_3) =>
    bif lti (y35) ((l33.length : Int)) then
      fbind (cIdx l33 y35) fun e37 =>
      fbind (cIdx xs_3 e28) fun e41 =>
      fbind (cIdx e41 e37) fun e44 =>
      fbind (cIdx e41 e37) fun e47 =>
      some (.inl (cw (y35 + 1), (xs_3.set (e28 : Int).toNat (e41.set (e37 : Int).toNat (cw (e44 + 1))))))
    else
      some (.inr (.inl (cw (y25 + 1), xs_3)))
theorem ZpJ {F : Nat} (y25 e28 : Int) (l33 : List Int)  (s_ : _) : Le (ZfQ F y25 e28 l33 s_) (ZcD y25 e28 l33 s_) := by
  obtain ⟨y35, xs_3⟩ := s_
  unfold ZfQ ZcD
  try simp only [← cw_ok, ← Zl, ← Zj, ← Zd, ← Zb, ← Zc, ← Zk, ← Zm, GT.gt, GE.ge]
  repeat' (with_reducible first | exact Le.rfl | assumption | exact Zg _ _ _ | exact Zf _ _ _ _ | (refine le_if ?_ ?_) | (refine Zh ?_ fun _ => ?_) | (refine Zi ?_) | (refine Ze fun _ => ?_))
noncomputable def Zfy (F : Nat) (y19 : Int) (e21 : List Int) : Int × List (List Int) → Option ((Int × List (List Int)) ⊕ ((Int × List (List Int)) ⊕ (List Int)))
  | (y25, xs_2) =>
    bif lti (y25) ((e21.length : Int)) then
      fbind (cIdx e21 y25) fun e28 =>
      fbind (cSl e21 (cw (y25 + 1)) (e21.length : Int)) fun l33 =>
      lpF F (ZfQ F y25 e28 l33) (0, xs_2)
    else
      some (.inr (.inl (cw (y19 + 1), xs_2)))
theorem Zmg {F : Nat} (y19 : Int) (e21 : List Int)  (s_ : _) : Le (Zfy F y19 e21 s_) (Zbz y19 e21 s_) := by
  obtain ⟨y25, xs_2⟩ := s_
  unfold Zfy Zbz
  try simp only [← cw_ok, ← Zl, ← Zj, ← Zd, ← Zb, ← Zc, ← Zk, ← Zm, GT.gt, GE.ge]
  repeat' (with_reducible first | exact Le.rfl | assumption | exact ZpJ _ _ _ _ | exact Zg _ _ _ | exact Zf _ _ _ _ | (refine le_if ?_ ?_) | (refine Zh ?_ fun _ => ?_) | (refine Zi ?_) | (refine Ze fun _ => ?_))
noncomputable def ZeJ (F : Nat) (xs : List (List Int)) : List Int × Int → Option ((List Int × Int) ⊕ ((Int × List (List Int)) ⊕ (List Int)))
  | (y10, y53) =>
    bif lti (y53) ((xs.length : Int)) then
      fbind (cIdx xs y53) fun e56 =>
      fbind (cSl e56 (cw (y53 + 1)) (e56.length : Int)) fun l62 =>
      fbind (cApp 8 y10 l62) fun l63 =>
      some (.inl (l63, cw (y53 + 1)))
    else
      some (.inr (.inr (y10)))
theorem ZlS {F : Nat} (xs : List (List Int))  (s_ : _) : Le (ZeJ F xs s_) (ZcH xs s_) := by
  obtain ⟨y10, y53⟩ := s_
  unfold ZeJ ZcH
  try simp only [← cw_ok, ← Zl, ← Zj, ← Zd, ← Zb, ← Zc, ← Zk, ← Zm, GT.gt, GE.ge]
  repeat' (with_reducible first | exact Le.rfl | assumption | exact Zg _ _ _ | exact Zf _ _ _ _ | (refine le_if ?_ ?_) | (refine Zh ?_ fun _ => ?_) | (refine Zi ?_) | (refine Ze fun _ => ?_))
noncomputable def Zgc (F : Nat) (y0 : Za) : Int × List (List Int) → Option ((Int × List (List Int)) ⊕ (List Int))
  | (y19, xs) =>
    bif lti (y19) ((y0.Blocks.length : Int)) then
      fbind (cIdx y0.Blocks y19) fun e21 =>
      lpF F (Zfy F y19 e21) (0, xs)
    else
      lpF F (ZeJ F xs) (([] : List Int), 0)
theorem Zlq {F : Nat} (y0 : Za)  (s_ : _) : Le (Zgc F y0 s_) (Zb0 y0 s_) := by
  obtain ⟨y19, xs⟩ := s_
  unfold Zgc Zb0
  try simp only [← cw_ok, ← Zl, ← Zj, ← Zd, ← Zb, ← Zc, ← Zk, ← Zm, GT.gt, GE.ge]
  repeat' (with_reducible first | exact Le.rfl | assumption | exact Zmg _ _ _ | exact ZlS _ _ | exact Zg _ _ _ | exact Zf _ _ _ _ | (refine le_if ?_ ?_) | (refine Zh ?_ fun _ => ?_) | (refine Zi ?_) | (refine Ze fun _ => ?_))
noncomputable def ZdF (F : Nat) (y0 : Za) : Option (List Int) :=
  fbind (Zdl F y0.Points) fun r15 =>
  lpF F (Zgc F y0) (0, r15)
theorem Zh3 {F : Nat} (y0 : Za)  : Le (ZdF F y0) (Zaw y0) := by
  unfold ZdF Zaw
  try simp only [← cw_ok, ← Zl, ← Zj, ← Zd, ← Zb, ← Zc, ← Zk, ← Zm, GT.gt, GE.ge]
  repeat' (with_reducible first | exact Le.rfl | assumption | exact ZjL _ | exact Zlq _ _ | exact Zg _ _ _ | exact Zf _ _ _ _ | (refine le_if ?_ ?_) | (refine Zh ?_ fun _ => ?_) | (refine Zi ?_) | (refine Ze fun _ => ?_))
noncomputable def ZgZ (F : Nat) (s0 s1 : List Int) : Int → Option ((Int) ⊕ (Bool))
  | y13 =>
    bif lti (y13) ((s0.length : Int)) then
      fbind (cIdx s0 y13) fun e18 =>
      fbind (cIdx s1 y13) fun e22 =>
      bif !eqi (e18) (e22) then
        some (.inr (false))
      else
        some (.inl (cw (y13 + 1)))
    else
      some (.inr (true))
theorem ZoD {F : Nat} (s0 s1 : List Int)  (s_ : _) : Le (ZgZ F s0 s1 s_) (Zej s0 s1 s_) := by
  unfold ZgZ Zej
  try simp only [← cw_ok, ← Zl, ← Zj, ← Zd, ← Zb, ← Zc, ← Zk, ← Zm, GT.gt, GE.ge]
  repeat' (with_reducible first | exact Le.rfl | assumption | exact Zg _ _ _ | exact Zf _ _ _ _ | (refine le_if ?_ ?_) | (refine Zh ?_ fun _ => ?_) | (refine Zi ?_) | (refine Ze fun _ => ?_))
noncomputable def Zev (F : Nat) (s0 s1 : List Int) : Option Bool :=
  bif !eqi ((s0.length : Int)) ((s1.length : Int)) then
    some (false)
  else
    lpF F (ZgZ F s0 s1) (0)
theorem ZiW {F : Nat} (s0 s1 : List Int)  : Le (Zev F s0 s1) (Zat s0 s1) := by
  unfold Zev Zat
  try simp only [← cw_ok, ← Zl, ← Zj, ← Zd, ← Zb, ← Zc, ← Zk, ← Zm, GT.gt, GE.ge]
  repeat' (with_reducible first | exact Le.rfl | assumption | exact ZoD _ _ _ | exact Zg _ _ _ | exact Zf _ _ _ _ | (refine le_if ?_ ?_) | (refine Zh ?_ fun _ => ?_) | (refine Zi ?_) | (refine Ze fun _ => ?_))
noncomputable def Zfl (F : Nat) (c0 y1 : Int) : Option Bool :=
  some (lti (y1) (c0))
theorem Zlm {F : Nat} (c0 y1 : Int)  : Le (Zfl F c0 y1) (Zbq c0 y1) := by
  unfold Zfl Zbq
  try simp only [← cw_ok, ← Zl, ← Zj, ← Zd, ← Zb, ← Zc, ← Zk, ← Zm, GT.gt, GE.ge]
  repeat' (with_reducible first | exact Le.rfl | assumption | exact Zg _ _ _ | exact Zf _ _ _ _ | (refine le_if ?_ ?_) | (refine Zh ?_ fun _ => ?_) | (refine Zi ?_) | (refine Ze fun _ => ?_))
noncomputable def ZgK (F : Nat) (d0 : Za) (k1 lambda2 : Int) : Int → Option ((Int) ⊕ (Bool))
  | y12 =>
    bif lti (y12) ((d0.Blocks.length : Int)) then
      fbind (cIdx d0.Blocks y12) fun e15 =>
      fbind (ZcI F e15) fun r18 =>
      bif !eqi (r18) (k1) then
        some (.inr (false))
      else
        bif lti (0) (y12) then
          fbind (cIdx d0.Blocks (cw (y12 - 1))) fun e29 =>
          fbind (Zev F e29 e15) fun r32 =>
          bif r32 then
            some (.inr (false))
          else
            some (.inl (cw (y12 + 1)))
        else
          some (.inl (cw (y12 + 1)))
    else
      bif lti (0) (lambda2) then
        fbind (ZdF F (Za.mk d0.Points d0.Blocks)) fun r40 =>
        fbind (Zeb F r40 (fun y0 => Zfl F y0 lambda2)) fun r42 =>
        some (.inr (!r42))
      else
        some (.inr (false))
theorem Zke {F : Nat} (d0 : Za) (k1 lambda2 : Int)  (s_ : _) : Le (ZgK F d0 k1 lambda2 s_) (Zdk d0 k1 lambda2 s_) := by
  unfold ZgK Zdk
  try simp only [← cw_ok, ← Zl, ← Zj, ← Zd, ← Zb, ← Zc, ← Zk, ← Zm, GT.gt, GE.ge]
  repeat' (with_reducible first | exact Le.rfl | assumption | exact Zhw _ | exact ZiW _ _ | exact Zh3 _ | (refine Zi1 _ _ _ ?_; intros) | exact Zlm _ _ | exact Zg _ _ _ | exact Zf _ _ _ _ | (refine le_if ?_ ?_) | (refine Zh ?_ fun _ => ?_) | (refine Zi ?_) | (refine Ze fun _ => ?_))
noncomputable def Zei (F : Nat) (d0 : Za) (k1 lambda2 : Int) : Option Bool :=
  lpF F (ZgK F d0 k1 lambda2) (0)
theorem Zjn {F : Nat} (d0 : Za) (k1 lambda2 : Int)  : Le (Zei F d0 k1 lambda2) (Zau d0 k1 lambda2) := by
  unfold Zei Zau
  try simp only [← cw_ok, ← Zl, ← Zj, ← Zd, ← Zb, ← Zc, ← Zk, ← Zm, GT.gt, GE.ge]
  repeat' (with_reducible first | exact Le.rfl | assumption | exact Zke _ _ _ _ | exact Zg _ _ _ | exact Zf _ _ _ _ | (refine le_if ?_ ?_) | (refine Zh ?_ fun _ => ?_) | (refine Zi ?_) | (refine Ze fun _ => ?_))
noncomputable def ZdS (F : Nat) (v0 k1 lambda2 : Int) : Option Bool :=
  fbind (ZJ F v0 2 32) fun r8 =>
  bif r8 then
    fbind (ZJ F k1 2 v0) fun r12 =>
    bif r12 then
      fbind (ZJ F lambda2 1 128) fun r16 =>
      some (r16)
    else
      some (false)
  else
    some (false)
theorem Zj1 {F : Nat} (v0 k1 lambda2 : Int)  : Le (ZdS F v0 k1 lambda2) (ZaZ v0 k1 lambda2) := by
  unfold ZdS ZaZ
  try simp only [← cw_ok, ← Zl, ← Zj, ← Zd, ← Zb, ← Zc, ← Zk, ← Zm, GT.gt, GE.ge]
  repeat' (with_reducible first | exact Le.rfl | assumption | exact ZU _ _ _ | exact Zg _ _ _ | exact Zf _ _ _ _ | (refine le_if ?_ ?_) | (refine Zh ?_ fun _ => ?_) | (refine Zi ?_) | (refine Ze fun _ => ?_))
noncomputable def ZgP (F : Nat) (by2 y12 e15 : Int) (l20 : List Int) : Int × List (List Int) → Option ((Int × List (List Int)) ⊕ ((Int × List (List Int)) ⊕ (List (List Int))))
  | (y22, xs_2) =>
    bif lti (y22) ((l20.length : Int)) then
      fbind (cIdx l20 y22) fun e24 =>
      fbind (cIdx xs_2 e15) fun e28 =>
      fbind (cIdx e28 e24) fun e31 =>
      fbind (cIdx e28 e24) fun e35 =>
      some (.inl (cw (y22 + 1), (xs_2.set (e15 : Int).toNat (e28.set (e24 : Int).toNat (cw (e31 + by2))))))
    else
      some (.inr (.inl (cw (y12 + 1), xs_2)))
theorem Zn3 {F : Nat} (by2 y12 e15 : Int) (l20 : List Int)  (s_ : _) : Le (ZgP F by2 y12 e15 l20 s_) (Zbl by2 y12 e15 l20 s_) := by
  obtain ⟨y22, xs_2⟩ := s_
  unfold ZgP Zbl
  try simp only [← cw_ok, ← Zl, ← Zj, ← Zd, ← Zb, ← Zc, ← Zk, ← Zm, GT.gt, GE.ge]
  repeat' (with_reducible first | exact Le.rfl | assumption | exact Zg _ _ _ | exact Zf _ _ _ _ | (refine le_if ?_ ?_) | (refine Zh ?_ fun _ => ?_) | (refine Zi ?_) | (refine Ze fun _ => ?_))
noncomputable def ZhP (F : Nat) (block1 : List Int) (by2 : Int) : Int × List (List Int) → Option ((Int × List (List Int)) ⊕ (List (List Int)))
  | (y12, xs) =>
    bif lti (y12) ((block1.length : Int)) then
      fbind (cIdx block1 y12) fun e15 =>
      fbind (cSl block1 (cw (y12 + 1)) (block1.length : Int)) fun l20 =>
      lpF F (ZgP F by2 y12 e15 l20) (0, xs)
    else
      some (.inr (xs))
theorem Zom {F : Nat} (block1 : List Int) (by2 : Int)  (s_ : _) : Le (ZhP F block1 by2 s_) (ZbC block1 by2 s_) := by
  obtain ⟨y12, xs⟩ := s_
  unfold ZhP ZbC
  try simp only [← cw_ok, ← Zl, ← Zj, ← Zd, ← Zb, ← Zc, ← Zk, ← Zm, GT.gt, GE.ge]
  repeat' (with_reducible first | exact Le.rfl | assumption | exact Zn3 _ _ _ _ _ | exact Zg _ _ _ | exact Zf _ _ _ _ | (refine le_if ?_ ?_) | (refine Zh ?_ fun _ => ?_) | (refine Zi ?_) | (refine Ze fun _ => ?_))
noncomputable def ZaN (F : Nat) (l0 : List (List Int)) (block1 : List Int) (by2 : Int) : Option (List (List Int)) :=
  lpF F (ZhP F block1 by2) (0, l0)
theorem ZgM {F : Nat} (l0 : List (List Int)) (block1 : List Int) (by2 : Int)  : Le (ZaN F l0 block1 by2) (ZX l0 block1 by2) := by
  unfold ZaN ZX
  try simp only [← cw_ok, ← Zl, ← Zj, ← Zd, ← Zb, ← Zc, ← Zk, ← Zm, GT.gt, GE.ge]
  repeat' (with_reducible first | exact Le.rfl | assumption | exact Zom _ _ _ | exact Zg _ _ _ | exact Zf _ _ _ _ | (refine le_if ?_ ?_) | (refine Zh ?_ fun _ => ?_) | (refine Zi ?_) | (refine Ze fun _ => ?_))
noncomputable def ZgB (F : Nat) (d0 : Za) : Int × List (List Int) → Option ((Int × List (List Int)) ⊕ (List (List Int)))
  | (y12, xs) =>
    bif lti (y12) ((d0.Blocks.length : Int)) then
      fbind (cIdx d0.Blocks y12) fun e14 =>
      fbind (ZaN F xs e14 1) fun r18 =>
      some (.inl (cw (y12 + 1), r18))
    else
      some (.inr (xs))
theorem ZpM {F : Nat} (d0 : Za)  (s_ : _) : Le (ZgB F d0 s_) (Zcb d0 s_) := by
  obtain ⟨y12, xs⟩ := s_
  unfold ZgB Zcb
  try simp only [← cw_ok, ← Zl, ← Zj, ← Zd, ← Zb, ← Zc, ← Zk, ← Zm, GT.gt, GE.ge]
  repeat' (with_reducible first | exact Le.rfl | assumption | exact ZgM _ _ _ | exact Zg _ _ _ | exact Zf _ _ _ _ | (refine le_if ?_ ?_) | (refine Zh ?_ fun _ => ?_) | (refine Zi ?_) | (refine Ze fun _ => ?_))
noncomputable def ZdQ (F : Nat) (d0 : Za) : Option (List (List Int)) :=
  fbind (Zdl F d0.Points) fun r8 =>
  lpF F (ZgB F d0) (0, r8)
theorem Zix {F : Nat} (d0 : Za)  : Le (ZdQ F d0) (ZaG d0) := by
  unfold ZdQ ZaG
  try simp only [← cw_ok, ← Zl, ← Zj, ← Zd, ← Zb, ← Zc, ← Zk, ← Zm, GT.gt, GE.ge]
  repeat' (with_reducible first | exact Le.rfl | assumption | exact ZjL _ | exact ZpM _ _ | exact Zg _ _ _ | exact Zf _ _ _ _ | (refine le_if ?_ ?_) | (refine Zh ?_ fun _ => ?_) | (refine Zi ?_) | (refine Ze fun _ => ?_))
noncomputable def ZfD (F : Nat) (lists0 : List (List Int)) : List (List Int) × Int → Option ((List (List Int) × Int) ⊕ (List (List Int)))
  | (out3, y8) =>
    bif lti (y8) ((lists0.length : Int)) then
      fbind (cIdx lists0 y8) fun e10 =>
      fbind (Za4 F e10) fun r14 =>
      fbind (cApp 24 out3 [r14]) fun l16 =>
      some (.inl (l16, cw (y8 + 1)))
    else
      some (.inr (out3))
theorem ZkB {F : Nat} (lists0 : List (List Int))  (s_ : _) : Le (ZfD F lists0 s_) (Zbo lists0 s_) := by
  obtain ⟨out3, y8⟩ := s_
  unfold ZfD Zbo
  try simp only [← cw_ok, ← Zl, ← Zj, ← Zd, ← Zb, ← Zc, ← Zk, ← Zm, GT.gt, GE.ge]
  repeat' (with_reducible first | exact Le.rfl | assumption | exact ZfN _ | exact Zg _ _ _ | exact Zf _ _ _ _ | (refine le_if ?_ ?_) | (refine Zh ?_ fun _ => ?_) | (refine Zi ?_) | (refine Ze fun _ => ?_))
noncomputable def ZcP (F : Nat) (lists0 : List (List Int)) : Option (List (List Int)) :=
  lpF F (ZfD F lists0) (([] : List (List Int)), 0)
theorem Zfx {F : Nat} (lists0 : List (List Int))  : Le (ZcP F lists0) (Zae lists0) := by
  unfold ZcP Zae
  try simp only [← cw_ok, ← Zl, ← Zj, ← Zd, ← Zb, ← Zc, ← Zk, ← Zm, GT.gt, GE.ge]
  repeat' (with_reducible first | exact Le.rfl | assumption | exact ZkB _ _ | exact Zg _ _ _ | exact Zf _ _ _ _ | (refine le_if ?_ ?_) | (refine Zh ?_ fun _ => ?_) | (refine Zi ?_) | (refine Ze fun _ => ?_))
noncomputable def Zhb (F : Nat) (l0 y1 : List Int) : Option Bool :=
  fbind (Zev F l0 y1) fun r6 =>
  some (r6)
theorem ZmJ {F : Nat} (l0 y1 : List Int)  : Le (Zhb F l0 y1) (ZcM l0 y1) := by
  unfold Zhb ZcM
  try simp only [← cw_ok, ← Zl, ← Zj, ← Zd, ← Zb, ← Zc, ← Zk, ← Zm, GT.gt, GE.ge]
  repeat' (with_reducible first | exact Le.rfl | assumption | exact ZiW _ _ | exact Zg _ _ _ | exact Zf _ _ _ _ | (refine le_if ?_ ?_) | (refine Zh ?_ fun _ => ?_) | (refine Zi ?_) | (refine Ze fun _ => ?_))
noncomputable def Zfe (F : Nat) (lists0 : List (List Int)) (list1 : List Int) : Option Bool :=
  fbind (ZcA F lists0 (fun y0 => Zhb F y0 list1)) fun r7 =>
  some (r7)
theorem Zj4 {F : Nat} (lists0 : List (List Int)) (list1 : List Int)  : Le (Zfe F lists0 list1) (ZbW lists0 list1) := by
  unfold Zfe ZbW
  try simp only [← cw_ok, ← Zl, ← Zj, ← Zd, ← Zb, ← Zc, ← Zk, ← Zm, GT.gt, GE.ge]
  repeat' (with_reducible first | exact Le.rfl | assumption | (refine Zgu _ _ _ ?_; intros) | exact ZmJ _ _ | exact Zg _ _ _ | exact Zf _ _ _ _ | (refine le_if ?_ ?_) | (refine Zh ?_ fun _ => ?_) | (refine Zi ?_) | (refine Ze fun _ => ?_))
noncomputable def ZeH (F : Nat) (l0 : List (List Int)) (y12 e15 : Int) (l20 : List Int) : Int × Int → Option ((Int × Int) ⊕ ((Int × Int) ⊕ (Int)))
  | (most5_2, y22) =>
    bif lti (y22) ((l20.length : Int)) then
      fbind (cIdx l20 y22) fun e24 =>
      fbind (cIdx l0 e15) fun e29 =>
      fbind (cIdx e29 e24) fun e32 =>
      some (.inl (if (e32 : Int) > most5_2 then e32 else most5_2, cw (y22 + 1)))
    else
      some (.inr (.inl (most5_2, cw (y12 + 1))))
theorem Zo1 {F : Nat} (l0 : List (List Int)) (y12 e15 : Int) (l20 : List Int)  (s_ : _) : Le (ZeH F l0 y12 e15 l20 s_) (Zd6 l0 y12 e15 l20 s_) := by
  obtain ⟨most5_2, y22⟩ := s_
  unfold ZeH Zd6
  try simp only [← cw_ok, ← Zl, ← Zj, ← Zd, ← Zb, ← Zc, ← Zk, ← Zm, GT.gt, GE.ge]
  repeat' (with_reducible first | exact Le.rfl | assumption | exact Zg _ _ _ | exact Zf _ _ _ _ | (refine le_if ?_ ?_) | (refine Zh ?_ fun _ => ?_) | (refine Zi ?_) | (refine Ze fun _ => ?_))
noncomputable def Ze2 (F : Nat) (l0 : List (List Int)) (block1 : List Int) : Int × Int → Option ((Int × Int) ⊕ (Int))
  | (most5, y12) =>
    bif lti (y12) ((block1.length : Int)) then
      fbind (cIdx block1 y12) fun e15 =>
      fbind (cSl block1 (cw (y12 + 1)) (block1.length : Int)) fun l20 =>
      lpF F (ZeH F l0 y12 e15 l20) (most5, 0)
    else
      some (.inr (most5))
theorem ZlO {F : Nat} (l0 : List (List Int)) (block1 : List Int)  (s_ : _) : Le (Ze2 F l0 block1 s_) (ZcZ l0 block1 s_) := by
  obtain ⟨most5, y12⟩ := s_
  unfold Ze2 ZcZ
  try simp only [← cw_ok, ← Zl, ← Zj, ← Zd, ← Zb, ← Zc, ← Zk, ← Zm, GT.gt, GE.ge]
  repeat' (with_reducible first | exact Le.rfl | assumption | exact Zo1 _ _ _ _ _ | exact Zg _ _ _ | exact Zf _ _ _ _ | (refine le_if ?_ ?_) | (refine Zh ?_ fun _ => ?_) | (refine Zi ?_) | (refine Ze fun _ => ?_))
noncomputable def Zeu (F : Nat) (l0 : List (List Int)) (block1 : List Int) : Option Int :=
  lpF F (Ze2 F l0 block1) (0, 0)
theorem ZjA {F : Nat} (l0 : List (List Int)) (block1 : List Int)  : Le (Zeu F l0 block1) (Za2 l0 block1) := by
  unfold Zeu Za2
  try simp only [← cw_ok, ← Zl, ← Zj, ← Zd, ← Zb, ← Zc, ← Zk, ← Zm, GT.gt, GE.ge]
  repeat' (with_reducible first | exact Le.rfl | assumption | exact ZlO _ _ _ | exact Zg _ _ _ | exact Zf _ _ _ _ | (refine le_if ?_ ?_) | (refine Zh ?_ fun _ => ?_) | (refine Zi ?_) | (refine Ze fun _ => ?_))
noncomputable def Zgs (F : Nat) (s0 : Zn) (y13 : Int) (e16 : List Int) : Int → Option ((Int) ⊕ ((Int) ⊕ (Int × Int × Bool)))
  | b7 =>
    bif lti (b7) ((e16.length : Int)) then
      fbind (cIdx e16 b7) fun e28 =>
      bif lti (e28) (s0.qlambda) then
        some (.inr (.inr ((y13, b7, true))))
      else
        some (.inl (cw (b7 + 1)))
    else
      some (.inr (.inl (cw (y13 + 1))))
theorem Zl0 {F : Nat} (s0 : Zn) (y13 : Int) (e16 : List Int)  (s_ : _) : Le (Zgs F s0 y13 e16 s_) (Zc4 s0 y13 e16 s_) := by
  unfold Zgs Zc4
  try simp only [← cw_ok, ← Zl, ← Zj, ← Zd, ← Zb, ← Zc, ← Zk, ← Zm, GT.gt, GE.ge]
  repeat' (with_reducible first | exact Le.rfl | assumption | exact Zg _ _ _ | exact Zf _ _ _ _ | (refine le_if ?_ ?_) | (refine Zh ?_ fun _ => ?_) | (refine Zi ?_) | (refine Ze fun _ => ?_))
noncomputable def ZgL (F : Nat) (s0 : Zn) : Int → Option ((Int) ⊕ (Int × Int × Bool))
  | y13 =>
    bif lti (y13) ((s0.qload.length : Int)) then
      fbind (cIdx s0.qload y13) fun e16 =>
      lpF F (Zgs F s0 y13 e16) (cw (y13 + 1))
    else
      some (.inr ((0, 0, false)))
theorem ZnK {F : Nat} (s0 : Zn)  (s_ : _) : Le (ZgL F s0 s_) (ZdA s0 s_) := by
  unfold ZgL ZdA
  try simp only [← cw_ok, ← Zl, ← Zj, ← Zd, ← Zb, ← Zc, ← Zk, ← Zm, GT.gt, GE.ge]
  repeat' (with_reducible first | exact Le.rfl | assumption | exact Zl0 _ _ _ _ | exact Zg _ _ _ | exact Zf _ _ _ _ | (refine le_if ?_ ?_) | (refine Zh ?_ fun _ => ?_) | (refine Zi ?_) | (refine Ze fun _ => ?_))
noncomputable def Zf3 (F : Nat) (s0 : Zn) : Option (Int × Int × Bool) :=
  lpF F (ZgL F s0) (0)
theorem Znf {F : Nat} (s0 : Zn)  : Le (Zf3 F s0) (Za8 s0) := by
  unfold Zf3 Za8
  try simp only [← cw_ok, ← Zl, ← Zj, ← Zd, ← Zb, ← Zc, ← Zk, ← Zm, GT.gt, GE.ge]
  repeat' (with_reducible first | exact Le.rfl | assumption | exact ZnK _ _ | exact Zg _ _ _ | exact Zf _ _ _ _ | (refine le_if ?_ ?_) | (refine Zh ?_ fun _ => ?_) | (refine Zi ?_) | (refine Ze fun _ => ?_))
noncomputable def Zg2 (F : Nat) (rf_impl_blocker_search : Zn → Int → Int → Int → Option Zn) (y0 : Zn) (r48 : Int × Int × Bool) (y12 q_3 : Int) (q_4 : Bool) (q_5 : Int) (q_6 : Bool) (q_7 q_8 : Int) (xs : List (List Int)) (xs_2 : List Bool) (xs_3 xs_4 : List (List Int)) (e99 : List Int) : Option ((Int × Int × Bool × Int × Bool × Int × Int × List (List Int) × List Bool × List (List Int) × List (List Int)) ⊕ (Zn)) :=
  fbind (cIdx xs_2 y12) fun e138 =>
  fbind (ZaN F xs e99 1) fun r144 =>
  fbind (cApp 24 xs_3 [e99]) fun l152 =>
  fbind (rf_impl_blocker_search (Zn.mk (Zs.mk q_3 q_4) q_5 q_6 r144 y0.qsets (xs_2.set (y12 : Int).toNat true) l152 q_7 q_8 xs_4) y12 r48.1 r48.2.1) fun r159 =>
  fbind (cSl r159.qblocks 0 (cw ((r159.qblocks.length : Int) - 1))) fun l171 =>
  fbind (ZaN F r159.qload e99 (-1)) fun r179 =>
  fbind (cIdx r159.qused y12) fun e185 =>
  some (.inl (cw (y12 + 1), r159.qcounter.qleft, r159.qcounter.qspent, r159.qlambda, r159.qfirst, r159.qnodes, r159.qcount, r179, (r159.qused.set (y12 : Int).toNat false), l171, r159.qfound))
theorem Zmy {F : Nat} (rf_impl_blocker_search : Zn → Int → Int → Int → Option Zn) (y0 : Zn) (r48 : Int × Int × Bool) (y12 q_3 : Int) (q_4 : Bool) (q_5 : Int) (q_6 : Bool) (q_7 q_8 : Int) (xs : List (List Int)) (xs_2 : List Bool) (xs_3 xs_4 : List (List Int)) (e99 : List Int) (rf_impl_blocker_search' : Zn → Int → Int → Int → Option Zn) (hrf_impl_blocker_search : ∀ u0 u1 u2 u3, Le (rf_impl_blocker_search u0 u1 u2 u3) (rf_impl_blocker_search' u0 u1 u2 u3)) : Le (Zg2 F rf_impl_blocker_search y0 r48 y12 q_3 q_4 q_5 q_6 q_7 q_8 xs xs_2 xs_3 xs_4 e99) (ZcO rf_impl_blocker_search' y0 r48 y12 q_3 q_4 q_5 q_6 q_7 q_8 xs xs_2 xs_3 xs_4 e99) := by
  unfold Zg2 ZcO
  try simp only [← cw_ok, ← Zl, ← Zj, ← Zd, ← Zb, ← Zc, ← Zk, ← Zm, GT.gt, GE.ge]
  repeat' (with_reducible first | exact Le.rfl | assumption | exact ZgM _ _ _ | exact Zg _ _ _ | exact Zf _ _ _ _ | (refine le_if ?_ ?_) | (refine Zh ?_ fun _ => ?_) | (refine Zi ?_) | (refine Ze fun _ => ?_))
  all_goals (first | exact hrf_impl_blocker_search _ _ _ _ | skip)
noncomputable def ZfH (F : Nat) (rf_impl_blocker_search : Zn → Int → Int → Int → Option Zn) (y0 : Zn) (r48 : Int × Int × Bool) : Int × Int × Bool × Int × Bool × Int × Int × List (List Int) × List Bool × List (List Int) × List (List Int) → Option ((Int × Int × Bool × Int × Bool × Int × Int × List (List Int) × List Bool × List (List Int) × List (List Int)) ⊕ (Zn))
  | (y12, q_3, q_4, q_5, q_6, q_7, q_8, xs, xs_2, xs_3, xs_4) =>
    bif lti (y12) ((y0.qsets.length : Int)) then
      fbind (cIdx y0.qsets y12) fun e99 =>
      fbind (cIdx xs_2 y12) fun e106 =>
      bif e106 then
        some (.inl (cw (y12 + 1), q_3, q_4, q_5, q_6, q_7, q_8, xs, xs_2, xs_3, xs_4))
      else
        fbind (Zcr F e99 r48.1) fun r111 =>
        bif !r111 then
          some (.inl (cw (y12 + 1), q_3, q_4, q_5, q_6, q_7, q_8, xs, xs_2, xs_3, xs_4))
        else
          fbind (Zcr F e99 r48.2.1) fun r117 =>
          bif !r117 then
            some (.inl (cw (y12 + 1), q_3, q_4, q_5, q_6, q_7, q_8, xs, xs_2, xs_3, xs_4))
          else
            fbind (Zeu F xs e99) fun r126 =>
            bif lei (q_5) (r126) then
              some (.inl (cw (y12 + 1), q_3, q_4, q_5, q_6, q_7, q_8, xs, xs_2, xs_3, xs_4))
            else
              Zg2 F rf_impl_blocker_search y0 r48 y12 q_3 q_4 q_5 q_6 q_7 q_8 xs xs_2 xs_3 xs_4 e99
    else
      some (.inr ((Zn.mk (Zs.mk q_3 q_4) q_5 q_6 xs y0.qsets xs_2 xs_3 q_7 q_8 xs_4)))
theorem ZkX {F : Nat} (rf_impl_blocker_search : Zn → Int → Int → Int → Option Zn) (y0 : Zn) (r48 : Int × Int × Bool) (rf_impl_blocker_search' : Zn → Int → Int → Int → Option Zn) (hrf_impl_blocker_search : ∀ u0 u1 u2 u3, Le (rf_impl_blocker_search u0 u1 u2 u3) (rf_impl_blocker_search' u0 u1 u2 u3)) (s_ : _) : Le (ZfH F rf_impl_blocker_search y0 r48 s_) (Za9 rf_impl_blocker_search' y0 r48 s_) := by
  obtain ⟨y12, q_3, q_4, q_5, q_6, q_7, q_8, xs, xs_2, xs_3, xs_4⟩ := s_
  unfold ZfH Za9
  try simp only [← cw_ok, ← Zl, ← Zj, ← Zd, ← Zb, ← Zc, ← Zk, ← Zm, GT.gt, GE.ge]
  repeat' (with_reducible first | exact Le.rfl | assumption | exact ZjR _ _ | exact ZjA _ _ | (refine Zmy _ _ _ _ _ _ _ _ _ _ _ _ _ _ _ _ ?_; intros) | exact Zg _ _ _ | exact Zf _ _ _ _ | (refine le_if ?_ ?_) | (refine Zh ?_ fun _ => ?_) | (refine Zi ?_) | (refine Ze fun _ => ?_))
  all_goals (first | exact hrf_impl_blocker_search _ _ _ _ | skip)
noncomputable def Zbh (F : Nat) (rf_impl_blocker_search : Zn → Int → Int → Int → Option Zn) (y0 : Zn) (q : Int) (q_2 : Bool) (r48 : Int × Int × Bool) (y11 : Int) : Option (Zn) :=
  lpF F (ZfH F rf_impl_blocker_search y0 r48) (y11, q, q_2, y0.qlambda, y0.qfirst, cw (y0.qnodes + 1), y0.qcount, y0.qload, y0.qused, y0.qblocks, y0.qfound)
theorem Zmd {F : Nat} (rf_impl_blocker_search : Zn → Int → Int → Int → Option Zn) (y0 : Zn) (q : Int) (q_2 : Bool) (r48 : Int × Int × Bool) (y11 : Int) (rf_impl_blocker_search' : Zn → Int → Int → Int → Option Zn) (hrf_impl_blocker_search : ∀ u0 u1 u2 u3, Le (rf_impl_blocker_search u0 u1 u2 u3) (rf_impl_blocker_search' u0 u1 u2 u3)) : Le (Zbh F rf_impl_blocker_search y0 q q_2 r48 y11) (Zak rf_impl_blocker_search' y0 q q_2 r48 y11) := by
  unfold Zbh Zak
  try simp only [← cw_ok, ← Zl, ← Zj, ← Zd, ← Zb, ← Zc, ← Zk, ← Zm, GT.gt, GE.ge]
  repeat' (with_reducible first | exact Le.rfl | assumption | (refine ZkX _ _ _ _ ?_ _; intros) | exact Zg _ _ _ | exact Zf _ _ _ _ | (refine le_if ?_ ?_) | (refine Zh ?_ fun _ => ?_) | (refine Zi ?_) | (refine Ze fun _ => ?_))
  all_goals (first | exact hrf_impl_blocker_search _ _ _ _ | skip)
noncomputable def Zel (F : Nat) (rf_impl_blocker_search : Zn → Int → Int → Int → Option Zn) (y0 : Zn) (y1 y2 y3 q : Int) (q_2 : Bool) : Option (Zn) :=
  fbind (Zf3 F (Zn.mk (Zs.mk q q_2) y0.qlambda y0.qfirst y0.qload y0.qsets y0.qused y0.qblocks (cw (y0.qnodes + 1)) y0.qcount y0.qfound)) fun r48 =>
  bif !r48.2.2 then
    bif eqi (cw (y0.qcount + 1)) (1) then
      fbind (ZcP F y0.qblocks) fun r71 =>
      some ((Zn.mk (Zs.mk q q_2) y0.qlambda y0.qfirst y0.qload y0.qsets y0.qused y0.qblocks (cw (y0.qnodes + 1)) (cw (y0.qcount + 1)) r71))
    else
      some ((Zn.mk (Zs.mk q q_2) y0.qlambda y0.qfirst y0.qload y0.qsets y0.qused y0.qblocks (cw (y0.qnodes + 1)) (cw (y0.qcount + 1)) y0.qfound))
  else
    bif eqi (r48.1) (y2) then
      bif eqi (r48.2.1) (y3) then
        Zbh F rf_impl_blocker_search y0 q q_2 r48 (cw (y1 + 1))
      else
        Zbh F rf_impl_blocker_search y0 q q_2 r48 0
    else
      Zbh F rf_impl_blocker_search y0 q q_2 r48 0
theorem Zpc {F : Nat} (rf_impl_blocker_search : Zn → Int → Int → Int → Option Zn) (y0 : Zn) (y1 y2 y3 q : Int) (q_2 : Bool) (rf_impl_blocker_search' : Zn → Int → Int → Int → Option Zn) (hrf_impl_blocker_search : ∀ u0 u1 u2 u3, Le (rf_impl_blocker_search u0 u1 u2 u3) (rf_impl_blocker_search' u0 u1 u2 u3)) : Le (Zel F rf_impl_blocker_search y0 y1 y2 y3 q q_2) (Zax rf_impl_blocker_search' y0 y1 y2 y3 q q_2) := by
  unfold Zel Zax
  try simp only [← cw_ok, ← Zl, ← Zj, ← Zd, ← Zb, ← Zc, ← Zk, ← Zm, GT.gt, GE.ge]
  repeat' (with_reducible first | exact Le.rfl | assumption | exact Znf _ | exact Zfx _ | (refine Zmd _ _ _ _ _ _ _ ?_; intros) | exact Zg _ _ _ | exact Zf _ _ _ _ | (refine le_if ?_ ?_) | (refine Zh ?_ fun _ => ?_) | (refine Zi ?_) | (refine Ze fun _ => ?_))
  all_goals (first | exact hrf_impl_blocker_search _ _ _ _ | skip)
noncomputable def cq_impl_blocker_search (F : Nat) (rf_impl_blocker_search : Zn → Int → Int → Int → Option Zn) (y0 : Zn) (y1 y2 y3 : Int) : Option Zn :=
  bif y0.qcounter.qspent then
    some ((Zn.mk (Zs.mk y0.qcounter.qleft y0.qcounter.qspent) y0.qlambda y0.qfirst y0.qload y0.qsets y0.qused y0.qblocks y0.qnodes y0.qcount y0.qfound))
  else
    bif y0.qfirst then
      bif lti (0) (y0.qcount) then
        some ((Zn.mk (Zs.mk y0.qcounter.qleft y0.qcounter.qspent) y0.qlambda y0.qfirst y0.qload y0.qsets y0.qused y0.qblocks y0.qnodes y0.qcount y0.qfound))
      else
        fbind (ZaB F (Zs.mk y0.qcounter.qleft y0.qcounter.qspent)) fun r36 =>
        bif !r36.1 then
          some ((Zn.mk (Zs.mk r36.2.qleft r36.2.qspent) y0.qlambda y0.qfirst y0.qload y0.qsets y0.qused y0.qblocks y0.qnodes y0.qcount y0.qfound))
        else
          Zel F rf_impl_blocker_search y0 y1 y2 y3 r36.2.qleft r36.2.qspent
    else
      fbind (ZaB F (Zs.mk y0.qcounter.qleft y0.qcounter.qspent)) fun r36_2 =>
      bif !r36_2.1 then
        some ((Zn.mk (Zs.mk r36_2.2.qleft r36_2.2.qspent) y0.qlambda y0.qfirst y0.qload y0.qsets y0.qused y0.qblocks y0.qnodes y0.qcount y0.qfound))
      else
        Zel F rf_impl_blocker_search y0 y1 y2 y3 r36_2.2.qleft r36_2.2.qspent
theorem leq_impl_blocker_search {F : Nat} (rf_impl_blocker_search : Zn → Int → Int → Int → Option Zn) (y0 : Zn) (y1 y2 y3 : Int) (rf_impl_blocker_search' : Zn → Int → Int → Int → Option Zn) (hrf_impl_blocker_search : ∀ u0 u1 u2 u3, Le (rf_impl_blocker_search u0 u1 u2 u3) (rf_impl_blocker_search' u0 u1 u2 u3)) : Le (cq_impl_blocker_search F rf_impl_blocker_search y0 y1 y2 y3) (q_impl_blocker_search rf_impl_blocker_search' y0 y1 y2 y3) := by
  unfold cq_impl_blocker_search q_impl_blocker_search
  try simp only [← cw_ok, ← Zl, ← Zj, ← Zd, ← Zb, ← Zc, ← Zk, ← Zm, GT.gt, GE.ge]
  repeat' (with_reducible first | exact Le.rfl | assumption | exact Zii _ | (refine Zpc _ _ _ _ _ _ _ _ ?_; intros) | exact Zg _ _ _ | exact Zf _ _ _ _ | (refine le_if ?_ ?_) | (refine Zh ?_ fun _ => ?_) | (refine Zi ?_) | (refine Ze fun _ => ?_))
  all_goals (first | exact hrf_impl_blocker_search _ _ _ _ | skip)
noncomputable def cn_impl_blocker_search (F : Nat) : Nat → (Zn → Int → Int → Int → Option Zn) := Nat.rec (fun _ _ _ _ => none) fun _ ih => cq_impl_blocker_search F ih
theorem len_impl_blocker_search {F : Nat} : ∀ n m, n ≤ m → ∀ u0 u1 u2 u3, Le (cn_impl_blocker_search F n u0 u1 u2 u3) (pn_impl_blocker_search m u0 u1 u2 u3)
  | 0, _, _, _, _, _, _ => fun _ h => by cases h
  | n + 1, 0, h, _, _, _, _ => absurd h (by omega)
  | n + 1, m + 1, h, u0, u1, u2, u3 => leq_impl_blocker_search _ _ _ _ _ _ (len_impl_blocker_search n m (by omega))
noncomputable def Zi6 (F : Nat) : Zn → Int → Int → Int → Option Zn := cn_impl_blocker_search F 64
theorem Zme {F : Nat} (u0 u1 u2 u3 : _) : Le (Zi6 F u0 u1 u2 u3) (Zhh u0 u1 u2 u3) := len_impl_blocker_search 64 fuel (by unfold fuel; omega) u0 u1 u2 u3
noncomputable def Zhr (F : Nat) (y0 : Za) (y2 y3 : Int) (y4 : Bool) (r44 r48 r51 : List (List Int)) : Int × List Bool → Option ((Int × List Bool) ⊕ ((Option Zn) × Int))
  | (y59, xs) =>
    bif lti (y59) ((r48.length : Int)) then
      fbind (cIdx r48 y59) fun e61 =>
      fbind (Zfe F y0.Blocks e61) fun r71 =>
      fbind (cApp 1 xs [r71]) fun l73 =>
      some (.inl (cw (y59 + 1), l73))
    else
      fbind (Zi6 F (Zn.mk (Zs.mk y3 false) y2 y4 r44 r48 xs r51 0 0 ([] : List (List Int))) (-1) (-1) (-1)) fun r78 =>
      bif r78.qcounter.qspent then
        some (.inr ((none, 5)))
      else
        some (.inr (((some (Zn.mk (Zs.mk r78.qcounter.qleft r78.qcounter.qspent) r78.qlambda r78.qfirst r78.qload r48 r78.qused r78.qblocks r78.qnodes r78.qcount r78.qfound)), 0)))
theorem ZlV {F : Nat} (y0 : Za) (y2 y3 : Int) (y4 : Bool) (r44 r48 r51 : List (List Int))  (s_ : _) : Le (Zhr F y0 y2 y3 y4 r44 r48 r51 s_) (Zcz y0 y2 y3 y4 r44 r48 r51 s_) := by
  obtain ⟨y59, xs⟩ := s_
  unfold Zhr Zcz
  try simp only [← cw_ok, ← Zl, ← Zj, ← Zd, ← Zb, ← Zc, ← Zk, ← Zm, GT.gt, GE.ge]
  repeat' (with_reducible first | exact Le.rfl | assumption | exact Zj4 _ _ | exact Zme _ _ _ _ | exact Zg _ _ _ | exact Zf _ _ _ _ | (refine le_if ?_ ?_) | (refine Zh ?_ fun _ => ?_) | (refine Zi ?_) | (refine Ze fun _ => ?_))
noncomputable def Zgo (F : Nat) (y0 : Za) (y1 y2 y3 : Int) (y4 : Bool) : Option ((Option Zn) × Int) :=
  fbind (ZdQ F (Za.mk y0.Points y0.Blocks)) fun r44 =>
  fbind (ZbE F y0.Points y1) fun r48 =>
  fbind (ZcP F y0.Blocks) fun r51 =>
  lpF F (Zhr F y0 y2 y3 y4 r44 r48 r51) (0, ([] : List Bool))
theorem ZmT {F : Nat} (y0 : Za) (y1 y2 y3 : Int) (y4 : Bool)  : Le (Zgo F y0 y1 y2 y3 y4) (Zbi y0 y1 y2 y3 y4) := by
  unfold Zgo Zbi
  try simp only [← cw_ok, ← Zl, ← Zj, ← Zd, ← Zb, ← Zc, ← Zk, ← Zm, GT.gt, GE.ge]
  repeat' (with_reducible first | exact Le.rfl | assumption | exact Zix _ | exact Zfq _ _ | exact Zfx _ | exact ZlV _ _ _ _ _ _ _ _ | exact Zg _ _ _ | exact Zf _ _ _ _ | (refine le_if ?_ ?_) | (refine Zh ?_ fun _ => ?_) | (refine Zi ?_) | (refine Ze fun _ => ?_))
noncomputable def ZdV (F : Nat) (y0 : Za) (y1 y2 y3 : Int) (y4 y15 : Bool) : Option ((Option Zn) × Int) :=
  bif y15 then
    some ((none, 2))
  else
    fbind (ZaH F y0.Points y1) fun r31 =>
    bif lti (1500) (r31) then
      some ((none, 5))
    else
      fbind (Zei F (Za.mk y0.Points y0.Blocks) y1 y2) fun r37 =>
      bif !r37 then
        some ((none, 6))
      else
        Zgo F y0 y1 y2 y3 y4
theorem Zno {F : Nat} (y0 : Za) (y1 y2 y3 : Int) (y4 y15 : Bool)  : Le (ZdV F y0 y1 y2 y3 y4 y15) (Zas y0 y1 y2 y3 y4 y15) := by
  unfold ZdV Zas
  try simp only [← cw_ok, ← Zl, ← Zj, ← Zd, ← Zb, ← Zc, ← Zk, ← Zm, GT.gt, GE.ge]
  repeat' (with_reducible first | exact Le.rfl | assumption | exact Zep _ _ | exact Zjn _ _ _ | exact ZmT _ _ _ _ _ | exact Zg _ _ _ | exact Zf _ _ _ _ | (refine le_if ?_ ?_) | (refine Zh ?_ fun _ => ?_) | (refine Zi ?_) | (refine Ze fun _ => ?_))
noncomputable def Zdh (F : Nat) (y0 : Za) (y1 y2 y3 : Int) (y4 : Bool) : Option ((Option Zn) × Int) :=
  fbind (ZdU F y3) fun r17 =>
  bif !r17 then
    ZdV F y0 y1 y2 y3 y4 true
  else
    fbind (ZdS F y0.Points y1 y2) fun r24 =>
    ZdV F y0 y1 y2 y3 y4 (!r24)
theorem ZdG {F : Nat} (y0 : Za) (y1 y2 y3 : Int) (y4 : Bool)  : Le (Zdh F y0 y1 y2 y3 y4) (ZaP y0 y1 y2 y3 y4) := by
  unfold Zdh ZaP
  try simp only [← cw_ok, ← Zl, ← Zj, ← Zd, ← Zb, ← Zc, ← Zk, ← Zm, GT.gt, GE.ge]
  repeat' (with_reducible first | exact Le.rfl | assumption | exact ZjJ _ | exact Zno _ _ _ _ _ _ | exact Zj1 _ _ _ | exact Zg _ _ _ | exact Zf _ _ _ _ | (refine le_if ?_ ?_) | (refine Zh ?_ fun _ => ?_) | (refine Zi ?_) | (refine Ze fun _ => ?_))
noncomputable def Zfj (F : Nat) (d0 : Za) (k1 lambda2 budget3 : Int) : Option (Int × Int) :=
  fbind (Zcq F (Za.mk d0.Points d0.Blocks)) fun r13 =>
  bif !r13 then
    some ((0, 1))
  else
    fbind (Zdh F (Za.mk d0.Points d0.Blocks) k1 lambda2 budget3 false) fun r20 =>
    (match r20 with
    | (none, c20) =>
      bif !eqi (c20) (0) then
        some ((0, c20))
      else
        none
    | (some d20, c20) =>
      bif !eqi (c20) (0) then
        some ((0, c20))
      else
        some ((d20.qcount, 0))
    )
theorem ZpN {F : Nat} (d0 : Za) (k1 lambda2 budget3 : Int)  : Le (Zfj F d0 k1 lambda2 budget3) (Zaj d0 k1 lambda2 budget3) := by
  unfold Zfj Zaj
  try simp only [← cw_ok, ← Zl, ← Zj, ← Zd, ← Zb, ← Zc, ← Zk, ← Zm, GT.gt, GE.ge]
  repeat' (with_reducible first | exact Le.rfl | assumption | exact Zd3 _ | exact ZdG _ _ _ _ _ | exact Zg _ _ _ | exact Zf _ _ _ _ | (refine le_if ?_ ?_) | (refine Zh ?_ fun _ => ?_) | (refine Zi ?_) | (refine Ze fun _ => ?_))
  all_goals (rename_i r_; obtain ⟨_ | _, _⟩ := r_ <;> dsimp only)
  repeat' (with_reducible first | exact Le.rfl | assumption | exact Zd3 _ | exact ZdG _ _ _ _ _ | exact Zg _ _ _ | exact Zf _ _ _ _ | (refine le_if ?_ ?_) | (refine Zh ?_ fun _ => ?_) | (refine Zi ?_) | (refine Ze fun _ => ?_))
noncomputable def Zjg (F : Nat) (x0 : List (List Int)) (fn1 : List Int → List Int → Option Int) : Option (List (List Int)) := cSortR x0 fn1
theorem ZkL {F : Nat} (x0 : List (List Int)) (fn1 fn1' : List Int → List Int → Option Int) (h : ∀ u v, Le (fn1 u v) (fn1' u v)) : Le (Zjg F x0 fn1) (Zcf x0 fn1') := by
  intro r hr
  obtain ⟨h1, rfl⟩ := Zlc h hr
  unfold Zcf; rw [if_pos h1]
noncomputable def Zc0 (F : Nat) (points0 : Int) (blocks1 : List (List Int)) : Option (Za × Int) :=
  bif lti (128) ((blocks1.length : Int)) then
    some (((Za.mk 0 ([] : List (List Int))), 5))
  else
    fbind (ZcP F blocks1) fun r13 =>
    fbind (Zjg F r13 (fun y0 y1 => ZcV F y0 y1)) fun r17 =>
    some (((Za.mk points0 r17), 0))
theorem ZhN {F : Nat} (points0 : Int) (blocks1 : List (List Int))  : Le (Zc0 F points0 blocks1) (ZaM points0 blocks1) := by
  unfold Zc0 ZaM
  try simp only [← cw_ok, ← Zl, ← Zj, ← Zd, ← Zb, ← Zc, ← Zk, ← Zm, GT.gt, GE.ge]
  repeat' (with_reducible first | exact Le.rfl | assumption | exact Zfx _ | (refine ZkL _ _ _ ?_; intros) | exact Ziq _ _ | exact Zg _ _ _ | exact Zf _ _ _ _ | (refine le_if ?_ ?_) | (refine Zh ?_ fun _ => ?_) | (refine Zi ?_) | (refine Ze fun _ => ?_))
noncomputable def Zet (F : Nat) (d0 : Za) (k1 lambda2 budget3 : Int) : Option (Za × Int) :=
  fbind (Zdh F (Za.mk d0.Points d0.Blocks) k1 lambda2 budget3 true) fun r17 =>
  (match r17 with
  | (none, c17) =>
    bif !eqi (c17) (0) then
      some (((Za.mk 0 ([] : List (List Int))), c17))
    else
      none
  | (some d17, c17) =>
    bif !eqi (c17) (0) then
      some (((Za.mk 0 ([] : List (List Int))), c17))
    else
      bif eqi (d17.qcount) (0) then
        some (((Za.mk 0 ([] : List (List Int))), 3))
      else
        fbind (Zc0 F d0.Points d17.qfound) fun r36 =>
        some (((Za.mk r36.1.Points r36.1.Blocks), r36.2))
  )
theorem ZiQ {F : Nat} (d0 : Za) (k1 lambda2 budget3 : Int)  : Le (Zet F d0 k1 lambda2 budget3) (ZaD d0 k1 lambda2 budget3) := by
  unfold Zet ZaD
  try simp only [← cw_ok, ← Zl, ← Zj, ← Zd, ← Zb, ← Zc, ← Zk, ← Zm, GT.gt, GE.ge]
  repeat' (with_reducible first | exact Le.rfl | assumption | exact ZdG _ _ _ _ _ | exact ZhN _ _ | exact Zg _ _ _ | exact Zf _ _ _ _ | (refine le_if ?_ ?_) | (refine Zh ?_ fun _ => ?_) | (refine Zi ?_) | (refine Ze fun _ => ?_))
  all_goals (rename_i r_; obtain ⟨_ | _, _⟩ := r_ <;> dsimp only)
  repeat' (with_reducible first | exact Le.rfl | assumption | exact ZdG _ _ _ _ _ | exact ZhN _ _ | exact Zg _ _ _ | exact Zf _ _ _ _ | (refine le_if ?_ ?_) | (refine Zh ?_ fun _ => ?_) | (refine Zi ?_) | (refine Ze fun _ => ?_))
noncomputable def Zce (F : Nat) (v0 k1 lambda2 budget3 : Int) : Option (Za × Int) :=
  fbind (Zet F (Za.mk v0 ([] : List (List Int))) k1 lambda2 budget3) fun r15 =>
  some (((Za.mk r15.1.Points r15.1.Blocks), r15.2))
theorem ZeS {F : Nat} (v0 k1 lambda2 budget3 : Int)  : Le (Zce F v0 k1 lambda2 budget3) (ZW v0 k1 lambda2 budget3) := by
  unfold Zce ZW
  try simp only [← cw_ok, ← Zl, ← Zj, ← Zd, ← Zb, ← Zc, ← Zk, ← Zm, GT.gt, GE.ge]
  repeat' (with_reducible first | exact Le.rfl | assumption | exact ZiQ _ _ _ _ | exact Zg _ _ _ | exact Zf _ _ _ _ | (refine le_if ?_ ?_) | (refine Zh ?_ fun _ => ?_) | (refine Zi ?_) | (refine Ze fun _ => ?_))
noncomputable def Zeh (F : Nat) (n0 low1 high2 : Int) : Option Bool :=
  bif lei (low1) (n0) then
    some (lei (n0) (high2))
  else
    some (false)
theorem Zjv {F : Nat} (n0 low1 high2 : Int)  : Le (Zeh F n0 low1 high2) (ZaU n0 low1 high2) := by
  unfold Zeh ZaU
  try simp only [← cw_ok, ← Zl, ← Zj, ← Zd, ← Zb, ← Zc, ← Zk, ← Zm, GT.gt, GE.ge]
  repeat' (with_reducible first | exact Le.rfl | assumption | exact Zg _ _ _ | exact Zf _ _ _ _ | (refine le_if ?_ ?_) | (refine Zh ?_ fun _ => ?_) | (refine Zi ?_) | (refine Ze fun _ => ?_))
noncomputable def ZeP (F : Nat) (list0 : List Int) (low1 high2 : Int) : Int → Option ((Int) ⊕ (Bool))
  | i7 =>
    bif lti (i7) ((list0.length : Int)) then
      fbind (cIdx list0 i7) fun e16 =>
      fbind (Zeh F e16 low1 high2) fun r20 =>
      bif !r20 then
        some (.inr (false))
      else
        bif lti (0) (i7) then
          fbind (cIdx list0 (cw (i7 - 1))) fun e29 =>
          fbind (cIdx list0 i7) fun e33 =>
          bif lei (e33) (e29) then
            some (.inr (false))
          else
            some (.inl (cw (i7 + 1)))
        else
          some (.inl (cw (i7 + 1)))
    else
      some (.inr (true))
theorem Zof {F : Nat} (list0 : List Int) (low1 high2 : Int)  (s_ : _) : Le (ZeP F list0 low1 high2 s_) (Zc8 list0 low1 high2 s_) := by
  unfold ZeP Zc8
  try simp only [← cw_ok, ← Zl, ← Zj, ← Zd, ← Zb, ← Zc, ← Zk, ← Zm, GT.gt, GE.ge]
  repeat' (with_reducible first | exact Le.rfl | assumption | exact Zjv _ _ _ | exact Zg _ _ _ | exact Zf _ _ _ _ | (refine le_if ?_ ?_) | (refine Zh ?_ fun _ => ?_) | (refine Zi ?_) | (refine Ze fun _ => ?_))
noncomputable def Zgi (F : Nat) (list0 : List Int) (low1 high2 : Int) : Option Bool :=
  lpF F (ZeP F list0 low1 high2) (0)
theorem ZnD {F : Nat} (list0 : List Int) (low1 high2 : Int)  : Le (Zgi F list0 low1 high2) (Zb1 list0 low1 high2) := by
  unfold Zgi Zb1
  try simp only [← cw_ok, ← Zl, ← Zj, ← Zd, ← Zb, ← Zc, ← Zk, ← Zm, GT.gt, GE.ge]
  repeat' (with_reducible first | exact Le.rfl | assumption | exact Zof _ _ _ _ | exact Zg _ _ _ | exact Zf _ _ _ _ | (refine le_if ?_ ?_) | (refine Zh ?_ fun _ => ?_) | (refine Zi ?_) | (refine Ze fun _ => ?_))
noncomputable def ZeY (F : Nat) (set0 : List Int) (points1 : Int) : Option Bool :=
  bif lti (0) ((set0.length : Int)) then
    fbind (Zgi F set0 0 (cw (points1 - 1))) fun r12 =>
    some (r12)
  else
    some (false)
theorem ZkN {F : Nat} (set0 : List Int) (points1 : Int)  : Le (ZeY F set0 points1) (Za6 set0 points1) := by
  unfold ZeY Za6
  try simp only [← cw_ok, ← Zl, ← Zj, ← Zd, ← Zb, ← Zc, ← Zk, ← Zm, GT.gt, GE.ge]
  repeat' (with_reducible first | exact Le.rfl | assumption | exact ZnD _ _ _ | exact Zg _ _ _ | exact Zf _ _ _ _ | (refine le_if ?_ ?_) | (refine Zh ?_ fun _ => ?_) | (refine Zi ?_) | (refine Ze fun _ => ?_))
noncomputable def Zen (F : Nat) (a0 b1 : List Int) : Option (Int) :=
  bif lti ((a0.length : Int)) ((b1.length : Int)) then
    some ((-1))
  else
    bif lti ((b1.length : Int)) ((a0.length : Int)) then
      some (1)
    else
      some (0)
theorem Zor {F : Nat} (a0 b1 : List Int)  : Le (Zen F a0 b1) (ZaX a0 b1) := by
  unfold Zen ZaX
  try simp only [← cw_ok, ← Zl, ← Zj, ← Zd, ← Zb, ← Zc, ← Zk, ← Zm, GT.gt, GE.ge]
  repeat' (with_reducible first | exact Le.rfl | assumption | exact Zg _ _ _ | exact Zf _ _ _ _ | (refine le_if ?_ ?_) | (refine Zh ?_ fun _ => ?_) | (refine Zi ?_) | (refine Ze fun _ => ?_))
noncomputable def Zgq (F : Nat) (a0 b1 : List Int) (i5 : Int) : Option ((Int) ⊕ (Int)) :=
  fbind (cIdx a0 i5) fun e20 =>
  fbind (cIdx b1 i5) fun e24 =>
  bif lti (e20) (e24) then
    some (.inr ((-1)))
  else
    fbind (cIdx a0 i5) fun e29 =>
    fbind (cIdx b1 i5) fun e33 =>
    bif lti (e33) (e29) then
      some (.inr (1))
    else
      some (.inl (cw (i5 + 1)))
theorem Zo0 {F : Nat} (a0 b1 : List Int) (i5 : Int)  : Le (Zgq F a0 b1 i5) (ZbF a0 b1 i5) := by
  unfold Zgq ZbF
  try simp only [← cw_ok, ← Zl, ← Zj, ← Zd, ← Zb, ← Zc, ← Zk, ← Zm, GT.gt, GE.ge]
  repeat' (with_reducible first | exact Le.rfl | assumption | exact Zg _ _ _ | exact Zf _ _ _ _ | (refine le_if ?_ ?_) | (refine Zh ?_ fun _ => ?_) | (refine Zi ?_) | (refine Ze fun _ => ?_))
noncomputable def Zf0 (F : Nat) (a0 b1 : List Int) : Int → Option ((Int) ⊕ (Int))
  | i5 =>
    bif lti (i5) ((a0.length : Int)) then
      bif lti (i5) ((b1.length : Int)) then
        Zgq F a0 b1 i5
      else
        fmap (Zen F a0 b1) fun x => .inr (x)
    else
      fmap (Zen F a0 b1) fun x => .inr (x)
theorem ZpF {F : Nat} (a0 b1 : List Int)  (s_ : _) : Le (Zf0 F a0 b1 s_) (Zef a0 b1 s_) := by
  unfold Zf0 Zef
  try simp only [← cw_ok, ← Zl, ← Zj, ← Zd, ← Zb, ← Zc, ← Zk, ← Zm, GT.gt, GE.ge]
  repeat' (with_reducible first | exact Le.rfl | assumption | exact Zo0 _ _ _ | exact Zor _ _ | exact Zg _ _ _ | exact Zf _ _ _ _ | (refine le_if ?_ ?_) | (refine Zh ?_ fun _ => ?_) | (refine Zi ?_) | (refine Ze fun _ => ?_))
noncomputable def Zgk (F : Nat) (a0 b1 : List Int) : Option Int :=
  lpF F (Zf0 F a0 b1) (0)
theorem Zos {F : Nat} (a0 b1 : List Int)  : Le (Zgk F a0 b1) (Zb5 a0 b1) := by
  unfold Zgk Zb5
  try simp only [← cw_ok, ← Zl, ← Zj, ← Zd, ← Zb, ← Zc, ← Zk, ← Zm, GT.gt, GE.ge]
  repeat' (with_reducible first | exact Le.rfl | assumption | exact ZpF _ _ _ | exact Zg _ _ _ | exact Zf _ _ _ _ | (refine le_if ?_ ?_) | (refine Zh ?_ fun _ => ?_) | (refine Zi ?_) | (refine Ze fun _ => ?_))
noncomputable def ZeB (F : Nat) (d0 : Za) : Int → Option ((Int) ⊕ (Bool))
  | i3 =>
    bif lti (i3) ((d0.Blocks.length : Int)) then
      fbind (cIdx d0.Blocks i3) fun e32 =>
      fbind (ZeY F e32 d0.Points) fun r38 =>
      bif !r38 then
        some (.inr (false))
      else
        bif lti (0) (i3) then
          fbind (cIdx d0.Blocks (cw (i3 - 1))) fun e50 =>
          fbind (cIdx d0.Blocks i3) fun e57 =>
          fbind (Zgk F e50 e57) fun r59 =>
          bif lti (0) (r59) then
            some (.inr (false))
          else
            some (.inl (cw (i3 + 1)))
        else
          some (.inl (cw (i3 + 1)))
    else
      some (.inr (true))
theorem ZmK {F : Nat} (d0 : Za)  (s_ : _) : Le (ZeB F d0 s_) (Zdf d0 s_) := by
  unfold ZeB Zdf
  try simp only [← cw_ok, ← Zl, ← Zj, ← Zd, ← Zb, ← Zc, ← Zk, ← Zm, GT.gt, GE.ge]
  repeat' (with_reducible first | exact Le.rfl | assumption | exact ZkN _ _ | exact Zos _ _ | exact Zg _ _ _ | exact Zf _ _ _ _ | (refine le_if ?_ ?_) | (refine Zh ?_ fun _ => ?_) | (refine Zi ?_) | (refine Ze fun _ => ?_))
noncomputable def ZfE (F : Nat) (d0 : Za) : Option (Bool) :=
  lpF F (ZeB F d0) (0)
theorem Zpm {F : Nat} (d0 : Za)  : Le (ZfE F d0) (Zca d0) := by
  unfold ZfE Zca
  try simp only [← cw_ok, ← Zl, ← Zj, ← Zd, ← Zb, ← Zc, ← Zk, ← Zm, GT.gt, GE.ge]
  repeat' (with_reducible first | exact Le.rfl | assumption | exact ZmK _ _ | exact Zg _ _ _ | exact Zf _ _ _ _ | (refine le_if ?_ ?_) | (refine Zh ?_ fun _ => ?_) | (refine Zi ?_) | (refine Ze fun _ => ?_))
noncomputable def Zdz (F : Nat) (d0 : Za) : Option Bool :=
  fbind (Zeh F d0.Points 1 32) fun r8 =>
  bif !r8 then
    some (false)
  else
    bif lti (128) ((d0.Blocks.length : Int)) then
      some (false)
    else
      ZfE F d0
theorem Zja {F : Nat} (d0 : Za)  : Le (Zdz F d0) (ZaQ d0) := by
  unfold Zdz ZaQ
  try simp only [← cw_ok, ← Zl, ← Zj, ← Zd, ← Zb, ← Zc, ← Zk, ← Zm, GT.gt, GE.ge]
  repeat' (with_reducible first | exact Le.rfl | assumption | exact Zjv _ _ _ | exact Zpm _ | exact Zg _ _ _ | exact Zf _ _ _ _ | (refine le_if ?_ ?_) | (refine Zh ?_ fun _ => ?_) | (refine Zi ?_) | (refine Ze fun _ => ?_))
noncomputable def ZeD (F : Nat) (list0 : List Int) (n1 : Int) : Int → Option ((Int) ⊕ (Bool))
  | i5 =>
    bif lti (i5) ((list0.length : Int)) then
      fbind (cIdx list0 i5) fun e14 =>
      bif eqi (e14) (n1) then
        some (.inr (true))
      else
        some (.inl (cw (i5 + 1)))
    else
      some (.inr (false))
theorem ZnC {F : Nat} (list0 : List Int) (n1 : Int)  (s_ : _) : Le (ZeD F list0 n1 s_) (ZdD list0 n1 s_) := by
  unfold ZeD ZdD
  try simp only [← cw_ok, ← Zl, ← Zj, ← Zd, ← Zb, ← Zc, ← Zk, ← Zm, GT.gt, GE.ge]
  repeat' (with_reducible first | exact Le.rfl | assumption | exact Zg _ _ _ | exact Zf _ _ _ _ | (refine le_if ?_ ?_) | (refine Zh ?_ fun _ => ?_) | (refine Zi ?_) | (refine Ze fun _ => ?_))
noncomputable def Zdo (F : Nat) (list0 : List Int) (n1 : Int) : Option Bool :=
  lpF F (ZeD F list0 n1) (0)
theorem ZoZ {F : Nat} (list0 : List Int) (n1 : Int)  : Le (Zdo F list0 n1) (ZaV list0 n1) := by
  unfold Zdo ZaV
  try simp only [← cw_ok, ← Zl, ← Zj, ← Zd, ← Zb, ← Zc, ← Zk, ← Zm, GT.gt, GE.ge]
  repeat' (with_reducible first | exact Le.rfl | assumption | exact ZnC _ _ _ | exact Zg _ _ _ | exact Zf _ _ _ _ | (refine le_if ?_ ?_) | (refine Zh ?_ fun _ => ?_) | (refine Zi ?_) | (refine Ze fun _ => ?_))
noncomputable def ZeL (F : Nat) (d0 : Za) (a4 : Int) (out3_2 : List Int) (b5 : Int) : Int × Int → Option ((Int × Int) ⊕ ((List Int × Int) ⊕ ((List Int × Int) ⊕ (List Int))))
  | (n6, i7) =>
    bif lti (i7) ((d0.Blocks.length : Int)) then
      fbind (cIdx d0.Blocks i7) fun e41 =>
      fbind (Zdo F e41 a4) fun r44 =>
      bif r44 then
        fbind (cIdx d0.Blocks i7) fun e51 =>
        fbind (Zdo F e51 b5) fun r54 =>
        bif r54 then
          some (.inl (cw (n6 + 1), cw (i7 + 1)))
        else
          some (.inl (n6, cw (i7 + 1)))
      else
        some (.inl (n6, cw (i7 + 1)))
    else
      fbind (cApp 8 out3_2 [n6]) fun l61 =>
      some (.inr (.inl (l61, cw (b5 + 1))))
theorem Zpw {F : Nat} (d0 : Za) (a4 : Int) (out3_2 : List Int) (b5 : Int)  (s_ : _) : Le (ZeL F d0 a4 out3_2 b5 s_) (Zd4 d0 a4 out3_2 b5 s_) := by
  obtain ⟨n6, i7⟩ := s_
  unfold ZeL Zd4
  try simp only [← cw_ok, ← Zl, ← Zj, ← Zd, ← Zb, ← Zc, ← Zk, ← Zm, GT.gt, GE.ge]
  repeat' (with_reducible first | exact Le.rfl | assumption | exact ZoZ _ _ | exact Zg _ _ _ | exact Zf _ _ _ _ | (refine le_if ?_ ?_) | (refine Zh ?_ fun _ => ?_) | (refine Zi ?_) | (refine Ze fun _ => ?_))
noncomputable def Zg3 (F : Nat) (d0 : Za) (a4 : Int) : List Int × Int → Option ((List Int × Int) ⊕ ((List Int × Int) ⊕ (List Int)))
  | (out3_2, b5) =>
    bif lti (b5) (d0.Points) then
      lpF F (ZeL F d0 a4 out3_2 b5) (0, 0)
    else
      some (.inr (.inl (out3_2, cw (a4 + 1))))
theorem ZmO {F : Nat} (d0 : Za) (a4 : Int)  (s_ : _) : Le (Zg3 F d0 a4 s_) (ZcS d0 a4 s_) := by
  obtain ⟨out3_2, b5⟩ := s_
  unfold Zg3 ZcS
  try simp only [← cw_ok, ← Zl, ← Zj, ← Zd, ← Zb, ← Zc, ← Zk, ← Zm, GT.gt, GE.ge]
  repeat' (with_reducible first | exact Le.rfl | assumption | exact Zpw _ _ _ _ _ | exact Zg _ _ _ | exact Zf _ _ _ _ | (refine le_if ?_ ?_) | (refine Zh ?_ fun _ => ?_) | (refine Zi ?_) | (refine Ze fun _ => ?_))
noncomputable def Zfw (F : Nat) (d0 : Za) : List Int × Int → Option ((List Int × Int) ⊕ (List Int))
  | (out3, a4) =>
    bif lti (a4) (d0.Points) then
      lpF F (Zg3 F d0 a4) (out3, cw (a4 + 1))
    else
      some (.inr (out3))
theorem Zo9 {F : Nat} (d0 : Za)  (s_ : _) : Le (Zfw F d0 s_) (Zcp d0 s_) := by
  obtain ⟨out3, a4⟩ := s_
  unfold Zfw Zcp
  try simp only [← cw_ok, ← Zl, ← Zj, ← Zd, ← Zb, ← Zc, ← Zk, ← Zm, GT.gt, GE.ge]
  repeat' (with_reducible first | exact Le.rfl | assumption | exact ZmO _ _ _ | exact Zg _ _ _ | exact Zf _ _ _ _ | (refine le_if ?_ ?_) | (refine Zh ?_ fun _ => ?_) | (refine Zi ?_) | (refine Ze fun _ => ?_))
noncomputable def Zex (F : Nat) (d0 : Za) : Option (List Int) :=
  lpF F (Zfw F d0) (([] : List Int), 0)
theorem Zis {F : Nat} (d0 : Za)  : Le (Zex F d0) (Zav d0) := by
  unfold Zex Zav
  try simp only [← cw_ok, ← Zl, ← Zj, ← Zd, ← Zb, ← Zc, ← Zk, ← Zm, GT.gt, GE.ge]
  repeat' (with_reducible first | exact Le.rfl | assumption | exact Zo9 _ _ | exact Zg _ _ _ | exact Zf _ _ _ _ | (refine le_if ?_ ?_) | (refine Zh ?_ fun _ => ?_) | (refine Zi ?_) | (refine Ze fun _ => ?_))
noncomputable def Zfm (F : Nat) (d0 : Za) (i4 : Int) : Int × List Int → Option ((Int × List Int) ⊕ ((Int × List Int) ⊕ (List Int)))
  | (k5, xs_2) =>
    fbind (cIdx d0.Blocks i4) fun e26 =>
    bif lti (k5) ((e26.length : Int)) then
      fbind (cIdx d0.Blocks i4) fun e38 =>
      fbind (cIdx e38 k5) fun e41 =>
      fbind (cIdx xs_2 e41) fun e43 =>
      fbind (cIdx xs_2 e41) fun e46 =>
      some (.inl (cw (k5 + 1), (xs_2.set (e41 : Int).toNat (cw (e43 + 1)))))
    else
      some (.inr (.inl (cw (i4 + 1), xs_2)))
theorem Zo2 {F : Nat} (d0 : Za) (i4 : Int)  (s_ : _) : Le (Zfm F d0 i4 s_) (ZcN d0 i4 s_) := by
  obtain ⟨k5, xs_2⟩ := s_
  unfold Zfm ZcN
  try simp only [← cw_ok, ← Zl, ← Zj, ← Zd, ← Zb, ← Zc, ← Zk, ← Zm, GT.gt, GE.ge]
  repeat' (with_reducible first | exact Le.rfl | assumption | exact Zg _ _ _ | exact Zf _ _ _ _ | (refine le_if ?_ ?_) | (refine Zh ?_ fun _ => ?_) | (refine Zi ?_) | (refine Ze fun _ => ?_))
noncomputable def Zh0 (F : Nat) (d0 : Za) : Int × List Int → Option ((Int × List Int) ⊕ (List Int))
  | (i4, xs) =>
    bif lti (i4) ((d0.Blocks.length : Int)) then
      lpF F (Zfm F d0 i4) (0, xs)
    else
      some (.inr (xs))
theorem ZlW {F : Nat} (d0 : Za)  (s_ : _) : Le (Zh0 F d0 s_) (ZbZ d0 s_) := by
  obtain ⟨i4, xs⟩ := s_
  unfold Zh0 ZbZ
  try simp only [← cw_ok, ← Zl, ← Zj, ← Zd, ← Zb, ← Zc, ← Zk, ← Zm, GT.gt, GE.ge]
  repeat' (with_reducible first | exact Le.rfl | assumption | exact Zo2 _ _ _ | exact Zg _ _ _ | exact Zf _ _ _ _ | (refine le_if ?_ ?_) | (refine Zh ?_ fun _ => ?_) | (refine Zi ?_) | (refine Ze fun _ => ?_))
noncomputable def Zgb (F : Nat) (d0 : Za) : Option (List Int) :=
  fbind (cMake 8 (0 : Int) d0.Points d0.Points) fun l10 =>
  lpF F (Zh0 F d0) (0, l10)
theorem Zku {F : Nat} (d0 : Za)  : Le (Zgb F d0) (ZbD d0) := by
  unfold Zgb ZbD
  try simp only [← cw_ok, ← Zl, ← Zj, ← Zd, ← Zb, ← Zc, ← Zk, ← Zm, GT.gt, GE.ge]
  repeat' (with_reducible first | exact Le.rfl | assumption | exact ZlW _ _ | exact Zg _ _ _ | exact Zf _ _ _ _ | (refine le_if ?_ ?_) | (refine Zh ?_ fun _ => ?_) | (refine Zi ?_) | (refine Ze fun _ => ?_))
noncomputable def ZgV (F : Nat) (y0 : Za) (e26 r54 : List Int) : Int → Option ((Int) ⊕ ((Int) ⊕ (Zz × Bool)))
  | y7 =>
    bif lti (y7) ((r54.length : Int)) then
      fbind (cIdx r54 y7) fun e63 =>
      fbind (cIdx r54 0) fun e66 =>
      bif !eqi (e63) (e66) then
        some (.inr (.inr (((Zz.mk 0 0 0 0 0), false))))
      else
        some (.inl (cw (y7 + 1)))
    else
      fbind (Zgb F y0) fun r80 =>
      fbind (cIdx r80 0) fun e81 =>
      fbind (cIdx r54 0) fun e85 =>
      some (.inr (.inr (((Zz.mk y0.Points (y0.Blocks.length : Int) e81 (e26.length : Int) e85), true))))
theorem ZmL {F : Nat} (y0 : Za) (e26 r54 : List Int)  (s_ : _) : Le (ZgV F y0 e26 r54 s_) (Zc6 y0 e26 r54 s_) := by
  unfold ZgV Zc6
  try simp only [← cw_ok, ← Zl, ← Zj, ← Zd, ← Zb, ← Zc, ← Zk, ← Zm, GT.gt, GE.ge]
  repeat' (with_reducible first | exact Le.rfl | assumption | exact Zku _ | exact Zg _ _ _ | exact Zf _ _ _ _ | (refine le_if ?_ ?_) | (refine Zh ?_ fun _ => ?_) | (refine Zi ?_) | (refine Ze fun _ => ?_))
noncomputable def Zft (F : Nat) (y0 : Za) (e26 : List Int) : Int → Option ((Int) ⊕ (Zz × Bool))
  | y5 =>
    bif lti (y5) ((y0.Blocks.length : Int)) then
      fbind (cIdx y0.Blocks y5) fun e43 =>
      bif !eqi ((e43.length : Int)) ((e26.length : Int)) then
        some (.inr (((Zz.mk 0 0 0 0 0), false)))
      else
        bif lti ((e26.length : Int)) (2) then
          some (.inr (((Zz.mk 0 0 0 0 0), false)))
        else
          some (.inl (cw (y5 + 1)))
    else
      fbind (Zex F y0) fun r54 =>
      lpF F (ZgV F y0 e26 r54) (0)
theorem Zpx {F : Nat} (y0 : Za) (e26 : List Int)  (s_ : _) : Le (Zft F y0 e26 s_) (ZdB y0 e26 s_) := by
  unfold Zft ZdB
  try simp only [← cw_ok, ← Zl, ← Zj, ← Zd, ← Zb, ← Zc, ← Zk, ← Zm, GT.gt, GE.ge]
  repeat' (with_reducible first | exact Le.rfl | assumption | exact Zis _ | exact ZmL _ _ _ _ | exact Zg _ _ _ | exact Zf _ _ _ _ | (refine le_if ?_ ?_) | (refine Zh ?_ fun _ => ?_) | (refine Zi ?_) | (refine Ze fun _ => ?_))
noncomputable def ZfU (F : Nat) (y0 : Za) : Option (Zz × Bool) :=
  fbind (cIdx y0.Blocks 0) fun e26 =>
  lpF F (Zft F y0 e26) (0)
theorem Zk0 {F : Nat} (y0 : Za)  : Le (ZfU F y0) (Zcv y0) := by
  unfold ZfU Zcv
  try simp only [← cw_ok, ← Zl, ← Zj, ← Zd, ← Zb, ← Zc, ← Zk, ← Zm, GT.gt, GE.ge]
  repeat' (with_reducible first | exact Le.rfl | assumption | exact Zpx _ _ _ | exact Zg _ _ _ | exact Zf _ _ _ _ | (refine le_if ?_ ?_) | (refine Zh ?_ fun _ => ?_) | (refine Zi ?_) | (refine Ze fun _ => ?_))
noncomputable def Zhf (F : Nat) (y0 : Za) : Option (Zz × Bool) :=
  bif lti (y0.Points) (2) then
    some (((Zz.mk 0 0 0 0 0), false))
  else
    bif eqi ((y0.Blocks.length : Int)) (0) then
      some (((Zz.mk 0 0 0 0 0), false))
    else
      ZfU F y0
theorem Zn2 {F : Nat} (y0 : Za)  : Le (Zhf F y0) (Zcl y0) := by
  unfold Zhf Zcl
  try simp only [← cw_ok, ← Zl, ← Zj, ← Zd, ← Zb, ← Zc, ← Zk, ← Zm, GT.gt, GE.ge]
  repeat' (with_reducible first | exact Le.rfl | assumption | exact Zk0 _ | exact Zg _ _ _ | exact Zf _ _ _ _ | (refine le_if ?_ ?_) | (refine Zh ?_ fun _ => ?_) | (refine Zi ?_) | (refine Ze fun _ => ?_))
noncomputable def ZfT (F : Nat) (d0 : Za) : Option Bool :=
  fbind (Zdz F d0) fun r6 =>
  bif !r6 then
    some (false)
  else
    fbind (Zhf F d0) fun r10 =>
    bif r10.2 then
      bif eqi (r10.1.K) (3) then
        some (eqi (r10.1.Lambda) (1))
      else
        some (false)
    else
      some (false)
theorem ZlJ {F : Nat} (d0 : Za)  : Le (ZfT F d0) (Zcw d0) := by
  unfold ZfT Zcw
  try simp only [← cw_ok, ← Zl, ← Zj, ← Zd, ← Zb, ← Zc, ← Zk, ← Zm, GT.gt, GE.ge]
  repeat' (with_reducible first | exact Le.rfl | assumption | exact Zja _ | exact Zn2 _ | exact Zg _ _ _ | exact Zf _ _ _ _ | (refine le_if ?_ ?_) | (refine Zh ?_ fun _ => ?_) | (refine Zi ?_) | (refine Ze fun _ => ?_))
noncomputable def Zdm (F : Nat) (d0 : Za) : Option Bool :=
  fbind (ZfT F (Za.mk d0.Points d0.Blocks)) fun r3 =>
  some (r3)
theorem Zjt {F : Nat} (d0 : Za)  : Le (Zdm F d0) (Z0 d0) := by
  unfold Zdm Z0
  try simp only [← cw_ok, ← Zl, ← Zj, ← Zd, ← Zb, ← Zc, ← Zk, ← Zm, GT.gt, GE.ge]
  repeat' (with_reducible first | exact Le.rfl | assumption | exact ZlJ _ | exact Zg _ _ _ | exact Zf _ _ _ _ | (refine le_if ?_ ?_) | (refine Zh ?_ fun _ => ?_) | (refine Zi ?_) | (refine Ze fun _ => ?_))
noncomputable def Zg4 (F : Nat) (d0 : Za) (k1 lambda2 budget3 : Int) : Option (Za × Int) :=
  fbind (Zcq F (Za.mk d0.Points d0.Blocks)) fun r11 =>
  bif !r11 then
    some (((Za.mk 0 ([] : List (List Int))), 1))
  else
    fbind (Zet F (Za.mk d0.Points d0.Blocks) k1 lambda2 budget3) fun r18 =>
    some (((Za.mk r18.1.Points r18.1.Blocks), r18.2))
theorem Zlf {F : Nat} (d0 : Za) (k1 lambda2 budget3 : Int)  : Le (Zg4 F d0 k1 lambda2 budget3) (Zb2 d0 k1 lambda2 budget3) := by
  unfold Zg4 Zb2
  try simp only [← cw_ok, ← Zl, ← Zj, ← Zd, ← Zb, ← Zc, ← Zk, ← Zm, GT.gt, GE.ge]
  repeat' (with_reducible first | exact Le.rfl | assumption | exact Zd3 _ | exact ZiQ _ _ _ _ | exact Zg _ _ _ | exact Zf _ _ _ _ | (refine le_if ?_ ?_) | (refine Zh ?_ fun _ => ?_) | (refine Zi ?_) | (refine Ze fun _ => ?_))
noncomputable def Zgp (F : Nat) (lambda2 : Int) (r19 : List Int) : Int × List Int → Option ((Int × List Int) ⊕ ((List Int) × Int))
  | (y22, xs) =>
    bif lti (y22) ((r19.length : Int)) then
      fbind (cIdx xs y22) fun e30 =>
      fbind (cIdx xs y22) fun e33 =>
      some (.inl (cw (y22 + 1), (xs.set (y22 : Int).toNat (cw (lambda2 - e30)))))
    else
      some (.inr ((xs, 0)))
theorem Zo8 {F : Nat} (lambda2 : Int) (r19 : List Int)  (s_ : _) : Le (Zgp F lambda2 r19 s_) (Zbm lambda2 r19 s_) := by
  obtain ⟨y22, xs⟩ := s_
  unfold Zgp Zbm
  try simp only [← cw_ok, ← Zl, ← Zj, ← Zd, ← Zb, ← Zc, ← Zk, ← Zm, GT.gt, GE.ge]
  repeat' (with_reducible first | exact Le.rfl | assumption | exact Zg _ _ _ | exact Zf _ _ _ _ | (refine le_if ?_ ?_) | (refine Zh ?_ fun _ => ?_) | (refine Zi ?_) | (refine Ze fun _ => ?_))
noncomputable def Ze6 (F : Nat) (d0 : Za) (k1 lambda2 : Int) : Option ((List Int) × Int) :=
  fbind (Zcq F (Za.mk d0.Points d0.Blocks)) fun r11 =>
  bif !r11 then
    some ((([] : List Int), 1))
  else
    fbind (Zei F (Za.mk d0.Points d0.Blocks) k1 lambda2) fun r16 =>
    bif !r16 then
      some ((([] : List Int), 6))
    else
      fbind (ZdF F (Za.mk d0.Points d0.Blocks)) fun r19 =>
      lpF F (Zgp F lambda2 r19) (0, r19)
theorem ZoM {F : Nat} (d0 : Za) (k1 lambda2 : Int)  : Le (Ze6 F d0 k1 lambda2) (Zb8 d0 k1 lambda2) := by
  unfold Ze6 Zb8
  try simp only [← cw_ok, ← Zl, ← Zj, ← Zd, ← Zb, ← Zc, ← Zk, ← Zm, GT.gt, GE.ge]
  repeat' (with_reducible first | exact Le.rfl | assumption | exact Zd3 _ | exact Zjn _ _ _ | exact Zh3 _ | exact Zo8 _ _ _ | exact Zg _ _ _ | exact Zf _ _ _ _ | (refine le_if ?_ ?_) | (refine Zh ?_ fun _ => ?_) | (refine Zi ?_) | (refine Ze fun _ => ?_))
noncomputable def Zgh (F : Nat) (a0 b1 : List Int) : Int → Option ((Int) ⊕ (Bool))
  | i5 =>
    bif lti (i5) ((a0.length : Int)) then
      fbind (cIdx a0 i5) fun e19 =>
      fbind (cIdx b1 i5) fun e23 =>
      bif !eqi (e19) (e23) then
        some (.inr (false))
      else
        some (.inl (cw (i5 + 1)))
    else
      some (.inr (true))
theorem Zm7 {F : Nat} (a0 b1 : List Int)  (s_ : _) : Le (Zgh F a0 b1 s_) (Zds a0 b1 s_) := by
  unfold Zgh Zds
  try simp only [← cw_ok, ← Zl, ← Zj, ← Zd, ← Zb, ← Zc, ← Zk, ← Zm, GT.gt, GE.ge]
  repeat' (with_reducible first | exact Le.rfl | assumption | exact Zg _ _ _ | exact Zf _ _ _ _ | (refine le_if ?_ ?_) | (refine Zh ?_ fun _ => ?_) | (refine Zi ?_) | (refine Ze fun _ => ?_))
noncomputable def Zgv (F : Nat) (a0 b1 : List Int) : Option Bool :=
  bif !eqi ((a0.length : Int)) ((b1.length : Int)) then
    some (false)
  else
    lpF F (Zgh F a0 b1) (0)
theorem Zow {F : Nat} (a0 b1 : List Int)  : Le (Zgv F a0 b1) (Zcs a0 b1) := by
  unfold Zgv Zcs
  try simp only [← cw_ok, ← Zl, ← Zj, ← Zd, ← Zb, ← Zc, ← Zk, ← Zm, GT.gt, GE.ge]
  repeat' (with_reducible first | exact Le.rfl | assumption | exact Zm7 _ _ _ | exact Zg _ _ _ | exact Zf _ _ _ _ | (refine le_if ?_ ?_) | (refine Zh ?_ fun _ => ?_) | (refine Zi ?_) | (refine Ze fun _ => ?_))
noncomputable def Zg1 (F : Nat) (y2 : Int) (r59 : List Int) : Int → Option ((Int) ⊕ ((Int) ⊕ (Bool)))
  | y9 =>
    bif lti (y9) ((r59.length : Int)) then
      fbind (cIdx r59 y9) fun e68 =>
      bif lti (y2) (e68) then
        some (.inr (.inr (false)))
      else
        some (.inl (cw (y9 + 1)))
    else
      some (.inr (.inr (true)))
theorem ZnW {F : Nat} (y2 : Int) (r59 : List Int)  (s_ : _) : Le (Zg1 F y2 r59 s_) (Zdp y2 r59 s_) := by
  unfold Zg1 Zdp
  try simp only [← cw_ok, ← Zl, ← Zj, ← Zd, ← Zb, ← Zc, ← Zk, ← Zm, GT.gt, GE.ge]
  repeat' (with_reducible first | exact Le.rfl | assumption | exact Zg _ _ _ | exact Zf _ _ _ _ | (refine le_if ?_ ?_) | (refine Zh ?_ fun _ => ?_) | (refine Zi ?_) | (refine Ze fun _ => ?_))
noncomputable def ZeO (F : Nat) (y0 : Za) (y1 y2 : Int) : Int → Option ((Int) ⊕ (Bool))
  | y7 =>
    bif lti (y7) ((y0.Blocks.length : Int)) then
      fbind (cIdx y0.Blocks y7) fun e31 =>
      bif !eqi ((e31.length : Int)) (y1) then
        some (.inr (false))
      else
        bif lti (0) (y7) then
          fbind (cIdx y0.Blocks y7) fun e45 =>
          fbind (cIdx y0.Blocks (cw (y7 - 1))) fun e53 =>
          fbind (Zgv F e45 e53) fun r55 =>
          bif r55 then
            some (.inr (false))
          else
            some (.inl (cw (y7 + 1)))
        else
          some (.inl (cw (y7 + 1)))
    else
      fbind (Zex F y0) fun r59 =>
      lpF F (Zg1 F y2 r59) (0)
theorem Zkt {F : Nat} (y0 : Za) (y1 y2 : Int)  (s_ : _) : Le (ZeO F y0 y1 y2 s_) (Zd5 y0 y1 y2 s_) := by
  unfold ZeO Zd5
  try simp only [← cw_ok, ← Zl, ← Zj, ← Zd, ← Zb, ← Zc, ← Zk, ← Zm, GT.gt, GE.ge]
  repeat' (with_reducible first | exact Le.rfl | assumption | exact Zow _ _ | exact Zis _ | exact ZnW _ _ _ | exact Zg _ _ _ | exact Zf _ _ _ _ | (refine le_if ?_ ?_) | (refine Zh ?_ fun _ => ?_) | (refine Zi ?_) | (refine Ze fun _ => ?_))
noncomputable def Zfk (F : Nat) (y0 : Za) (y1 y2 : Int) : Option (Bool) :=
  lpF F (ZeO F y0 y1 y2) (0)
theorem ZoF {F : Nat} (y0 : Za) (y1 y2 : Int)  : Le (Zfk F y0 y1 y2) (ZcE y0 y1 y2) := by
  unfold Zfk ZcE
  try simp only [← cw_ok, ← Zl, ← Zj, ← Zd, ← Zb, ← Zc, ← Zk, ← Zm, GT.gt, GE.ge]
  repeat' (with_reducible first | exact Le.rfl | assumption | exact Zkt _ _ _ _ | exact Zg _ _ _ | exact Zf _ _ _ _ | (refine le_if ?_ ?_) | (refine Zh ?_ fun _ => ?_) | (refine Zi ?_) | (refine Ze fun _ => ?_))
noncomputable def ZhL (F : Nat) (y0 : Za) (y1 y2 : Int) : Option Bool :=
  fbind (Zdz F y0) fun r11 =>
  bif !r11 then
    some (false)
  else
    bif lti (y2) (1) then
      some (false)
    else
      Zfk F y0 y1 y2
theorem ZkC {F : Nat} (y0 : Za) (y1 y2 : Int)  : Le (ZhL F y0 y1 y2) (ZbY y0 y1 y2) := by
  unfold ZhL ZbY
  try simp only [← cw_ok, ← Zl, ← Zj, ← Zd, ← Zb, ← Zc, ← Zk, ← Zm, GT.gt, GE.ge]
  repeat' (with_reducible first | exact Le.rfl | assumption | exact Zja _ | exact ZoF _ _ _ | exact Zg _ _ _ | exact Zf _ _ _ _ | (refine le_if ?_ ?_) | (refine Zh ?_ fun _ => ?_) | (refine Zi ?_) | (refine Ze fun _ => ?_))
noncomputable def Zem (F : Nat) (d0 : Za) (k1 lambda2 : Int) : Option Bool :=
  fbind (ZhL F (Za.mk d0.Points d0.Blocks) k1 lambda2) fun r9 =>
  some (r9)
theorem ZjQ {F : Nat} (d0 : Za) (k1 lambda2 : Int)  : Le (Zem F d0 k1 lambda2) (Zaz d0 k1 lambda2) := by
  unfold Zem Zaz
  try simp only [← cw_ok, ← Zl, ← Zj, ← Zd, ← Zb, ← Zc, ← Zk, ← Zm, GT.gt, GE.ge]
  repeat' (with_reducible first | exact Le.rfl | assumption | exact ZkC _ _ _ | exact Zg _ _ _ | exact Zf _ _ _ _ | (refine le_if ?_ ?_) | (refine Zh ?_ fun _ => ?_) | (refine Zi ?_) | (refine Ze fun _ => ?_))
noncomputable def Zez (F : Nat) (a0 b1 : List Int) : Int → Option ((Int) ⊕ (Bool))
  | i5 =>
    bif lti (i5) ((a0.length : Int)) then
      fbind (cIdx a0 i5) fun e19 =>
      fbind (cIdx b1 i5) fun e23 =>
      bif !eqi (e19) (e23) then
        some (.inr (false))
      else
        some (.inl (cw (i5 + 1)))
    else
      some (.inr (true))
theorem ZoN {F : Nat} (a0 b1 : List Int)  (s_ : _) : Le (Zez F a0 b1 s_) (ZdN a0 b1 s_) := by
  unfold Zez ZdN
  try simp only [← cw_ok, ← Zl, ← Zj, ← Zd, ← Zb, ← Zc, ← Zk, ← Zm, GT.gt, GE.ge]
  repeat' (with_reducible first | exact Le.rfl | assumption | exact Zg _ _ _ | exact Zf _ _ _ _ | (refine le_if ?_ ?_) | (refine Zh ?_ fun _ => ?_) | (refine Zi ?_) | (refine Ze fun _ => ?_))
noncomputable def Zgy (F : Nat) (a0 b1 : List Int) : Option Bool :=
  bif !eqi ((a0.length : Int)) ((b1.length : Int)) then
    some (false)
  else
    lpF F (Zez F a0 b1) (0)
theorem ZpB {F : Nat} (a0 b1 : List Int)  : Le (Zgy F a0 b1) (ZcR a0 b1) := by
  unfold Zgy ZcR
  try simp only [← cw_ok, ← Zl, ← Zj, ← Zd, ← Zb, ← Zc, ← Zk, ← Zm, GT.gt, GE.ge]
  repeat' (with_reducible first | exact Le.rfl | assumption | exact ZoN _ _ _ | exact Zg _ _ _ | exact Zf _ _ _ _ | (refine le_if ?_ ?_) | (refine Zh ?_ fun _ => ?_) | (refine Zi ?_) | (refine Ze fun _ => ?_))
noncomputable def Zg9 (F : Nat) (v0 lambda2 : Int) (r29 : List (List Int)) : Int × List (List Int) × List (List Int) → Option ((Int × List (List Int) × List (List Int)) ⊕ (Za × Int))
  | (y31, xs, xs_2) =>
    bif lti (y31) ((r29.length : Int)) then
      fbind (cIdx r29 y31) fun e33 =>
      fbind (Zeu F xs_2 e33) fun r37 =>
      bif lti (r37) (lambda2) then
        fbind (ZaN F xs_2 e33 1) fun r42 =>
        fbind (cApp 24 xs [e33]) fun l47 =>
        some (.inl (cw (y31 + 1), l47, r42))
      else
        some (.inl (cw (y31 + 1), xs, xs_2))
    else
      fbind (Zc0 F v0 xs) fun r53 =>
      some (.inr (((Za.mk r53.1.Points r53.1.Blocks), r53.2)))
theorem ZpE {F : Nat} (v0 lambda2 : Int) (r29 : List (List Int))  (s_ : _) : Le (Zg9 F v0 lambda2 r29 s_) (Zbd v0 lambda2 r29 s_) := by
  obtain ⟨y31, xs, xs_2⟩ := s_
  unfold Zg9 Zbd
  try simp only [← cw_ok, ← Zl, ← Zj, ← Zd, ← Zb, ← Zc, ← Zk, ← Zm, GT.gt, GE.ge]
  repeat' (with_reducible first | exact Le.rfl | assumption | exact ZjA _ _ | exact ZgM _ _ _ | exact ZhN _ _ | exact Zg _ _ _ | exact Zf _ _ _ _ | (refine le_if ?_ ?_) | (refine Zh ?_ fun _ => ?_) | (refine Zi ?_) | (refine Ze fun _ => ?_))
noncomputable def Zgx (F : Nat) (v0 k1 lambda2 : Int) : Option (Za × Int) :=
  fbind (ZdS F v0 k1 lambda2) fun r15 =>
  bif !r15 then
    some (((Za.mk 0 ([] : List (List Int))), 2))
  else
    fbind (ZaH F v0 k1) fun r20 =>
    bif lti (1500) (r20) then
      some (((Za.mk 0 ([] : List (List Int))), 5))
    else
      fbind (ZdQ F (Za.mk v0 ([] : List (List Int)))) fun r26 =>
      fbind (ZbE F v0 k1) fun r29 =>
      lpF F (Zg9 F v0 lambda2 r29) (0, ([] : List (List Int)), r26)
theorem Zkx {F : Nat} (v0 k1 lambda2 : Int)  : Le (Zgx F v0 k1 lambda2) (Zcu v0 k1 lambda2) := by
  unfold Zgx Zcu
  try simp only [← cw_ok, ← Zl, ← Zj, ← Zd, ← Zb, ← Zc, ← Zk, ← Zm, GT.gt, GE.ge]
  repeat' (with_reducible first | exact Le.rfl | assumption | exact Zj1 _ _ _ | exact Zep _ _ | exact Zix _ | exact Zfq _ _ | exact ZpE _ _ _ _ | exact Zg _ _ _ | exact Zf _ _ _ _ | (refine le_if ?_ ?_) | (refine Zh ?_ fun _ => ?_) | (refine Zi ?_) | (refine Ze fun _ => ?_))
noncomputable def ZfL (F : Nat) (l101 : List (List Int)) (r105 : Za × Int) (y23 : Int) : Bool × Int → Option ((Bool × Int) ⊕ ((Int) ⊕ ((Int × Int) ⊕ (Bool))))
  | (y24, y25) =>
    bif lti (y25) ((r105.1.Blocks.length : Int)) then
      bif y24 then
        some (.inl (true, cw (y25 + 1)))
      else
        fbind (cIdx l101 y23) fun e160 =>
        fbind (cIdx r105.1.Blocks y25) fun e165 =>
        fbind (Zgy F e160 e165) fun r167 =>
        some (.inl (r167, cw (y25 + 1)))
    else
      bif !y24 then
        some (.inr (.inr (.inr (false))))
      else
        some (.inr (.inl (cw (y23 + 1))))
theorem Zlw {F : Nat} (l101 : List (List Int)) (r105 : Za × Int) (y23 : Int)  (s_ : _) : Le (ZfL F l101 r105 y23 s_) (Zeo l101 r105 y23 s_) := by
  obtain ⟨y24, y25⟩ := s_
  unfold ZfL Zeo
  try simp only [← cw_ok, ← Zl, ← Zj, ← Zd, ← Zb, ← Zc, ← Zk, ← Zm, GT.gt, GE.ge]
  repeat' (with_reducible first | exact Le.rfl | assumption | exact ZpB _ _ | exact Zg _ _ _ | exact Zf _ _ _ _ | (refine le_if ?_ ?_) | (refine Zh ?_ fun _ => ?_) | (refine Zi ?_) | (refine Ze fun _ => ?_))
noncomputable def Zhc (F : Nat) (r32 r94 : Int) (l101 : List (List Int)) (r105 : Za × Int) (y21 : Int) : Int → Option ((Int) ⊕ ((Int × Int) ⊕ (Bool)))
  | y23 =>
    bif lti (y23) ((l101.length : Int)) then
      lpF F (ZfL F l101 r105 y23) (false, 0)
    else
      fbind (Zgx F (cw (3 + r32)) 3 1) fun r173 =>
      fbind (cNz 2) fun _ =>
      bif eqi (y21) ((cw ((cw (Int.tdiv (cw ((cw (3 + r32)) * (cw ((cw (3 + r32)) - 1)))) 2)) - (cw (3 * r94))))) then
        bif eqi (r173.2) (0) then
          fbind (Zem F (Za.mk r173.1.Points r173.1.Blocks) 3 1) fun r192 =>
          some (.inr (.inr (r192)))
        else
          some (.inr (.inr (false)))
      else
        some (.inr (.inr (false)))
theorem Zl3 {F : Nat} (r32 r94 : Int) (l101 : List (List Int)) (r105 : Za × Int) (y21 : Int)  (s_ : _) : Le (Zhc F r32 r94 l101 r105 y21 s_) (Zee r32 r94 l101 r105 y21 s_) := by
  unfold Zhc Zee
  try simp only [← cw_ok, ← Zl, ← Zj, ← Zd, ← Zb, ← Zc, ← Zk, ← Zm, GT.gt, GE.ge]
  repeat' (with_reducible first | exact Le.rfl | assumption | exact Zlw _ _ _ _ | exact Zkx _ _ _ | exact ZjQ _ _ _ | exact Zg _ _ _ | exact Zf _ _ _ _ | (refine le_if ?_ ?_) | (refine Zh ?_ fun _ => ?_) | (refine Zi ?_) | (refine Ze fun _ => ?_))
noncomputable def Zgt (F : Nat) (r32 r94 : Int) (l101 : List (List Int)) (r105 : Za × Int) (r110 : (List Int) × Int) : Int × Int → Option ((Int × Int) ⊕ (Bool))
  | (y21, y22) =>
    bif lti (y22) ((r110.1.length : Int)) then
      fbind (cIdx r110.1 y22) fun e138 =>
      some (.inl (cw (y21 + e138), cw (y22 + 1)))
    else
      lpF F (Zhc F r32 r94 l101 r105 y21) (0)
theorem Zpy {F : Nat} (r32 r94 : Int) (l101 : List (List Int)) (r105 : Za × Int) (r110 : (List Int) × Int)  (s_ : _) : Le (Zgt F r32 r94 l101 r105 r110 s_) (ZdL r32 r94 l101 r105 r110 s_) := by
  obtain ⟨y21, y22⟩ := s_
  unfold Zgt ZdL
  try simp only [← cw_ok, ← Zl, ← Zj, ← Zd, ← Zb, ← Zc, ← Zk, ← Zm, GT.gt, GE.ge]
  repeat' (with_reducible first | exact Le.rfl | assumption | exact Zl3 _ _ _ _ _ _ | exact Zg _ _ _ | exact Zf _ _ _ _ | (refine le_if ?_ ?_) | (refine Zh ?_ fun _ => ?_) | (refine Zi ?_) | (refine Ze fun _ => ?_))
noncomputable def ZfX (F : Nat) (r32 r94 : Int) (l101 : List (List Int)) (r105 : Za × Int) (r110 : (List Int) × Int) : Option (Bool) :=
  lpF F (Zgt F r32 r94 l101 r105 r110) (0, 0)
theorem Zpn {F : Nat} (r32 r94 : Int) (l101 : List (List Int)) (r105 : Za × Int) (r110 : (List Int) × Int)  : Le (ZfX F r32 r94 l101 r105 r110) (ZbV r32 r94 l101 r105 r110) := by
  unfold ZfX ZbV
  try simp only [← cw_ok, ← Zl, ← Zj, ← Zd, ← Zb, ← Zc, ← Zk, ← Zm, GT.gt, GE.ge]
  repeat' (with_reducible first | exact Le.rfl | assumption | exact Zpy _ _ _ _ _ _ | exact Zg _ _ _ | exact Zf _ _ _ _ | (refine le_if ?_ ?_) | (refine Zh ?_ fun _ => ?_) | (refine Zi ?_) | (refine Ze fun _ => ?_))
noncomputable def Zg5 (F : Nat) (y1 : List Int) (r32 : Int) (r68 : Za × Int) : Option (Bool) :=
  bif !eqi (r68.2) (0) then
    some (eqi (r68.2) (3))
  else
    fbind (ZgS F y1 0 (cw ((r68.1.Blocks.length : Int) + 1))) fun r94 =>
    fbind (cSl r68.1.Blocks 0 r94) fun l100 =>
    fbind (cApp 24 ([] : List (List Int)) l100) fun l101 =>
    fbind (Zg4 F (Za.mk (cw (3 + r32)) l101) 3 1 20000) fun r105 =>
    fbind (Ze6 F (Za.mk (cw (3 + r32)) l101) 3 1) fun r110 =>
    bif !eqi (r105.2) (0) then
      some (false)
    else
      bif !eqi (r110.2) (0) then
        some (false)
      else
        fbind (Zdm F (Za.mk r105.1.Points r105.1.Blocks)) fun r121 =>
        bif !r121 then
          some (false)
        else
          fbind (Zem F (Za.mk (cw (3 + r32)) l101) 3 1) fun r126 =>
          bif !r126 then
            some (false)
          else
            ZfX F r32 r94 l101 r105 r110
theorem Zly {F : Nat} (y1 : List Int) (r32 : Int) (r68 : Za × Int)  : Le (Zg5 F y1 r32 r68) (ZP y1 r32 r68) := by
  unfold Zg5 ZP
  try simp only [← cw_ok, ← Zl, ← Zj, ← Zd, ← Zb, ← Zc, ← Zk, ← Zm, GT.gt, GE.ge]
  repeat' (with_reducible first | exact Le.rfl | assumption | exact Zm1 _ _ _ | exact Zlf _ _ _ _ | exact ZoM _ _ _ | exact Zjt _ | exact ZjQ _ _ _ | exact Zpn _ _ _ _ _ | exact Zg _ _ _ | exact Zf _ _ _ _ | (refine le_if ?_ ?_) | (refine Zh ?_ fun _ => ?_) | (refine Zi ?_) | (refine Ze fun _ => ?_))
end Go.Proofs.YtocnokjekoglnaaGreat
