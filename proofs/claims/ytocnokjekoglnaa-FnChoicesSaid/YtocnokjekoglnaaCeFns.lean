import Derived.Test.YtocnokjekoglnaaPuEv
import Derived.Test.YtocnokjekoglnaaPuFns
namespace Go.Proofs.Ytocnokjekoglnaa
open Go Go.Vc
set_option linter.unusedVariables false
set_option linter.unusedSimpArgs false
set_option maxRecDepth 20000
noncomputable instance : Frc Zo where
  frc p k := Zo.rec (fun x0 x1 => Frc.frc x0 fun x0 => Frc.frc x1 fun x1 => k (.mk x0 x1)) p
  ok p k := by cases p; show Frc.frc _ _ = _; simp only [Frc.ok]
noncomputable def Zcw (F : Nat) (a0 b1 : List Int) : Option (Int) :=
  bif lti ((a0.length : Int)) ((b1.length : Int)) then
    some ((-1))
  else
    bif lti ((b1.length : Int)) ((a0.length : Int)) then
      some (1)
    else
      some (0)
theorem ZiR {F : Nat} (a0 b1 : List Int)  : Le (Zcw F a0 b1) (ZaJ a0 b1) := by
  unfold Zcw ZaJ
  try simp only [← cw_ok, ← Zf, ← Zh, ← Zc, ← Ze, ← Zd, ← Zm, GT.gt, GE.ge]
  repeat' (with_reducible first | exact Le.rfl | assumption | exact Zg _ _ _ | exact Zi _ _ _ _ | (refine le_if ?_ ?_) | (refine Zj ?_ fun _ => ?_) | (refine Zk ?_) | (refine Zl fun _ => ?_))
noncomputable def Zef (F : Nat) (a0 b1 : List Int) (i5 : Int) : Option ((Int) ⊕ (Int)) :=
  fbind (cIdx a0 i5) fun e20 =>
  fbind (cIdx b1 i5) fun e24 =>
  bif lti (e20) (e24) then
    some (.inr ((-1)))
  else
    fbind (cIdx a0 i5) fun e29 =>
    fbind (cIdx b1 i5) fun e33 =>
    bif lti (e33) (e29) then
      some (.inr (1))
    else
      some (.inl (cw (i5 + 1)))
theorem Zhc {F : Nat} (a0 b1 : List Int) (i5 : Int)  : Le (Zef F a0 b1 i5) (Za0 a0 b1 i5) := by
  unfold Zef Za0
  try simp only [← cw_ok, ← Zf, ← Zh, ← Zc, ← Ze, ← Zd, ← Zm, GT.gt, GE.ge]
  repeat' (with_reducible first | exact Le.rfl | assumption | exact Zg _ _ _ | exact Zi _ _ _ _ | (refine le_if ?_ ?_) | (refine Zj ?_ fun _ => ?_) | (refine Zk ?_) | (refine Zl fun _ => ?_))
noncomputable def Zdw (F : Nat) (a0 b1 : List Int) : Int → Option ((Int) ⊕ (Int))
  | i5 =>
    bif lti (i5) ((a0.length : Int)) then
      bif lti (i5) ((b1.length : Int)) then
        Zef F a0 b1 i5
      else
        fmap (Zcw F a0 b1) fun x => .inr (x)
    else
      fmap (Zcw F a0 b1) fun x => .inr (x)
theorem Zim {F : Nat} (a0 b1 : List Int)  (s_ : _) : Le (Zdw F a0 b1 s_) (ZbV a0 b1 s_) := by
  unfold Zdw ZbV
  try simp only [← cw_ok, ← Zf, ← Zh, ← Zc, ← Ze, ← Zd, ← Zm, GT.gt, GE.ge]
  repeat' (with_reducible first | exact Le.rfl | assumption | exact Zhc _ _ _ | exact ZiR _ _ | exact Zg _ _ _ | exact Zi _ _ _ _ | (refine le_if ?_ ?_) | (refine Zj ?_ fun _ => ?_) | (refine Zk ?_) | (refine Zl fun _ => ?_))
noncomputable def ZcZ (F : Nat) (a0 b1 : List Int) : Option Int :=
  lpF F (Zdw F a0 b1) (0)
theorem Zip {F : Nat} (a0 b1 : List Int)  : Le (ZcZ F a0 b1) (ZbM a0 b1) := by
  unfold ZcZ ZbM
  try simp only [← cw_ok, ← Zf, ← Zh, ← Zc, ← Ze, ← Zd, ← Zm, GT.gt, GE.ge]
  repeat' (with_reducible first | exact Le.rfl | assumption | exact Zim _ _ _ | exact Zg _ _ _ | exact Zi _ _ _ _ | (refine le_if ?_ ?_) | (refine Zj ?_ fun _ => ?_) | (refine Zk ?_) | (refine Zl fun _ => ?_))
noncomputable def ZbN (F : Nat) (lists0 : List (List Int)) (i7 : Int) (out5_2 : List (List Int)) (done6_2 : Bool) : Option ((List (List Int) × Bool × Int) ⊕ (List (List Int))) :=
  fbind (cIdx lists0 i7) fun e37 =>
  fbind (cApp 24 out5_2 [e37]) fun l40 =>
  some (.inl (l40, done6_2, cw (i7 + 1)))
theorem ZfY {F : Nat} (lists0 : List (List Int)) (i7 : Int) (out5_2 : List (List Int)) (done6_2 : Bool)  : Le (ZbN F lists0 i7 out5_2 done6_2) (Zah lists0 i7 out5_2 done6_2) := by
  unfold ZbN Zah
  try simp only [← cw_ok, ← Zf, ← Zh, ← Zc, ← Ze, ← Zd, ← Zm, GT.gt, GE.ge]
  repeat' (with_reducible first | exact Le.rfl | assumption | exact Zg _ _ _ | exact Zi _ _ _ _ | (refine le_if ?_ ?_) | (refine Zj ?_ fun _ => ?_) | (refine Zk ?_) | (refine Zl fun _ => ?_))
noncomputable def Zci (F : Nat) (lists0 : List (List Int)) (x1 : List Int) (out5 : List (List Int)) (done6 : Bool) (i7 r21 : Int) (y27 : Bool) : Option ((List (List Int) × Bool × Int) ⊕ (List (List Int))) :=
  bif y27 then
    bif lti (0) (r21) then
      fbind (cApp 24 out5 [x1]) fun l33 =>
      ZbN F lists0 i7 l33 true
    else
      ZbN F lists0 i7 out5 true
  else
    ZbN F lists0 i7 out5 done6
theorem ZgK {F : Nat} (lists0 : List (List Int)) (x1 : List Int) (out5 : List (List Int)) (done6 : Bool) (i7 r21 : Int) (y27 : Bool)  : Le (Zci F lists0 x1 out5 done6 i7 r21 y27) (ZaE lists0 x1 out5 done6 i7 r21 y27) := by
  unfold Zci ZaE
  try simp only [← cw_ok, ← Zf, ← Zh, ← Zc, ← Ze, ← Zd, ← Zm, GT.gt, GE.ge]
  repeat' (with_reducible first | exact Le.rfl | assumption | exact ZfY _ _ _ _ | exact Zg _ _ _ | exact Zi _ _ _ _ | (refine le_if ?_ ?_) | (refine Zj ?_ fun _ => ?_) | (refine Zk ?_) | (refine Zl fun _ => ?_))
noncomputable def Zee (F : Nat) (lists0 : List (List Int)) (x1 : List Int) : List (List Int) × Bool × Int → Option ((List (List Int) × Bool × Int) ⊕ (List (List Int)))
  | (out5, done6, i7) =>
    bif lti (i7) ((lists0.length : Int)) then
      fbind (cIdx lists0 i7) fun e18 =>
      fbind (ZcZ F e18 x1) fun r21 =>
      bif !done6 then
        Zci F lists0 x1 out5 done6 i7 r21 (lei (0) (r21))
      else
        Zci F lists0 x1 out5 done6 i7 r21 false
    else
      bif !done6 then
        fbind (cApp 24 out5 [x1]) fun l46 =>
        some (.inr (l46))
      else
        some (.inr (out5))
theorem Zih {F : Nat} (lists0 : List (List Int)) (x1 : List Int)  (s_ : _) : Le (Zee F lists0 x1 s_) (Za2 lists0 x1 s_) := by
  obtain ⟨out5, done6, i7⟩ := s_
  unfold Zee Za2
  try simp only [← cw_ok, ← Zf, ← Zh, ← Zc, ← Ze, ← Zd, ← Zm, GT.gt, GE.ge]
  repeat' (with_reducible first | exact Le.rfl | assumption | exact Zip _ _ | exact ZgK _ _ _ _ _ _ _ | exact Zg _ _ _ | exact Zi _ _ _ _ | (refine le_if ?_ ?_) | (refine Zj ?_ fun _ => ?_) | (refine Zk ?_) | (refine Zl fun _ => ?_))
noncomputable def ZcC (F : Nat) (lists0 : List (List Int)) (x1 : List Int) : Option (List (List Int)) :=
  lpF F (Zee F lists0 x1) (([] : List (List Int)), false, 0)
theorem ZfB {F : Nat} (lists0 : List (List Int)) (x1 : List Int)  : Le (ZcC F lists0 x1) (ZaS lists0 x1) := by
  unfold ZcC ZaS
  try simp only [← cw_ok, ← Zf, ← Zh, ← Zc, ← Ze, ← Zd, ← Zm, GT.gt, GE.ge]
  repeat' (with_reducible first | exact Le.rfl | assumption | exact Zih _ _ _ | exact Zg _ _ _ | exact Zi _ _ _ _ | (refine le_if ?_ ?_) | (refine Zj ?_ fun _ => ?_) | (refine Zk ?_) | (refine Zl fun _ => ?_))
noncomputable def Zdh (F : Nat) (degree0 : Int) (list1 : List (List Int)) : List (List Int) × Int → Option ((List (List Int) × Int) ⊕ (Zo))
  | (out5, i6) =>
    bif lti (i6) ((list1.length : Int)) then
      fbind (cIdx list1 i6) fun e17 =>
      fbind (ZcC F out5 e17) fun r19 =>
      some (.inl (r19, cw (i6 + 1)))
    else
      some (.inr ((Zo.mk degree0 out5)))
theorem Zjw {F : Nat} (degree0 : Int) (list1 : List (List Int))  (s_ : _) : Le (Zdh F degree0 list1 s_) (ZbB degree0 list1 s_) := by
  obtain ⟨out5, i6⟩ := s_
  unfold Zdh ZbB
  try simp only [← cw_ok, ← Zf, ← Zh, ← Zc, ← Ze, ← Zd, ← Zm, GT.gt, GE.ge]
  repeat' (with_reducible first | exact Le.rfl | assumption | exact ZfB _ _ | exact Zg _ _ _ | exact Zi _ _ _ _ | (refine le_if ?_ ?_) | (refine Zj ?_ fun _ => ?_) | (refine Zk ?_) | (refine Zl fun _ => ?_))
noncomputable def Zdg (F : Nat) (degree0 : Int) (list1 : List (List Int)) : Option Zo :=
  lpF F (Zdh F degree0 list1) (([] : List (List Int)), 0)
theorem Zjm {F : Nat} (degree0 : Int) (list1 : List (List Int))  : Le (Zdg F degree0 list1) (ZbG degree0 list1) := by
  unfold Zdg ZbG
  try simp only [← cw_ok, ← Zf, ← Zh, ← Zc, ← Ze, ← Zd, ← Zm, GT.gt, GE.ge]
  repeat' (with_reducible first | exact Le.rfl | assumption | exact Zjw _ _ _ | exact Zg _ _ _ | exact Zi _ _ _ _ | (refine le_if ?_ ?_) | (refine Zj ?_ fun _ => ?_) | (refine Zk ?_) | (refine Zl fun _ => ?_))
noncomputable def Zek (F : Nat) (n0 : Int) (factor1 : List Int) (i6 : Int) (list5_2 : List (List Int)) (b7 : Int) : List Int × Int → Option ((List Int × Int) ⊕ ((List (List Int) × Int) ⊕ ((List (List Int) × Int) ⊕ (Zo))))
  | (p8, x9) =>
    bif lti (x9) (n0) then
      fbind (cIdx factor1 i6) fun e31 =>
      fbind (cNz n0) fun _ =>
      fbind (cApp 8 p8 [Int.tmod (cw ((cw (e31 * x9)) + b7)) n0]) fun l40 =>
      some (.inl (l40, cw (x9 + 1)))
    else
      fbind (cApp 24 list5_2 [p8]) fun l44 =>
      some (.inr (.inl (l44, cw (b7 + 1))))
theorem Zjo {F : Nat} (n0 : Int) (factor1 : List Int) (i6 : Int) (list5_2 : List (List Int)) (b7 : Int)  (s_ : _) : Le (Zek F n0 factor1 i6 list5_2 b7 s_) (Zbq n0 factor1 i6 list5_2 b7 s_) := by
  obtain ⟨p8, x9⟩ := s_
  unfold Zek Zbq
  try simp only [← cw_ok, ← Zf, ← Zh, ← Zc, ← Ze, ← Zd, ← Zm, GT.gt, GE.ge]
  repeat' (with_reducible first | exact Le.rfl | assumption | exact Zg _ _ _ | exact Zi _ _ _ _ | (refine le_if ?_ ?_) | (refine Zj ?_ fun _ => ?_) | (refine Zk ?_) | (refine Zl fun _ => ?_))
noncomputable def ZdL (F : Nat) (n0 : Int) (factor1 : List Int) (i6 : Int) : List (List Int) × Int → Option ((List (List Int) × Int) ⊕ ((List (List Int) × Int) ⊕ (Zo)))
  | (list5_2, b7) =>
    bif lti (b7) (n0) then
      lpF F (Zek F n0 factor1 i6 list5_2 b7) (([] : List Int), 0)
    else
      some (.inr (.inl (list5_2, cw (i6 + 1))))
theorem Zjp {F : Nat} (n0 : Int) (factor1 : List Int) (i6 : Int)  (s_ : _) : Le (ZdL F n0 factor1 i6 s_) (Zby n0 factor1 i6 s_) := by
  obtain ⟨list5_2, b7⟩ := s_
  unfold ZdL Zby
  try simp only [← cw_ok, ← Zf, ← Zh, ← Zc, ← Ze, ← Zd, ← Zm, GT.gt, GE.ge]
  repeat' (with_reducible first | exact Le.rfl | assumption | exact Zjo _ _ _ _ _ _ | exact Zg _ _ _ | exact Zi _ _ _ _ | (refine le_if ?_ ?_) | (refine Zj ?_ fun _ => ?_) | (refine Zk ?_) | (refine Zl fun _ => ?_))
noncomputable def Zd9 (F : Nat) (n0 : Int) (factor1 : List Int) : List (List Int) × Int → Option ((List (List Int) × Int) ⊕ (Zo))
  | (list5, i6) =>
    bif lti (i6) ((factor1.length : Int)) then
      lpF F (ZdL F n0 factor1 i6) (list5, 0)
    else
      fbind (Zdg F n0 list5) fun r47 =>
      some (.inr ((Zo.mk r47.Degree r47.Elements)))
theorem Zha {F : Nat} (n0 : Int) (factor1 : List Int)  (s_ : _) : Le (Zd9 F n0 factor1 s_) (ZbR n0 factor1 s_) := by
  obtain ⟨list5, i6⟩ := s_
  unfold Zd9 ZbR
  try simp only [← cw_ok, ← Zf, ← Zh, ← Zc, ← Ze, ← Zd, ← Zm, GT.gt, GE.ge]
  repeat' (with_reducible first | exact Le.rfl | assumption | exact Zjp _ _ _ _ | exact Zjm _ _ | exact Zg _ _ _ | exact Zi _ _ _ _ | (refine le_if ?_ ?_) | (refine Zj ?_ fun _ => ?_) | (refine Zk ?_) | (refine Zl fun _ => ?_))
noncomputable def ZcQ (F : Nat) (n0 : Int) (factor1 : List Int) : Option Zo :=
  lpF F (Zd9 F n0 factor1) (([] : List (List Int)), 0)
theorem ZhL {F : Nat} (n0 : Int) (factor1 : List Int)  : Le (ZcQ F n0 factor1) (ZaO n0 factor1) := by
  unfold ZcQ ZaO
  try simp only [← cw_ok, ← Zf, ← Zh, ← Zc, ← Ze, ← Zd, ← Zm, GT.gt, GE.ge]
  repeat' (with_reducible first | exact Le.rfl | assumption | exact Zha _ _ _ | exact Zg _ _ _ | exact Zi _ _ _ _ | (refine le_if ?_ ?_) | (refine Zj ?_ fun _ => ?_) | (refine Zk ?_) | (refine Zl fun _ => ?_))
noncomputable def Zcj (F : Nat) (n0 low1 high2 : Int) : Option Bool :=
  bif lei (low1) (n0) then
    some (lei (n0) (high2))
  else
    some (false)
theorem ZhM {F : Nat} (n0 low1 high2 : Int)  : Le (Zcj F n0 low1 high2) (Z5 n0 low1 high2) := by
  unfold Zcj Z5
  try simp only [← cw_ok, ← Zf, ← Zh, ← Zc, ← Ze, ← Zd, ← Zm, GT.gt, GE.ge]
  repeat' (with_reducible first | exact Le.rfl | assumption | exact Zg _ _ _ | exact Zi _ _ _ _ | (refine le_if ?_ ?_) | (refine Zj ?_ fun _ => ?_) | (refine Zk ?_) | (refine Zl fun _ => ?_))
noncomputable def Zc6 (F : Nat) (n0 k1 : Int) : Int × Int → Option ((Int × Int) ⊕ (Int))
  | (out5, i6) =>
    bif lei (i6) (k1) then
      fbind (cNz i6) fun _ =>
      some (.inl (cw (Int.tdiv (cw (out5 * (cw ((cw (n0 - k1)) + i6)))) i6), cw (i6 + 1)))
    else
      some (.inr (out5))
theorem Zho {F : Nat} (n0 k1 : Int)  (s_ : _) : Le (Zc6 F n0 k1 s_) (Zct n0 k1 s_) := by
  obtain ⟨out5, i6⟩ := s_
  unfold Zc6 Zct
  try simp only [← cw_ok, ← Zf, ← Zh, ← Zc, ← Ze, ← Zd, ← Zm, GT.gt, GE.ge]
  repeat' (with_reducible first | exact Le.rfl | assumption | exact Zg _ _ _ | exact Zi _ _ _ _ | (refine le_if ?_ ?_) | (refine Zj ?_ fun _ => ?_) | (refine Zk ?_) | (refine Zl fun _ => ?_))
noncomputable def ZdX (F : Nat) (n0 k1 : Int) : Option (Int) :=
  lpF F (Zc6 F n0 k1) (1, 1)
theorem Zgw {F : Nat} (n0 k1 : Int)  : Le (ZdX F n0 k1) (Zbe n0 k1) := by
  unfold ZdX Zbe
  try simp only [← cw_ok, ← Zf, ← Zh, ← Zc, ← Ze, ← Zd, ← Zm, GT.gt, GE.ge]
  repeat' (with_reducible first | exact Le.rfl | assumption | exact Zho _ _ _ | exact Zg _ _ _ | exact Zi _ _ _ _ | (refine le_if ?_ ?_) | (refine Zj ?_ fun _ => ?_) | (refine Zk ?_) | (refine Zl fun _ => ?_))
noncomputable def Za1 (F : Nat) (n0 k1 : Int) : Option Int :=
  fbind (Zcj F n0 0 32) fun r8 =>
  bif !r8 then
    some (0)
  else
    fbind (Zcj F k1 0 n0) fun r13 =>
    bif !r13 then
      some (0)
    else
      ZdX F n0 k1
theorem ZdJ {F : Nat} (n0 k1 : Int)  : Le (Za1 F n0 k1) (Zam n0 k1) := by
  unfold Za1 Zam
  try simp only [← cw_ok, ← Zf, ← Zh, ← Zc, ← Ze, ← Zd, ← Zm, GT.gt, GE.ge]
  repeat' (with_reducible first | exact Le.rfl | assumption | exact ZhM _ _ _ | exact Zgw _ _ | exact Zg _ _ _ | exact Zi _ _ _ _ | (refine le_if ?_ ?_) | (refine Zj ?_ fun _ => ?_) | (refine Zk ?_) | (refine Zl fun _ => ?_))
noncomputable def Za4 (F : Nat) (list0 : List Int) (i7 : Int) (out5_2 : List Int) (done6_2 : Bool) : Option ((List Int × Bool × Int) ⊕ (List Int)) :=
  fbind (cIdx list0 i7) fun e38 =>
  fbind (cApp 8 out5_2 [e38]) fun l41 =>
  some (.inl (l41, done6_2, cw (i7 + 1)))
theorem Zgs {F : Nat} (list0 : List Int) (i7 : Int) (out5_2 : List Int) (done6_2 : Bool)  : Le (Za4 F list0 i7 out5_2 done6_2) (Zas list0 i7 out5_2 done6_2) := by
  unfold Za4 Zas
  try simp only [← cw_ok, ← Zf, ← Zh, ← Zc, ← Ze, ← Zd, ← Zm, GT.gt, GE.ge]
  repeat' (with_reducible first | exact Le.rfl | assumption | exact Zg _ _ _ | exact Zi _ _ _ _ | (refine le_if ?_ ?_) | (refine Zj ?_ fun _ => ?_) | (refine Zk ?_) | (refine Zl fun _ => ?_))
noncomputable def ZcG (F : Nat) (list0 : List Int) (n1 : Int) (out5 : List Int) (done6 : Bool) (i7 : Int) (y24 : Bool) : Option ((List Int × Bool × Int) ⊕ (List Int)) :=
  bif y24 then
    fbind (cIdx list0 i7) fun e27 =>
    bif lti (n1) (e27) then
      fbind (cApp 8 out5 [n1]) fun l34 =>
      Za4 F list0 i7 l34 true
    else
      Za4 F list0 i7 out5 true
  else
    Za4 F list0 i7 out5 done6
theorem ZjA {F : Nat} (list0 : List Int) (n1 : Int) (out5 : List Int) (done6 : Bool) (i7 : Int) (y24 : Bool)  : Le (ZcG F list0 n1 out5 done6 i7 y24) (ZaC list0 n1 out5 done6 i7 y24) := by
  unfold ZcG ZaC
  try simp only [← cw_ok, ← Zf, ← Zh, ← Zc, ← Ze, ← Zd, ← Zm, GT.gt, GE.ge]
  repeat' (with_reducible first | exact Le.rfl | assumption | exact Zgs _ _ _ _ | exact Zg _ _ _ | exact Zi _ _ _ _ | (refine le_if ?_ ?_) | (refine Zj ?_ fun _ => ?_) | (refine Zk ?_) | (refine Zl fun _ => ?_))
noncomputable def Zds (F : Nat) (list0 : List Int) (n1 : Int) : List Int × Bool × Int → Option ((List Int × Bool × Int) ⊕ (List Int))
  | (out5, done6, i7) =>
    bif lti (i7) ((list0.length : Int)) then
      bif !done6 then
        fbind (cIdx list0 i7) fun e20 =>
        ZcG F list0 n1 out5 done6 i7 (lei (n1) (e20))
      else
        ZcG F list0 n1 out5 done6 i7 false
    else
      bif !done6 then
        fbind (cApp 8 out5 [n1]) fun l47 =>
        some (.inr (l47))
      else
        some (.inr (out5))
theorem ZfI {F : Nat} (list0 : List Int) (n1 : Int)  (s_ : _) : Le (Zds F list0 n1 s_) (ZbE list0 n1 s_) := by
  obtain ⟨out5, done6, i7⟩ := s_
  unfold Zds ZbE
  try simp only [← cw_ok, ← Zf, ← Zh, ← Zc, ← Ze, ← Zd, ← Zm, GT.gt, GE.ge]
  repeat' (with_reducible first | exact Le.rfl | assumption | exact ZjA _ _ _ _ _ _ | exact Zg _ _ _ | exact Zi _ _ _ _ | (refine le_if ?_ ?_) | (refine Zj ?_ fun _ => ?_) | (refine Zk ?_) | (refine Zl fun _ => ?_))
noncomputable def Zdj (F : Nat) (list0 : List Int) (n1 : Int) : Option (List Int) :=
  lpF F (Zds F list0 n1) (([] : List Int), false, 0)
theorem ZiN {F : Nat} (list0 : List Int) (n1 : Int)  : Le (Zdj F list0 n1) (Zbg list0 n1) := by
  unfold Zdj Zbg
  try simp only [← cw_ok, ← Zf, ← Zh, ← Zc, ← Ze, ← Zd, ← Zm, GT.gt, GE.ge]
  repeat' (with_reducible first | exact Le.rfl | assumption | exact ZfI _ _ _ | exact Zg _ _ _ | exact Zi _ _ _ _ | (refine le_if ?_ ?_) | (refine Zj ?_ fun _ => ?_) | (refine Zk ?_) | (refine Zl fun _ => ?_))
noncomputable def ZcK (F : Nat) (p0 set1 : List Int) : List Int × Int → Option ((List Int × Int) ⊕ (List Int))
  | (out5, i6) =>
    bif lti (i6) ((set1.length : Int)) then
      fbind (cIdx set1 i6) fun e18 =>
      fbind (cIdx p0 e18) fun e20 =>
      fbind (Zdj F out5 e20) fun r22 =>
      some (.inl (r22, cw (i6 + 1)))
    else
      some (.inr (out5))
theorem ZhG {F : Nat} (p0 set1 : List Int)  (s_ : _) : Le (ZcK F p0 set1 s_) (Zbw p0 set1 s_) := by
  obtain ⟨out5, i6⟩ := s_
  unfold ZcK Zbw
  try simp only [← cw_ok, ← Zf, ← Zh, ← Zc, ← Ze, ← Zd, ← Zm, GT.gt, GE.ge]
  repeat' (with_reducible first | exact Le.rfl | assumption | exact ZiN _ _ | exact Zg _ _ _ | exact Zi _ _ _ _ | (refine le_if ?_ ?_) | (refine Zj ?_ fun _ => ?_) | (refine Zk ?_) | (refine Zl fun _ => ?_))
noncomputable def Zc5 (F : Nat) (p0 set1 : List Int) : Option (List Int) :=
  lpF F (ZcK F p0 set1) (([] : List Int), 0)
theorem ZjF {F : Nat} (p0 set1 : List Int)  : Le (Zc5 F p0 set1) (ZbD p0 set1) := by
  unfold Zc5 ZbD
  try simp only [← cw_ok, ← Zf, ← Zh, ← Zc, ← Ze, ← Zd, ← Zm, GT.gt, GE.ge]
  repeat' (with_reducible first | exact Le.rfl | assumption | exact ZhG _ _ _ | exact Zg _ _ _ | exact Zi _ _ _ _ | (refine le_if ?_ ?_) | (refine Zj ?_ fun _ => ?_) | (refine Zk ?_) | (refine Zl fun _ => ?_))
noncomputable def Zd0 (F : Nat) (g0 : Zo) (set1 : List Int) : List (List Int) × Int → Option ((List (List Int) × Int) ⊕ (List (List Int)))
  | (out5, i6) =>
    bif lti (i6) ((g0.Elements.length : Int)) then
      fbind (cIdx g0.Elements i6) fun e23 =>
      fbind (Zc5 F e23 set1) fun r26 =>
      fbind (ZcC F out5 r26) fun r27 =>
      some (.inl (r27, cw (i6 + 1)))
    else
      some (.inr (out5))
theorem ZhZ {F : Nat} (g0 : Zo) (set1 : List Int)  (s_ : _) : Le (Zd0 F g0 set1 s_) (Zbu g0 set1 s_) := by
  obtain ⟨out5, i6⟩ := s_
  unfold Zd0 Zbu
  try simp only [← cw_ok, ← Zf, ← Zh, ← Zc, ← Ze, ← Zd, ← Zm, GT.gt, GE.ge]
  repeat' (with_reducible first | exact Le.rfl | assumption | exact ZjF _ _ | exact ZfB _ _ | exact Zg _ _ _ | exact Zi _ _ _ _ | (refine le_if ?_ ?_) | (refine Zj ?_ fun _ => ?_) | (refine Zk ?_) | (refine Zl fun _ => ?_))
noncomputable def Zdi (F : Nat) (g0 : Zo) (set1 : List Int) : Option (List (List Int)) :=
  lpF F (Zd0 F g0 set1) (([] : List (List Int)), 0)
theorem Zhy {F : Nat} (g0 : Zo) (set1 : List Int)  : Le (Zdi F g0 set1) (ZbS g0 set1) := by
  unfold Zdi ZbS
  try simp only [← cw_ok, ← Zf, ← Zh, ← Zc, ← Ze, ← Zd, ← Zm, GT.gt, GE.ge]
  repeat' (with_reducible first | exact Le.rfl | assumption | exact ZhZ _ _ _ | exact Zg _ _ _ | exact Zi _ _ _ _ | (refine le_if ?_ ?_) | (refine Zj ?_ fun _ => ?_) | (refine Zk ?_) | (refine Zl fun _ => ?_))
noncomputable def ZdE (F : Nat) (n0 k1 rank2_2 : Int) (out7 : List Int) (x8 : Int) : Option ((Int × List Int × Int) ⊕ (List Int)) :=
  fbind (Za1 F (cw ((cw (n0 - 1)) - x8)) (cw ((cw (k1 - 1)) - (out7.length : Int)))) fun r29 =>
  bif lti (rank2_2) (r29) then
    fbind (cApp 8 out7 [x8]) fun l36 =>
    some (.inl (rank2_2, l36, cw (x8 + 1)))
  else
    some (.inl (cw (rank2_2 - r29), out7, cw (x8 + 1)))
theorem ZgU {F : Nat} (n0 k1 rank2_2 : Int) (out7 : List Int) (x8 : Int)  : Le (ZdE F n0 k1 rank2_2 out7 x8) (ZbO n0 k1 rank2_2 out7 x8) := by
  unfold ZdE ZbO
  try simp only [← cw_ok, ← Zf, ← Zh, ← Zc, ← Ze, ← Zd, ← Zm, GT.gt, GE.ge]
  repeat' (with_reducible first | exact Le.rfl | assumption | exact ZdJ _ _ | exact Zg _ _ _ | exact Zi _ _ _ _ | (refine le_if ?_ ?_) | (refine Zj ?_ fun _ => ?_) | (refine Zk ?_) | (refine Zl fun _ => ?_))
noncomputable def ZdH (F : Nat) (n0 k1 : Int) : Int × List Int × Int → Option ((Int × List Int × Int) ⊕ (List Int))
  | (rank2_2, out7, x8) =>
    bif lti ((out7.length : Int)) (k1) then
      bif lti (x8) (n0) then
        ZdE F n0 k1 rank2_2 out7 x8
      else
        some (.inr (out7))
    else
      some (.inr (out7))
theorem Zjj {F : Nat} (n0 k1 : Int)  (s_ : _) : Le (ZdH F n0 k1 s_) (ZaZ n0 k1 s_) := by
  obtain ⟨rank2_2, out7, x8⟩ := s_
  unfold ZdH ZaZ
  try simp only [← cw_ok, ← Zf, ← Zh, ← Zc, ← Ze, ← Zd, ← Zm, GT.gt, GE.ge]
  repeat' (with_reducible first | exact Le.rfl | assumption | exact ZgU _ _ _ _ _ | exact Zg _ _ _ | exact Zi _ _ _ _ | (refine le_if ?_ ?_) | (refine Zj ?_ fun _ => ?_) | (refine Zk ?_) | (refine Zl fun _ => ?_))
noncomputable def ZdM (F : Nat) (n0 k1 rank2 : Int) : Option (List Int) :=
  lpF F (ZdH F n0 k1) (rank2, ([] : List Int), 0)
theorem Zhi {F : Nat} (n0 k1 rank2 : Int)  : Le (ZdM F n0 k1 rank2) (Zbj n0 k1 rank2) := by
  unfold ZdM Zbj
  try simp only [← cw_ok, ← Zf, ← Zh, ← Zc, ← Ze, ← Zd, ← Zm, GT.gt, GE.ge]
  repeat' (with_reducible first | exact Le.rfl | assumption | exact Zjj _ _ _ | exact Zg _ _ _ | exact Zi _ _ _ _ | (refine le_if ?_ ?_) | (refine Zj ?_ fun _ => ?_) | (refine Zk ?_) | (refine Zl fun _ => ?_))
noncomputable def ZdI (F : Nat) (n0 : Int) (set1 : List Int) (i8 : Int) : Int × Int → Option ((Int × Int) ⊕ ((Int × Int × Int) ⊕ (Int)))
  | (rank5_2, x9) =>
    fbind (cIdx set1 i8) fun e21 =>
    bif lti (x9) (e21) then
      fbind (Za1 F (cw ((cw (n0 - 1)) - x9)) (cw ((cw ((set1.length : Int) - 1)) - i8))) fun r35 =>
      some (.inl (cw (rank5_2 + r35), cw (x9 + 1)))
    else
      fbind (cIdx set1 i8) fun e39 =>
      some (.inr (.inl (rank5_2, cw (e39 + 1), cw (i8 + 1))))
theorem ZiW {F : Nat} (n0 : Int) (set1 : List Int) (i8 : Int)  (s_ : _) : Le (ZdI F n0 set1 i8 s_) (Zb8 n0 set1 i8 s_) := by
  obtain ⟨rank5_2, x9⟩ := s_
  unfold ZdI Zb8
  try simp only [← cw_ok, ← Zf, ← Zh, ← Zc, ← Ze, ← Zd, ← Zm, GT.gt, GE.ge]
  repeat' (with_reducible first | exact Le.rfl | assumption | exact ZdJ _ _ | exact Zg _ _ _ | exact Zi _ _ _ _ | (refine le_if ?_ ?_) | (refine Zj ?_ fun _ => ?_) | (refine Zk ?_) | (refine Zl fun _ => ?_))
noncomputable def Zc1 (F : Nat) (n0 : Int) (set1 : List Int) : Int × Int × Int → Option ((Int × Int × Int) ⊕ (Int))
  | (rank5, low6, i8) =>
    bif lti (i8) ((set1.length : Int)) then
      lpF F (ZdI F n0 set1 i8) (rank5, low6)
    else
      some (.inr (rank5))
theorem Zhw {F : Nat} (n0 : Int) (set1 : List Int)  (s_ : _) : Le (Zc1 F n0 set1 s_) (Zcv n0 set1 s_) := by
  obtain ⟨rank5, low6, i8⟩ := s_
  unfold Zc1 Zcv
  try simp only [← cw_ok, ← Zf, ← Zh, ← Zc, ← Ze, ← Zd, ← Zm, GT.gt, GE.ge]
  repeat' (with_reducible first | exact Le.rfl | assumption | exact ZiW _ _ _ _ | exact Zg _ _ _ | exact Zi _ _ _ _ | (refine le_if ?_ ?_) | (refine Zj ?_ fun _ => ?_) | (refine Zk ?_) | (refine Zl fun _ => ?_))
noncomputable def Zed (F : Nat) (n0 : Int) (set1 : List Int) : Option Int :=
  lpF F (Zc1 F n0 set1) (0, 0, 0)
theorem Zh0 {F : Nat} (n0 : Int) (set1 : List Int)  : Le (Zed F n0 set1) (Za5 n0 set1) := by
  unfold Zed Za5
  try simp only [← cw_ok, ← Zf, ← Zh, ← Zc, ← Ze, ← Zd, ← Zm, GT.gt, GE.ge]
  repeat' (with_reducible first | exact Le.rfl | assumption | exact Zhw _ _ _ | exact Zg _ _ _ | exact Zi _ _ _ _ | (refine le_if ?_ ?_) | (refine Zj ?_ fun _ => ?_) | (refine Zk ?_) | (refine Zl fun _ => ?_))
noncomputable def ZdS (F : Nat) (g0 : Zo) (out7 : List (List (List Int))) (rank8 : Int) (r37 : List (List Int)) : Int × List Bool → Option ((Int × List Bool) ⊕ ((List (List (List Int)) × Int × List Bool) ⊕ (List (List (List Int)))))
  | (i10, xs_2) =>
    bif lti (i10) ((r37.length : Int)) then
      fbind (cIdx r37 i10) fun e51 =>
      fbind (Zed F g0.Degree e51) fun r53 =>
      fbind (cIdx xs_2 r53) fun e54 =>
      some (.inl (cw (i10 + 1), (xs_2.set (r53 : Int).toNat true)))
    else
      fbind (cApp 24 out7 [r37]) fun l58 =>
      some (.inr (.inl (l58, cw (rank8 + 1), xs_2)))
theorem Ziw {F : Nat} (g0 : Zo) (out7 : List (List (List Int))) (rank8 : Int) (r37 : List (List Int))  (s_ : _) : Le (ZdS F g0 out7 rank8 r37 s_) (Zbi g0 out7 rank8 r37 s_) := by
  obtain ⟨i10, xs_2⟩ := s_
  unfold ZdS Zbi
  try simp only [← cw_ok, ← Zf, ← Zh, ← Zc, ← Ze, ← Zd, ← Zm, GT.gt, GE.ge]
  repeat' (with_reducible first | exact Le.rfl | assumption | exact Zh0 _ _ | exact Zg _ _ _ | exact Zi _ _ _ _ | (refine le_if ?_ ?_) | (refine Zj ?_ fun _ => ?_) | (refine Zk ?_) | (refine Zl fun _ => ?_))
noncomputable def Zdn (F : Nat) (g0 : Zo) (k1 r16 : Int) : List (List (List Int)) × Int × List Bool → Option ((List (List (List Int)) × Int × List Bool) ⊕ (List (List (List Int))))
  | (out7, rank8, xs) =>
    bif lti (rank8) (r16) then
      fbind (cIdx xs rank8) fun e27 =>
      bif e27 then
        some (.inl (out7, cw (rank8 + 1), xs))
      else
        fbind (ZdM F g0.Degree k1 rank8) fun r36 =>
        fbind (Zdi F g0 r36) fun r37 =>
        lpF F (ZdS F g0 out7 rank8 r37) (0, xs)
    else
      some (.inr (out7))
theorem ZiE {F : Nat} (g0 : Zo) (k1 r16 : Int)  (s_ : _) : Le (Zdn F g0 k1 r16 s_) (Za8 g0 k1 r16 s_) := by
  obtain ⟨out7, rank8, xs⟩ := s_
  unfold Zdn Za8
  try simp only [← cw_ok, ← Zf, ← Zh, ← Zc, ← Ze, ← Zd, ← Zm, GT.gt, GE.ge]
  repeat' (with_reducible first | exact Le.rfl | assumption | exact Zhi _ _ _ | exact Zhy _ _ | exact Ziw _ _ _ _ _ | exact Zg _ _ _ | exact Zi _ _ _ _ | (refine le_if ?_ ?_) | (refine Zj ?_ fun _ => ?_) | (refine Zk ?_) | (refine Zl fun _ => ?_))
noncomputable def Zcl (F : Nat) (g0 : Zo) (k1 : Int) : Option (List (List (List Int))) :=
  fbind (Za1 F g0.Degree k1) fun r16 =>
  fbind (cMake 1 false r16 r16) fun l18 =>
  lpF F (Zdn F g0 k1 r16) (([] : List (List (List Int))), 0, l18)
theorem ZhR {F : Nat} (g0 : Zo) (k1 : Int)  : Le (Zcl F g0 k1) (ZaI g0 k1) := by
  unfold Zcl ZaI
  try simp only [← cw_ok, ← Zf, ← Zh, ← Zc, ← Ze, ← Zd, ← Zm, GT.gt, GE.ge]
  repeat' (with_reducible first | exact Le.rfl | assumption | exact ZdJ _ _ | exact ZiE _ _ _ _ | exact Zg _ _ _ | exact Zi _ _ _ _ | (refine le_if ?_ ?_) | (refine Zj ?_ fun _ => ?_) | (refine Zk ?_) | (refine Zl fun _ => ?_))
noncomputable def ZcT (F : Nat) (list0 : List Int) (n1 : Int) : Int → Option ((Int) ⊕ (Bool))
  | i5 =>
    bif lti (i5) ((list0.length : Int)) then
      fbind (cIdx list0 i5) fun e14 =>
      bif eqi (e14) (n1) then
        some (.inr (true))
      else
        some (.inl (cw (i5 + 1)))
    else
      some (.inr (false))
theorem ZfV {F : Nat} (list0 : List Int) (n1 : Int)  (s_ : _) : Le (ZcT F list0 n1 s_) (ZbZ list0 n1 s_) := by
  unfold ZcT ZbZ
  try simp only [← cw_ok, ← Zf, ← Zh, ← Zc, ← Ze, ← Zd, ← Zm, GT.gt, GE.ge]
  repeat' (with_reducible first | exact Le.rfl | assumption | exact Zg _ _ _ | exact Zi _ _ _ _ | (refine le_if ?_ ?_) | (refine Zj ?_ fun _ => ?_) | (refine Zk ?_) | (refine Zl fun _ => ?_))
noncomputable def Zec (F : Nat) (list0 : List Int) (n1 : Int) : Option Bool :=
  lpF F (ZcT F list0 n1) (0)
theorem Zjf {F : Nat} (list0 : List Int) (n1 : Int)  : Le (Zec F list0 n1) (ZbH list0 n1) := by
  unfold Zec ZbH
  try simp only [← cw_ok, ← Zf, ← Zh, ← Zc, ← Ze, ← Zd, ← Zm, GT.gt, GE.ge]
  repeat' (with_reducible first | exact Le.rfl | assumption | exact ZfV _ _ _ | exact Zg _ _ _ | exact Zi _ _ _ _ | (refine le_if ?_ ?_) | (refine Zj ?_ fun _ => ?_) | (refine Zk ?_) | (refine Zl fun _ => ?_))
noncomputable def Zen (F : Nat) (a0 b1 : List Int) : Int → Option ((Int) ⊕ (Bool))
  | i5 =>
    bif lti (i5) ((a0.length : Int)) then
      fbind (cIdx a0 i5) fun e15 =>
      fbind (Zec F b1 e15) fun r17 =>
      bif !r17 then
        some (.inr (false))
      else
        some (.inl (cw (i5 + 1)))
    else
      some (.inr (true))
theorem Zjx {F : Nat} (a0 b1 : List Int)  (s_ : _) : Le (Zen F a0 b1 s_) (Zcs a0 b1 s_) := by
  unfold Zen Zcs
  try simp only [← cw_ok, ← Zf, ← Zh, ← Zc, ← Ze, ← Zd, ← Zm, GT.gt, GE.ge]
  repeat' (with_reducible first | exact Le.rfl | assumption | exact Zjf _ _ | exact Zg _ _ _ | exact Zi _ _ _ _ | (refine le_if ?_ ?_) | (refine Zj ?_ fun _ => ?_) | (refine Zk ?_) | (refine Zl fun _ => ?_))
noncomputable def Zdv (F : Nat) (a0 b1 : List Int) : Option Bool :=
  lpF F (Zen F a0 b1) (0)
theorem ZhP {F : Nat} (a0 b1 : List Int)  : Le (Zdv F a0 b1) (ZbF a0 b1) := by
  unfold Zdv ZbF
  try simp only [← cw_ok, ← Zf, ← Zh, ← Zc, ← Ze, ← Zd, ← Zm, GT.gt, GE.ge]
  repeat' (with_reducible first | exact Le.rfl | assumption | exact Zjx _ _ _ | exact Zg _ _ _ | exact Zi _ _ _ _ | (refine le_if ?_ ?_) | (refine Zj ?_ fun _ => ?_) | (refine Zk ?_) | (refine Zl fun _ => ?_))
noncomputable def Zdy (F : Nat) (r17 r20 : List (List (List Int))) (y10 : Int) (y11 : List Int) (y12 : Int) : Int × Int → Option ((Int × Int) ⊕ ((List Int × Int) ⊕ ((List (List Int) × Int) ⊕ (List (List Int)))))
  | (y13, y14) =>
    fbind (cIdx r20 y12) fun e38 =>
    bif lti (y14) ((e38.length : Int)) then
      fbind (cIdx r17 y10) fun e46 =>
      fbind (cIdx e46 0) fun e48 =>
      fbind (cIdx r20 y12) fun e52 =>
      fbind (cIdx e52 y14) fun e55 =>
      fbind (Zdv F e48 e55) fun r57 =>
      bif r57 then
        some (.inl (cw (y13 + 1), cw (y14 + 1)))
      else
        some (.inl (y13, cw (y14 + 1)))
    else
      fbind (cApp 8 y11 [y13]) fun l63 =>
      some (.inr (.inl (l63, cw (y12 + 1))))
theorem ZiA {F : Nat} (r17 r20 : List (List (List Int))) (y10 : Int) (y11 : List Int) (y12 : Int)  (s_ : _) : Le (Zdy F r17 r20 y10 y11 y12 s_) (Zck r17 r20 y10 y11 y12 s_) := by
  obtain ⟨y13, y14⟩ := s_
  unfold Zdy Zck
  try simp only [← cw_ok, ← Zf, ← Zh, ← Zc, ← Ze, ← Zd, ← Zm, GT.gt, GE.ge]
  repeat' (with_reducible first | exact Le.rfl | assumption | exact ZhP _ _ | exact Zg _ _ _ | exact Zi _ _ _ _ | (refine le_if ?_ ?_) | (refine Zj ?_ fun _ => ?_) | (refine Zk ?_) | (refine Zl fun _ => ?_))
noncomputable def Zel (F : Nat) (r17 r20 : List (List (List Int))) (y9 : List (List Int)) (y10 : Int) : List Int × Int → Option ((List Int × Int) ⊕ ((List (List Int) × Int) ⊕ (List (List Int))))
  | (y11, y12) =>
    bif lti (y12) ((r20.length : Int)) then
      lpF F (Zdy F r17 r20 y10 y11 y12) (0, 0)
    else
      fbind (cApp 24 y9 [y11]) fun l67 =>
      some (.inr (.inl (l67, cw (y10 + 1))))
theorem Zhv {F : Nat} (r17 r20 : List (List (List Int))) (y9 : List (List Int)) (y10 : Int)  (s_ : _) : Le (Zel F r17 r20 y9 y10 s_) (Zbf r17 r20 y9 y10 s_) := by
  obtain ⟨y11, y12⟩ := s_
  unfold Zel Zbf
  try simp only [← cw_ok, ← Zf, ← Zh, ← Zc, ← Ze, ← Zd, ← Zm, GT.gt, GE.ge]
  repeat' (with_reducible first | exact Le.rfl | assumption | exact ZiA _ _ _ _ _ _ | exact Zg _ _ _ | exact Zi _ _ _ _ | (refine le_if ?_ ?_) | (refine Zj ?_ fun _ => ?_) | (refine Zk ?_) | (refine Zl fun _ => ?_))
noncomputable def ZcL (F : Nat) (r17 r20 : List (List (List Int))) : List (List Int) × Int → Option ((List (List Int) × Int) ⊕ (List (List Int)))
  | (y9, y10) =>
    bif lti (y10) ((r17.length : Int)) then
      lpF F (Zel F r17 r20 y9 y10) (([] : List Int), 0)
    else
      some (.inr (y9))
theorem Zgj {F : Nat} (r17 r20 : List (List (List Int)))  (s_ : _) : Le (ZcL F r17 r20 s_) (Zbd r17 r20 s_) := by
  obtain ⟨y9, y10⟩ := s_
  unfold ZcL Zbd
  try simp only [← cw_ok, ← Zf, ← Zh, ← Zc, ← Ze, ← Zd, ← Zm, GT.gt, GE.ge]
  repeat' (with_reducible first | exact Le.rfl | assumption | exact Zhv _ _ _ _ _ | exact Zg _ _ _ | exact Zi _ _ _ _ | (refine le_if ?_ ?_) | (refine Zj ?_ fun _ => ?_) | (refine Zk ?_) | (refine Zl fun _ => ?_))
noncomputable def Zb1 (F : Nat) (y0 : Zo) (y1 y2 : Int) : Option (List (List Int)) :=
  fbind (Zcl F y0 y1) fun r17 =>
  fbind (Zcl F y0 y2) fun r20 =>
  lpF F (ZcL F r17 r20) (([] : List (List Int)), 0)
theorem Zfu {F : Nat} (y0 : Zo) (y1 y2 : Int)  : Le (Zb1 F y0 y1 y2) (Zat y0 y1 y2) := by
  unfold Zb1 Zat
  try simp only [← cw_ok, ← Zf, ← Zh, ← Zc, ← Ze, ← Zd, ← Zm, GT.gt, GE.ge]
  repeat' (with_reducible first | exact Le.rfl | assumption | exact ZhR _ _ | exact Zgj _ _ _ | exact Zg _ _ _ | exact Zi _ _ _ _ | (refine le_if ?_ ?_) | (refine Zj ?_ fun _ => ?_) | (refine Zk ?_) | (refine Zl fun _ => ?_))
end Go.Proofs.Ytocnokjekoglnaa
