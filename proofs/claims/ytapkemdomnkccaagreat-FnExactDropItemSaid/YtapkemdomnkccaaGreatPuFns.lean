/- Plain functions of the functions of this seat, printed by pgen.py. -/
import Derived.Test.YtapkemdomnkccaaGreatPuCmp
namespace Go.Proofs.YtapkemdomnkccaaGreat
set_option linter.unusedSimpArgs false
open Go Go.Vc
set_option linter.unusedVariables false
structure ZZ where
 Kind : Int
 Size : Int
 Rows : List (List Int)
structure ZwV where
 Name : ByteArray
 Object : ZZ
 Key : ByteArray
structure ZwT where
 Items : List ZwV
structure Zx where
 Kind : Int
 Size : Int
 Rows : List (List Int)
structure ZwR where
 Name : ByteArray
 Object : Zx
 Key : ByteArray
structure ZwS where
 Items : List ZwR
structure ZaB where
 Degree : Int
 Elements : List (List Int)
structure Zg where
 A : Int
 B : Int
structure Zt where
 Colors : List Int
 Edges : List Zg
structure ZaT where
 Points : Int
 Blocks : List (List Int)
structure Z3 where
 Levels : Int
 Columns : Int
 Rows : List (List Int)
structure Zc where
 Prime : Int
 Degree : Int
 Poly : List Int
structure ZaM where
 Field : Zc
 Rows : List (List Int)
structure Z9 where
 qq : Int
 qadd : List (List Int)
 qsub : List (List Int)
 qmul : List (List Int)
 qinv : List Int
noncomputable section
def Zb7 (a0 : List Int) (left1 : Int) : Option Int :=
 bif decide ((IntKind.i64.wrap (left1 - (a0.length : Int)) : Int) < 0) then
  some ((-1))
 else
  some (IntKind.i64.wrap (left1 - (a0.length : Int)))
def Zge (a0 : List (List Int)) : Int × Int → Option ((Int × Int) ⊕ (Int))
 | (left1_2, i5) =>
  bif decide ((i5 : Int) < (a0.length : Int)) then
   (gIdx a0 i5).bind fun e20 =>
   (Zb7 e20 left1_2).bind fun r23 =>
   bif decide ((r23 : Int) < 0) then
    some (.inr ((-1)))
   else
    some (.inl (r23, IntKind.i64.wrap (i5 + 1)))
  else
   some (.inr (left1_2))
def Zfv (a0 : List (List Int)) (left1 : Int) : Option Int :=
 bif decide ((IntKind.i64.wrap (left1 - (a0.length : Int)) : Int) < 0) then
  some ((-1))
 else
  loop (Zge a0) (IntKind.i64.wrap (left1 - (a0.length : Int)), 0)
def Zgf (a0 : ZZ) (left1 : Int) : Option Int :=
 (Zfv a0.Rows left1).bind fun r8 =>
 bif decide ((r8 : Int) < 0) then
  some ((-1))
 else
  some (r8)
def Zxd (a0 : ZwV) (left1 : Int) : Option Int :=
 bif decide ((IntKind.i64.wrap (left1 - ((a0.Name : ByteArray).size : Int)) : Int) < 0) then
  some ((-1))
 else
  (Zgf (ZZ.mk a0.Object.Kind a0.Object.Size a0.Object.Rows) (IntKind.i64.wrap (left1 - ((a0.Name : ByteArray).size : Int)))).bind fun r15 =>
  bif decide ((r15 : Int) < 0) then
   some ((-1))
  else
   bif decide ((IntKind.i64.wrap (r15 - ((a0.Key : ByteArray).size : Int)) : Int) < 0) then
    some ((-1))
   else
    some (IntKind.i64.wrap (r15 - ((a0.Key : ByteArray).size : Int)))
def ZxV (a0 : List ZwV) : Int × Int → Option ((Int × Int) ⊕ (Int))
 | (left1_2, i5) =>
  bif decide ((i5 : Int) < (a0.length : Int)) then
   (gIdx a0 i5).bind fun e20 =>
   (Zxd e20 left1_2).bind fun r23 =>
   bif decide ((r23 : Int) < 0) then
    some (.inr ((-1)))
   else
    some (.inl (r23, IntKind.i64.wrap (i5 + 1)))
  else
   some (.inr (left1_2))
def ZxK (a0 : List ZwV) (left1 : Int) : Option Int :=
 bif decide ((IntKind.i64.wrap (left1 - (a0.length : Int)) : Int) < 0) then
  some ((-1))
 else
  loop (ZxV a0) (IntKind.i64.wrap (left1 - (a0.length : Int)), 0)
def ZxQ (a0 : ZwT) (left1 : Int) : Option Int :=
 (ZxK a0.Items left1).bind fun r8 =>
 bif decide ((r8 : Int) < 0) then
  some ((-1))
 else
  some (r8)
def Zf5 (a0 : List Int) : Int × List Int → Option ((Int × List Int) ⊕ (List Int))
 | (i4, xs) =>
  bif decide ((i4 : Int) < (a0.length : Int)) then
   (gIdx a0 i4).bind fun e18 =>
   (gIdx xs i4).bind fun e20 =>
   some (.inl (IntKind.i64.wrap (i4 + 1), (xs.set (i4 : Int).toNat e18)))
  else
   some (.inr (xs))
def Zc2 (a0 : List Int) : Option (List Int) :=
 (gMake 8 (0 : Int) (a0.length : Int) (a0.length : Int)).bind fun l7 =>
 loop (Zf5 a0) (0, l7)
def ZfD (a0 : List (List Int)) : Int × List (List Int) → Option ((Int × List (List Int)) ⊕ (List (List Int)))
 | (i4, xs) =>
  bif decide ((i4 : Int) < (a0.length : Int)) then
   (gIdx a0 i4).bind fun e18 =>
   (Zc2 e18).bind fun r20 =>
   (gIdx xs i4).bind fun e21 =>
   some (.inl (IntKind.i64.wrap (i4 + 1), (xs.set (i4 : Int).toNat r20)))
  else
   some (.inr (xs))
def Zdz (a0 : List (List Int)) : Option (List (List Int)) :=
 (gMake 24 ([] : List Int) (a0.length : Int) (a0.length : Int)).bind fun l7 =>
 loop (ZfD a0) (0, l7)
def ZbO (a0 : ZZ) : Option Zx :=
 (Zdz a0.Rows).bind fun r12 =>
 some ((Zx.mk a0.Kind a0.Size r12))
def Zxl (a0 : ZwV) : Option ZwR :=
 (ZbO (ZZ.mk a0.Object.Kind a0.Object.Size a0.Object.Rows)).bind fun r9 =>
 some ((ZwR.mk a0.Name (Zx.mk r9.Kind r9.Size r9.Rows) a0.Key))
def ZxA (a0 : List ZwV) : Int × List ZwR → Option ((Int × List ZwR) ⊕ (List ZwR))
 | (i4, xs) =>
  bif decide ((i4 : Int) < (a0.length : Int)) then
   (gIdx a0 i4).bind fun e18 =>
   (Zxl e18).bind fun r20 =>
   (gIdx xs i4).bind fun e21 =>
   some (.inl (IntKind.i64.wrap (i4 + 1), (xs.set (i4 : Int).toNat r20)))
  else
   some (.inr (xs))
def Zxt (a0 : List ZwV) : Option (List ZwR) :=
 (gMake 72 (ZwR.mk (⟨#[]⟩ : ByteArray) (Zx.mk (0 : Int) (0 : Int) ([] : List (List Int))) (⟨#[]⟩ : ByteArray)) (a0.length : Int) (a0.length : Int)).bind fun l7 =>
 loop (ZxA a0) (0, l7)
def Zw9 (a0 : ZwT) : Option ZwS :=
 (Zxt a0.Items).bind fun r6 =>
 some ((ZwS.mk r6))
def Zem (a0 : List Int) (b1 : List Int) : Int → Option ((Int) ⊕ (Bool))
 | i5 =>
  bif decide ((i5 : Int) < (a0.length : Int)) then
   (gIdx a0 i5).bind fun e19 =>
   (gIdx b1 i5).bind fun e23 =>
   bif (e19 : Int) != e23 then
    some (.inr (false))
   else
    some (.inl (IntKind.i64.wrap (i5 + 1)))
  else
   some (.inr (true))
def Zb1 (a0 : List Int) (b1 : List Int) : Option Bool :=
 bif ((a0.length : Int) : Int) != (b1.length : Int) then
  some (false)
 else
  loop (Zem a0 b1) (0)
def ZfW (a0 : List (List Int)) (b1 : List (List Int)) : Int → Option ((Int) ⊕ (Bool))
 | i5 =>
  bif decide ((i5 : Int) < (a0.length : Int)) then
   (gIdx a0 i5).bind fun e19 =>
   (gIdx b1 i5).bind fun e23 =>
   (Zb1 e19 e23).bind fun r25 =>
   bif !r25 then
    some (.inr (false))
   else
    some (.inl (IntKind.i64.wrap (i5 + 1)))
  else
   some (.inr (true))
def Zfp (a0 : List (List Int)) (b1 : List (List Int)) : Option Bool :=
 bif ((a0.length : Int) : Int) != (b1.length : Int) then
  some (false)
 else
  loop (ZfW a0 b1) (0)
def Zf0 (a0 : Zx) (b1 : Zx) : Option Bool :=
 bif (a0.Kind : Int) != b1.Kind then
  some (false)
 else
  bif (a0.Size : Int) != b1.Size then
   some (false)
  else
   (Zfp a0.Rows b1.Rows).bind fun r19 =>
   bif !r19 then
    some (false)
   else
    some (true)
def Zxo (a0 : ZwR) (b1 : ZwR) : Option Bool :=
 bif !((a0.Name : ByteArray).toList == (b1.Name : ByteArray).toList) then
  some (false)
 else
  (Zf0 (Zx.mk a0.Object.Kind a0.Object.Size a0.Object.Rows) (Zx.mk b1.Object.Kind b1.Object.Size b1.Object.Rows)).bind fun r14 =>
  bif !r14 then
   some (false)
  else
   bif !((a0.Key : ByteArray).toList == (b1.Key : ByteArray).toList) then
    some (false)
   else
    some (true)
def ZxP (a0 : List ZwR) (b1 : List ZwR) : Int → Option ((Int) ⊕ (Bool))
 | i5 =>
  bif decide ((i5 : Int) < (a0.length : Int)) then
   (gIdx a0 i5).bind fun e19 =>
   (gIdx b1 i5).bind fun e23 =>
   (Zxo e19 e23).bind fun r25 =>
   bif !r25 then
    some (.inr (false))
   else
    some (.inl (IntKind.i64.wrap (i5 + 1)))
  else
   some (.inr (true))
def ZxE (a0 : List ZwR) (b1 : List ZwR) : Option Bool :=
 bif ((a0.length : Int) : Int) != (b1.length : Int) then
  some (false)
 else
  loop (ZxP a0 b1) (0)
def ZxR (a0 : ZwS) (b1 : ZwS) : Option Bool :=
 (ZxE a0.Items b1.Items).bind fun r9 =>
 bif !r9 then
  some (false)
 else
  some (true)
def Zel : Int × Int × List Int → Option ((Int × Int × List Int) ⊕ (Int × (List Int)))
 | (k1_2, i5, xs) =>
  bif decide ((i5 : Int) < (xs.length : Int)) then
   (gIdx xs i5).bind fun e15 =>
   some (.inl (IntKind.i64.wrap (k1_2 + 1), IntKind.i64.wrap (i5 + 1), (xs.set (i5 : Int).toNat k1_2)))
  else
   some (.inr ((k1_2, xs)))
def ZcS (a0 : List Int) (k1 : Int) : Option (Int × (List Int)) :=
 loop (Zel) (k1, 0, a0)
def Zgr : Int × Int × List (List Int) → Option ((Int × Int × List (List Int)) ⊕ (Int × (List (List Int))))
 | (k1_2, i5, xs) =>
  bif decide ((i5 : Int) < (xs.length : Int)) then
   (gIdx xs i5).bind fun e14 =>
   (ZcS e14 k1_2).bind fun r17 =>
   some (.inl (r17.1, IntKind.i64.wrap (i5 + 1), (xs.set (i5 : Int).toNat r17.2)))
  else
   some (.inr ((k1_2, xs)))
def Zek (a0 : List (List Int)) (k1 : Int) : Option (Int × (List (List Int))) :=
 loop (Zgr) (k1, 0, a0)
def Zxm : Int × ByteArray → Option ((Int × ByteArray) ⊕ (ByteArray))
 | (k0_2, out3) =>
  bif decide ((k0_2 : Int) > 0) then
   (gNz 10).bind fun _ =>
   (gByt ([IntKind.u8.wrap (IntKind.i64.wrap (48 + (Int.tmod k0_2 10)))] : List Int)).bind fun s13 =>
   (gFit (s13 : ByteArray) (out3 : ByteArray)).bind fun _ =>
   (gNz 10).bind fun _ =>
   some (.inl (IntKind.i64.wrap (Int.tdiv k0_2 10), (s13 : ByteArray) ++ (out3 : ByteArray)))
  else
   (gFit (⟨#[109]⟩ : ByteArray) (out3 : ByteArray)).bind fun _ =>
   some (.inr ((⟨#[109]⟩ : ByteArray) ++ (out3 : ByteArray)))
def Zw4 (k0 : Int) : Option ByteArray :=
 bif decide ((k0 : Int) ≤ 0) then
  some (⟨#[109, 48]⟩)
 else
  loop (Zxm) (k0, ⟨#[]⟩)
def Zxe : Int × Int × List ZwR → Option ((Int × Int × List ZwR) ⊕ (Int × (List ZwR)))
 | (k1_2, i5, xs) =>
  bif decide ((i5 : Int) < (xs.length : Int)) then
   (Zw4 k1_2).bind fun r15 =>
   (gIdx xs i5).bind fun e16 =>
   (gIdx (xs.set (i5 : Int).toNat (ZwR.mk r15 e16.Object e16.Key)) i5).bind fun e23 =>
   (gIdx ((xs.set (i5 : Int).toNat (ZwR.mk r15 e16.Object e16.Key)).set (i5 : Int).toNat (ZwR.mk e23.Name (Zx.mk (IntKind.i64.wrap (k1_2 + 1)) e23.Object.Size e23.Object.Rows) e23.Key)) i5).bind fun e31 =>
   (gIdx (((xs.set (i5 : Int).toNat (ZwR.mk r15 e16.Object e16.Key)).set (i5 : Int).toNat (ZwR.mk e23.Name (Zx.mk (IntKind.i64.wrap (k1_2 + 1)) e23.Object.Size e23.Object.Rows) e23.Key)).set (i5 : Int).toNat (ZwR.mk e31.Name (Zx.mk e31.Object.Kind (IntKind.i64.wrap ((IntKind.i64.wrap (k1_2 + 1)) + 1)) e31.Object.Rows) e31.Key)) i5).bind fun e38 =>
   (Zek e38.Object.Rows (IntKind.i64.wrap ((IntKind.i64.wrap ((IntKind.i64.wrap (k1_2 + 1)) + 1)) + 1))).bind fun r43 =>
   (Zw4 r43.1).bind fun r47 =>
   (gIdx ((((xs.set (i5 : Int).toNat (ZwR.mk r15 e16.Object e16.Key)).set (i5 : Int).toNat (ZwR.mk e23.Name (Zx.mk (IntKind.i64.wrap (k1_2 + 1)) e23.Object.Size e23.Object.Rows) e23.Key)).set (i5 : Int).toNat (ZwR.mk e31.Name (Zx.mk e31.Object.Kind (IntKind.i64.wrap ((IntKind.i64.wrap (k1_2 + 1)) + 1)) e31.Object.Rows) e31.Key)).set (i5 : Int).toNat (ZwR.mk e38.Name (Zx.mk e38.Object.Kind e38.Object.Size r43.2) e38.Key)) i5).bind fun e48 =>
   some (.inl (IntKind.i64.wrap (r43.1 + 1), IntKind.i64.wrap (i5 + 1), (((((xs.set (i5 : Int).toNat (ZwR.mk r15 e16.Object e16.Key)).set (i5 : Int).toNat (ZwR.mk e23.Name (Zx.mk (IntKind.i64.wrap (k1_2 + 1)) e23.Object.Size e23.Object.Rows) e23.Key)).set (i5 : Int).toNat (ZwR.mk e31.Name (Zx.mk e31.Object.Kind (IntKind.i64.wrap ((IntKind.i64.wrap (k1_2 + 1)) + 1)) e31.Object.Rows) e31.Key)).set (i5 : Int).toNat (ZwR.mk e38.Name (Zx.mk e38.Object.Kind e38.Object.Size r43.2) e38.Key)).set (i5 : Int).toNat (ZwR.mk e48.Name e48.Object r47))))
  else
   some (.inr ((k1_2, xs)))
def Zx9 (a0 : List ZwR) (k1 : Int) : Option (Int × (List ZwR)) :=
 loop (Zxe) (k1, 0, a0)
def ZxY (a0 : ZwS) (k1 : Int) : Option (Int × ZwS) :=
 (Zx9 a0.Items k1).bind fun r8 =>
 some ((r8.1, (ZwS.mk r8.2)))
def ZY (n0 : Int) (low1 : Int) (high2 : Int) : Option Bool :=
 bif decide ((n0 : Int) ≥ low1) then
  some (decide ((n0 : Int) ≤ high2))
 else
  some (false)
def Zc4 (list0 : List Int) (n1 : Int) : Int → Option ((Int) ⊕ (Bool))
 | i5 =>
  bif decide ((i5 : Int) < (list0.length : Int)) then
   (gIdx list0 i5).bind fun e14 =>
   bif (e14 : Int) == n1 then
    some (.inr (true))
   else
    some (.inl (IntKind.i64.wrap (i5 + 1)))
  else
   some (.inr (false))
def Ze1 (list0 : List Int) (n1 : Int) : Option Bool :=
 loop (Zc4 list0 n1) (0)
def ZcV (p0 : List Int) : Int → Option ((Int) ⊕ (Bool))
 | i3 =>
  bif decide ((i3 : Int) < (p0.length : Int)) then
   (gIdx p0 i3).bind fun e15 =>
   (ZY e15 0 (IntKind.i64.wrap ((p0.length : Int) - 1))).bind fun r20 =>
   bif !r20 then
    some (.inr (false))
   else
    (gSl p0 0 i3).bind fun l25 =>
    (gIdx p0 i3).bind fun e28 =>
    (Ze1 l25 e28).bind fun r30 =>
    bif r30 then
     some (.inr (false))
    else
     some (.inl (IntKind.i64.wrap (i3 + 1)))
  else
   some (.inr (true))
def Zcv (p0 : List Int) : Option Bool :=
 bif decide (((p0.length : Int) : Int) > 32) then
  some (false)
 else
  loop (ZcV p0) (0)
def Zb2 (a0 : List Int) (b1 : List Int) : Option (Int) :=
 bif decide (((a0.length : Int) : Int) < (b1.length : Int)) then
  some ((-1))
 else
  bif decide (((a0.length : Int) : Int) > (b1.length : Int)) then
   some (1)
  else
   some (0)
def ZdD (a0 : List Int) (b1 : List Int) (i5 : Int) : Option ((Int) ⊕ (Int)) :=
 (gIdx a0 i5).bind fun e20 =>
 (gIdx b1 i5).bind fun e24 =>
 bif decide ((e20 : Int) < e24) then
  some (.inr ((-1)))
 else
  (gIdx a0 i5).bind fun e29 =>
  (gIdx b1 i5).bind fun e33 =>
  bif decide ((e29 : Int) > e33) then
   some (.inr (1))
  else
   some (.inl (IntKind.i64.wrap (i5 + 1)))
def Za8 (a0 : List Int) (b1 : List Int) : Int → Option ((Int) ⊕ (Int))
 | i5 =>
  bif decide ((i5 : Int) < (a0.length : Int)) then
   bif decide ((i5 : Int) < (b1.length : Int)) then
    ZdD a0 b1 i5
   else
    (Zb2 a0 b1).map fun x => .inr (x)
  else
   (Zb2 a0 b1).map fun x => .inr (x)
def Zce (a0 : List Int) (b1 : List Int) : Option Int :=
 loop (Za8 a0 b1) (0)
def ZaN (list0 : List (List Int)) (p1 : List Int) : Int × Int → Option ((Int × Int) ⊕ (Int × Bool))
 | (low6, high7) =>
  bif decide ((low6 : Int) < high7) then
   (gNz 2).bind fun _ =>
   (gIdx list0 (IntKind.i64.wrap (Int.tdiv (IntKind.i64.wrap (low6 + high7)) 2))).bind fun e21 =>
   (Zce e21 p1).bind fun r24 =>
   bif (r24 : Int) == 0 then
    some (.inr ((IntKind.i64.wrap (Int.tdiv (IntKind.i64.wrap (low6 + high7)) 2), true)))
   else
    bif decide ((r24 : Int) < 0) then
     some (.inl (IntKind.i64.wrap ((IntKind.i64.wrap (Int.tdiv (IntKind.i64.wrap (low6 + high7)) 2)) + 1), high7))
    else
     some (.inl (low6, IntKind.i64.wrap (Int.tdiv (IntKind.i64.wrap (low6 + high7)) 2)))
  else
   some (.inr ((low6, false)))
def Zcs (list0 : List (List Int)) (p1 : List Int) : Option (Int × Bool) :=
 loop (ZaN list0 p1) (0, (list0.length : Int))
def ZdG (n0 : Int) : List Int × Int → Option ((List Int × Int) ⊕ (List Int))
 | (out3, i4) =>
  bif decide ((i4 : Int) < n0) then
   (gApp 8 out3 [i4]).bind fun l14 =>
   some (.inl (l14, IntKind.i64.wrap (i4 + 1)))
  else
   some (.inr (out3))
def Zet (n0 : Int) : Option (List Int) :=
 loop (ZdG n0) (([] : List Int), 0)
def ZdB (p0 : List Int) (q1 : List Int) : List Int × Int → Option ((List Int × Int) ⊕ (List Int))
 | (out5, i6) =>
  bif decide ((i6 : Int) < (p0.length : Int)) then
   (gIdx p0 i6).bind fun e18 =>
   (gIdx q1 e18).bind fun e20 =>
   (gApp 8 out5 [e20]).bind fun l23 =>
   some (.inl (l23, IntKind.i64.wrap (i6 + 1)))
  else
   some (.inr (out5))
def Zfc (p0 : List Int) (q1 : List Int) : Option (List Int) :=
 loop (ZdB p0 q1) (([] : List Int), 0)
def ZfA (list0 : List (List Int)) (at1 : Int) (p2 : List Int) : Option (List (List Int)) :=
 (gSl list0 0 at1).bind fun l11 =>
 (gApp 24 ([] : List (List Int)) l11).bind fun l12 =>
 (gApp 24 l12 [p2]).bind fun l16 =>
 (gSl list0 at1 (list0.length : Int)).bind fun l20 =>
 (gApp 24 l16 l20).bind fun l21 =>
 some (l21)
def Zas (genera1 : List (List Int)) (most2 : Int) (i11 : Int) : List (List Int) × List (List Int) × Int → Option ((List (List Int) × List (List Int) × Int) ⊕ ((List (List Int) × List (List Int) × Int) ⊕ ((List (List Int)) × Bool)))
 | (list9_2, queue10_2, k12) =>
  bif decide ((k12 : Int) < (genera1.length : Int)) then
   (gIdx queue10_2 i11).bind fun e36 =>
   (gIdx genera1 k12).bind fun e40 =>
   (Zfc e36 e40).bind fun r42 =>
   (Zcs list9_2 r42).bind fun r46 =>
   bif r46.2 then
    some (.inl (list9_2, queue10_2, IntKind.i64.wrap (k12 + 1)))
   else
    bif ((list9_2.length : Int) : Int) == most2 then
     some (.inr (.inr ((([] : List (List Int)), false))))
    else
     (ZfA list9_2 r46.1 r42).bind fun r57 =>
     (gApp 24 queue10_2 [r42]).bind fun l61 =>
     some (.inl (r57, l61, IntKind.i64.wrap (k12 + 1)))
  else
   some (.inr (.inl (list9_2, queue10_2, IntKind.i64.wrap (i11 + 1))))
def Zbg (genera1 : List (List Int)) (most2 : Int) : List (List Int) × List (List Int) × Int → Option ((List (List Int) × List (List Int) × Int) ⊕ ((List (List Int)) × Bool))
 | (list9, queue10, i11) =>
  bif decide ((i11 : Int) < (queue10.length : Int)) then
   loop (Zas genera1 most2 i11) (list9, queue10, 0)
  else
   some (.inr ((list9, true)))
def ZbQ (degree0 : Int) (genera1 : List (List Int)) (most2 : Int) : Option ((List (List Int)) × Bool) :=
 (Zet degree0).bind fun r17 =>
 loop (Zbg genera1 most2) ([r17], [r17], 0)
def ZaO (list0 : List Int) : Option (List Int) :=
 (gApp 8 ([] : List Int) list0).bind fun l5 =>
 some (l5)
def ZeE (a0 : List Int) (b1 : List Int) : Int → Option ((Int) ⊕ (Bool))
 | i5 =>
  bif decide ((i5 : Int) < (a0.length : Int)) then
   (gIdx a0 i5).bind fun e19 =>
   (gIdx b1 i5).bind fun e23 =>
   bif (e19 : Int) != e23 then
    some (.inr (false))
   else
    some (.inl (IntKind.i64.wrap (i5 + 1)))
  else
   some (.inr (true))
def Zeu (a0 : List Int) (b1 : List Int) : Option Bool :=
 bif ((a0.length : Int) : Int) != (b1.length : Int) then
  some (false)
 else
  loop (ZeE a0 b1) (0)
def Zf2 (a0 : List (List Int)) (b1 : List (List Int)) : Int → Option ((Int) ⊕ (Bool))
 | i5 =>
  bif decide ((i5 : Int) < (a0.length : Int)) then
   (gIdx a0 i5).bind fun e19 =>
   (gIdx b1 i5).bind fun e23 =>
   (Zeu e19 e23).bind fun r25 =>
   bif !r25 then
    some (.inr (false))
   else
    some (.inl (IntKind.i64.wrap (i5 + 1)))
  else
   some (.inr (true))
def Zdg (a0 : List (List Int)) (b1 : List (List Int)) : Option Bool :=
 bif ((a0.length : Int) : Int) != (b1.length : Int) then
  some (false)
 else
  loop (Zf2 a0 b1) (0)
def ZaV (degree0 : Int) (list1 : List (List Int)) : List (List Int) × List (List Int) × Int → Option ((List (List Int) × List (List Int) × Int) ⊕ ((List (List Int)) × Bool))
 | (out6, have7, i9) =>
  bif decide ((i9 : Int) < (list1.length : Int)) then
   (gIdx list1 i9).bind fun e31 =>
   (Zcs have7 e31).bind fun r33 =>
   bif r33.2 then
    some (.inl (out6, have7, IntKind.i64.wrap (i9 + 1)))
   else
    (gIdx list1 i9).bind fun e40 =>
    (ZaO e40).bind fun r42 =>
    (gApp 24 out6 [r42]).bind fun l44 =>
    (ZbQ degree0 l44 (list1.length : Int)).bind fun r50 =>
    bif !r50.2 then
     some (.inr ((([] : List (List Int)), false)))
    else
     some (.inl (l44, r50.1, IntKind.i64.wrap (i9 + 1)))
  else
   (Zdg have7 list1).bind fun r59 =>
   some (.inr ((out6, r59)))
def ZeY (degree0 : Int) (list1 : List (List Int)) : Option ((List (List Int)) × Bool) :=
 (ZbQ degree0 ([] : List (List Int)) 1).bind fun r18 =>
 loop (ZaV degree0 list1) (([] : List (List Int)), r18.1, 0)
def ZbB (y0 : ZaB) : Int → Option ((Int) ⊕ (Bool))
 | y3 =>
  bif decide ((y3 : Int) < (y0.Elements.length : Int)) then
   (gIdx y0.Elements y3).bind fun e42 =>
   (Zcv e42).bind fun r44 =>
   bif !r44 then
    some (.inr (false))
   else
    (gIdx y0.Elements y3).bind fun e52 =>
    bif ((e52.length : Int) : Int) != y0.Degree then
     some (.inr (false))
    else
     bif decide ((y3 : Int) > 0) then
      (gIdx y0.Elements (IntKind.i64.wrap (y3 - 1))).bind fun e71 =>
      (gIdx y0.Elements y3).bind fun e78 =>
      (Zce e71 e78).bind fun r80 =>
      bif decide ((r80 : Int) ≥ 0) then
       some (.inr (false))
      else
       some (.inl (IntKind.i64.wrap (y3 + 1)))
     else
      some (.inl (IntKind.i64.wrap (y3 + 1)))
  else
   (ZeY y0.Degree y0.Elements).bind fun r93 =>
   some (.inr (r93.2))
def Zhg (y0 : ZaB) : Option (Bool) :=
 loop (ZbB y0) (0)
def Zeh (y0 : ZaB) : Option Bool :=
 (ZY y0.Degree 1 32).bind fun r10 =>
 bif !r10 then
  some (false)
 else
  bif ((y0.Elements.length : Int) : Int) == 0 then
   some (false)
  else
   bif decide (((y0.Elements.length : Int) : Int) > 720) then
    some (false)
   else
    Zhg y0
def Zev (list0 : List Int) : Int → Option ((Int) ⊕ (Bool))
 | i3 =>
  bif decide ((i3 : Int) < (list0.length : Int)) then
   (gIdx list0 i3).bind fun e15 =>
   (ZY e15 0 63).bind fun r17 =>
   bif !r17 then
    some (.inr (false))
   else
    some (.inl (IntKind.i64.wrap (i3 + 1)))
  else
   some (.inr (true))
def Ze7 (list0 : List Int) : Option Bool :=
 bif decide (((list0.length : Int) : Int) > 64) then
  some (false)
 else
  loop (Zev list0) (0)
def ZfF (a0 : Zg) (b1 : Zg) : Option Bool :=
 bif decide ((a0.A : Int) < b1.A) then
  some (true)
 else
  bif (a0.A : Int) == b1.A then
   some (decide ((a0.B : Int) < b1.B))
  else
   some (false)
def ZbR (g0 : Zt) : Int → Option ((Int) ⊕ (Bool))
 | i4 =>
  bif decide ((i4 : Int) < (g0.Edges.length : Int)) then
   (gIdx g0.Edges i4).bind fun e29 =>
   (ZY e29.A 0 (IntKind.i64.wrap ((g0.Colors.length : Int) - 1))).bind fun r35 =>
   bif !r35 then
    some (.inr (false))
   else
    (ZY e29.B (IntKind.i64.wrap (e29.A + 1)) (IntKind.i64.wrap ((g0.Colors.length : Int) - 1))).bind fun r45 =>
    bif !r45 then
     some (.inr (false))
    else
     bif decide ((i4 : Int) > 0) then
      (gIdx g0.Edges (IntKind.i64.wrap (i4 - 1))).bind fun e56 =>
      (ZfF e56 (Zg.mk e29.A e29.B)).bind fun r59 =>
      bif !r59 then
       some (.inr (false))
      else
       some (.inl (IntKind.i64.wrap (i4 + 1)))
     else
      some (.inl (IntKind.i64.wrap (i4 + 1)))
  else
   some (.inr (true))
def Zhj (g0 : Zt) : Option (Bool) :=
 loop (ZbR g0) (0)
def Zgo (g0 : Zt) : Option Bool :=
 (Ze7 g0.Colors).bind fun r8 =>
 bif !r8 then
  some (false)
 else
  bif decide (((g0.Edges.length : Int) : Int) > 512) then
   some (false)
  else
   Zhj g0
def ZcL (y0 : Zx) (l17 : List Int) : Int × List Zg → Option ((Int × List Zg) ⊕ (Zt × Bool))
 | (y5, xs) =>
  bif decide ((y5 : Int) < (y0.Rows.length : Int)) then
   (gIdx y0.Rows y5).bind fun e33 =>
   bif ((e33.length : Int) : Int) != 2 then
    some (.inr (((Zt.mk ([] : List Int) ([] : List Zg)), false)))
   else
    (gIdx y0.Rows y5).bind fun e45 =>
    (gIdx e45 0).bind fun e47 =>
    (gIdx y0.Rows y5).bind fun e54 =>
    (gIdx e54 1).bind fun e56 =>
    (gApp 16 xs [(Zg.mk e47 e56)]).bind fun l60 =>
    some (.inl (IntKind.i64.wrap (y5 + 1), l60))
  else
   (Zgo (Zt.mk l17 xs)).bind fun r64 =>
   some (.inr (((Zt.mk l17 xs), r64)))
def ZdP (y0 : Zx) : Option (Zt × Bool) :=
 (ZY y0.Size 0 64).bind fun r10 =>
 bif !r10 then
  some (((Zt.mk ([] : List Int) ([] : List Zg)), false))
 else
  (gMake 8 (0 : Int) y0.Size y0.Size).bind fun l17 =>
  loop (ZcL y0 l17) (0, ([] : List Zg))
def ZbX (a0 : List (List Int)) (y5 : Int) : List Int × Int → Option ((List Int × Int) ⊕ ((Int) ⊕ ((Int) ⊕ (Bool))))
 | (col6, x7) =>
  bif decide ((x7 : Int) < (a0.length : Int)) then
   (gIdx a0 x7).bind fun e50 =>
   (gIdx e50 y5).bind fun e53 =>
   (gApp 8 col6 [e53]).bind fun l56 =>
   some (.inl (l56, IntKind.i64.wrap (x7 + 1)))
  else
   (Zcv col6).bind fun r58 =>
   bif !r58 then
    some (.inr (.inr (.inr (false))))
   else
    some (.inr (.inl (IntKind.i64.wrap (y5 + 1))))
def Zcz (a0 : List (List Int)) : Int → Option ((Int) ⊕ ((Int) ⊕ (Bool)))
 | y5 =>
  bif decide ((y5 : Int) < (a0.length : Int)) then
   loop (ZbX a0 y5) (([] : List Int), 0)
  else
   some (.inr (.inr (true)))
def ZdO (a0 : List (List Int)) : Int → Option ((Int) ⊕ (Bool))
 | x4 =>
  bif decide ((x4 : Int) < (a0.length : Int)) then
   (gIdx a0 x4).bind fun e23 =>
   bif ((e23.length : Int) : Int) != (a0.length : Int) then
    some (.inr (false))
   else
    (gIdx a0 x4).bind fun e31 =>
    (Zcv e31).bind fun r33 =>
    bif !r33 then
     some (.inr (false))
    else
     some (.inl (IntKind.i64.wrap (x4 + 1)))
  else
   loop (Zcz a0) (0)
def ZhG (a0 : List (List Int)) : Option (Bool) :=
 loop (ZdO a0) (0)
def Zeb (a0 : List (List Int)) : Option Bool :=
 bif decide (((a0.length : Int) : Int) < 1) then
  some (false)
 else
  bif decide (((a0.length : Int) : Int) > 10) then
   some (false)
  else
   ZhG a0
def ZcC (list0 : List Int) (low1 : Int) (high2 : Int) : Int → Option ((Int) ⊕ (Bool))
 | i7 =>
  bif decide ((i7 : Int) < (list0.length : Int)) then
   (gIdx list0 i7).bind fun e16 =>
   (ZY e16 low1 high2).bind fun r20 =>
   bif !r20 then
    some (.inr (false))
   else
    bif decide ((i7 : Int) > 0) then
     (gIdx list0 (IntKind.i64.wrap (i7 - 1))).bind fun e29 =>
     (gIdx list0 i7).bind fun e33 =>
     bif decide ((e29 : Int) ≥ e33) then
      some (.inr (false))
     else
      some (.inl (IntKind.i64.wrap (i7 + 1)))
    else
     some (.inl (IntKind.i64.wrap (i7 + 1)))
  else
   some (.inr (true))
def ZeV (list0 : List Int) (low1 : Int) (high2 : Int) : Option Bool :=
 loop (ZcC list0 low1 high2) (0)
def Zgp (set0 : List Int) (points1 : Int) : Option Bool :=
 bif decide (((set0.length : Int) : Int) > 0) then
  (ZeV set0 0 (IntKind.i64.wrap (points1 - 1))).bind fun r12 =>
  some (r12)
 else
  some (false)
def ZcG (d0 : ZaT) : Int → Option ((Int) ⊕ (Bool))
 | i3 =>
  bif decide ((i3 : Int) < (d0.Blocks.length : Int)) then
   (gIdx d0.Blocks i3).bind fun e32 =>
   (Zgp e32 d0.Points).bind fun r38 =>
   bif !r38 then
    some (.inr (false))
   else
    bif decide ((i3 : Int) > 0) then
     (gIdx d0.Blocks (IntKind.i64.wrap (i3 - 1))).bind fun e50 =>
     (gIdx d0.Blocks i3).bind fun e57 =>
     (Zce e50 e57).bind fun r59 =>
     bif decide ((r59 : Int) > 0) then
      some (.inr (false))
     else
      some (.inl (IntKind.i64.wrap (i3 + 1)))
    else
     some (.inl (IntKind.i64.wrap (i3 + 1)))
  else
   some (.inr (true))
def ZgV (d0 : ZaT) : Option (Bool) :=
 loop (ZcG d0) (0)
def Zft (d0 : ZaT) : Option Bool :=
 (ZY d0.Points 1 32).bind fun r8 =>
 bif !r8 then
  some (false)
 else
  bif decide (((d0.Blocks.length : Int) : Int) > 128) then
   some (false)
  else
   ZgV d0
def Zfq (a0 : List Int) (b1 : List Int) : Int × Int → Option ((Int × Int) ⊕ (Int))
 | (sum5, i6) =>
  bif decide ((i6 : Int) < (a0.length : Int)) then
   (gIdx a0 i6).bind fun e16 =>
   (gIdx b1 i6).bind fun e20 =>
   some (.inl (IntKind.i64.wrap (sum5 + (IntKind.i64.wrap (e16 * e20))), IntKind.i64.wrap (i6 + 1)))
  else
   some (.inr (sum5))
def Zd6 (a0 : List Int) (b1 : List Int) : Option Int :=
 loop (Zfq a0 b1) (0, 0)
def Zay (y0 : List (List Int)) (y4 : Int) : Int → Option ((Int) ⊕ ((Int) ⊕ (Bool)))
 | y5 =>
  bif decide ((y5 : Int) < (y0.length : Int)) then
   (gIdx y0 y4).bind fun e35 =>
   (gIdx e35 y5).bind fun e38 =>
   bif (e38 : Int) != 1 then
    (gIdx y0 y4).bind fun e44 =>
    (gIdx e44 y5).bind fun e47 =>
    bif (e47 : Int) != (-1) then
     some (.inr (.inr (false)))
    else
     some (.inl (IntKind.i64.wrap (y5 + 1)))
   else
    some (.inl (IntKind.i64.wrap (y5 + 1)))
  else
   some (.inr (.inl (IntKind.i64.wrap (y4 + 1))))
def Zcg (y0 : List (List Int)) (y6 : Int) : Int → Option ((Int) ⊕ ((Int) ⊕ ((Int) ⊕ (Bool))))
 | y7 =>
  bif decide ((y7 : Int) < y6) then
   (gIdx y0 y6).bind fun e63 =>
   (gIdx y0 y7).bind fun e67 =>
   (Zd6 e63 e67).bind fun r69 =>
   bif (r69 : Int) != 0 then
    some (.inr (.inr (.inr (false))))
   else
    some (.inl (IntKind.i64.wrap (y7 + 1)))
  else
   some (.inr (.inl (IntKind.i64.wrap (y6 + 1))))
def ZdE (y0 : List (List Int)) : Int → Option ((Int) ⊕ ((Int) ⊕ (Bool)))
 | y6 =>
  bif decide ((y6 : Int) < (y0.length : Int)) then
   loop (Zcg y0 y6) (0)
  else
   some (.inr (.inr (true)))
def Zdm (y0 : List (List Int)) : Int → Option ((Int) ⊕ (Bool))
 | y4 =>
  bif decide ((y4 : Int) < (y0.length : Int)) then
   (gIdx y0 y4).bind fun e23 =>
   bif ((e23.length : Int) : Int) != (y0.length : Int) then
    some (.inr (false))
   else
    loop (Zay y0 y4) (0)
  else
   loop (ZdE y0) (0)
def ZgO (y0 : List (List Int)) : Option (Bool) :=
 loop (Zdm y0) (0)
def Zed (y0 : List (List Int)) : Option Bool :=
 bif decide (((y0.length : Int) : Int) < 1) then
  some (false)
 else
  bif decide (((y0.length : Int) : Int) > 32) then
   some (false)
  else
   ZgO y0
def Zfn (o0 : Zx) : Option Z3 :=
 bif decide (((o0.Rows.length : Int) : Int) > 0) then
  (gIdx o0.Rows 0).bind fun e23 =>
  some ((Z3.mk o0.Size (e23.length : Int) o0.Rows))
 else
  some ((Z3.mk o0.Size 0 o0.Rows))
def ZgZ (levels0 : Int) (column1 : Int) : Option Bool :=
 (ZY levels0 2 16).bind fun r6 =>
 bif r6 then
  (ZY column1 1 8).bind fun r9 =>
  some (r9)
 else
  some (false)
def Zca (y0 : Z3) (y3 : Int) : Int → Option ((Int) ⊕ ((Int) ⊕ (Bool)))
 | y4 =>
  (gIdx y0.Rows y3).bind fun e51 =>
  bif decide ((y4 : Int) < (e51.length : Int)) then
   (gIdx y0.Rows y3).bind fun e62 =>
   (gIdx e62 y4).bind fun e65 =>
   (ZY e65 0 (IntKind.i64.wrap (y0.Levels - 1))).bind fun r72 =>
   bif !r72 then
    some (.inr (.inr (false)))
   else
    some (.inl (IntKind.i64.wrap (y4 + 1)))
  else
   some (.inr (.inl (IntKind.i64.wrap (y3 + 1))))
def Zd0 (y0 : Z3) : Int → Option ((Int) ⊕ (Bool))
 | y3 =>
  bif decide ((y3 : Int) < (y0.Rows.length : Int)) then
   (gIdx y0.Rows y3).bind fun e37 =>
   bif ((e37.length : Int) : Int) != y0.Columns then
    some (.inr (false))
   else
    loop (Zca y0 y3) (0)
  else
   some (.inr (true))
def Zgs (y0 : Z3) : Option (Bool) :=
 loop (Zd0 y0) (0)
def Zex (y0 : Z3) : Option Bool :=
 (ZgZ y0.Levels y0.Columns).bind fun r13 =>
 bif !r13 then
  some (false)
 else
  bif decide (((y0.Rows.length : Int) : Int) > 256) then
   some (false)
  else
   Zgs y0
def ZhB (p4 : Int) : Int × Int → Option ((Int × Int) ⊕ ((Int) ⊕ (Int × Int)))
 | (k5, n6) =>
  bif decide ((n6 : Int) > 1) then
   (gNz p4).bind fun _ =>
   bif (Int.tmod n6 p4 : Int) != 0 then
    some (.inr (.inr ((0, 0))))
   else
    (gNz p4).bind fun _ =>
    some (.inl (IntKind.i64.wrap (k5 + 1), IntKind.i64.wrap (Int.tdiv n6 p4)))
  else
   some (.inr (.inr ((p4, k5))))
def ZgT (q0 : Int) : Int → Option ((Int) ⊕ (Int × Int))
 | p4 =>
  (gNz p4).bind fun _ =>
  bif (Int.tmod q0 p4 : Int) != 0 then
   some (.inl (IntKind.i64.wrap (p4 + 1)))
  else
   loop (ZhB p4) (0, q0)
def Za4 (q0 : Int) : Option (Int × Int) :=
 (ZY q0 2 64).bind fun r8 =>
 bif !r8 then
  some ((0, 0))
 else
  loop (ZgT q0) (2)
def ZbP (p1 : Int) : Int × Int × List Int → Option ((Int × Int × List Int) ⊕ (List Int))
 | (a0_2, n2_2, out7) =>
  bif decide ((n2_2 : Int) > 0) then
   (gNz p1).bind fun _ =>
   (gApp 8 out7 [Int.tmod a0_2 p1]).bind fun l18 =>
   (gNz p1).bind fun _ =>
   some (.inl (IntKind.i64.wrap (Int.tdiv a0_2 p1), IntKind.i64.wrap (n2_2 - 1), l18))
  else
   some (.inr (out7))
def Zav (a0 : Int) (p1 : Int) (n2 : Int) : Option (List Int) :=
 loop (ZbP p1) (a0, n2, ([] : List Int))
def ZhP (p0 : Int) : Int × Int → Option ((Int × Int) ⊕ (Int))
 | (k1_2, out5) =>
  bif decide ((k1_2 : Int) > 0) then
   some (.inl (IntKind.i64.wrap (k1_2 - 1), IntKind.i64.wrap (out5 * p0)))
  else
   some (.inr (out5))
def Zck (p0 : Int) (k1 : Int) : Option Int :=
 loop (ZhP p0) (k1, 1)
def Zb4 (y1 : List Int) (y2 : Int) (y9 : Int) (e28 : Int) : Int × List Int → Option ((Int × List Int) ⊕ ((Int × List Int) ⊕ (List Int)))
 | (y11, xs_2) =>
  bif decide ((y11 : Int) < (y1.length : Int)) then
   (gIdx xs_2 (IntKind.i64.wrap ((IntKind.i64.wrap ((IntKind.i64.wrap (y9 - (y1.length : Int))) + 1)) + y11))).bind fun e45 =>
   (gIdx y1 y11).bind fun e52 =>
   (gNz y2).bind fun _ =>
   (gIdx xs_2 (IntKind.i64.wrap ((IntKind.i64.wrap ((IntKind.i64.wrap (y9 - (y1.length : Int))) + 1)) + y11))).bind fun e58 =>
   some (.inl (IntKind.i64.wrap (y11 + 1), (xs_2.set (IntKind.i64.wrap ((IntKind.i64.wrap ((IntKind.i64.wrap (y9 - (y1.length : Int))) + 1)) + y11) : Int).toNat (Int.tmod (IntKind.i64.wrap (e45 + (IntKind.i64.wrap ((IntKind.i64.wrap (y2 - e28)) * e52)))) y2))))
  else
   some (.inr (.inl (IntKind.i64.wrap (y9 - 1), xs_2)))
def Zbn (y1 : List Int) : List Int → Option ((List Int) ⊕ ((Int × List Int) ⊕ (List Int)))
 | y7 =>
  bif decide (((y7.length : Int) : Int) ≥ (y1.length : Int)) then
   (gSl y7 0 (IntKind.i64.wrap ((y7.length : Int) - 1))).bind fun l67 =>
   some (.inl (l67))
  else
   some (.inr (.inr (y7)))
def ZaI (y1 : List Int) (y2 : Int) : Int × List Int → Option ((Int × List Int) ⊕ (List Int))
 | (y9, xs) =>
  bif decide ((y9 : Int) ≥ (IntKind.i64.wrap ((y1.length : Int) - 1))) then
   (gIdx xs y9).bind fun e28 =>
   loop (Zb4 y1 y2 y9 e28) (0, xs)
  else
   loop (Zbn y1) (xs)
def ZbJ (y0 : List Int) (y1 : List Int) (y2 : Int) : Option (List Int) :=
 (ZaO y0).bind fun r14 =>
 loop (ZaI y1 y2) (IntKind.i64.wrap ((r14.length : Int) - 1), r14)
def Zcx (list0 : List Int) (p1 : Int) : Int × Int → Option ((Int × Int) ⊕ (Int))
 | (out5, i6) =>
  bif decide ((i6 : Int) ≥ 0) then
   (gIdx list0 i6).bind fun e19 =>
   some (.inl (IntKind.i64.wrap ((IntKind.i64.wrap (out5 * p1)) + e19), IntKind.i64.wrap (i6 - 1)))
  else
   some (.inr (out5))
def Zax (list0 : List Int) (p1 : Int) : Option Int :=
 loop (Zcx list0 p1) (0, IntKind.i64.wrap ((list0.length : Int) - 1))
def ZhF (poly0 : List Int) (p1 : Int) (d6 : Int) : Int → Option ((Int) ⊕ ((Int) ⊕ (Bool)))
 | n7 =>
  (Zck p1 d6).bind fun r22 =>
  bif decide ((n7 : Int) < r22) then
   (Zav n7 p1 d6).bind fun r29 =>
   (gApp 8 r29 [1]).bind fun l31 =>
   (ZbJ poly0 l31 p1).bind fun r35 =>
   (Zax r35 p1).bind fun r38 =>
   bif (r38 : Int) == 0 then
    some (.inr (.inr (false)))
   else
    some (.inl (IntKind.i64.wrap (n7 + 1)))
  else
   some (.inr (.inl (IntKind.i64.wrap (d6 + 1))))
def Zhb (poly0 : List Int) (p1 : Int) : Int → Option ((Int) ⊕ (Bool))
 | d6 =>
  bif decide ((IntKind.i64.wrap (2 * d6) : Int) ≤ (IntKind.i64.wrap ((poly0.length : Int) - 1))) then
   loop (ZhF poly0 p1 d6) (0)
  else
   some (.inr (true))
def Zd2 (poly0 : List Int) (p1 : Int) : Option Bool :=
 loop (Zhb poly0 p1) (1)
def Zhy (r9 : Int × Int) : Int → Option ((Int) ⊕ (Zc))
 | n5 =>
  (Zav n5 r9.1 r9.2).bind fun r17 =>
  (gApp 8 r17 [1]).bind fun l19 =>
  (Zd2 l19 r9.1).bind fun r22 =>
  bif r22 then
   some (.inr ((Zc.mk r9.1 r9.2 l19)))
  else
   some (.inl (IntKind.i64.wrap (n5 + 1)))
def Zc5 (q0 : Int) : Option Zc :=
 (Za4 q0).bind fun r9 =>
 loop (Zhy r9) (0)
def Zfs (o0 : Zx) : Option ZaM :=
 (Za4 o0.Size).bind fun r10 =>
 bif (r10.1 : Int) == 0 then
  some ((ZaM.mk (Zc.mk 0 0 ([] : List Int)) ([] : List (List Int))))
 else
  (Zc5 o0.Size).bind fun r20 =>
  some ((ZaM.mk (Zc.mk r20.Prime r20.Degree r20.Poly) o0.Rows))
def Zhu (y0 : Zc) (r58 : Int × Int) : Int → Option ((Int) ⊕ (Bool))
 | y6 =>
  bif decide ((y6 : Int) < (y0.Poly.length : Int)) then
   (gIdx y0.Poly y6).bind fun e81 =>
   (ZY e81 0 (IntKind.i64.wrap (r58.1 - 1))).bind fun r85 =>
   bif !r85 then
    some (.inr (false))
   else
    some (.inl (IntKind.i64.wrap (y6 + 1)))
  else
   (Zd2 y0.Poly r58.1).bind fun r92 =>
   some (.inr (r92))
def ZeP (y0 : Zc) : Option (Bool) :=
 (Zck y0.Prime y0.Degree).bind fun r55 =>
 (Za4 r55).bind fun r58 =>
 bif (r58.1 : Int) != y0.Prime then
  some (false)
 else
  loop (Zhu y0 r58) (0)
def Zc7 (y0 : Zc) : Option Bool :=
 (ZY y0.Prime 2 64).bind fun r11 =>
 bif !r11 then
  some (false)
 else
  (ZY y0.Degree 1 6).bind fun r18 =>
  bif !r18 then
   some (false)
  else
   bif ((y0.Poly.length : Int) : Int) != (IntKind.i64.wrap (y0.Degree + 1)) then
    some (false)
   else
    (gIdx y0.Poly y0.Degree).bind fun e43 =>
    bif (e43 : Int) != 1 then
     some (false)
    else
     ZeP y0
def ZbF (f0 : Zc) : Option Int :=
 (Zck f0.Prime f0.Degree).bind fun r11 =>
 some (r11)
def Zcc (v1 : List Int) (r8 : Int) : Int → Option ((Int) ⊕ (Bool))
 | i6 =>
  bif decide ((i6 : Int) < (v1.length : Int)) then
   (gIdx v1 i6).bind fun e17 =>
   (ZY e17 0 (IntKind.i64.wrap (r8 - 1))).bind fun r21 =>
   bif !r21 then
    some (.inr (false))
   else
    some (.inl (IntKind.i64.wrap (i6 + 1)))
  else
   some (.inr (true))
def ZfS (f0 : Zc) (v1 : List Int) : Option Bool :=
 (ZbF f0).bind fun r8 =>
 loop (Zcc v1 r8) (0)
def Zc8 (f0 : Zc) (m1 : List (List Int)) : Int → Option ((Int) ⊕ (Bool))
 | i5 =>
  bif decide ((i5 : Int) < (m1.length : Int)) then
   (gIdx m1 i5).bind fun e41 =>
   (gIdx m1 0).bind fun e45 =>
   bif ((e41.length : Int) : Int) != (e45.length : Int) then
    some (.inr (false))
   else
    (gIdx m1 i5).bind fun e53 =>
    (ZfS f0 e53).bind fun r55 =>
    bif !r55 then
     some (.inr (false))
    else
     some (.inl (IntKind.i64.wrap (i5 + 1)))
  else
   some (.inr (true))
def Zg1 (f0 : Zc) (m1 : List (List Int)) : Option (Bool) :=
 loop (Zc8 f0 m1) (0)
def ZfV (f0 : Zc) (m1 : List (List Int)) : Option Bool :=
 (Zc7 f0).bind fun r7 =>
 bif !r7 then
  some (false)
 else
  bif ((m1.length : Int) : Int) == 0 then
   some (false)
  else
   bif decide (((m1.length : Int) : Int) > 32) then
    some (false)
   else
    (gIdx m1 0).bind fun e21 =>
    bif ((e21.length : Int) : Int) == 0 then
     some (false)
    else
     (gIdx m1 0).bind fun e28 =>
     bif decide (((e28.length : Int) : Int) > 32) then
      some (false)
     else
      Zg1 f0 m1
def ZdW (q0 : Int) : Int × Int → Option ((Int × Int) ⊕ (Int))
 | (k1_2, n5) =>
  bif decide ((k1_2 : Int) > 0) then
   bif decide ((IntKind.i64.wrap (n5 * q0) : Int) > 4096) then
    some (.inr (0))
   else
    some (.inl (IntKind.i64.wrap (k1_2 - 1), IntKind.i64.wrap (n5 * q0)))
  else
   some (.inr (n5))
def Zht (q0 : Int) (k1 : Int) : Option Int :=
 loop (ZdW q0) (k1, 1)
def Zda (m0 : List (List Int)) : List (List Int) × Int → Option ((List (List Int) × Int) ⊕ (List (List Int)))
 | (out3, i4) =>
  bif decide ((i4 : Int) < (m0.length : Int)) then
   (gIdx m0 i4).bind fun e15 =>
   (ZaO e15).bind fun r17 =>
   (gApp 24 out3 [r17]).bind fun l19 =>
   some (.inl (l19, IntKind.i64.wrap (i4 + 1)))
  else
   some (.inr (out3))
def ZfB (m0 : List (List Int)) : Option (List (List Int)) :=
 loop (Zda m0) (([] : List (List Int)), 0)
def ZfL (y0 : Zc) (r21 : List Int) (r31 : List Int) (y10 : Int) : Int × List Int → Option ((Int × List Int) ⊕ ((Int × List Int) ⊕ (Int)))
 | (y11, xs_2) =>
  bif decide ((y11 : Int) < (r31.length : Int)) then
   (gIdx xs_2 (IntKind.i64.wrap (y10 + y11))).bind fun e59 =>
   (gIdx r21 y10).bind fun e63 =>
   (gIdx r31 y11).bind fun e67 =>
   (gNz y0.Prime).bind fun _ =>
   (gIdx xs_2 (IntKind.i64.wrap (y10 + y11))).bind fun e76 =>
   some (.inl (IntKind.i64.wrap (y11 + 1), (xs_2.set (IntKind.i64.wrap (y10 + y11) : Int).toNat (Int.tmod (IntKind.i64.wrap (e59 + (IntKind.i64.wrap (e63 * e67)))) y0.Prime))))
  else
   some (.inr (.inl (IntKind.i64.wrap (y10 + 1), xs_2)))
def ZbN (y0 : Zc) (r21 : List Int) (r31 : List Int) : Int × List Int → Option ((Int × List Int) ⊕ (Int))
 | (y10, xs) =>
  bif decide ((y10 : Int) < (r21.length : Int)) then
   loop (ZfL y0 r21 r31 y10) (0, xs)
  else
   (ZbJ xs y0.Poly y0.Prime).bind fun r86 =>
   (Zax r86 y0.Prime).bind fun r91 =>
   some (.inr (r91))
def Zb6 (y0 : Zc) (y1 : Int) (y2 : Int) : Option Int :=
 (Zav y1 y0.Prime y0.Degree).bind fun r21 =>
 (Zav y2 y0.Prime y0.Degree).bind fun r31 =>
 (gMake 8 (0 : Int) (IntKind.i64.wrap ((IntKind.i64.wrap (2 * y0.Degree)) - 1)) (IntKind.i64.wrap ((IntKind.i64.wrap (2 * y0.Degree)) - 1))).bind fun l38 =>
 loop (ZbN y0 r21 r31) (0, l38)
def ZdJ (f0 : Zc) (v1 : List Int) (c2 : Int) : List Int × Int → Option ((List Int × Int) ⊕ (List Int))
 | (out7, i8) =>
  bif decide ((i8 : Int) < (v1.length : Int)) then
   (gIdx v1 i8).bind fun e20 =>
   (Zb6 f0 e20 c2).bind fun r23 =>
   (gApp 8 out7 [r23]).bind fun l25 =>
   some (.inl (l25, IntKind.i64.wrap (i8 + 1)))
  else
   some (.inr (out7))
def Zf7 (f0 : Zc) (v1 : List Int) (c2 : Int) : Option (List Int) :=
 loop (ZdJ f0 v1 c2) (([] : List Int), 0)
def Zes (f0 : Zc) (a1 : Int) : Int → Option ((Int) ⊕ (Int))
 | b5 =>
  (Zb6 f0 a1 b5).bind fun r9 =>
  bif (r9 : Int) != 1 then
   some (.inl (IntKind.i64.wrap (b5 + 1)))
  else
   some (.inr (b5))
def Zfa (f0 : Zc) (a1 : Int) : Option Int :=
 loop (Zes f0 a1) (1)
def Zc6 (f0 : Zc) (k3 : Int) (r31 : List Int) : Int × List Int → Option ((Int × List Int) ⊕ (Int))
 | (i11, xs) =>
  bif decide ((i11 : Int) < (xs.length : Int)) then
   (gIdx xs i11).bind fun e42 =>
   (gIdx r31 i11).bind fun e47 =>
   (gNz f0.Prime).bind fun _ =>
   (gIdx xs i11).bind fun e56 =>
   some (.inl (IntKind.i64.wrap (i11 + 1), (xs.set (i11 : Int).toNat (Int.tmod (IntKind.i64.wrap (e42 + (IntKind.i64.wrap (k3 * e47)))) f0.Prime))))
  else
   (Zax xs f0.Prime).bind fun r62 =>
   some (.inr (r62))
def ZfI (f0 : Zc) (a1 : Int) (b2 : Int) (k3 : Int) : Option Int :=
 (Zav a1 f0.Prime f0.Degree).bind fun r21 =>
 (Zav b2 f0.Prime f0.Degree).bind fun r31 =>
 loop (Zc6 f0 k3 r31) (0, r21)
def Zc1 (f0 : Zc) (v1 : List Int) (w2 : List Int) (c3 : Int) : List Int × Int → Option ((List Int × Int) ⊕ (List Int))
 | (out9, i10) =>
  bif decide ((i10 : Int) < (v1.length : Int)) then
   (gIdx w2 i10).bind fun e27 =>
   (Zb6 f0 e27 c3).bind fun r30 =>
   (gIdx v1 i10).bind fun e22 =>
   (ZfI f0 e22 r30 (IntKind.i64.wrap (f0.Prime - 1))).bind fun r36 =>
   (gApp 8 out9 [r36]).bind fun l38 =>
   some (.inl (l38, IntKind.i64.wrap (i10 + 1)))
  else
   some (.inr (out9))
def ZeK (f0 : Zc) (v1 : List Int) (w2 : List Int) (c3 : Int) : Option (List Int) :=
 loop (Zc1 f0 v1 w2 c3) (([] : List Int), 0)
def Zcy (y0 : Zc) (y9 : List Int) (y10 : Int) (r67 : List Int) : Int × List (List Int) → Option ((Int × List (List Int)) ⊕ ((List Int × Int × List (List Int)) ⊕ ((List (List Int)) × (List Int))))
 | (y14, xs_2) =>
  bif decide ((y14 : Int) < (xs_2.length : Int)) then
   bif (y14 : Int) != (y9.length : Int) then
    (gIdx xs_2 y14).bind fun e93 =>
    (gIdx xs_2 y14).bind fun e98 =>
    (gIdx e98 y10).bind fun e101 =>
    (ZeK y0 e93 r67 e101).bind fun r103 =>
    (gIdx xs_2 y14).bind fun e104 =>
    some (.inl (IntKind.i64.wrap (y14 + 1), (xs_2.set (y14 : Int).toNat r103)))
   else
    some (.inl (IntKind.i64.wrap (y14 + 1), xs_2))
  else
   (gApp 8 y9 [y10]).bind fun l108 =>
   some (.inr (.inl (l108, IntKind.i64.wrap (y10 + 1), xs_2)))
def Zae (y0 : Zc) (y9 : List Int) (y10 : Int) (xs : List (List Int)) (y12 : Int) : Option ((List Int × Int × List (List Int)) ⊕ ((List (List Int)) × (List Int))) :=
 bif (y12 : Int) == (xs.length : Int) then
  some (.inl (y9, IntKind.i64.wrap (y10 + 1), xs))
 else
  (gIdx xs y12).bind fun e61 =>
  (gIdx e61 y10).bind fun e64 =>
  (Zfa y0 e64).bind fun r66 =>
  (gIdx xs y12).bind fun e56 =>
  (Zf7 y0 e56 r66).bind fun r67 =>
  (gIdx xs (y9.length : Int)).bind fun e72 =>
  (gIdx xs y12).bind fun e74 =>
  (gIdx (xs.set (y12 : Int).toNat e72) (y9.length : Int)).bind fun e78 =>
  loop (Zcy y0 y9 y10 r67) (0, ((xs.set (y12 : Int).toNat e72).set ((y9.length : Int) : Int).toNat r67))
def Zbr (y0 : Zc) (y9 : List Int) (y10 : Int) (xs : List (List Int)) : Int → Option ((Int) ⊕ ((List Int × Int × List (List Int)) ⊕ ((List (List Int)) × (List Int))))
 | y12_2 =>
  bif decide ((y12_2 : Int) < (xs.length : Int)) then
   (gIdx xs y12_2).bind fun e40 =>
   (gIdx e40 y10).bind fun e43 =>
   bif (e43 : Int) == 0 then
    some (.inl (IntKind.i64.wrap (y12_2 + 1)))
   else
    (Zae y0 y9 y10 xs y12_2).map fun x => .inr (x)
  else
   (Zae y0 y9 y10 xs y12_2).map fun x => .inr (x)
def ZfM (y0 : Zc) (y9 : List Int) (y10 : Int) (xs : List (List Int)) : Option ((List Int × Int × List (List Int)) ⊕ ((List (List Int)) × (List Int))) :=
 loop (Zbr y0 y9 y10 xs) ((y9.length : Int))
def Zbj (y0 : Zc) (y2 : Int) : List Int × Int × List (List Int) → Option ((List Int × Int × List (List Int)) ⊕ ((List (List Int)) × (List Int)))
 | (y9, y10, xs) =>
  bif decide ((y10 : Int) < y2) then
   bif decide (((y9.length : Int) : Int) < (xs.length : Int)) then
    ZfM y0 y9 y10 xs
   else
    some (.inr ((xs, y9)))
  else
   some (.inr ((xs, y9)))
def Zg7 (y0 : Zc) (y1 : List (List Int)) (y2 : Int) : Option ((List (List Int)) × (List Int)) :=
 (ZfB y1).bind fun r16 =>
 loop (Zbj y0 y2) (([] : List Int), 0, r16)
def ZfN (f0 : Zc) (m1 : List (List Int)) : Option (List (List Int)) :=
 (gIdx m1 0).bind fun e11 =>
 (Zg7 f0 m1 (e11.length : Int)).bind fun r14 =>
 (gSl r14.1 0 (r14.2.length : Int)).bind fun l20 =>
 some (l20)
def Zhw (c0 : ZaM) : Option (Bool) :=
 (ZbF (Zc.mk c0.Field.Prime c0.Field.Degree c0.Field.Poly)).bind fun r33 =>
 (Zht r33 (c0.Rows.length : Int)).bind fun r39 =>
 bif (r39 : Int) == 0 then
  some (false)
 else
  (ZfN (Zc.mk c0.Field.Prime c0.Field.Degree c0.Field.Poly) c0.Rows).bind fun r48 =>
  (Zdg r48 c0.Rows).bind fun r53 =>
  some (r53)
def ZcY (c0 : ZaM) : Option Bool :=
 (ZfV (Zc.mk c0.Field.Prime c0.Field.Degree c0.Field.Poly) c0.Rows).bind fun r10 =>
 bif !r10 then
  some (false)
 else
  (gIdx c0.Rows 0).bind fun e17 =>
  bif decide (((e17.length : Int) : Int) > 32) then
   some (false)
  else
   bif decide (((c0.Rows.length : Int) : Int) > 8) then
    some (false)
   else
    Zhw c0
def ZdC (y0 : Zx) : Option Bool :=
 bif (y0.Kind : Int) == 1 then
  (Zeb y0.Rows).bind fun r17 =>
  bif r17 then
   some (((y0.Rows.length : Int) : Int) == y0.Size)
  else
   some (false)
 else
  bif (y0.Kind : Int) == 2 then
   (Zft (ZaT.mk y0.Size y0.Rows)).bind fun r42 =>
   some (r42)
  else
   bif (y0.Kind : Int) == 3 then
    (Zed y0.Rows).bind fun r49 =>
    bif r49 then
     some (((y0.Rows.length : Int) : Int) == y0.Size)
    else
     some (false)
   else
    bif (y0.Kind : Int) == 4 then
     (Zfn y0).bind fun r65 =>
     bif decide (((y0.Rows.length : Int) : Int) > 0) then
      (Zex (Z3.mk r65.Levels r65.Columns r65.Rows)).bind fun r73 =>
      some (r73)
     else
      some (false)
    else
     bif (y0.Kind : Int) == 5 then
      (Zfs y0).bind fun r78 =>
      (ZcY (ZaM.mk (Zc.mk r78.Field.Prime r78.Field.Degree r78.Field.Poly) r78.Rows)).bind fun r79 =>
      some (r79)
     else
      bif (y0.Kind : Int) == 6 then
       (ZdP y0).bind fun r84 =>
       some (r84.2)
      else
       bif (y0.Kind : Int) == 7 then
        (Zeh (ZaB.mk y0.Size y0.Rows)).bind fun r100 =>
        some (r100)
       else
        some (false)
def ZwZ (c0 : Int) : Option Bool :=
 bif decide ((c0 : Int) ≥ 97) then
  some (decide ((c0 : Int) ≤ 122))
 else
  some (false)
def Zxa (c0 : Int) : Option Bool :=
 bif decide ((c0 : Int) ≥ 48) then
  some (decide ((c0 : Int) ≤ 57))
 else
  some (false)
def Zxb (s0 : ByteArray) : Int → Option ((Int) ⊕ (Bool))
 | i3 =>
  bif decide ((i3 : Int) < ((s0 : ByteArray).size : Int)) then
   (gSt s0 i3).bind fun c25 =>
   (ZwZ (c25.toNat : Int)).bind fun r26 =>
   bif !r26 then
    (gSt s0 i3).bind fun c31 =>
    (Zxa (c31.toNat : Int)).bind fun r32 =>
    bif !r32 then
     some (.inr (false))
    else
     some (.inl (IntKind.i64.wrap (i3 + 1)))
   else
    some (.inl (IntKind.i64.wrap (i3 + 1)))
  else
   some (.inr (true))
def Zx7 (s0 : ByteArray) : Option (Bool) :=
 loop (Zxb s0) (0)
def ZxZ (s0 : ByteArray) : Option Bool :=
 bif (s0 : ByteArray).toList == (⟨#[]⟩ : ByteArray).toList then
  some (false)
 else
  bif decide ((((s0 : ByteArray).size : Int) : Int) > 10) then
   some (false)
  else
   (gSt s0 0).bind fun c13 =>
   (ZwZ (c13.toNat : Int)).bind fun r14 =>
   bif !r14 then
    some (false)
   else
    Zx7 s0
def ZxL (x0 : ZwR) : Option Bool :=
 (ZxZ x0.Name).bind fun r7 =>
 bif r7 then
  (ZdC (Zx.mk x0.Object.Kind x0.Object.Size x0.Object.Rows)).bind fun r12 =>
  bif r12 then
   bif decide ((((x0.Key : ByteArray).size : Int) : Int) > 0) then
    some (decide ((((x0.Key : ByteArray).size : Int) : Int) ≤ 4000))
   else
    some (false)
  else
   some (false)
 else
  some (false)
def ZxW (a0 : ZwR) (b1 : ZwR) : Option Bool :=
 bif (a0.Object.Kind : Int) == b1.Object.Kind then
  some ((a0.Key : ByteArray).toList == (b1.Key : ByteArray).toList)
 else
  some (false)
def Zxv (y0 : ZwS) (y3 : Int) : Int → Option ((Int) ⊕ ((Int) ⊕ (Bool)))
 | y4 =>
  bif decide ((y4 : Int) < y3) then
   (gIdx y0.Items y3).bind fun e56 =>
   (gIdx y0.Items y4).bind fun e62 =>
   (ZxW e56 e62).bind fun r63 =>
   bif r63 then
    some (.inr (.inr (false)))
   else
    some (.inl (IntKind.i64.wrap (y4 + 1)))
  else
   some (.inr (.inl (IntKind.i64.wrap (y3 + 1))))
def Zxz (y0 : ZwS) (y3 : Int) : Option ((Int) ⊕ (Bool)) :=
 loop (Zxv y0 y3) (0)
def Zw6 (y0 : ZwS) : Int → Option ((Int) ⊕ (Bool))
 | y3 =>
  bif decide ((y3 : Int) < (y0.Items.length : Int)) then
   (gIdx y0.Items y3).bind fun e19 =>
   (ZxL e19).bind fun r20 =>
   bif !r20 then
    some (.inr (false))
   else
    bif decide ((y3 : Int) > 0) then
     (gIdx y0.Items (IntKind.i64.wrap (y3 - 1))).bind fun e32 =>
     (gIdx y0.Items y3).bind fun e40 =>
     bif !(Op.bytesLess ((e32.Name : ByteArray).toList) ((e40.Name : ByteArray).toList)) then
      some (.inr (false))
     else
      Zxz y0 y3
    else
     Zxz y0 y3
  else
   some (.inr (decide (((y0.Items.length : Int) : Int) ≤ 24)))
def ZxN (y0 : ZwS) : Option Bool :=
 loop (Zw6 y0) (0)
def ZAY (c0 : ZwS) (name1 : ByteArray) : Int → Option ((Int) ⊕ (Int))
 | i5 =>
  bif decide ((i5 : Int) < (c0.Items.length : Int)) then
   (gIdx c0.Items i5).bind fun e20 =>
   bif (e20.Name : ByteArray).toList == (name1 : ByteArray).toList then
    some (.inr (i5))
   else
    some (.inl (IntKind.i64.wrap (i5 + 1)))
  else
   some (.inr ((-1)))
def ZBd (c0 : ZwS) (name1 : ByteArray) : Option Int :=
 loop (ZAY c0 name1) (0)
def ZA6 (x0 : ZwR) : Option ZwR :=
 (ZfB x0.Object.Rows).bind fun r19 =>
 some ((ZwR.mk x0.Name (Zx.mk x0.Object.Kind x0.Object.Size r19) x0.Key))
def ZCo (c0 : ZwS) (r13 : Int) : Int × List ZwR → Option ((Int × List ZwR) ⊕ (ZwS × Int))
 | (i8, xs) =>
  bif decide ((i8 : Int) < (c0.Items.length : Int)) then
   bif (i8 : Int) != r13 then
    (gIdx c0.Items i8).bind fun e33 =>
    (ZA6 e33).bind fun r34 =>
    (gApp 72 xs [r34]).bind fun l36 =>
    some (.inl (IntKind.i64.wrap (i8 + 1), l36))
   else
    some (.inl (IntKind.i64.wrap (i8 + 1), xs))
  else
   some (.inr (((ZwS.mk xs), 0)))
def ZCv (c0 : ZwS) (name1 : ByteArray) : Option (ZwS × Int) :=
 (ZxN (ZwS.mk c0.Items)).bind fun r9 =>
 bif !r9 then
  some (((ZwS.mk ([] : List ZwR)), 1))
 else
  (ZBd (ZwS.mk c0.Items) name1).bind fun r13 =>
  bif decide ((r13 : Int) < 0) then
   some (((ZwS.mk ([] : List ZwR)), 3))
  else
   loop (ZCo c0 r13) (0, ([] : List ZwR))
def Z0 (n0 : Int) (low1 : Int) (high2 : Int) : Option Bool :=
 bif decide ((n0 : Int) ≥ low1) then
  some (decide ((n0 : Int) ≤ high2))
 else
  some (false)
def Zbh (s0 : List (List Int)) (fn1 : (List Int) → Option Bool) : Int → Option ((Int) ⊕ (Int))
 | y8 =>
  bif decide ((y8 : Int) < (s0.length : Int)) then
   (gIdx s0 y8).bind fun e14 =>
   (fn1 e14).bind fun r16 =>
   bif r16 then
    some (.inr (y8))
   else
    some (.inl (IntKind.i64.wrap (y8 + 1)))
  else
   some (.inr ((-1)))
def ZdU (s0 : List (List Int)) (fn1 : (List Int) → Option Bool) : Option Int :=
 loop (Zbh s0 fn1) (0)
def Zdi (s0 : List (List Int)) (fn1 : (List Int) → Option Bool) : Option Bool :=
 (ZdU s0 fn1).bind fun r7 =>
 some (decide ((r7 : Int) ≥ 0))
def ZI (list0 : List Int) : Option Int :=
 some ((list0.length : Int))
def Zbu (a0 : List Int) : Option (List Int) := gApp 8 [] a0
def ZeD (x0 : List Int) : Option (List Int) := if x0.length < 4611686018427387904 then some (sortI x0) else none
def Zdf (p0 : List Int) (r9 : List Int) : Int → Option ((Int) ⊕ (Bool))
 | y12 =>
  bif decide ((y12 : Int) < (r9.length : Int)) then
   (gIdx r9 y12).bind fun e15 =>
   bif (e15 : Int) != y12 then
    some (.inr (false))
   else
    some (.inl (IntKind.i64.wrap (y12 + 1)))
  else
   some (.inr (decide (((p0.length : Int) : Int) ≤ 32)))
def Zdy (p0 : List Int) : Option Bool :=
 (Zbu p0).bind fun r7 =>
 (ZeD r7).bind fun r9 =>
 loop (Zdf p0 r9) (0)
def ZhW (p0 : List Int) (y1 : Int) : Option Bool :=
 (ZI p0).bind fun r5 =>
 bif (r5 : Int) != y1 then
  some (true)
 else
  (Zdy p0).bind fun r10 =>
  some (!r10)
def ZdM (degree0 : Int) (list1 : List (List Int)) : Option Bool :=
 (Zdi list1 (fun y0 => ZhW y0 degree0)).bind fun r7 =>
 some (!r7)
def ZcO (x0 : Int) : Option Bool :=
 some ((x0 : Int) != x0)
def Za6 (x0 : Int) (y1 : Int) : Option Int :=
 (ZcO x0).bind fun r8 =>
 (ZcO y1).bind fun r10 =>
 bif r8 then
  bif r10 then
   some (0)
  else
   some ((-1))
 else
  bif r10 then
   some (1)
  else
   bif decide ((x0 : Int) < y1) then
    some ((-1))
   else
    bif decide ((x0 : Int) > y1) then
     some (1)
    else
     some (0)
def Zbq (s0 : List Int) (s1 : List Int) : Int → Option ((Int) ⊕ (Int))
 | y11 =>
  bif decide ((y11 : Int) < (s0.length : Int)) then
   (gIdx s0 y11).bind fun e14 =>
   bif decide ((y11 : Int) ≥ (s1.length : Int)) then
    some (.inr (1))
   else
    (gIdx s1 y11).bind fun e22 =>
    (Za6 e14 e22).bind fun r26 =>
    bif (r26 : Int) != 0 then
     some (.inr (r26))
    else
     some (.inl (IntKind.i64.wrap (y11 + 1)))
  else
   bif decide (((s0.length : Int) : Int) < (s1.length : Int)) then
    some (.inr ((-1)))
   else
    some (.inr (0))
def Zam (s0 : List Int) (s1 : List Int) : Option Int :=
 loop (Zbq s0 s1) (0)
open Classical in
def Zen (x0 : List (List Int)) (fn1 : (List Int) → (List Int) → Option Int) : Option (List (List Int)) := if (∀ a ∈ x0, ∀ c ∈ x0, fn1 a c = some (lexC a c)) ∧ x0.length < 4611686018427387904 then some (sortRows x0) else none
def ZcX (l6 : List Int) : Int × List Int → Option ((Int × List Int) ⊕ (List Int))
 | (y9, xs) =>
  bif decide ((y9 : Int) < (l6.length : Int)) then
   (gIdx xs y9).bind fun e15 =>
   some (.inl (IntKind.i64.wrap (y9 + 1), (xs.set (y9 : Int).toNat y9)))
  else
   some (.inr (xs))
def ZeN (n0 : Int) : Option (List Int) :=
 (gMake 8 (0 : Int) n0 n0).bind fun l6 =>
 loop (ZcX l6) (0, l6)
def ZdT (p0 : List Int) : Int × List Int → Option ((Int × List Int) ⊕ (ByteArray))
 | (y11, xs) =>
  bif decide ((y11 : Int) < (p0.length : Int)) then
   (gIdx p0 y11).bind fun e14 =>
   (gIdx xs y11).bind fun e20 =>
   some (.inl (IntKind.i64.wrap (y11 + 1), (xs.set (y11 : Int).toNat (IntKind.u8.wrap e14))))
  else
   (gByt xs).bind fun s23 =>
   some (.inr (s23))
def ZcR (p0 : List Int) : Option ByteArray :=
 (gMake 1 (0 : Int) (p0.length : Int) (p0.length : Int)).bind fun l8 =>
 loop (ZdT p0) (0, l8)
def Zdw (p0 : List Int) (q1 : List Int) (l9 : List Int) : Int × List Int → Option ((Int × List Int) ⊕ (List Int))
 | (y12, xs) =>
  bif decide ((y12 : Int) < (l9.length : Int)) then
   (gIdx p0 y12).bind fun e20 =>
   (gIdx q1 e20).bind fun e22 =>
   (gIdx xs y12).bind fun e24 =>
   some (.inl (IntKind.i64.wrap (y12 + 1), (xs.set (y12 : Int).toNat e22)))
  else
   some (.inr (xs))
def ZfO (p0 : List Int) (q1 : List Int) : Option (List Int) :=
 (gMake 8 (0 : Int) (p0.length : Int) (p0.length : Int)).bind fun l9 =>
 loop (Zdw p0 q1 l9) (0, l9)
def ZaW (genera1 : List (List Int)) (k8 : Int) : List (List Int) × Int × List (ByteArray × Bool) → Option ((List (List Int) × Int × List (ByteArray × Bool)) ⊕ ((List (List Int) × Int × List (ByteArray × Bool)) ⊕ ((List (List Int)) × Bool)))
 | (elemen6_2, y30, mp_2) =>
  bif decide ((y30 : Int) < (genera1.length : Int)) then
   (gIdx genera1 y30).bind fun e32 =>
   (gIdx elemen6_2 k8).bind fun e36 =>
   (ZfO e36 e32).bind fun r39 =>
   (ZcR r39).bind fun r41 =>
   bif !(mpGet mp_2 r41 false) then
    (gApp 24 elemen6_2 [r39]).bind fun l51 =>
    some (.inl (l51, IntKind.i64.wrap (y30 + 1), (mpSet mp_2 r41 true)))
   else
    some (.inl (elemen6_2, IntKind.i64.wrap (y30 + 1), mp_2))
  else
   bif decide (((elemen6_2.length : Int) : Int) > 720) then
    some (.inr (.inr ((([] : List (List Int)), false))))
   else
    some (.inr (.inl (elemen6_2, IntKind.i64.wrap (k8 + 1), mp_2)))
def Za7 (genera1 : List (List Int)) : List (List Int) × Int × List (ByteArray × Bool) → Option ((List (List Int) × Int × List (ByteArray × Bool)) ⊕ ((List (List Int)) × Bool))
 | (elemen6, k8, mp) =>
  bif decide ((k8 : Int) < (elemen6.length : Int)) then
   loop (ZaW genera1 k8) (elemen6, 0, mp)
  else
   (Zen elemen6 (fun y0 y1 => Zam y0 y1)).bind fun r57 =>
   some (.inr ((r57, true)))
def ZcN (degree0 : Int) (genera1 : List (List Int)) : Option ((List (List Int)) × Bool) :=
 (ZeN degree0).bind fun r14 =>
 (gIdx ([r14]) 0).bind fun e18 =>
 (ZcR e18).bind fun r20 =>
 loop (Za7 genera1) ([r14], 0, (mpSet ([] : List (ByteArray × Bool)) r20 true))
def Zcw (x0 : List (List Int)) (target1 : List Int) (fn2 : (List Int) → (List Int) → Option Int) : Int × Int → Option ((Int × Int) ⊕ (Int × Bool))
 | (i9, j10) =>
  bif decide ((i9 : Int) < j10) then
   (gNn 1).bind fun _ =>
   (gIdx x0 (IntKind.i64.wrap (Int.fdiv (IntKind.u64.wrap (IntKind.i64.wrap (i9 + j10))) (2 ^ min (1 : Int).toNat IntKind.u64.bits)))).bind fun e27 =>
   (fn2 e27 target1).bind fun r30 =>
   bif decide ((r30 : Int) < 0) then
    some (.inl (IntKind.i64.wrap ((IntKind.i64.wrap (Int.fdiv (IntKind.u64.wrap (IntKind.i64.wrap (i9 + j10))) (2 ^ min (1 : Int).toNat IntKind.u64.bits))) + 1), j10))
   else
    some (.inl (i9, IntKind.i64.wrap (Int.fdiv (IntKind.u64.wrap (IntKind.i64.wrap (i9 + j10))) (2 ^ min (1 : Int).toNat IntKind.u64.bits))))
  else
   bif decide ((i9 : Int) < (x0.length : Int)) then
    (gIdx x0 i9).bind fun e43 =>
    (fn2 e43 target1).bind fun r46 =>
    some (.inr ((i9, (r46 : Int) == 0)))
   else
    some (.inr ((i9, false)))
def Ze4 (x0 : List (List Int)) (target1 : List Int) (fn2 : (List Int) → (List Int) → Option Int) : Option (Int × Bool) :=
 loop (Zcw x0 target1 fn2) (0, (x0.length : Int))
def Zfy (degree0 : Int) (genera7 : List (List Int)) (y21 : Int) (e23 : List Int) : Option ((List (List Int) × List (List Int) × Bool × Int) ⊕ ((List (List Int)) × (List (List Int)) × Bool)) :=
 (gApp 24 genera7 [e23]).bind fun l39 =>
 (ZcN degree0 l39).bind fun r43 =>
 some (.inl (l39, r43.1, r43.2, IntKind.i64.wrap (y21 + 1)))
def Zaf (degree0 : Int) (elemen1 : List (List Int)) : List (List Int) × List (List Int) × Bool × Int → Option ((List (List Int) × List (List Int) × Bool × Int) ⊕ ((List (List Int)) × (List (List Int)) × Bool))
 | (genera7, all8, ok9, y21) =>
  bif decide ((y21 : Int) < (elemen1.length : Int)) then
   (gIdx elemen1 y21).bind fun e23 =>
   (Ze4 all8 e23 (fun y0 y1 => Zam y0 y1)).bind fun r28 =>
   bif r28.2 then
    some (.inl (genera7, all8, ok9, IntKind.i64.wrap (y21 + 1)))
   else
    bif !ok9 then
     some (.inl (genera7, all8, ok9, IntKind.i64.wrap (y21 + 1)))
    else
     Zfy degree0 genera7 y21 e23
  else
   some (.inr ((genera7, all8, ok9)))
def Zgg (degree0 : Int) (elemen1 : List (List Int)) : Option ((List (List Int)) × (List (List Int)) × Bool) :=
 (ZcN degree0 ([] : List (List Int))).bind fun r16 =>
 loop (Zaf degree0 elemen1) (([] : List (List Int)), r16.1, r16.2, 0)
def ZcI (y0 : ZaB) : Int → Option ((Int) ⊕ (Bool))
 | y3 =>
  bif decide ((y3 : Int) < (y0.Elements.length : Int)) then
   (gIdx y0.Elements (IntKind.i64.wrap (y3 - 1))).bind fun e42 =>
   (gIdx y0.Elements y3).bind fun e47 =>
   (Zam e42 e47).bind fun r49 =>
   bif decide ((r49 : Int) ≥ 0) then
    some (.inr (false))
   else
    some (.inl (IntKind.i64.wrap (y3 + 1)))
  else
   (Zgg y0.Degree y0.Elements).bind fun r56 =>
   bif r56.2.2 then
    some (.inr (((r56.2.1.length : Int) : Int) == (y0.Elements.length : Int)))
   else
    some (.inr (false))
def ZgB (y0 : ZaB) : Option (Bool) :=
 loop (ZcI y0) (1)
def ZeF (y0 : ZaB) : Option Bool :=
 (Z0 y0.Degree 1 32).bind fun r9 =>
 bif !r9 then
  some (false)
 else
  bif decide (((y0.Elements.length : Int) : Int) < 1) then
   some (false)
  else
   bif decide (((y0.Elements.length : Int) : Int) > 720) then
    some (false)
   else
    (ZdM y0.Degree y0.Elements).bind fun r28 =>
    bif !r28 then
     some (false)
    else
     ZgB y0
def Zcb (vals0 : List Int) : Int → Option ((Int) ⊕ (Int))
 | y8 =>
  bif decide ((y8 : Int) < (vals0.length : Int)) then
   (gIdx vals0 y8).bind fun e10 =>
   bif (e10 : Int) != 0 then
    some (.inr (e10))
   else
    some (.inl (IntKind.i64.wrap (y8 + 1)))
  else
   some (.inr (0))
def Zew (vals0 : List Int) : Option Int :=
 loop (Zcb vals0) (0)
def Ze5 (a0 : Zg) (b1 : Zg) : Option Int :=
 (Za6 a0.A b1.A).bind fun r9 =>
 (Za6 a0.B b1.B).bind fun r14 =>
 (Zew ([r9, r14] : List Int)).bind fun r16 =>
 some (r16)
def Zcr (s0 : List Int) (fn1 : Int → Option Bool) : Int → Option ((Int) ⊕ (Int))
 | y8 =>
  bif decide ((y8 : Int) < (s0.length : Int)) then
   (gIdx s0 y8).bind fun e14 =>
   (fn1 e14).bind fun r16 =>
   bif r16 then
    some (.inr (y8))
   else
    some (.inl (IntKind.i64.wrap (y8 + 1)))
  else
   some (.inr ((-1)))
def ZeW (s0 : List Int) (fn1 : Int → Option Bool) : Option Int :=
 loop (Zcr s0 fn1) (0)
def Zap (s0 : List Int) (fn1 : Int → Option Bool) : Option Bool :=
 (ZeW s0 fn1).bind fun r7 =>
 some (decide ((r7 : Int) ≥ 0))
def Zgz (n0 : Int) : Option Bool :=
 (Z0 n0 0 63).bind fun r4 =>
 some (r4)
def Zhi (n0 : Int) : Option Bool :=
 (Zgz n0).bind fun r4 =>
 some (!r4)
def Zfg (colors0 : List Int) : Option Bool :=
 bif decide (((colors0.length : Int) : Int) ≤ 64) then
  (Zap colors0 (fun y0 => Zhi y0)).bind fun r8 =>
  some (!r8)
 else
  some (false)
def ZaK (g0 : Zt) : Int → Option ((Int) ⊕ (Bool))
 | y8 =>
  bif decide ((y8 : Int) < (g0.Edges.length : Int)) then
   (gIdx g0.Edges y8).bind fun e11 =>
   bif decide ((e11.A : Int) < 0) then
    some (.inr (false))
   else
    bif decide ((e11.A : Int) ≥ e11.B) then
     some (.inr (false))
    else
     (ZI g0.Colors).bind fun r28 =>
     bif decide ((e11.B : Int) ≥ r28) then
      some (.inr (false))
     else
      bif decide ((y8 : Int) > 0) then
       (gIdx g0.Edges (IntKind.i64.wrap (y8 - 1))).bind fun e39 =>
       (Ze5 e39 (Zg.mk e11.A e11.B)).bind fun r42 =>
       bif decide ((r42 : Int) ≥ 0) then
        some (.inr (false))
       else
        some (.inl (IntKind.i64.wrap (y8 + 1)))
      else
       some (.inl (IntKind.i64.wrap (y8 + 1)))
  else
   (Zfg g0.Colors).bind fun r49 =>
   bif r49 then
    some (.inr (decide (((g0.Edges.length : Int) : Int) ≤ 512)))
   else
    some (.inr (false))
def Ze9 (g0 : Zt) : Option Bool :=
 loop (ZaK g0) (0)
def Zby (o0 : Zx) (l14 : List Int) : Int × List Zg → Option ((Int × List Zg) ⊕ (Zt × Bool))
 | (y19, xs) =>
  bif decide ((y19 : Int) < (o0.Rows.length : Int)) then
   (gIdx o0.Rows y19).bind fun e21 =>
   bif ((e21.length : Int) : Int) != 2 then
    some (.inr (((Zt.mk ([] : List Int) ([] : List Zg)), false)))
   else
    (gIdx e21 0).bind fun e30 =>
    (gIdx e21 1).bind fun e33 =>
    (gApp 16 xs [(Zg.mk e30 e33)]).bind fun l37 =>
    some (.inl (IntKind.i64.wrap (y19 + 1), l37))
  else
   (Ze9 (Zt.mk l14 xs)).bind fun r42 =>
   some (.inr (((Zt.mk l14 xs), r42)))
def Zdn (o0 : Zx) : Option (Zt × Bool) :=
 (Z0 o0.Size 0 64).bind fun r9 =>
 bif !r9 then
  some (((Zt.mk ([] : List Int) ([] : List Zg)), false))
 else
  (gMake 8 (0 : Int) o0.Size o0.Size).bind fun l14 =>
  loop (Zby o0 l14) (0, ([] : List Zg))
def Z2 (list0 : List (List Int)) : Option Int :=
 some ((list0.length : Int))
def Zcq (a0 : List (List Int)) (y20 : Int) : List Int × Int → Option ((List Int × Int) ⊕ ((Int) ⊕ (Bool)))
 | (column5, y25) =>
  bif decide ((y25 : Int) < (a0.length : Int)) then
   (gIdx a0 y25).bind fun e31 =>
   (gIdx e31 y20).bind fun e34 =>
   (gApp 8 column5 [e34]).bind fun l37 =>
   some (.inl (l37, IntKind.i64.wrap (y25 + 1)))
  else
   (Zdy column5).bind fun r40 =>
   bif !r40 then
    some (.inr (.inr (false)))
   else
    some (.inr (.inl (IntKind.i64.wrap (y20 + 1))))
def Zff (a0 : List (List Int)) : Int → Option ((Int) ⊕ (Bool))
 | y20 =>
  bif decide ((y20 : Int) < (a0.length : Int)) then
   loop (Zcq a0 y20) (([] : List Int), 0)
  else
   some (.inr (true))
def ZgH (a0 : List (List Int)) : Option (Bool) :=
 loop (Zff a0) (0)
def ZfQ (a0 : List (List Int)) : Option Bool :=
 (Z2 a0).bind fun r8 =>
 (Z0 r8 1 10).bind fun r10 =>
 bif !r10 then
  some (false)
 else
  (ZdM r8 a0).bind fun r15 =>
  bif !r15 then
   some (false)
  else
   ZgH a0
def Zbk (set0 : List Int) (n1 : Int) : Int × Int → Option ((Int × Int) ⊕ (Bool))
 | (last5, y10) =>
  bif decide ((y10 : Int) < (set0.length : Int)) then
   (gIdx set0 y10).bind fun e12 =>
   bif decide ((e12 : Int) ≤ last5) then
    some (.inr (false))
   else
    bif decide ((e12 : Int) ≥ n1) then
     some (.inr (false))
    else
     some (.inl (e12, IntKind.i64.wrap (y10 + 1)))
  else
   (Z0 n1 0 32).bind fun r25 =>
   some (.inr (r25))
def ZeX (set0 : List Int) (n1 : Int) : Option Bool :=
 loop (Zbk set0 n1) ((-1), 0)
def ZeH (block0 : List Int) (points1 : Int) : Option Bool :=
 bif decide (((block0.length : Int) : Int) > 0) then
  (ZeX block0 points1).bind fun r11 =>
  some (r11)
 else
  some (false)
def Zgn (b0 : List Int) (y1 : Int) : Option Bool :=
 (ZeH b0 y1).bind fun r6 =>
 some (!r6)
def Zhp (blocks0 : List (List Int)) (points1 : Int) : Option Bool :=
 (Z0 points1 1 32).bind fun r6 =>
 bif r6 then
  (Zdi blocks0 (fun y0 => Zgn y0 points1)).bind fun r10 =>
  some (!r10)
 else
  some (false)
def Zcp (x0 : List (List Int)) (fn1 : (List Int) → (List Int) → Option Int) : Int → Option ((Int) ⊕ (Bool))
 | i5 =>
  bif decide ((i5 : Int) > 0) then
   (gIdx x0 i5).bind fun e16 =>
   (gIdx x0 (IntKind.i64.wrap (i5 - 1))).bind fun e21 =>
   (fn1 e16 e21).bind fun r23 =>
   bif decide ((r23 : Int) < 0) then
    some (.inr (false))
   else
    some (.inl (IntKind.i64.wrap (i5 - 1)))
  else
   some (.inr (true))
def ZeO (x0 : List (List Int)) (fn1 : (List Int) → (List Int) → Option Int) : Option Bool :=
 loop (Zcp x0 fn1) (IntKind.i64.wrap ((x0.length : Int) - 1))
def Zez (d0 : ZaT) : Option Bool :=
 (Zhp d0.Blocks d0.Points).bind fun r7 =>
 bif r7 then
  bif decide (((d0.Blocks.length : Int) : Int) ≤ 128) then
   (ZeO d0.Blocks (fun y0 y1 => Zam y0 y1)).bind fun r17 =>
   some (r17)
  else
   some (false)
 else
  some (false)
def Zdh (lists0 : List (List Int)) : List (List Int) × Int → Option ((List (List Int) × Int) ⊕ (List (List Int)))
 | (out3, y8) =>
  bif decide ((y8 : Int) < (lists0.length : Int)) then
   (gIdx lists0 y8).bind fun e10 =>
   (Zbu e10).bind fun r14 =>
   (gApp 24 out3 [r14]).bind fun l16 =>
   some (.inl (l16, IntKind.i64.wrap (y8 + 1)))
  else
   some (.inr (out3))
def Zbc (lists0 : List (List Int)) : Option (List (List Int)) :=
 loop (Zdh lists0) (([] : List (List Int)), 0)
def ZhY (o0 : Zx) : Option ZaT :=
 (Zbc o0.Rows).bind fun r7 =>
 some ((ZaT.mk o0.Size r7))
def Zf4 (x0 : Int) : Option Bool :=
 bif (x0 : Int) != 1 then
  some ((x0 : Int) != (-1))
 else
  some (false)
def ZcJ (e17 : List Int) (y31 : Int) (e33 : List Int) : Int × Int → Option ((Int × Int) ⊕ ((Int) ⊕ ((Int) ⊕ (Bool))))
 | (sum8, y37) =>
  bif decide ((y37 : Int) < (e17.length : Int)) then
   (gIdx e17 y37).bind fun e43 =>
   (gIdx e33 y37).bind fun e47 =>
   some (.inl (IntKind.i64.wrap (sum8 + (IntKind.i64.wrap (e43 * e47))), IntKind.i64.wrap (y37 + 1)))
  else
   bif (sum8 : Int) != 0 then
    some (.inr (.inr (.inr (false))))
   else
    some (.inr (.inl (IntKind.i64.wrap (y31 + 1))))
def ZcW (y14 : Int) (e17 : List Int) (l29 : List (List Int)) : Int → Option ((Int) ⊕ ((Int) ⊕ (Bool)))
 | y31 =>
  bif decide ((y31 : Int) < (l29.length : Int)) then
   (gIdx l29 y31).bind fun e33 =>
   loop (ZcJ e17 y31 e33) (0, 0)
  else
   some (.inr (.inl (IntKind.i64.wrap (y14 + 1))))
def Zf8 (h0 : List (List Int)) (y14 : Int) (e17 : List Int) : Option ((Int) ⊕ (Bool)) :=
 (gSl h0 0 y14).bind fun l29 =>
 loop (ZcW y14 e17 l29) (0)
def ZbI (h0 : List (List Int)) (r11 : Int) : Int → Option ((Int) ⊕ (Bool))
 | y14 =>
  bif decide ((y14 : Int) < (h0.length : Int)) then
   (gIdx h0 y14).bind fun e17 =>
   (ZI e17).bind fun r20 =>
   bif (r20 : Int) != r11 then
    some (.inr (false))
   else
    (Zap e17 (fun y0 => Zf4 y0)).bind fun r25 =>
    bif r25 then
     some (.inr (false))
    else
     Zf8 h0 y14 e17
  else
   (Z0 r11 1 32).bind fun r57 =>
   some (.inr (r57))
def ZfG (h0 : List (List Int)) : Option Bool :=
 (Z2 h0).bind fun r11 =>
 loop (ZbI h0 r11) (0)
def Zho (levels0 : Int) (column1 : Int) : Option Bool :=
 (Z0 levels0 2 16).bind fun r6 =>
 bif r6 then
  (Z0 column1 1 8).bind fun r9 =>
  some (r9)
 else
  some (false)
def ZfR (x0 : Int) (y1 : Z3) : Option Bool :=
 (Z0 x0 0 (IntKind.i64.wrap (y1.Levels - 1))).bind fun r8 =>
 some (!r8)
def Zde (a0 : Z3) : Int → Option ((Int) ⊕ (Bool))
 | y20 =>
  bif decide ((y20 : Int) < (a0.Rows.length : Int)) then
   (gIdx a0.Rows y20).bind fun e22 =>
   (ZI e22).bind fun r25 =>
   bif (r25 : Int) != a0.Columns then
    some (.inr (false))
   else
    (Zap e22 (fun y0 => ZfR y0 (Z3.mk a0.Levels a0.Columns a0.Rows))).bind fun r32 =>
    bif r32 then
     some (.inr (false))
    else
     some (.inl (IntKind.i64.wrap (y20 + 1)))
  else
   some (.inr (true))
def Zh0 (a0 : Z3) : Option (Bool) :=
 loop (Zde a0) (0)
def ZeC (a0 : Z3) : Option Bool :=
 (Zho a0.Levels a0.Columns).bind fun r9 =>
 bif !r9 then
  some (false)
 else
  bif decide (((a0.Rows.length : Int) : Int) > 256) then
   some (false)
  else
   Zh0 a0
def ZgD (o0 : Zx) : Option Z3 :=
 (Zbc o0.Rows).bind fun r8 =>
 bif decide (((o0.Rows.length : Int) : Int) > 0) then
  (gIdx o0.Rows 0).bind fun e16 =>
  (ZI e16).bind fun r18 =>
  some ((Z3.mk o0.Size r18 r8))
 else
  some ((Z3.mk o0.Size 0 r8))
def ZcT (base0 : Int) (e1_2 : Int) (power7 : Int) : Option ((Int × Int) ⊕ (Int)) :=
 some (.inl (IntKind.i64.wrap (e1_2 - 1), IntKind.i64.wrap (power7 * base0)))
def ZaF (base0 : Int) (limit2 : Int) : Int × Int → Option ((Int × Int) ⊕ (Int))
 | (e1_2, power7) =>
  bif decide ((e1_2 : Int) > 0) then
   bif decide ((power7 : Int) ≤ limit2) then
    ZcT base0 e1_2 power7
   else
    some (.inr (power7))
  else
   some (.inr (power7))
def Zbv (base0 : Int) (e1 : Int) (limit2 : Int) : Option Int :=
 loop (ZaF base0 limit2) (e1, 1)
def Zbm (f0 : Zc) : Option Int :=
 (Zbv f0.Prime f0.Degree 64).bind fun r7 =>
 some (r7)
def Za9 (base1 : Int) (l10 : List Int) : Int × Int × List Int → Option ((Int × Int × List Int) ⊕ (List Int))
 | (n0_2, y13, xs) =>
  bif decide ((y13 : Int) < (l10.length : Int)) then
   (gNz base1).bind fun _ =>
   (gIdx xs y13).bind fun e21 =>
   (gNz base1).bind fun _ =>
   some (.inl (IntKind.i64.wrap (Int.tdiv n0_2 base1), IntKind.i64.wrap (y13 + 1), (xs.set (y13 : Int).toNat (Int.tmod n0_2 base1))))
  else
   some (.inr (xs))
def Zao (n0 : Int) (base1 : Int) (count2 : Int) : Option (List Int) :=
 (gMake 8 (0 : Int) count2 count2).bind fun l10 =>
 loop (Za9 base1 l10) (n0, 0, l10)
def ZcK (y1 : List Int) (y2 : Int) (y9 : Int) (e29 : Int) : Int × List Int → Option ((Int × List Int) ⊕ ((Int × List Int) ⊕ (List Int)))
 | (y33, xs_2) =>
  bif decide ((y33 : Int) < (y1.length : Int)) then
   (gIdx y1 y33).bind fun e36 =>
   (gIdx xs_2 (IntKind.i64.wrap ((IntKind.i64.wrap (y9 - (IntKind.i64.wrap ((y1.length : Int) - 1)))) + y33))).bind fun e47 =>
   (gNz y2).bind fun _ =>
   (gNz y2).bind fun _ =>
   (gIdx xs_2 (IntKind.i64.wrap ((IntKind.i64.wrap (y9 - (IntKind.i64.wrap ((y1.length : Int) - 1)))) + y33))).bind fun e59 =>
   some (.inl (IntKind.i64.wrap (y33 + 1), (xs_2.set (IntKind.i64.wrap ((IntKind.i64.wrap (y9 - (IntKind.i64.wrap ((y1.length : Int) - 1)))) + y33) : Int).toNat (Int.tmod (IntKind.i64.wrap ((Int.tmod (IntKind.i64.wrap (e47 - (IntKind.i64.wrap (e29 * e36)))) y2) + y2)) y2))))
  else
   some (.inr (.inl (IntKind.i64.wrap (y9 - 1), xs_2)))
def ZaJ (y1 : List Int) (y2 : Int) : Int × List Int → Option ((Int × List Int) ⊕ (List Int))
 | (y9, xs) =>
  bif decide ((y9 : Int) ≥ (IntKind.i64.wrap ((y1.length : Int) - 1))) then
   (gIdx xs y9).bind fun e29 =>
   loop (ZcK y1 y2 y9 e29) (0, xs)
  else
   (gSl xs 0 (if ((xs.length : Int) : Int) < (IntKind.i64.wrap ((y1.length : Int) - 1)) then (xs.length : Int) else IntKind.i64.wrap ((y1.length : Int) - 1))).bind fun l66 =>
   some (.inr (l66))
def ZbD (y0 : List Int) (y1 : List Int) (y2 : Int) : Option (List Int) :=
 (Zbu y0).bind fun r15 =>
 loop (ZaJ y1 y2) (IntKind.i64.wrap ((r15.length : Int) - 1), r15)
def Zgk (x0 : Int) : Option Bool :=
 some ((x0 : Int) != 0)
def ZfK (list0 : List Int) : Option Bool :=
 (Zap list0 (fun y0 => Zgk y0)).bind fun r4 =>
 some (!r4)
def Zg5 (poly0 : List Int) (p1 : Int) (d6 : Int) : Int → Option ((Int) ⊕ ((Int) ⊕ (Bool)))
 | n7 =>
  (Zbv p1 d6 64).bind fun r20 =>
  bif decide ((n7 : Int) < r20) then
   (Zao n7 p1 d6).bind fun r28 =>
   (gApp 8 r28 [1]).bind fun l30 =>
   (ZbD poly0 l30 p1).bind fun r32 =>
   (ZfK r32).bind fun r33 =>
   bif r33 then
    some (.inr (.inr (false)))
   else
    some (.inl (IntKind.i64.wrap (n7 + 1)))
  else
   some (.inr (.inl (IntKind.i64.wrap (d6 + 1))))
def ZhA (poly0 : List Int) (p1 : Int) (r9 : Int) : Int → Option ((Int) ⊕ (Bool))
 | d6 =>
  bif decide ((IntKind.i64.wrap (2 * d6) : Int) ≤ (IntKind.i64.wrap (r9 - 1))) then
   loop (Zg5 poly0 p1 d6) (0)
  else
   some (.inr (true))
def Zdo (poly0 : List Int) (p1 : Int) : Option Bool :=
 (ZI poly0).bind fun r9 =>
 loop (ZhA poly0 p1 r9) (1)
def ZbM (p4 : Int) : Int × List Int → Option ((Int × List Int) ⊕ ((Int × List Int × Int) ⊕ (List Int)))
 | (n0_3, factor3_2) =>
  (gNz p4).bind fun _ =>
  bif (Int.tmod n0_3 p4 : Int) == 0 then
   (gApp 8 factor3_2 [p4]).bind fun l22 =>
   (gNz p4).bind fun _ =>
   some (.inl (IntKind.i64.wrap (Int.tdiv n0_3 p4), l22))
  else
   some (.inr (.inl (n0_3, factor3_2, IntKind.i64.wrap (p4 + 1))))
def ZaC : Int × List Int × Int → Option ((Int × List Int × Int) ⊕ (List Int))
 | (n0_2, factor3, p4) =>
  bif decide ((IntKind.i64.wrap (p4 * p4) : Int) ≤ n0_2) then
   loop (ZbM p4) (n0_2, factor3)
  else
   bif decide ((n0_2 : Int) > 1) then
    (gApp 8 factor3 [n0_2]).bind fun l31 =>
    some (.inr (l31))
   else
    some (.inr (factor3))
def Zbx (n0 : Int) : Option (List Int) :=
 (Z0 n0 1 1000000).bind fun r6 =>
 bif !r6 then
  some (([] : List Int))
 else
  loop (ZaC) (n0, ([] : List Int), 2)
def Zec (n0 : Int) : Option Bool :=
 (Zbx n0).bind fun r4 =>
 some (((r4.length : Int) : Int) == 1)
def Zhh (f0 : Zc) : Int → Option ((Int) ⊕ (Bool))
 | y41 =>
  bif decide ((y41 : Int) < (f0.Poly.length : Int)) then
   (gIdx f0.Poly y41).bind fun e43 =>
   (Z0 e43 0 (IntKind.i64.wrap (f0.Prime - 1))).bind fun r49 =>
   bif !r49 then
    some (.inr (false))
   else
    some (.inl (IntKind.i64.wrap (y41 + 1)))
  else
   (Zdo f0.Poly f0.Prime).bind fun r56 =>
   some (.inr (r56))
def Zgj (f0 : Zc) : Option (Bool) :=
 loop (Zhh f0) (0)
def Ze8 (f0 : Zc) : Option (Bool) :=
 (ZI f0.Poly).bind fun r24 =>
 bif (r24 : Int) != (IntKind.i64.wrap (f0.Degree + 1)) then
  some (false)
 else
  (gIdx f0.Poly f0.Degree).bind fun e34 =>
  bif (e34 : Int) != 1 then
   some (false)
  else
   Zgj f0
def ZdN (f0 : Zc) : Option Bool :=
 (Zec f0.Prime).bind fun r7 =>
 bif !r7 then
  some (false)
 else
  bif decide ((f0.Degree : Int) < 1) then
   some (false)
  else
   (Zbv f0.Prime f0.Degree 64).bind fun r19 =>
   bif decide ((r19 : Int) > 64) then
    some (false)
   else
    Ze8 f0
def Zcd (x0 : Int) (y1 : Int) : Option Bool :=
 (Z0 x0 0 (IntKind.i64.wrap (y1 - 1))).bind fun r7 =>
 some (!r7)
def Zg4 (q0 : Int) (list1 : List Int) : Option Bool :=
 (Zap list1 (fun y0 => Zcd y0 q0)).bind fun r7 =>
 some (!r7)
def Zdr (row0 : List Int) (y1 : List (List Int)) (y2 : Int) : Option Bool :=
 (gIdx y1 0).bind fun e8 =>
 bif ((row0.length : Int) : Int) != (e8.length : Int) then
  some (true)
 else
  (Zg4 y2 row0).bind fun r15 =>
  some (!r15)
def Zhn (f0 : Zc) (m1 : List (List Int)) : Option (Bool) :=
 (Zbm (Zc.mk f0.Prime f0.Degree f0.Poly)).bind fun r24 =>
 (Zdi m1 (fun y0 => Zdr y0 m1 r24)).bind fun r27 =>
 some (!r27)
def ZfT (f0 : Zc) (m1 : List (List Int)) : Option Bool :=
 (ZdN (Zc.mk f0.Prime f0.Degree f0.Poly)).bind fun r7 =>
 bif !r7 then
  some (false)
 else
  (Z2 m1).bind fun r11 =>
  (Z0 r11 1 32).bind fun r12 =>
  bif !r12 then
   some (false)
  else
   (gIdx m1 0).bind fun e17 =>
   (ZI e17).bind fun r19 =>
   (Z0 r19 1 32).bind fun r20 =>
   bif !r20 then
    some (false)
   else
    Zhn f0 m1
def Znl (digits0 : List Int) (base1 : Int) : Int × Int → Option ((Int × Int) ⊕ (Int))
 | (n5, k6) =>
  bif decide ((k6 : Int) ≥ 0) then
   (gIdx digits0 k6).bind fun e19 =>
   some (.inl (IntKind.i64.wrap ((IntKind.i64.wrap (n5 * base1)) + e19), IntKind.i64.wrap (k6 - 1)))
  else
   some (.inr (n5))
def Zej (digits0 : List Int) (base1 : Int) : Option Int :=
 loop (Znl digits0 base1) (0, IntKind.i64.wrap ((digits0.length : Int) - 1))
def Zdb (f0 : Zc) (sign3 : Int) (r17 : List Int) (r23 : List Int) : Int × List Int → Option ((Int × List Int) ⊕ (Int))
 | (y26, xs) =>
  bif decide ((y26 : Int) < (r17.length : Int)) then
   (gIdx xs y26).bind fun e33 =>
   (gIdx r23 y26).bind fun e38 =>
   (gNz f0.Prime).bind fun _ =>
   (gIdx xs y26).bind fun e48 =>
   some (.inl (IntKind.i64.wrap (y26 + 1), (xs.set (y26 : Int).toNat (Int.tmod (IntKind.i64.wrap ((IntKind.i64.wrap (e33 + (IntKind.i64.wrap (sign3 * e38)))) + f0.Prime)) f0.Prime))))
  else
   (Zej xs f0.Prime).bind fun r53 =>
   some (.inr (r53))
def ZdY (f0 : Zc) (a1 : Int) (b2 : Int) (sign3 : Int) : Option Int :=
 (Zao a1 f0.Prime f0.Degree).bind fun r17 =>
 (Zao b2 f0.Prime f0.Degree).bind fun r23 =>
 loop (Zdb f0 sign3 r17 r23) (0, r17)
def Zee (y0 : Zc) (r17 : List Int) (r23 : List Int) (y30 : Int) : Int × List Int → Option ((Int × List Int) ⊕ ((Int × List Int) ⊕ (Int)))
 | (y35, xs_2) =>
  bif decide ((y35 : Int) < (r23.length : Int)) then
   (gIdx xs_2 (IntKind.i64.wrap (y30 + y35))).bind fun e46 =>
   (gIdx r17 y30).bind fun e50 =>
   (gIdx r23 y35).bind fun e54 =>
   (gNz y0.Prime).bind fun _ =>
   (gIdx xs_2 (IntKind.i64.wrap (y30 + y35))).bind fun e61 =>
   some (.inl (IntKind.i64.wrap (y35 + 1), (xs_2.set (IntKind.i64.wrap (y30 + y35) : Int).toNat (Int.tmod (IntKind.i64.wrap (e46 + (IntKind.i64.wrap (e50 * e54)))) y0.Prime))))
  else
   some (.inr (.inl (IntKind.i64.wrap (y30 + 1), xs_2)))
def ZbU (y0 : Zc) (r17 : List Int) (r23 : List Int) : Int × List Int → Option ((Int × List Int) ⊕ (Int))
 | (y30, xs) =>
  bif decide ((y30 : Int) < (r17.length : Int)) then
   loop (Zee y0 r17 r23 y30) (0, xs)
  else
   (ZbD xs y0.Poly y0.Prime).bind fun r69 =>
   (Zej r69 y0.Prime).bind fun r72 =>
   some (.inr (r72))
def Zf9 (y0 : Zc) (y1 : Int) (y2 : Int) : Option Int :=
 (Zao y1 y0.Prime y0.Degree).bind fun r17 =>
 (Zao y2 y0.Prime y0.Degree).bind fun r23 =>
 (gMake 8 (0 : Int) (IntKind.i64.wrap (2 * y0.Degree)) (IntKind.i64.wrap (2 * y0.Degree))).bind fun l27 =>
 loop (ZbU y0 r17 r23) (0, l27)
def Zbz (y0 : Zc) (r10 : Int) (y4 : Int) (xs : List (List Int)) (xs_2 : List (List Int)) (xs_3 : List (List Int)) : Int × List Int × List Int × List Int × List Int → Option ((Int × List Int × List Int × List Int × List Int) ⊕ ((Int × List (List Int) × List (List Int) × List (List Int) × List Int) ⊕ (Z9)))
 | (y8, xs_5, xs_6, xs_7, xs_8) =>
  bif decide ((y8 : Int) < r10) then
   (ZdY (Zc.mk y0.Prime y0.Degree y0.Poly) y4 y8 1).bind fun r46 =>
   (ZdY (Zc.mk y0.Prime y0.Degree y0.Poly) y4 y8 (-1)).bind fun r50 =>
   (Zf9 (Zc.mk y0.Prime y0.Degree y0.Poly) y4 y8).bind fun r54 =>
   (gIdx xs_6 y8).bind fun e55 =>
   (gIdx xs_7 y8).bind fun e56 =>
   (gIdx xs_8 y8).bind fun e57 =>
   (gIdx (xs_8.set (y8 : Int).toNat r54) y8).bind fun e60 =>
   bif (e60 : Int) == 1 then
    (gIdx xs_5 y4).bind fun e67 =>
    some (.inl (IntKind.i64.wrap (y8 + 1), (xs_5.set (y4 : Int).toNat y8), (xs_6.set (y8 : Int).toNat r46), (xs_7.set (y8 : Int).toNat r50), (xs_8.set (y8 : Int).toNat r54)))
   else
    some (.inl (IntKind.i64.wrap (y8 + 1), xs_5, (xs_6.set (y8 : Int).toNat r46), (xs_7.set (y8 : Int).toNat r50), (xs_8.set (y8 : Int).toNat r54)))
  else
   (gApp 24 xs [xs_6]).bind fun l72 =>
   (gApp 24 xs_2 [xs_7]).bind fun l77 =>
   (gApp 24 xs_3 [xs_8]).bind fun l82 =>
   some (.inr (.inl (IntKind.i64.wrap (y4 + 1), l72, l77, l82, xs_5)))
def Zdk (y0 : Zc) (r10 : Int) : Int × List (List Int) × List (List Int) × List (List Int) × List Int → Option ((Int × List (List Int) × List (List Int) × List (List Int) × List Int) ⊕ (Z9))
 | (y4, xs, xs_2, xs_3, xs_4) =>
  bif decide ((y4 : Int) < r10) then
   (gMake 8 (0 : Int) r10 r10).bind fun l24 =>
   (gMake 8 (0 : Int) r10 r10).bind fun l27 =>
   (gMake 8 (0 : Int) r10 r10).bind fun l30 =>
   loop (Zbz y0 r10 y4 xs xs_2 xs_3) (0, xs_4, l24, l27, l30)
  else
   some (.inr ((Z9.mk r10 xs xs_2 xs_3 xs_4)))
def Zef (y0 : Zc) : Option Z9 :=
 (Zbm (Zc.mk y0.Prime y0.Degree y0.Poly)).bind fun r10 =>
 (gMake 8 (0 : Int) r10 r10).bind fun l14 =>
 loop (Zdk y0 r10) (0, ([] : List (List Int)), ([] : List (List Int)), ([] : List (List Int)), l14)
def ZcD (row0 : List Int) (y1 : Int) : Option Bool :=
 (gIdx row0 y1).bind fun e6 =>
 some ((e6 : Int) != 0)
def Zdp (t0 : Z9) (row2 : List Int) (factor3 : Int) : Int × List Int → Option ((Int × List Int) ⊕ (List Int))
 | (y12, xs) =>
  bif decide ((y12 : Int) < (row2.length : Int)) then
   (gIdx row2 y12).bind fun e15 =>
   (gIdx xs y12).bind fun e23 =>
   (gIdx t0.qadd e23).bind fun e25 =>
   (gIdx t0.qmul factor3).bind fun e30 =>
   (gIdx e30 e15).bind fun e33 =>
   (gIdx e25 e33).bind fun e35 =>
   (gIdx xs y12).bind fun e37 =>
   some (.inl (IntKind.i64.wrap (y12 + 1), (xs.set (y12 : Int).toNat e35)))
  else
   some (.inr (xs))
def Zfu (t0 : Z9) (to1 : List Int) (row2 : List Int) (factor3 : Int) : Option (List Int) :=
 loop (Zdp t0 row2 factor3) (0, to1)
def ZcH (y8 : List Int) (y9 : Int) (xs : List (List Int)) : Option ((List (List Int)) × (List Int) × Int) :=
 (gSl xs 0 (y8.length : Int)).bind fun l161 =>
 some ((l161, y8, y9))
def Zd5 (y10 : Int) (y8_3 : List Int) (y9_3 : Int) (xs_3 : List (List Int)) : Option ((List Int × Int × Int × List (List Int)) ⊕ ((List (List Int)) × (List Int) × Int)) :=
 some (.inl (y8_3, y9_3, IntKind.i64.wrap (y10 + 1), xs_3))
def ZbZ (y0 : Z9) (y8_2 : List Int) (y10 : Int) (y115 : Int) (xs_6 : List (List Int)) (e118 : List Int) (y129 : Bool) : Option ((Int × List (List Int)) ⊕ ((Int × List (List Int)) ⊕ ((List Int × Int × Int × List (List Int)) ⊕ ((List (List Int)) × (List Int) × Int)))) :=
 bif y129 then
  (gIdx xs_6 (y8_2.length : Int)).bind fun e134 =>
  (gIdx y0.qsub 0).bind fun e138 =>
  (gIdx e118 y10).bind fun e142 =>
  (gIdx e138 e142).bind fun e144 =>
  (gNe y115 (y8_2.length : Int)).bind fun ne146 =>
  (Zfu (Z9.mk y0.qq y0.qadd y0.qsub y0.qmul y0.qinv) e118 e134 e144).bind fun r146 =>
  some (.inl (IntKind.i64.wrap (y115 + 1), (xs_6.set (y115 : Int).toNat r146)))
 else
  some (.inl (IntKind.i64.wrap (y115 + 1), xs_6))
def ZaZ (y0 : Z9) (y8_2 : List Int) (y10 : Int) (e82 : Int) (xs_5 : List (List Int)) : Int × List (List Int) → Option ((Int × List (List Int)) ⊕ ((Int × List (List Int)) ⊕ ((List Int × Int × Int × List (List Int)) ⊕ ((List (List Int)) × (List Int) × Int))))
 | (y115, xs_6) =>
  bif decide ((y115 : Int) < (xs_5.length : Int)) then
   (gIdx xs_6 y115).bind fun e118 =>
   bif (y115 : Int) != (y8_2.length : Int) then
    (gIdx e118 y10).bind fun e126 =>
    ZbZ y0 y8_2 y10 y115 xs_6 e118 ((e126 : Int) != 0)
   else
    ZbZ y0 y8_2 y10 y115 xs_6 e118 false
  else
   (gApp 8 y8_2 [y10]).bind fun l151 =>
   bif ((l151.length : Int) : Int) == (xs_6.length : Int) then
    (ZcH l151 e82 xs_6).map fun x => .inr (.inr (.inr (x)))
   else
    (Zd5 y10 l151 e82 xs_6).map fun x => .inr (.inr (x))
def ZdF (y0 : Z9) (y8_2 : List Int) (y10 : Int) (e74 : Int) (e82 : Int) (e86 : List Int) : Int × List (List Int) → Option ((Int × List (List Int)) ⊕ ((List Int × Int × Int × List (List Int)) ⊕ ((List (List Int)) × (List Int) × Int)))
 | (y89, xs_5) =>
  bif decide ((y89 : Int) < (e86.length : Int)) then
   (gIdx xs_5 (y8_2.length : Int)).bind fun e =>
   (gIdx e y89).bind fun e92 =>
   (gIdx xs_5 (y8_2.length : Int)).bind fun e96 =>
   (gIdx y0.qinv e74).bind fun e104 =>
   (gIdx y0.qmul e104).bind fun e106 =>
   (gIdx e106 e92).bind fun e109 =>
   (gIdx e96 y89).bind fun e111 =>
   some (.inl (IntKind.i64.wrap (y89 + 1), (xs_5.set ((y8_2.length : Int) : Int).toNat (e96.set (y89 : Int).toNat e109))))
  else
   loop (ZaZ y0 y8_2 y10 e82 xs_5) (0, xs_5)
def Zdt (y0 : Z9) (y8_2 : List Int) (y10 : Int) (y9_4 : Int) (xs_4 : List (List Int)) : Option ((List Int × Int × Int × List (List Int)) ⊕ ((List (List Int)) × (List Int) × Int)) :=
 (gIdx xs_4 (y8_2.length : Int)).bind fun e71 =>
 (gIdx e71 y10).bind fun e74 =>
 (gIdx y0.qmul y9_4).bind fun e79 =>
 (gIdx e79 e74).bind fun e82 =>
 (gIdx xs_4 (y8_2.length : Int)).bind fun e86 =>
 loop (ZdF y0 y8_2 y10 e74 e82 e86) (0, xs_4)
def Zdc (y0 : Z9) (y8_2 : List Int) (y9_2 : Int) (y10 : Int) (xs_2 : List (List Int)) : Option ((List Int × Int × Int × List (List Int)) ⊕ ((List (List Int)) × (List Int) × Int)) :=
 (gSl xs_2 (y8_2.length : Int) (xs_2.length : Int)).bind fun l37 =>
 (ZdU l37 (fun y0 => ZcD y0 y10)).bind fun r39 =>
 bif decide ((r39 : Int) < 0) then
  Zd5 y10 y8_2 0 xs_2
 else
  bif decide ((r39 : Int) > 0) then
   (gIdx xs_2 (IntKind.i64.wrap ((y8_2.length : Int) + r39))).bind fun e54 =>
   (gIdx xs_2 (y8_2.length : Int)).bind fun e58 =>
   (gIdx xs_2 (y8_2.length : Int)).bind fun e60 =>
   (gIdx (xs_2.set ((y8_2.length : Int) : Int).toNat e54) (IntKind.i64.wrap ((y8_2.length : Int) + r39))).bind fun e61 =>
   (gIdx y0.qsub 0).bind fun e64 =>
   (gIdx e64 y9_2).bind fun e67 =>
   Zdt y0 y8_2 y10 e67 ((xs_2.set ((y8_2.length : Int) : Int).toNat e54).set (IntKind.i64.wrap ((y8_2.length : Int) + r39) : Int).toNat e58)
  else
   Zdt y0 y8_2 y10 y9_2 xs_2
def ZaX (y0 : Z9) : List Int × Int × Int × List (List Int) → Option ((List Int × Int × Int × List (List Int)) ⊕ ((List (List Int)) × (List Int) × Int))
 | (y8_2, y9_2, y10, xs_2) =>
  bif decide (((xs_2.length : Int) : Int) > 0) then
   (gIdx xs_2 0).bind fun e26 =>
   bif decide ((y10 : Int) < (e26.length : Int)) then
    Zdc y0 y8_2 y9_2 y10 xs_2
   else
    (ZcH y8_2 y9_2 xs_2).map fun x => .inr (x)
  else
   (ZcH y8_2 y9_2 xs_2).map fun x => .inr (x)
def Zea (y0 : Z9) (y1 : List (List Int)) : Option ((List (List Int)) × (List Int) × Int) :=
 (Zbc y1).bind fun r19 =>
 loop (ZaX y0) (([] : List Int), 1, 0, r19)
def Zfh (s0 : List Int) (s1 : List Int) : Int → Option ((Int) ⊕ (Bool))
 | y13 =>
  bif decide ((y13 : Int) < (s0.length : Int)) then
   (gIdx s0 y13).bind fun e18 =>
   (gIdx s1 y13).bind fun e22 =>
   bif (e18 : Int) != e22 then
    some (.inr (false))
   else
    some (.inl (IntKind.i64.wrap (y13 + 1)))
  else
   some (.inr (true))
def ZfP (s0 : List Int) (s1 : List Int) : Option Bool :=
 bif ((s0.length : Int) : Int) != (s1.length : Int) then
  some (false)
 else
  loop (Zfh s0 s1) (0)
def Zfl (s0 : List (List Int)) (s1 : List (List Int)) (fn2 : (List Int) → (List Int) → Option Bool) : Int → Option ((Int) ⊕ (Bool))
 | y17 =>
  bif decide ((y17 : Int) < (s0.length : Int)) then
   (gIdx s0 y17).bind fun e20 =>
   (gIdx s1 y17).bind fun e24 =>
   (fn2 e20 e24).bind fun r29 =>
   bif !r29 then
    some (.inr (false))
   else
    some (.inl (IntKind.i64.wrap (y17 + 1)))
  else
   some (.inr (true))
def Zg3 (s0 : List (List Int)) (s1 : List (List Int)) (fn2 : (List Int) → (List Int) → Option Bool) : Option Bool :=
 bif ((s0.length : Int) : Int) != (s1.length : Int) then
  some (false)
 else
  loop (Zfl s0 s1 fn2) (0)
def Zgd (a0 : List (List Int)) (b1 : List (List Int)) : Option Bool :=
 (Zg3 a0 b1 (fun y0 y1 => ZfP y0 y1)).bind fun r7 =>
 some (r7)
def ZhR (c0 : ZaM) : Option (Bool) :=
 (Zef (Zc.mk c0.Field.Prime c0.Field.Degree c0.Field.Poly)).bind fun r31 =>
 (Zea r31 c0.Rows).bind fun r34 =>
 (Zgd r34.1 c0.Rows).bind fun r41 =>
 some (r41)
def Zdx (c0 : ZaM) : Option Bool :=
 (ZfT (Zc.mk c0.Field.Prime c0.Field.Degree c0.Field.Poly) c0.Rows).bind fun r10 =>
 bif !r10 then
  some (false)
 else
  bif decide (((c0.Rows.length : Int) : Int) > 8) then
   some (false)
  else
   (Zbm (Zc.mk c0.Field.Prime c0.Field.Degree c0.Field.Poly)).bind fun r21 =>
   (Z2 c0.Rows).bind fun r24 =>
   (Zbv r21 r24 4096).bind fun r25 =>
   bif decide ((r25 : Int) > 4096) then
    some (false)
   else
    ZhR c0
def Za2 (r8 : List Int) : Int → Option ((Int) ⊕ (Int × Int))
 | y11 =>
  bif decide ((y11 : Int) < (r8.length : Int)) then
   (gIdx r8 y11).bind fun e13 =>
   (gIdx r8 0).bind fun e17 =>
   bif (e13 : Int) != e17 then
    some (.inr ((0, 0)))
   else
    some (.inl (IntKind.i64.wrap (y11 + 1)))
  else
   bif ((r8.length : Int) : Int) == 0 then
    some (.inr ((0, 0)))
   else
    (ZI r8).bind fun r28 =>
    (gIdx r8 0).bind fun e25 =>
    some (.inr ((e25, r28)))
def Zbe (n0 : Int) : Option (Int × Int) :=
 (Zbx n0).bind fun r8 =>
 loop (Za2 r8) (0)
def ZgU (r9 : Int × Int) : Int → Option ((Int) ⊕ (Zc × Int))
 | n6 =>
  (Zao n6 r9.1 r9.2).bind fun r22 =>
  (gApp 8 r22 [1]).bind fun l24 =>
  (Zdo l24 r9.1).bind fun r26 =>
  bif !r26 then
   some (.inl (IntKind.i64.wrap (n6 + 1)))
  else
   (Zao n6 r9.1 r9.2).bind fun r35 =>
   (gApp 8 r35 [1]).bind fun l37 =>
   some (.inr (((Zc.mk r9.1 r9.2 l37), 0)))
def Zgb (r9 : Int × Int) : Option (Zc × Int) :=
 loop (ZgU r9) (0)
def ZaU (q0 : Int) : Option (Zc × Int) :=
 (Zbe q0).bind fun r9 =>
 bif (r9.1 : Int) == 0 then
  some (((Zc.mk 0 0 ([] : List Int)), 2))
 else
  bif decide ((q0 : Int) > 64) then
   some (((Zc.mk 0 0 ([] : List Int)), 2))
  else
   Zgb r9
def Zfj (o0 : Zx) : Option ZaM :=
 (ZaU o0.Size).bind fun r8 =>
 (Zbc o0.Rows).bind fun r14 =>
 some ((ZaM.mk (Zc.mk r8.1.Prime r8.1.Degree r8.1.Poly) r14))
def ZhX (o0 : Zx) : Option ZaB :=
 (Zbc o0.Rows).bind fun r7 =>
 some ((ZaB.mk o0.Size r7))
def Zgm (y0 : Zx) : Option Bool :=
 bif (y0.Kind : Int) == 1 then
  (Z2 y0.Rows).bind fun r11 =>
  bif (r11 : Int) == y0.Size then
   (ZfQ y0.Rows).bind fun r18 =>
   some (r18)
  else
   some (false)
 else
  bif (y0.Kind : Int) == 2 then
   (ZhY (Zx.mk y0.Kind y0.Size y0.Rows)).bind fun r23 =>
   (Zez r23).bind fun r24 =>
   some (r24)
  else
   bif (y0.Kind : Int) == 3 then
    (Z2 y0.Rows).bind fun r29 =>
    bif (r29 : Int) == y0.Size then
     (ZfG y0.Rows).bind fun r36 =>
     some (r36)
    else
     some (false)
   else
    bif (y0.Kind : Int) == 4 then
     bif decide (((y0.Rows.length : Int) : Int) > 0) then
      (ZgD (Zx.mk y0.Kind y0.Size y0.Rows)).bind fun r46 =>
      (ZeC r46).bind fun r47 =>
      some (r47)
     else
      some (false)
    else
     bif (y0.Kind : Int) == 5 then
      (Zfj (Zx.mk y0.Kind y0.Size y0.Rows)).bind fun r52 =>
      (Zdx r52).bind fun r53 =>
      some (r53)
     else
      bif (y0.Kind : Int) == 6 then
       (Zdn (Zx.mk y0.Kind y0.Size y0.Rows)).bind fun r58 =>
       some (r58.2)
      else
       bif (y0.Kind : Int) == 7 then
        (ZhX (Zx.mk y0.Kind y0.Size y0.Rows)).bind fun r65 =>
        (ZeF r65).bind fun r66 =>
        some (r66)
       else
        some (false)
def Zw1 (y18 : Int) (letter5 : Bool) (digit6 : Bool) : Option ((Int) ⊕ (Bool)) :=
 bif !letter5 then
  bif (y18 : Int) == 0 then
   some (.inr (false))
  else
   bif !digit6 then
    some (.inr (false))
   else
    some (.inl (IntKind.i64.wrap (y18 + 1)))
 else
  some (.inl (IntKind.i64.wrap (y18 + 1)))
def Zw2 (y18 : Int) (e21 : Int) (letter5 : Bool) : Option ((Int) ⊕ (Bool)) :=
 bif decide ((e21 : Int) ≥ 48) then
  Zw1 y18 letter5 (decide ((e21 : Int) ≤ 57))
 else
  Zw1 y18 letter5 false
def Zw3 (s0 : ByteArray) : Int → Option ((Int) ⊕ (Bool))
 | y18 =>
  bif decide ((y18 : Int) < ((byts s0).length : Int)) then
   (gIdx (byts s0) y18).bind fun e21 =>
   bif decide ((e21 : Int) ≥ 97) then
    Zw2 y18 e21 (decide ((e21 : Int) ≤ 122))
   else
    Zw2 y18 e21 false
  else
   some (.inr (true))
def Zyc (s0 : ByteArray) : Option (Bool) :=
 loop (Zw3 s0) (0)
def ZxI (s0 : ByteArray) : Option Bool :=
 bif decide ((((s0 : ByteArray).size : Int) : Int) < 1) then
  some (false)
 else
  bif decide ((((s0 : ByteArray).size : Int) : Int) > 10) then
   some (false)
  else
   Zyc s0
def ZxF (x0 : ZwR) : Option Bool :=
 (ZxI x0.Name).bind fun r5 =>
 bif r5 then
  (Zgm (Zx.mk x0.Object.Kind x0.Object.Size x0.Object.Rows)).bind fun r9 =>
  bif r9 then
   bif decide ((((x0.Key : ByteArray).size : Int) : Int) ≥ 1) then
    some (decide ((((x0.Key : ByteArray).size : Int) : Int) ≤ 4000))
   else
    some (false)
  else
   some (false)
 else
  some (false)
def Zxk (s0 : List ZwR) (fn1 : ZwR → Option Bool) : Int → Option ((Int) ⊕ (Int))
 | y8 =>
  bif decide ((y8 : Int) < (s0.length : Int)) then
   (gIdx s0 y8).bind fun e14 =>
   (fn1 e14).bind fun r16 =>
   bif r16 then
    some (.inr (y8))
   else
    some (.inl (IntKind.i64.wrap (y8 + 1)))
  else
   some (.inr ((-1)))
def Zx3 (s0 : List ZwR) (fn1 : ZwR → Option Bool) : Option Int :=
 loop (Zxk s0 fn1) (0)
def Zx6 (x0 : ZwR) (y1 : ZwR) : Option Bool :=
 bif (x0.Object.Kind : Int) == y1.Object.Kind then
  some ((x0.Key : ByteArray).toList == (y1.Key : ByteArray).toList)
 else
  some (false)
def Zxg (y0 : ZwR) (y1 : ZwR) : Option Bool :=
 (Zx6 y1 (ZwR.mk y0.Name (Zx.mk y0.Object.Kind y0.Object.Size y0.Object.Rows) y0.Key)).bind fun r6 =>
 some (r6)
def Zxn (items0 : List ZwR) (x1 : ZwR) : Option Int :=
 (Zx3 items0 (fun y0 => Zxg y0 (ZwR.mk x1.Name (Zx.mk x1.Object.Kind x1.Object.Size x1.Object.Rows) x1.Key))).bind fun r7 =>
 some (r7)
def Zw7 (c0 : ZwS) : Int → Option ((Int) ⊕ (Bool))
 | y8 =>
  bif decide ((y8 : Int) < (c0.Items.length : Int)) then
   (gIdx c0.Items y8).bind fun e11 =>
   (ZxF (ZwR.mk e11.Name (Zx.mk e11.Object.Kind e11.Object.Size e11.Object.Rows) e11.Key)).bind fun r14 =>
   bif !r14 then
    some (.inr (false))
   else
    bif decide ((y8 : Int) > 0) then
     (gIdx c0.Items (IntKind.i64.wrap (y8 - 1))).bind fun e26 =>
     bif Op.bytesLess ((e11.Name : ByteArray).toList) ((e26.Name : ByteArray).toList) || (e11.Name : ByteArray).toList == (e26.Name : ByteArray).toList then
      some (.inr (false))
     else
      (gSl c0.Items 0 y8).bind fun l36 =>
      (Zxn l36 (ZwR.mk e11.Name (Zx.mk e11.Object.Kind e11.Object.Size e11.Object.Rows) e11.Key)).bind fun r38 =>
      bif decide ((r38 : Int) ≥ 0) then
       some (.inr (false))
      else
       some (.inl (IntKind.i64.wrap (y8 + 1)))
    else
     (gSl c0.Items 0 y8).bind fun l36_2 =>
     (Zxn l36_2 (ZwR.mk e11.Name (Zx.mk e11.Object.Kind e11.Object.Size e11.Object.Rows) e11.Key)).bind fun r38_2 =>
     bif decide ((r38_2 : Int) ≥ 0) then
      some (.inr (false))
     else
      some (.inl (IntKind.i64.wrap (y8 + 1)))
  else
   some (.inr (decide (((c0.Items.length : Int) : Int) ≤ 24)))
def ZxC (c0 : ZwS) : Option Bool :=
 loop (Zw7 c0) (0)
def ZAZ (x0 : List ZwR) (target1 : ByteArray) (fn2 : ZwR → ByteArray → Option Int) : Int × Int → Option ((Int × Int) ⊕ (Int × Bool))
 | (i9, j10) =>
  bif decide ((i9 : Int) < j10) then
   (gNn 1).bind fun _ =>
   (gIdx x0 (IntKind.i64.wrap (Int.fdiv (IntKind.u64.wrap (IntKind.i64.wrap (i9 + j10))) (2 ^ min (1 : Int).toNat IntKind.u64.bits)))).bind fun e27 =>
   (fn2 e27 target1).bind fun r30 =>
   bif decide ((r30 : Int) < 0) then
    some (.inl (IntKind.i64.wrap ((IntKind.i64.wrap (Int.fdiv (IntKind.u64.wrap (IntKind.i64.wrap (i9 + j10))) (2 ^ min (1 : Int).toNat IntKind.u64.bits))) + 1), j10))
   else
    some (.inl (i9, IntKind.i64.wrap (Int.fdiv (IntKind.u64.wrap (IntKind.i64.wrap (i9 + j10))) (2 ^ min (1 : Int).toNat IntKind.u64.bits))))
  else
   bif decide ((i9 : Int) < (x0.length : Int)) then
    (gIdx x0 i9).bind fun e43 =>
    (fn2 e43 target1).bind fun r46 =>
    some (.inr ((i9, (r46 : Int) == 0)))
   else
    some (.inr ((i9, false)))
def ZBh (x0 : List ZwR) (target1 : ByteArray) (fn2 : ZwR → ByteArray → Option Int) : Option (Int × Bool) :=
 loop (ZAZ x0 target1 fn2) (0, (x0.length : Int))
def ZA2 (x0 : ByteArray) : Option Bool :=
 some (!((x0 : ByteArray).toList == (x0 : ByteArray).toList))
def ZBk (x0 : ByteArray) (y1 : ByteArray) : Option Int :=
 (ZA2 x0).bind fun r8 =>
 (ZA2 y1).bind fun r10 =>
 bif r8 then
  bif r10 then
   some (0)
  else
   some ((-1))
 else
  bif r10 then
   some (1)
  else
   bif Op.bytesLess ((x0 : ByteArray).toList) ((y1 : ByteArray).toList) then
    some ((-1))
   else
    bif !(Op.bytesLess ((x0 : ByteArray).toList) ((y1 : ByteArray).toList) || (x0 : ByteArray).toList == (y1 : ByteArray).toList) then
     some (1)
    else
     some (0)
def ZA0 (x0 : ZwR) (name1 : ByteArray) : Option Int :=
 (ZBk x0.Name name1).bind fun r8 =>
 some (r8)
def ZA7 (c0 : ZwS) (name1 : ByteArray) : Option (Int × Bool) :=
 (ZBh c0.Items name1 (fun y0 y1 => ZA0 y0 y1)).bind fun r9 =>
 some ((r9.1, r9.2))
def ZBe (o0 : Zx) : Option Zx :=
 (Zbc o0.Rows).bind fun r5 =>
 some ((Zx.mk o0.Kind o0.Size r5))
def ZA5 (x0 : ZwR) : Option ZwR :=
 (ZBe (Zx.mk x0.Object.Kind x0.Object.Size x0.Object.Rows)).bind fun r5 =>
 some ((ZwR.mk x0.Name (Zx.mk r5.Kind r5.Size r5.Rows) x0.Key))
def ZCr (c0 : ZwS) : Int × List ZwR → Option ((Int × List ZwR) ⊕ (ZwS))
 | (y9, xs) =>
  bif decide ((y9 : Int) < (c0.Items.length : Int)) then
   (gIdx c0.Items y9).bind fun e11 =>
   (ZA5 (ZwR.mk e11.Name (Zx.mk e11.Object.Kind e11.Object.Size e11.Object.Rows) e11.Key)).bind fun r16 =>
   (gApp 72 xs [r16]).bind fun l18 =>
   some (.inl (IntKind.i64.wrap (y9 + 1), l18))
  else
   some (.inr ((ZwS.mk xs)))
def ZCx (c0 : ZwS) : Option ZwS :=
 loop (ZCr c0) (0, ([] : List ZwR))
def ZCu (x0 : List ZwR) (i1 : Int) (j2 : Int) : Option (List ZwR) := if 0 ≤ i1 ∧ i1 ≤ j2 ∧ j2 ≤ x0.length ∧ x0.length * 72 ≤ 140737488355328 ∧ x0.length ≤ 4611686018427387904 then some (x0.take i1.toNat ++ x0.drop j2.toNat) else none
def ZCq (c0 : ZwS) (name1 : ByteArray) : Option (ZwS × Int) :=
 (ZxC (ZwS.mk c0.Items)).bind fun r10 =>
 bif !r10 then
  some (((ZwS.mk ([] : List ZwR)), 1))
 else
  (ZA7 (ZwS.mk c0.Items) name1).bind fun r16 =>
  bif !r16.2 then
   some (((ZwS.mk ([] : List ZwR)), 3))
  else
   (ZCx (ZwS.mk c0.Items)).bind fun r23 =>
   (ZCu r23.Items r16.1 (IntKind.i64.wrap (r16.1 + 1))).bind fun r29 =>
   some (((ZwS.mk r29), 0))
def Zg2 (a0 : List Int) : Int × Int → Option ((Int × Int) ⊕ (Int))
 | (k1_2, i5) =>
  bif decide ((i5 : Int) < (a0.length : Int)) then
   (gIdx a0 i5).bind fun e14 =>
   bif (e14 : Int) != k1_2 then
    some (.inr ((-1)))
   else
    some (.inl (IntKind.i64.wrap (k1_2 + 1), IntKind.i64.wrap (i5 + 1)))
  else
   some (.inr (k1_2))
def Ze0 (a0 : List Int) (k1 : Int) : Option Int :=
 loop (Zg2 a0) (k1, 0)
def ZBg (a0 : List (List Int)) : Int × Int → Option ((Int × Int) ⊕ (Int))
 | (k1_2, i5) =>
  bif decide ((i5 : Int) < (a0.length : Int)) then
   (gIdx a0 i5).bind fun e14 =>
   (Ze0 e14 k1_2).bind fun r17 =>
   bif decide ((r17 : Int) < 0) then
    some (.inr ((-1)))
   else
    some (.inl (r17, IntKind.i64.wrap (i5 + 1)))
  else
   some (.inr (k1_2))
def ZA9 (a0 : List (List Int)) (k1 : Int) : Option Int :=
 loop (ZBg a0) (k1, 0)
def ZCp (a0 : List ZwR) : Int × Int → Option ((Int × Int) ⊕ (Int))
 | (k1_2, i5) =>
  bif decide ((i5 : Int) < (a0.length : Int)) then
   (Zw4 k1_2).bind fun r18 =>
   (gIdx a0 i5).bind fun e14 =>
   bif !((e14.Name : ByteArray).toList == (r18 : ByteArray).toList) then
    some (.inr ((-1)))
   else
    (gIdx a0 i5).bind fun e24 =>
    bif (e24.Object.Kind : Int) != (IntKind.i64.wrap (k1_2 + 1)) then
     some (.inr ((-1)))
    else
     (gIdx a0 i5).bind fun e34 =>
     bif (e34.Object.Size : Int) != (IntKind.i64.wrap ((IntKind.i64.wrap (k1_2 + 1)) + 1)) then
      some (.inr ((-1)))
     else
      (gIdx a0 i5).bind fun e44 =>
      (ZA9 e44.Object.Rows (IntKind.i64.wrap ((IntKind.i64.wrap ((IntKind.i64.wrap (k1_2 + 1)) + 1)) + 1))).bind fun r49 =>
      bif decide ((r49 : Int) < 0) then
       some (.inr ((-1)))
      else
       (Zw4 r49).bind fun r58 =>
       (gIdx a0 i5).bind fun e54 =>
       bif !((e54.Key : ByteArray).toList == (r58 : ByteArray).toList) then
        some (.inr ((-1)))
       else
        some (.inl (IntKind.i64.wrap (r49 + 1), IntKind.i64.wrap (i5 + 1)))
  else
   some (.inr (k1_2))
def ZCz (a0 : List ZwR) (k1 : Int) : Option Int :=
 loop (ZCp a0) (k1, 0)
def ZCs (a0 : ZwS) (k1 : Int) : Option Int :=
 (ZCz a0.Items k1).bind fun r8 =>
 bif decide ((r8 : Int) < 0) then
  some ((-1))
 else
  some (r8)
def ZCw (r71 : Int × ZwS) : Option (Bool) :=
 (ZCs (ZwS.mk r71.2.Items) 1).bind fun r98 =>
 bif decide ((r98 : Int) < 0) then
  some (false)
 else
  bif (r98 : Int) != r71.1 then
   some (false)
  else
   some (true)
def ZCt (y0 : ZwT) (y1 : ByteArray) (r28 : ZwS × Int) (r36 : ZwS × Int) : Option (Bool) :=
 (ZxY (ZwS.mk r36.1.Items) 1).bind fun r71 =>
 (ZCs (ZwS.mk r71.2.Items) 1).bind fun r74 =>
 bif decide ((r74 : Int) < 0) then
  some (false)
 else
  bif (r74 : Int) != r71.1 then
   some (false)
  else
   (Zw9 (ZwT.mk y0.Items)).bind fun r82 =>
   (ZCq r82 y1).bind fun r84 =>
   (ZxR (ZwS.mk r84.1.Items) (ZwS.mk r28.1.Items)).bind fun r89 =>
   bif !r89 then
    some (false)
   else
    bif (r84.2 : Int) != r28.2 then
     some (false)
    else
     ZCw r71
def ZCy (y0 : ZwT) (y1 : ByteArray) (r28 : ZwS × Int) (r32 : ZwS) (r36 : ZwS × Int) : Option (Bool) :=
 (Zw9 (ZwT.mk y0.Items)).bind fun r50 =>
 (ZxR (ZwS.mk r32.Items) r50).bind fun r51 =>
 bif !r51 then
  some (false)
 else
  (ZxY (ZwS.mk r32.Items) 1).bind fun r55 =>
  bif decide ((r55.1 : Int) < 0) then
   some (false)
  else
   (ZxR (ZwS.mk r36.1.Items) (ZwS.mk r28.1.Items)).bind fun r61 =>
   bif !r61 then
    some (false)
   else
    bif (r36.2 : Int) != r28.2 then
     some (false)
    else
     ZCt y0 y1 r28 r36
def ZCC (y0 : ZwT) (y1 : ByteArray) : Option Bool :=
 bif decide ((((y1 : ByteArray).size : Int) : Int) > 1048576) then
  some (true)
 else
  (ZxQ (ZwT.mk y0.Items) 1048576).bind fun r21 =>
  bif decide ((r21 : Int) < 0) then
   some (true)
  else
   (Zw9 (ZwT.mk y0.Items)).bind fun r26 =>
   (ZCv r26 y1).bind fun r28 =>
   (Zw9 (ZwT.mk y0.Items)).bind fun r32 =>
   (ZCq (ZwS.mk r32.Items) y1).bind fun r36 =>
   (ZxR (ZwS.mk r36.1.Items) (ZwS.mk r28.1.Items)).bind fun r41 =>
   bif !r41 then
    some (false)
   else
    bif (r36.2 : Int) != r28.2 then
     some (false)
    else
     ZCy y0 y1 r28 r32 r36
end
end Go.Proofs.YtapkemdomnkccaaGreat
