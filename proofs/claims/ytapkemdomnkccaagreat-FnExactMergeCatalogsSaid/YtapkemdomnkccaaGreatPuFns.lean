import Derived.Test.YtapkemdomnkccaaGreatPuCmp
namespace Go.Proofs.YtapkemdomnkccaaGreat
set_option linter.unusedSimpArgs false
open Go Go.Vc
set_option linter.unusedVariables false
structure Zal where
 Kind : Int
 Size : Int
 Rows : List (List Int)
structure Zab where
 Name : ByteArray
 Object : Zal
 Key : ByteArray
structure ZU where
 Items : List Zab
structure Zi where
 Kind : Int
 Size : Int
 Rows : List (List Int)
structure Zc where
 Name : ByteArray
 Object : Zi
 Key : ByteArray
structure Zg where
 Items : List Zc
structure ZaO where
 Degree : Int
 Elements : List (List Int)
structure ZN where
 A : Int
 B : Int
structure Z6 where
 Colors : List Int
 Edges : List ZN
structure Zbh where
 Points : Int
 Blocks : List (List Int)
structure Zad where
 Levels : Int
 Columns : Int
 Rows : List (List Int)
structure Ze where
 Prime : Int
 Degree : Int
 Poly : List Int
structure Za8 where
 Field : Ze
 Rows : List (List Int)
structure Zak where
 qq : Int
 qadd : List (List Int)
 qsub : List (List Int)
 qmul : List (List Int)
 qinv : List Int
noncomputable section
def Zds (a0 : List Int) (left1 : Int) : Option Int :=
 bif decide ((IntKind.i64.wrap (left1 - (a0.length : Int)) : Int) < 0) then
 some ((-1))
 else
 some (IntKind.i64.wrap (left1 - (a0.length : Int)))
def ZfF (a0 : List (List Int)) : Int × Int → Option ((Int × Int) ⊕ (Int))
 | (left1_2, i5) =>
 bif decide (i5 < (a0.length : Int)) then
 (gIdx a0 i5).bind fun e20 =>
 (Zds e20 left1_2).bind fun r23 =>
 bif decide (r23 < 0) then
 some (.inr ((-1)))
 else
 some (.inl (r23, IntKind.i64.wrap (i5 + 1)))
 else
 some (.inr (left1_2))
def ZgO (a0 : List (List Int)) (left1 : Int) : Option Int :=
 bif decide ((IntKind.i64.wrap (left1 - (a0.length : Int)) : Int) < 0) then
 some ((-1))
 else
 loop (ZfF a0) (IntKind.i64.wrap (left1 - (a0.length : Int)), 0)
def ZeU (a0 : Zal) (left1 : Int) : Option Int :=
 (ZgO a0.Rows left1).bind fun r8 =>
 bif decide (r8 < 0) then
 some ((-1))
 else
 some (r8)
def ZdG (a0 : Zab) (left1 : Int) : Option Int :=
 bif decide ((IntKind.i64.wrap (left1 - (a0.Name.size : Int)) : Int) < 0) then
 some ((-1))
 else
 (ZeU (Zal.mk a0.Object.Kind a0.Object.Size a0.Object.Rows) (IntKind.i64.wrap (left1 - (a0.Name.size : Int)))).bind fun r15 =>
 bif decide (r15 < 0) then
 some ((-1))
 else
 bif decide ((IntKind.i64.wrap (r15 - (a0.Key.size : Int)) : Int) < 0) then
 some ((-1))
 else
 some (IntKind.i64.wrap (r15 - (a0.Key.size : Int)))
def ZgP (a0 : List Zab) : Int × Int → Option ((Int × Int) ⊕ (Int))
 | (left1_2, i5) =>
 bif decide (i5 < (a0.length : Int)) then
 (gIdx a0 i5).bind fun e20 =>
 (ZdG e20 left1_2).bind fun r23 =>
 bif decide (r23 < 0) then
 some (.inr ((-1)))
 else
 some (.inl (r23, IntKind.i64.wrap (i5 + 1)))
 else
 some (.inr (left1_2))
def Zhu (a0 : List Zab) (left1 : Int) : Option Int :=
 bif decide ((IntKind.i64.wrap (left1 - (a0.length : Int)) : Int) < 0) then
 some ((-1))
 else
 loop (ZgP a0) (IntKind.i64.wrap (left1 - (a0.length : Int)), 0)
def Zff (a0 : ZU) (left1 : Int) : Option Int :=
 (Zhu a0.Items left1).bind fun r8 =>
 bif decide (r8 < 0) then
 some ((-1))
 else
 some (r8)
def ZfM (a0 : List Int) : Int × List Int → Option ((Int × List Int) ⊕ (List Int))
 | (i4, xs) =>
 bif decide (i4 < (a0.length : Int)) then
 (gIdx a0 i4).bind fun e18 =>
 (gIdx xs i4).bind fun e20 =>
 some (.inl (IntKind.i64.wrap (i4 + 1), (xs.set i4.toNat e18)))
 else
 some (.inr (xs))
def ZeN (a0 : List Int) : Option (List Int) :=
 (gMake 8 (0 : Int) (a0.length : Int) (a0.length : Int)).bind fun l7 =>
 loop (ZfM a0) (0, l7)
def ZhD (a0 : List (List Int)) : Int × List (List Int) → Option ((Int × List (List Int)) ⊕ (List (List Int)))
 | (i4, xs) =>
 bif decide (i4 < (a0.length : Int)) then
 (gIdx a0 i4).bind fun e18 =>
 (ZeN e18).bind fun r20 =>
 (gIdx xs i4).bind fun e21 =>
 some (.inl (IntKind.i64.wrap (i4 + 1), (xs.set i4.toNat r20)))
 else
 some (.inr (xs))
def ZeZ (a0 : List (List Int)) : Option (List (List Int)) :=
 (gMake 24 ([] : List Int) (a0.length : Int) (a0.length : Int)).bind fun l7 =>
 loop (ZhD a0) (0, l7)
def ZeM (a0 : Zal) : Option Zi :=
 (ZeZ a0.Rows).bind fun r12 =>
 some ((Zi.mk a0.Kind a0.Size r12))
def ZdO (a0 : Zab) : Option Zc :=
 (ZeM (Zal.mk a0.Object.Kind a0.Object.Size a0.Object.Rows)).bind fun r9 =>
 some ((Zc.mk a0.Name (Zi.mk r9.Kind r9.Size r9.Rows) a0.Key))
def ZhJ (a0 : List Zab) : Int × List Zc → Option ((Int × List Zc) ⊕ (List Zc))
 | (i4, xs) =>
 bif decide (i4 < (a0.length : Int)) then
 (gIdx a0 i4).bind fun e18 =>
 (ZdO e18).bind fun r20 =>
 (gIdx xs i4).bind fun e21 =>
 some (.inl (IntKind.i64.wrap (i4 + 1), (xs.set i4.toNat r20)))
 else
 some (.inr (xs))
def Zfi (a0 : List Zab) : Option (List Zc) :=
 (gMake 72 (Zc.mk (⟨#[]⟩ : ByteArray) (Zi.mk (0 : Int) (0 : Int) ([] : List (List Int))) (⟨#[]⟩ : ByteArray)) (a0.length : Int) (a0.length : Int)).bind fun l7 =>
 loop (ZhJ a0) (0, l7)
def ZaT (a0 : ZU) : Option Zg :=
 (Zfi a0.Items).bind fun r6 =>
 some ((Zg.mk r6))
def Zgv (a0 b1 : List Int) : Int → Option ((Int) ⊕ (Bool))
 | i5 =>
 bif decide (i5 < (a0.length : Int)) then
 (gIdx a0 i5).bind fun e19 =>
 (gIdx b1 i5).bind fun e23 =>
 bif e19 != e23 then
 some (.inr (false))
 else
 some (.inl (IntKind.i64.wrap (i5 + 1)))
 else
 some (.inr (true))
def Zel (a0 b1 : List Int) : Option Bool :=
 bif ((a0.length : Int) : Int) != (b1.length : Int) then
 some (false)
 else
 loop (Zgv a0 b1) (0)
def Zg0 (a0 b1 : List (List Int)) : Int → Option ((Int) ⊕ (Bool))
 | i5 =>
 bif decide (i5 < (a0.length : Int)) then
 (gIdx a0 i5).bind fun e19 =>
 (gIdx b1 i5).bind fun e23 =>
 (Zel e19 e23).bind fun r25 =>
 bif !r25 then
 some (.inr (false))
 else
 some (.inl (IntKind.i64.wrap (i5 + 1)))
 else
 some (.inr (true))
def Zhj (a0 b1 : List (List Int)) : Option Bool :=
 bif ((a0.length : Int) : Int) != (b1.length : Int) then
 some (false)
 else
 loop (Zg0 a0 b1) (0)
def ZhA (a0 b1 : Zi) : Option Bool :=
 bif a0.Kind != b1.Kind then
 some (false)
 else
 bif a0.Size != b1.Size then
 some (false)
 else
 (Zhj a0.Rows b1.Rows).bind fun r19 =>
 bif !r19 then
 some (false)
 else
 some (true)
def Zer (a0 b1 : Zc) : Option Bool :=
 bif !(a0.Name.toList == b1.Name.toList) then
 some (false)
 else
 (ZhA (Zi.mk a0.Object.Kind a0.Object.Size a0.Object.Rows) (Zi.mk b1.Object.Kind b1.Object.Size b1.Object.Rows)).bind fun r14 =>
 bif !r14 then
 some (false)
 else
 bif !(a0.Key.toList == b1.Key.toList) then
 some (false)
 else
 some (true)
def ZgK (a0 b1 : List Zc) : Int → Option ((Int) ⊕ (Bool))
 | i5 =>
 bif decide (i5 < (a0.length : Int)) then
 (gIdx a0 i5).bind fun e19 =>
 (gIdx b1 i5).bind fun e23 =>
 (Zer e19 e23).bind fun r25 =>
 bif !r25 then
 some (.inr (false))
 else
 some (.inl (IntKind.i64.wrap (i5 + 1)))
 else
 some (.inr (true))
def Zgm (a0 b1 : List Zc) : Option Bool :=
 bif ((a0.length : Int) : Int) != (b1.length : Int) then
 some (false)
 else
 loop (ZgK a0 b1) (0)
def ZbS (a0 b1 : Zg) : Option Bool :=
 (Zgm a0.Items b1.Items).bind fun r9 =>
 bif !r9 then
 some (false)
 else
 some (true)
def ZhS (a0 b1 : List ByteArray) : Int → Option ((Int) ⊕ (Bool))
 | i5 =>
 bif decide (i5 < (a0.length : Int)) then
 (gIdx a0 i5).bind fun e19 =>
 (gIdx b1 i5).bind fun e23 =>
 bif !(e19.toList == e23.toList) then
 some (.inr (false))
 else
 some (.inl (IntKind.i64.wrap (i5 + 1)))
 else
 some (.inr (true))
def ZcP (a0 b1 : List ByteArray) : Option Bool :=
 bif ((a0.length : Int) : Int) != (b1.length : Int) then
 some (false)
 else
 loop (ZhS a0 b1) (0)
def ZgV : Int × Int × List Int → Option ((Int × Int × List Int) ⊕ (Int × (List Int)))
 | (k1_2, i5, xs) =>
 bif decide (i5 < (xs.length : Int)) then
 (gIdx xs i5).bind fun e15 =>
 some (.inl (IntKind.i64.wrap (k1_2 + 1), IntKind.i64.wrap (i5 + 1), (xs.set i5.toNat k1_2)))
 else
 some (.inr ((k1_2, xs)))
def ZhP (a0 : List Int) (k1 : Int) : Option (Int × (List Int)) :=
 loop (ZgV) (k1, 0, a0)
def Zhx : Int × Int × List (List Int) → Option ((Int × Int × List (List Int)) ⊕ (Int × (List (List Int))))
 | (k1_2, i5, xs) =>
 bif decide (i5 < (xs.length : Int)) then
 (gIdx xs i5).bind fun e14 =>
 (ZhP e14 k1_2).bind fun r17 =>
 some (.inl (r17.1, IntKind.i64.wrap (i5 + 1), (xs.set i5.toNat r17.2)))
 else
 some (.inr ((k1_2, xs)))
def ZhK (a0 : List (List Int)) (k1 : Int) : Option (Int × (List (List Int))) :=
 loop (Zhx) (k1, 0, a0)
def Zed : Int × ByteArray → Option ((Int × ByteArray) ⊕ (ByteArray))
 | (k0_2, out3) =>
 bif decide (k0_2 > 0) then
 (gNz 10).bind fun _ =>
 (gByt ([IntKind.u8.wrap (IntKind.i64.wrap (48 + (Int.tmod k0_2 10)))] : List Int)).bind fun s13 =>
 (gFit s13 out3).bind fun _ =>
 (gNz 10).bind fun _ =>
 some (.inl (IntKind.i64.wrap (Int.tdiv k0_2 10), s13 ++ out3))
 else
 (gFit (⟨#[109]⟩ : ByteArray) out3).bind fun _ =>
 some (.inr ((⟨#[109]⟩ : ByteArray) ++ out3))
def ZaM (k0 : Int) : Option ByteArray :=
 bif decide (k0 ≤ 0) then
 some (⟨#[109, 48]⟩)
 else
 loop (Zed) (k0, ⟨#[]⟩)
def ZdD : Int × Int × List Zc → Option ((Int × Int × List Zc) ⊕ (Int × (List Zc)))
 | (k1_2, i5, xs) =>
 bif decide (i5 < (xs.length : Int)) then
 (ZaM k1_2).bind fun r15 =>
 (gIdx xs i5).bind fun e16 =>
 (gIdx (xs.set i5.toNat (Zc.mk r15 e16.Object e16.Key)) i5).bind fun e23 =>
 (gIdx ((xs.set i5.toNat (Zc.mk r15 e16.Object e16.Key)).set i5.toNat (Zc.mk e23.Name (Zi.mk (IntKind.i64.wrap (k1_2 + 1)) e23.Object.Size e23.Object.Rows) e23.Key)) i5).bind fun e31 =>
 (gIdx (((xs.set i5.toNat (Zc.mk r15 e16.Object e16.Key)).set i5.toNat (Zc.mk e23.Name (Zi.mk (IntKind.i64.wrap (k1_2 + 1)) e23.Object.Size e23.Object.Rows) e23.Key)).set i5.toNat (Zc.mk e31.Name (Zi.mk e31.Object.Kind (IntKind.i64.wrap ((IntKind.i64.wrap (k1_2 + 1)) + 1)) e31.Object.Rows) e31.Key)) i5).bind fun e38 =>
 (ZhK e38.Object.Rows (IntKind.i64.wrap ((IntKind.i64.wrap ((IntKind.i64.wrap (k1_2 + 1)) + 1)) + 1))).bind fun r43 =>
 (ZaM r43.1).bind fun r47 =>
 (gIdx ((((xs.set i5.toNat (Zc.mk r15 e16.Object e16.Key)).set i5.toNat (Zc.mk e23.Name (Zi.mk (IntKind.i64.wrap (k1_2 + 1)) e23.Object.Size e23.Object.Rows) e23.Key)).set i5.toNat (Zc.mk e31.Name (Zi.mk e31.Object.Kind (IntKind.i64.wrap ((IntKind.i64.wrap (k1_2 + 1)) + 1)) e31.Object.Rows) e31.Key)).set i5.toNat (Zc.mk e38.Name (Zi.mk e38.Object.Kind e38.Object.Size r43.2) e38.Key)) i5).bind fun e48 =>
 some (.inl (IntKind.i64.wrap (r43.1 + 1), IntKind.i64.wrap (i5 + 1), (((((xs.set i5.toNat (Zc.mk r15 e16.Object e16.Key)).set i5.toNat (Zc.mk e23.Name (Zi.mk (IntKind.i64.wrap (k1_2 + 1)) e23.Object.Size e23.Object.Rows) e23.Key)).set i5.toNat (Zc.mk e31.Name (Zi.mk e31.Object.Kind (IntKind.i64.wrap ((IntKind.i64.wrap (k1_2 + 1)) + 1)) e31.Object.Rows) e31.Key)).set i5.toNat (Zc.mk e38.Name (Zi.mk e38.Object.Kind e38.Object.Size r43.2) e38.Key)).set i5.toNat (Zc.mk e48.Name e48.Object r47))))
 else
 some (.inr ((k1_2, xs)))
def ZfT (a0 : List Zc) (k1 : Int) : Option (Int × (List Zc)) :=
 loop (ZdD) (k1, 0, a0)
def ZbK (a0 : Zg) (k1 : Int) : Option (Int × Zg) :=
 (ZfT a0.Items k1).bind fun r8 =>
 some ((r8.1, (Zg.mk r8.2)))
def Zd7 : Int × Int × List ByteArray → Option ((Int × Int × List ByteArray) ⊕ (Int × (List ByteArray)))
 | (k1_2, i5, xs) =>
 bif decide (i5 < (xs.length : Int)) then
 (ZaM k1_2).bind fun r15 =>
 (gIdx xs i5).bind fun e16 =>
 some (.inl (IntKind.i64.wrap (k1_2 + 1), IntKind.i64.wrap (i5 + 1), (xs.set i5.toNat r15)))
 else
 some (.inr ((k1_2, xs)))
def Zgh (a0 : List ByteArray) (k1 : Int) : Option (Int × (List ByteArray)) :=
 loop (Zd7) (k1, 0, a0)
def Zgc (a0 : List ByteArray) : Int × Int → Option ((Int × Int) ⊕ (Int))
 | (k1_2, i5) =>
 bif decide (i5 < (a0.length : Int)) then
 (ZaM k1_2).bind fun r17 =>
 (gIdx a0 i5).bind fun e14 =>
 bif !(e14.toList == r17.toList) then
 some (.inr ((-1)))
 else
 some (.inl (IntKind.i64.wrap (k1_2 + 1), IntKind.i64.wrap (i5 + 1)))
 else
 some (.inr (k1_2))
def ZeV (a0 : List ByteArray) (k1 : Int) : Option Int :=
 loop (Zgc a0) (k1, 0)
def Zim (a0 : List Int) : Int × Int → Option ((Int × Int) ⊕ (Int))
 | (k1_2, i5) =>
 bif decide (i5 < (a0.length : Int)) then
 (gIdx a0 i5).bind fun e14 =>
 bif e14 != k1_2 then
 some (.inr ((-1)))
 else
 some (.inl (IntKind.i64.wrap (k1_2 + 1), IntKind.i64.wrap (i5 + 1)))
 else
 some (.inr (k1_2))
def ZgW (a0 : List Int) (k1 : Int) : Option Int :=
 loop (Zim a0) (k1, 0)
def Zjc (a0 : List (List Int)) : Int × Int → Option ((Int × Int) ⊕ (Int))
 | (k1_2, i5) =>
 bif decide (i5 < (a0.length : Int)) then
 (gIdx a0 i5).bind fun e14 =>
 (ZgW e14 k1_2).bind fun r17 =>
 bif decide (r17 < 0) then
 some (.inr ((-1)))
 else
 some (.inl (r17, IntKind.i64.wrap (i5 + 1)))
 else
 some (.inr (k1_2))
def Zft (a0 : List (List Int)) (k1 : Int) : Option Int :=
 loop (Zjc a0) (k1, 0)
def Zde (a0 : List Zc) : Int × Int → Option ((Int × Int) ⊕ (Int))
 | (k1_2, i5) =>
 bif decide (i5 < (a0.length : Int)) then
 (ZaM k1_2).bind fun r18 =>
 (gIdx a0 i5).bind fun e14 =>
 bif !(e14.Name.toList == r18.toList) then
 some (.inr ((-1)))
 else
 (gIdx a0 i5).bind fun e24 =>
 bif e24.Object.Kind != (IntKind.i64.wrap (k1_2 + 1)) then
 some (.inr ((-1)))
 else
 (gIdx a0 i5).bind fun e34 =>
 bif e34.Object.Size != (IntKind.i64.wrap ((IntKind.i64.wrap (k1_2 + 1)) + 1)) then
 some (.inr ((-1)))
 else
 (gIdx a0 i5).bind fun e44 =>
 (Zft e44.Object.Rows (IntKind.i64.wrap ((IntKind.i64.wrap ((IntKind.i64.wrap (k1_2 + 1)) + 1)) + 1))).bind fun r49 =>
 bif decide (r49 < 0) then
 some (.inr ((-1)))
 else
 (ZaM r49).bind fun r58 =>
 (gIdx a0 i5).bind fun e54 =>
 bif !(e54.Key.toList == r58.toList) then
 some (.inr ((-1)))
 else
 some (.inl (IntKind.i64.wrap (r49 + 1), IntKind.i64.wrap (i5 + 1)))
 else
 some (.inr (k1_2))
def Zja (a0 : List Zc) (k1 : Int) : Option Int :=
 loop (Zde a0) (k1, 0)
def Zen (a0 : Zg) (k1 : Int) : Option Int :=
 (Zja a0.Items k1).bind fun r8 =>
 bif decide (r8 < 0) then
 some ((-1))
 else
 some (r8)
def Z7 (n0 low1 high2 : Int) : Option Bool :=
 bif decide (n0 ≥ low1) then
 some (decide (n0 ≤ high2))
 else
 some (false)
def Zfj (list0 : List Int) (n1 : Int) : Int → Option ((Int) ⊕ (Bool))
 | i5 =>
 bif decide (i5 < (list0.length : Int)) then
 (gIdx list0 i5).bind fun e14 =>
 bif e14 == n1 then
 some (.inr (true))
 else
 some (.inl (IntKind.i64.wrap (i5 + 1)))
 else
 some (.inr (false))
def ZhF (list0 : List Int) (n1 : Int) : Option Bool :=
 loop (Zfj list0 n1) (0)
def ZeQ (p0 : List Int) : Int → Option ((Int) ⊕ (Bool))
 | i3 =>
 bif decide (i3 < (p0.length : Int)) then
 (gIdx p0 i3).bind fun e15 =>
 (Z7 e15 0 (IntKind.i64.wrap ((p0.length : Int) - 1))).bind fun r20 =>
 bif !r20 then
 some (.inr (false))
 else
 (gSl p0 0 i3).bind fun l25 =>
 (gIdx p0 i3).bind fun e28 =>
 (ZhF l25 e28).bind fun r30 =>
 bif r30 then
 some (.inr (false))
 else
 some (.inl (IntKind.i64.wrap (i3 + 1)))
 else
 some (.inr (true))
def Zdt (p0 : List Int) : Option Bool :=
 bif decide (((p0.length : Int) : Int) > 32) then
 some (false)
 else
 loop (ZeQ p0) (0)
def ZcN (a0 b1 : List Int) : Option (Int) :=
 bif decide (((a0.length : Int) : Int) < (b1.length : Int)) then
 some ((-1))
 else
 bif decide (((a0.length : Int) : Int) > (b1.length : Int)) then
 some (1)
 else
 some (0)
def Ze1 (a0 b1 : List Int) (i5 : Int) : Option ((Int) ⊕ (Int)) :=
 (gIdx a0 i5).bind fun e20 =>
 (gIdx b1 i5).bind fun e24 =>
 bif decide (e20 < e24) then
 some (.inr ((-1)))
 else
 (gIdx a0 i5).bind fun e29 =>
 (gIdx b1 i5).bind fun e33 =>
 bif decide (e29 > e33) then
 some (.inr (1))
 else
 some (.inl (IntKind.i64.wrap (i5 + 1)))
def ZbU (a0 b1 : List Int) : Int → Option ((Int) ⊕ (Int))
 | i5 =>
 bif decide (i5 < (a0.length : Int)) then
 bif decide (i5 < (b1.length : Int)) then
 Ze1 a0 b1 i5
 else
 (ZcN a0 b1).map fun x => .inr (x)
 else
 (ZcN a0 b1).map fun x => .inr (x)
def Zdw (a0 b1 : List Int) : Option Int :=
 loop (ZbU a0 b1) (0)
def ZaX (list0 : List (List Int)) (p1 : List Int) : Int × Int → Option ((Int × Int) ⊕ (Int × Bool))
 | (low6, high7) =>
 bif decide (low6 < high7) then
 (gNz 2).bind fun _ =>
 (gIdx list0 (IntKind.i64.wrap (Int.tdiv (IntKind.i64.wrap (low6 + high7)) 2))).bind fun e21 =>
 (Zdw e21 p1).bind fun r24 =>
 bif r24 == 0 then
 some (.inr ((IntKind.i64.wrap (Int.tdiv (IntKind.i64.wrap (low6 + high7)) 2), true)))
 else
 bif decide (r24 < 0) then
 some (.inl (IntKind.i64.wrap ((IntKind.i64.wrap (Int.tdiv (IntKind.i64.wrap (low6 + high7)) 2)) + 1), high7))
 else
 some (.inl (low6, IntKind.i64.wrap (Int.tdiv (IntKind.i64.wrap (low6 + high7)) 2)))
 else
 some (.inr ((low6, false)))
def Zc7 (list0 : List (List Int)) (p1 : List Int) : Option (Int × Bool) :=
 loop (ZaX list0 p1) (0, (list0.length : Int))
def Zez (n0 : Int) : List Int × Int → Option ((List Int × Int) ⊕ (List Int))
 | (out3, i4) =>
 bif decide (i4 < n0) then
 (gApp 8 out3 [i4]).bind fun l14 =>
 some (.inl (l14, IntKind.i64.wrap (i4 + 1)))
 else
 some (.inr (out3))
def ZfE (n0 : Int) : Option (List Int) :=
 loop (Zez n0) (([] : List Int), 0)
def Zey (p0 q1 : List Int) : List Int × Int → Option ((List Int × Int) ⊕ (List Int))
 | (out5, i6) =>
 bif decide (i6 < (p0.length : Int)) then
 (gIdx p0 i6).bind fun e18 =>
 (gIdx q1 e18).bind fun e20 =>
 (gApp 8 out5 [e20]).bind fun l23 =>
 some (.inl (l23, IntKind.i64.wrap (i6 + 1)))
 else
 some (.inr (out5))
def Zh5 (p0 q1 : List Int) : Option (List Int) :=
 loop (Zey p0 q1) (([] : List Int), 0)
def Zhe (list0 : List (List Int)) (at1 : Int) (p2 : List Int) : Option (List (List Int)) :=
 (gSl list0 0 at1).bind fun l11 =>
 (gApp 24 ([] : List (List Int)) l11).bind fun l12 =>
 (gApp 24 l12 [p2]).bind fun l16 =>
 (gSl list0 at1 (list0.length : Int)).bind fun l20 =>
 (gApp 24 l16 l20).bind fun l21 =>
 some (l21)
def ZaD (genera1 : List (List Int)) (most2 i11 : Int) : List (List Int) × List (List Int) × Int → Option ((List (List Int) × List (List Int) × Int) ⊕ ((List (List Int) × List (List Int) × Int) ⊕ ((List (List Int)) × Bool)))
 | (list9_2, queue10_2, k12) =>
 bif decide (k12 < (genera1.length : Int)) then
 (gIdx queue10_2 i11).bind fun e36 =>
 (gIdx genera1 k12).bind fun e40 =>
 (Zh5 e36 e40).bind fun r42 =>
 (Zc7 list9_2 r42).bind fun r46 =>
 bif r46.2 then
 some (.inl (list9_2, queue10_2, IntKind.i64.wrap (k12 + 1)))
 else
 bif ((list9_2.length : Int) : Int) == most2 then
 some (.inr (.inr ((([] : List (List Int)), false))))
 else
 (Zhe list9_2 r46.1 r42).bind fun r57 =>
 (gApp 24 queue10_2 [r42]).bind fun l61 =>
 some (.inl (r57, l61, IntKind.i64.wrap (k12 + 1)))
 else
 some (.inr (.inl (list9_2, queue10_2, IntKind.i64.wrap (i11 + 1))))
def Zb1 (genera1 : List (List Int)) (most2 : Int) : List (List Int) × List (List Int) × Int → Option ((List (List Int) × List (List Int) × Int) ⊕ ((List (List Int)) × Bool))
 | (list9, queue10, i11) =>
 bif decide (i11 < (queue10.length : Int)) then
 loop (ZaD genera1 most2 i11) (list9, queue10, 0)
 else
 some (.inr ((list9, true)))
def Zcj (degree0 : Int) (genera1 : List (List Int)) (most2 : Int) : Option ((List (List Int)) × Bool) :=
 (ZfE degree0).bind fun r17 =>
 loop (Zb1 genera1 most2) ([r17], [r17], 0)
def Za4 (list0 : List Int) : Option (List Int) :=
 (gApp 8 ([] : List Int) list0).bind fun l5 =>
 some (l5)
def Zhy (a0 b1 : List Int) : Int → Option ((Int) ⊕ (Bool))
 | i5 =>
 bif decide (i5 < (a0.length : Int)) then
 (gIdx a0 i5).bind fun e19 =>
 (gIdx b1 i5).bind fun e23 =>
 bif e19 != e23 then
 some (.inr (false))
 else
 some (.inl (IntKind.i64.wrap (i5 + 1)))
 else
 some (.inr (true))
def ZfD (a0 b1 : List Int) : Option Bool :=
 bif ((a0.length : Int) : Int) != (b1.length : Int) then
 some (false)
 else
 loop (Zhy a0 b1) (0)
def ZgS (a0 b1 : List (List Int)) : Int → Option ((Int) ⊕ (Bool))
 | i5 =>
 bif decide (i5 < (a0.length : Int)) then
 (gIdx a0 i5).bind fun e19 =>
 (gIdx b1 i5).bind fun e23 =>
 (ZfD e19 e23).bind fun r25 =>
 bif !r25 then
 some (.inr (false))
 else
 some (.inl (IntKind.i64.wrap (i5 + 1)))
 else
 some (.inr (true))
def ZdR (a0 b1 : List (List Int)) : Option Bool :=
 bif ((a0.length : Int) : Int) != (b1.length : Int) then
 some (false)
 else
 loop (ZgS a0 b1) (0)
def Zbl (degree0 : Int) (list1 : List (List Int)) : List (List Int) × List (List Int) × Int → Option ((List (List Int) × List (List Int) × Int) ⊕ ((List (List Int)) × Bool))
 | (out6, have7, i9) =>
 bif decide (i9 < (list1.length : Int)) then
 (gIdx list1 i9).bind fun e31 =>
 (Zc7 have7 e31).bind fun r33 =>
 bif r33.2 then
 some (.inl (out6, have7, IntKind.i64.wrap (i9 + 1)))
 else
 (gIdx list1 i9).bind fun e40 =>
 (Za4 e40).bind fun r42 =>
 (gApp 24 out6 [r42]).bind fun l44 =>
 (Zcj degree0 l44 (list1.length : Int)).bind fun r50 =>
 bif !r50.2 then
 some (.inr ((([] : List (List Int)), false)))
 else
 some (.inl (l44, r50.1, IntKind.i64.wrap (i9 + 1)))
 else
 (ZdR have7 list1).bind fun r59 =>
 some (.inr ((out6, r59)))
def ZgF (degree0 : Int) (list1 : List (List Int)) : Option ((List (List Int)) × Bool) :=
 (Zcj degree0 ([] : List (List Int)) 1).bind fun r18 =>
 loop (Zbl degree0 list1) (([] : List (List Int)), r18.1, 0)
def Zce (y0 : ZaO) : Int → Option ((Int) ⊕ (Bool))
 | y3 =>
 bif decide (y3 < (y0.Elements.length : Int)) then
 (gIdx y0.Elements y3).bind fun e42 =>
 (Zdt e42).bind fun r44 =>
 bif !r44 then
 some (.inr (false))
 else
 (gIdx y0.Elements y3).bind fun e52 =>
 bif ((e52.length : Int) : Int) != y0.Degree then
 some (.inr (false))
 else
 bif decide (y3 > 0) then
 (gIdx y0.Elements (IntKind.i64.wrap (y3 - 1))).bind fun e71 =>
 (gIdx y0.Elements y3).bind fun e78 =>
 (Zdw e71 e78).bind fun r80 =>
 bif decide (r80 ≥ 0) then
 some (.inr (false))
 else
 some (.inl (IntKind.i64.wrap (y3 + 1)))
 else
 some (.inl (IntKind.i64.wrap (y3 + 1)))
 else
 (ZgF y0.Degree y0.Elements).bind fun r93 =>
 some (.inr (r93.2))
def ZiJ (y0 : ZaO) : Option (Bool) :=
 loop (Zce y0) (0)
def ZhE (y0 : ZaO) : Option Bool :=
 (Z7 y0.Degree 1 32).bind fun r10 =>
 bif !r10 then
 some (false)
 else
 bif ((y0.Elements.length : Int) : Int) == 0 then
 some (false)
 else
 bif decide (((y0.Elements.length : Int) : Int) > 720) then
 some (false)
 else
 ZiJ y0
def ZgC (list0 : List Int) : Int → Option ((Int) ⊕ (Bool))
 | i3 =>
 bif decide (i3 < (list0.length : Int)) then
 (gIdx list0 i3).bind fun e15 =>
 (Z7 e15 0 63).bind fun r17 =>
 bif !r17 then
 some (.inr (false))
 else
 some (.inl (IntKind.i64.wrap (i3 + 1)))
 else
 some (.inr (true))
def ZfQ (list0 : List Int) : Option Bool :=
 bif decide (((list0.length : Int) : Int) > 64) then
 some (false)
 else
 loop (ZgC list0) (0)
def Zgj (a0 b1 : ZN) : Option Bool :=
 bif decide (a0.A < b1.A) then
 some (true)
 else
 bif a0.A == b1.A then
 some (decide (a0.B < b1.B))
 else
 some (false)
def Zb9 (g0 : Z6) : Int → Option ((Int) ⊕ (Bool))
 | i4 =>
 bif decide (i4 < (g0.Edges.length : Int)) then
 (gIdx g0.Edges i4).bind fun e29 =>
 (Z7 e29.A 0 (IntKind.i64.wrap ((g0.Colors.length : Int) - 1))).bind fun r35 =>
 bif !r35 then
 some (.inr (false))
 else
 (Z7 e29.B (IntKind.i64.wrap (e29.A + 1)) (IntKind.i64.wrap ((g0.Colors.length : Int) - 1))).bind fun r45 =>
 bif !r45 then
 some (.inr (false))
 else
 bif decide (i4 > 0) then
 (gIdx g0.Edges (IntKind.i64.wrap (i4 - 1))).bind fun e56 =>
 (Zgj e56 (ZN.mk e29.A e29.B)).bind fun r59 =>
 bif !r59 then
 some (.inr (false))
 else
 some (.inl (IntKind.i64.wrap (i4 + 1)))
 else
 some (.inl (IntKind.i64.wrap (i4 + 1)))
 else
 some (.inr (true))
def ZiB (g0 : Z6) : Option (Bool) :=
 loop (Zb9 g0) (0)
def ZgI (g0 : Z6) : Option Bool :=
 (ZfQ g0.Colors).bind fun r8 =>
 bif !r8 then
 some (false)
 else
 bif decide (((g0.Edges.length : Int) : Int) > 512) then
 some (false)
 else
 ZiB g0
def Zc5 (y0 : Zi) (l17 : List Int) : Int × List ZN → Option ((Int × List ZN) ⊕ (Z6 × Bool))
 | (y5, xs) =>
 bif decide (y5 < (y0.Rows.length : Int)) then
 (gIdx y0.Rows y5).bind fun e33 =>
 bif ((e33.length : Int) : Int) != 2 then
 some (.inr (((Z6.mk ([] : List Int) ([] : List ZN)), false)))
 else
 (gIdx y0.Rows y5).bind fun e45 =>
 (gIdx e45 0).bind fun e47 =>
 (gIdx y0.Rows y5).bind fun e54 =>
 (gIdx e54 1).bind fun e56 =>
 (gApp 16 xs [(ZN.mk e47 e56)]).bind fun l60 =>
 some (.inl (IntKind.i64.wrap (y5 + 1), l60))
 else
 (ZgI (Z6.mk l17 xs)).bind fun r64 =>
 some (.inr (((Z6.mk l17 xs), r64)))
def ZgZ (y0 : Zi) : Option (Z6 × Bool) :=
 (Z7 y0.Size 0 64).bind fun r10 =>
 bif !r10 then
 some (((Z6.mk ([] : List Int) ([] : List ZN)), false))
 else
 (gMake 8 (0 : Int) y0.Size y0.Size).bind fun l17 =>
 loop (Zc5 y0 l17) (0, ([] : List ZN))
def Zdc (a0 : List (List Int)) (y5 : Int) : List Int × Int → Option ((List Int × Int) ⊕ ((Int) ⊕ ((Int) ⊕ (Bool))))
 | (col6, x7) =>
 bif decide (x7 < (a0.length : Int)) then
 (gIdx a0 x7).bind fun e50 =>
 (gIdx e50 y5).bind fun e53 =>
 (gApp 8 col6 [e53]).bind fun l56 =>
 some (.inl (l56, IntKind.i64.wrap (x7 + 1)))
 else
 (Zdt col6).bind fun r58 =>
 bif !r58 then
 some (.inr (.inr (.inr (false))))
 else
 some (.inr (.inl (IntKind.i64.wrap (y5 + 1))))
def Zdr (a0 : List (List Int)) : Int → Option ((Int) ⊕ ((Int) ⊕ (Bool)))
 | y5 =>
 bif decide (y5 < (a0.length : Int)) then
 loop (Zdc a0 y5) (([] : List Int), 0)
 else
 some (.inr (.inr (true)))
def Zfh (a0 : List (List Int)) : Int → Option ((Int) ⊕ (Bool))
 | x4 =>
 bif decide (x4 < (a0.length : Int)) then
 (gIdx a0 x4).bind fun e23 =>
 bif ((e23.length : Int) : Int) != (a0.length : Int) then
 some (.inr (false))
 else
 (gIdx a0 x4).bind fun e31 =>
 (Zdt e31).bind fun r33 =>
 bif !r33 then
 some (.inr (false))
 else
 some (.inl (IntKind.i64.wrap (x4 + 1)))
 else
 loop (Zdr a0) (0)
def ZjX (a0 : List (List Int)) : Option (Bool) :=
 loop (Zfh a0) (0)
def Zg7 (a0 : List (List Int)) : Option Bool :=
 bif decide (((a0.length : Int) : Int) < 1) then
 some (false)
 else
 bif decide (((a0.length : Int) : Int) > 10) then
 some (false)
 else
 ZjX a0
def ZdB (list0 : List Int) (low1 high2 : Int) : Int → Option ((Int) ⊕ (Bool))
 | i7 =>
 bif decide (i7 < (list0.length : Int)) then
 (gIdx list0 i7).bind fun e16 =>
 (Z7 e16 low1 high2).bind fun r20 =>
 bif !r20 then
 some (.inr (false))
 else
 bif decide (i7 > 0) then
 (gIdx list0 (IntKind.i64.wrap (i7 - 1))).bind fun e29 =>
 (gIdx list0 i7).bind fun e33 =>
 bif decide (e29 ≥ e33) then
 some (.inr (false))
 else
 some (.inl (IntKind.i64.wrap (i7 + 1)))
 else
 some (.inl (IntKind.i64.wrap (i7 + 1)))
 else
 some (.inr (true))
def ZgE (list0 : List Int) (low1 high2 : Int) : Option Bool :=
 loop (ZdB list0 low1 high2) (0)
def Zgd (set0 : List Int) (points1 : Int) : Option Bool :=
 bif decide (((set0.length : Int) : Int) > 0) then
 (ZgE set0 0 (IntKind.i64.wrap (points1 - 1))).bind fun r12 =>
 some (r12)
 else
 some (false)
def Zdz (d0 : Zbh) : Int → Option ((Int) ⊕ (Bool))
 | i3 =>
 bif decide (i3 < (d0.Blocks.length : Int)) then
 (gIdx d0.Blocks i3).bind fun e32 =>
 (Zgd e32 d0.Points).bind fun r38 =>
 bif !r38 then
 some (.inr (false))
 else
 bif decide (i3 > 0) then
 (gIdx d0.Blocks (IntKind.i64.wrap (i3 - 1))).bind fun e50 =>
 (gIdx d0.Blocks i3).bind fun e57 =>
 (Zdw e50 e57).bind fun r59 =>
 bif decide (r59 > 0) then
 some (.inr (false))
 else
 some (.inl (IntKind.i64.wrap (i3 + 1)))
 else
 some (.inl (IntKind.i64.wrap (i3 + 1)))
 else
 some (.inr (true))
def Zjy (d0 : Zbh) : Option (Bool) :=
 loop (Zdz d0) (0)
def Zhv (d0 : Zbh) : Option Bool :=
 (Z7 d0.Points 1 32).bind fun r8 =>
 bif !r8 then
 some (false)
 else
 bif decide (((d0.Blocks.length : Int) : Int) > 128) then
 some (false)
 else
 Zjy d0
def Zgs (a0 b1 : List Int) : Int × Int → Option ((Int × Int) ⊕ (Int))
 | (sum5, i6) =>
 bif decide (i6 < (a0.length : Int)) then
 (gIdx a0 i6).bind fun e16 =>
 (gIdx b1 i6).bind fun e20 =>
 some (.inl (IntKind.i64.wrap (sum5 + (IntKind.i64.wrap (e16 * e20))), IntKind.i64.wrap (i6 + 1)))
 else
 some (.inr (sum5))
def ZeL (a0 b1 : List Int) : Option Int :=
 loop (Zgs a0 b1) (0, 0)
def ZaV (y0 : List (List Int)) (y4 : Int) : Int → Option ((Int) ⊕ ((Int) ⊕ (Bool)))
 | y5 =>
 bif decide (y5 < (y0.length : Int)) then
 (gIdx y0 y4).bind fun e35 =>
 (gIdx e35 y5).bind fun e38 =>
 bif e38 != 1 then
 (gIdx y0 y4).bind fun e44 =>
 (gIdx e44 y5).bind fun e47 =>
 bif e47 != (-1) then
 some (.inr (.inr (false)))
 else
 some (.inl (IntKind.i64.wrap (y5 + 1)))
 else
 some (.inl (IntKind.i64.wrap (y5 + 1)))
 else
 some (.inr (.inl (IntKind.i64.wrap (y4 + 1))))
def Zc6 (y0 : List (List Int)) (y6 : Int) : Int → Option ((Int) ⊕ ((Int) ⊕ ((Int) ⊕ (Bool))))
 | y7 =>
 bif decide (y7 < y6) then
 (gIdx y0 y6).bind fun e63 =>
 (gIdx y0 y7).bind fun e67 =>
 (ZeL e63 e67).bind fun r69 =>
 bif r69 != 0 then
 some (.inr (.inr (.inr (false))))
 else
 some (.inl (IntKind.i64.wrap (y7 + 1)))
 else
 some (.inr (.inl (IntKind.i64.wrap (y6 + 1))))
def Zfg (y0 : List (List Int)) : Int → Option ((Int) ⊕ ((Int) ⊕ (Bool)))
 | y6 =>
 bif decide (y6 < (y0.length : Int)) then
 loop (Zc6 y0 y6) (0)
 else
 some (.inr (.inr (true)))
def Zfr (y0 : List (List Int)) : Int → Option ((Int) ⊕ (Bool))
 | y4 =>
 bif decide (y4 < (y0.length : Int)) then
 (gIdx y0 y4).bind fun e23 =>
 bif ((e23.length : Int) : Int) != (y0.length : Int) then
 some (.inr (false))
 else
 loop (ZaV y0 y4) (0)
 else
 loop (Zfg y0) (0)
def ZjU (y0 : List (List Int)) : Option (Bool) :=
 loop (Zfr y0) (0)
def ZgB (y0 : List (List Int)) : Option Bool :=
 bif decide (((y0.length : Int) : Int) < 1) then
 some (false)
 else
 bif decide (((y0.length : Int) : Int) > 32) then
 some (false)
 else
 ZjU y0
def Zf8 (o0 : Zi) : Option Zad :=
 bif decide (((o0.Rows.length : Int) : Int) > 0) then
 (gIdx o0.Rows 0).bind fun e23 =>
 some ((Zad.mk o0.Size (e23.length : Int) o0.Rows))
 else
 some ((Zad.mk o0.Size 0 o0.Rows))
def ZjL (levels0 column1 : Int) : Option Bool :=
 (Z7 levels0 2 16).bind fun r6 =>
 bif r6 then
 (Z7 column1 1 8).bind fun r9 =>
 some (r9)
 else
 some (false)
def Zc9 (y0 : Zad) (y3 : Int) : Int → Option ((Int) ⊕ ((Int) ⊕ (Bool)))
 | y4 =>
 (gIdx y0.Rows y3).bind fun e51 =>
 bif decide (y4 < (e51.length : Int)) then
 (gIdx y0.Rows y3).bind fun e62 =>
 (gIdx e62 y4).bind fun e65 =>
 (Z7 e65 0 (IntKind.i64.wrap (y0.Levels - 1))).bind fun r72 =>
 bif !r72 then
 some (.inr (.inr (false)))
 else
 some (.inl (IntKind.i64.wrap (y4 + 1)))
 else
 some (.inr (.inl (IntKind.i64.wrap (y3 + 1))))
def Zd2 (y0 : Zad) : Int → Option ((Int) ⊕ (Bool))
 | y3 =>
 bif decide (y3 < (y0.Rows.length : Int)) then
 (gIdx y0.Rows y3).bind fun e37 =>
 bif ((e37.length : Int) : Int) != y0.Columns then
 some (.inr (false))
 else
 loop (Zc9 y0 y3) (0)
 else
 some (.inr (true))
def Zif (y0 : Zad) : Option (Bool) :=
 loop (Zd2 y0) (0)
def Zg5 (y0 : Zad) : Option Bool :=
 (ZjL y0.Levels y0.Columns).bind fun r13 =>
 bif !r13 then
 some (false)
 else
 bif decide (((y0.Rows.length : Int) : Int) > 256) then
 some (false)
 else
 Zif y0
def Zil (p4 : Int) : Int × Int → Option ((Int × Int) ⊕ ((Int) ⊕ (Int × Int)))
 | (k5, n6) =>
 bif decide (n6 > 1) then
 (gNz p4).bind fun _ =>
 bif (Int.tmod n6 p4 : Int) != 0 then
 some (.inr (.inr ((0, 0))))
 else
 (gNz p4).bind fun _ =>
 some (.inl (IntKind.i64.wrap (k5 + 1), IntKind.i64.wrap (Int.tdiv n6 p4)))
 else
 some (.inr (.inr ((p4, k5))))
def ZjH (q0 : Int) : Int → Option ((Int) ⊕ (Int × Int))
 | p4 =>
 (gNz p4).bind fun _ =>
 bif (Int.tmod q0 p4 : Int) != 0 then
 some (.inl (IntKind.i64.wrap (p4 + 1)))
 else
 loop (Zil p4) (0, q0)
def Zbk (q0 : Int) : Option (Int × Int) :=
 (Z7 q0 2 64).bind fun r8 =>
 bif !r8 then
 some ((0, 0))
 else
 loop (ZjH q0) (2)
def Zca (p1 : Int) : Int × Int × List Int → Option ((Int × Int × List Int) ⊕ (List Int))
 | (a0_2, n2_2, out7) =>
 bif decide (n2_2 > 0) then
 (gNz p1).bind fun _ =>
 (gApp 8 out7 [Int.tmod a0_2 p1]).bind fun l18 =>
 (gNz p1).bind fun _ =>
 some (.inl (IntKind.i64.wrap (Int.tdiv a0_2 p1), IntKind.i64.wrap (n2_2 - 1), l18))
 else
 some (.inr (out7))
def ZaP (a0 p1 n2 : Int) : Option (List Int) :=
 loop (Zca p1) (a0, n2, ([] : List Int))
def ZjE (p0 : Int) : Int × Int → Option ((Int × Int) ⊕ (Int))
 | (k1_2, out5) =>
 bif decide (k1_2 > 0) then
 some (.inl (IntKind.i64.wrap (k1_2 - 1), IntKind.i64.wrap (out5 * p0)))
 else
 some (.inr (out5))
def ZdA (p0 k1 : Int) : Option Int :=
 loop (ZjE p0) (k1, 1)
def ZcM (y1 : List Int) (y2 y9 e28 : Int) : Int × List Int → Option ((Int × List Int) ⊕ ((Int × List Int) ⊕ (List Int)))
 | (y11, xs_2) =>
 bif decide (y11 < (y1.length : Int)) then
 (gIdx xs_2 (IntKind.i64.wrap ((IntKind.i64.wrap ((IntKind.i64.wrap (y9 - (y1.length : Int))) + 1)) + y11))).bind fun e45 =>
 (gIdx y1 y11).bind fun e52 =>
 (gNz y2).bind fun _ =>
 (gIdx xs_2 (IntKind.i64.wrap ((IntKind.i64.wrap ((IntKind.i64.wrap (y9 - (y1.length : Int))) + 1)) + y11))).bind fun e58 =>
 some (.inl (IntKind.i64.wrap (y11 + 1), (xs_2.set (IntKind.i64.wrap ((IntKind.i64.wrap ((IntKind.i64.wrap (y9 - (y1.length : Int))) + 1)) + y11) : Int).toNat (Int.tmod (IntKind.i64.wrap (e45 + (IntKind.i64.wrap ((IntKind.i64.wrap (y2 - e28)) * e52)))) y2))))
 else
 some (.inr (.inl (IntKind.i64.wrap (y9 - 1), xs_2)))
def ZbD (y1 : List Int) : List Int → Option ((List Int) ⊕ ((Int × List Int) ⊕ (List Int)))
 | y7 =>
 bif decide (((y7.length : Int) : Int) ≥ (y1.length : Int)) then
 (gSl y7 0 (IntKind.i64.wrap ((y7.length : Int) - 1))).bind fun l67 =>
 some (.inl (l67))
 else
 some (.inr (.inr (y7)))
def Zbc (y1 : List Int) (y2 : Int) : Int × List Int → Option ((Int × List Int) ⊕ (List Int))
 | (y9, xs) =>
 bif decide (y9 ≥ (IntKind.i64.wrap ((y1.length : Int) - 1))) then
 (gIdx xs y9).bind fun e28 =>
 loop (ZcM y1 y2 y9 e28) (0, xs)
 else
 loop (ZbD y1) (xs)
def Zcf (y0 y1 : List Int) (y2 : Int) : Option (List Int) :=
 (Za4 y0).bind fun r14 =>
 loop (Zbc y1 y2) (IntKind.i64.wrap ((r14.length : Int) - 1), r14)
def ZcE (list0 : List Int) (p1 : Int) : Int × Int → Option ((Int × Int) ⊕ (Int))
 | (out5, i6) =>
 bif decide (i6 ≥ 0) then
 (gIdx list0 i6).bind fun e19 =>
 some (.inl (IntKind.i64.wrap ((IntKind.i64.wrap (out5 * p1)) + e19), IntKind.i64.wrap (i6 - 1)))
 else
 some (.inr (out5))
def ZaU (list0 : List Int) (p1 : Int) : Option Int :=
 loop (ZcE list0 p1) (0, IntKind.i64.wrap ((list0.length : Int) - 1))
def Zij (poly0 : List Int) (p1 d6 : Int) : Int → Option ((Int) ⊕ ((Int) ⊕ (Bool)))
 | n7 =>
 (ZdA p1 d6).bind fun r22 =>
 bif decide (n7 < r22) then
 (ZaP n7 p1 d6).bind fun r29 =>
 (gApp 8 r29 [1]).bind fun l31 =>
 (Zcf poly0 l31 p1).bind fun r35 =>
 (ZaU r35 p1).bind fun r38 =>
 bif r38 == 0 then
 some (.inr (.inr (false)))
 else
 some (.inl (IntKind.i64.wrap (n7 + 1)))
 else
 some (.inr (.inl (IntKind.i64.wrap (d6 + 1))))
def ZiS (poly0 : List Int) (p1 : Int) : Int → Option ((Int) ⊕ (Bool))
 | d6 =>
 bif decide ((IntKind.i64.wrap (2 * d6) : Int) ≤ (IntKind.i64.wrap ((poly0.length : Int) - 1))) then
 loop (Zij poly0 p1 d6) (0)
 else
 some (.inr (true))
def ZeR (poly0 : List Int) (p1 : Int) : Option Bool :=
 loop (ZiS poly0 p1) (1)
def ZiO (r9 : Int × Int) : Int → Option ((Int) ⊕ (Ze))
 | n5 =>
 (ZaP n5 r9.1 r9.2).bind fun r17 =>
 (gApp 8 r17 [1]).bind fun l19 =>
 (ZeR l19 r9.1).bind fun r22 =>
 bif r22 then
 some (.inr ((Ze.mk r9.1 r9.2 l19)))
 else
 some (.inl (IntKind.i64.wrap (n5 + 1)))
def Ze9 (q0 : Int) : Option Ze :=
 (Zbk q0).bind fun r9 =>
 loop (ZiO r9) (0)
def ZhL (o0 : Zi) : Option Za8 :=
 (Zbk o0.Size).bind fun r10 =>
 bif r10.1 == 0 then
 some ((Za8.mk (Ze.mk 0 0 ([] : List Int)) ([] : List (List Int))))
 else
 (Ze9 o0.Size).bind fun r20 =>
 some ((Za8.mk (Ze.mk r20.Prime r20.Degree r20.Poly) o0.Rows))
def Zj1 (y0 : Ze) (r58 : Int × Int) : Int → Option ((Int) ⊕ (Bool))
 | y6 =>
 bif decide (y6 < (y0.Poly.length : Int)) then
 (gIdx y0.Poly y6).bind fun e81 =>
 (Z7 e81 0 (IntKind.i64.wrap (r58.1 - 1))).bind fun r85 =>
 bif !r85 then
 some (.inr (false))
 else
 some (.inl (IntKind.i64.wrap (y6 + 1)))
 else
 (ZeR y0.Poly r58.1).bind fun r92 =>
 some (.inr (r92))
def Zg6 (y0 : Ze) : Option (Bool) :=
 (ZdA y0.Prime y0.Degree).bind fun r55 =>
 (Zbk r55).bind fun r58 =>
 bif r58.1 != y0.Prime then
 some (false)
 else
 loop (Zj1 y0 r58) (0)
def ZdQ (y0 : Ze) : Option Bool :=
 (Z7 y0.Prime 2 64).bind fun r11 =>
 bif !r11 then
 some (false)
 else
 (Z7 y0.Degree 1 6).bind fun r18 =>
 bif !r18 then
 some (false)
 else
 bif ((y0.Poly.length : Int) : Int) != (IntKind.i64.wrap (y0.Degree + 1)) then
 some (false)
 else
 (gIdx y0.Poly y0.Degree).bind fun e43 =>
 bif e43 != 1 then
 some (false)
 else
 Zg6 y0
def Zck (f0 : Ze) : Option Int :=
 (ZdA f0.Prime f0.Degree).bind fun r11 =>
 some (r11)
def ZdF (v1 : List Int) (r8 : Int) : Int → Option ((Int) ⊕ (Bool))
 | i6 =>
 bif decide (i6 < (v1.length : Int)) then
 (gIdx v1 i6).bind fun e17 =>
 (Z7 e17 0 (IntKind.i64.wrap (r8 - 1))).bind fun r21 =>
 bif !r21 then
 some (.inr (false))
 else
 some (.inl (IntKind.i64.wrap (i6 + 1)))
 else
 some (.inr (true))
def ZfS (f0 : Ze) (v1 : List Int) : Option Bool :=
 (Zck f0).bind fun r8 =>
 loop (ZdF v1 r8) (0)
def Ze8 (f0 : Ze) (m1 : List (List Int)) : Int → Option ((Int) ⊕ (Bool))
 | i5 =>
 bif decide (i5 < (m1.length : Int)) then
 (gIdx m1 i5).bind fun e41 =>
 (gIdx m1 0).bind fun e45 =>
 bif ((e41.length : Int) : Int) != (e45.length : Int) then
 some (.inr (false))
 else
 (gIdx m1 i5).bind fun e53 =>
 (ZfS f0 e53).bind fun r55 =>
 bif !r55 then
 some (.inr (false))
 else
 some (.inl (IntKind.i64.wrap (i5 + 1)))
 else
 some (.inr (true))
def Zjj (f0 : Ze) (m1 : List (List Int)) : Option (Bool) :=
 loop (Ze8 f0 m1) (0)
def ZhG (f0 : Ze) (m1 : List (List Int)) : Option Bool :=
 (ZdQ f0).bind fun r7 =>
 bif !r7 then
 some (false)
 else
 bif ((m1.length : Int) : Int) == 0 then
 some (false)
 else
 bif decide (((m1.length : Int) : Int) > 32) then
 some (false)
 else
 (gIdx m1 0).bind fun e21 =>
 bif ((e21.length : Int) : Int) == 0 then
 some (false)
 else
 (gIdx m1 0).bind fun e28 =>
 bif decide (((e28.length : Int) : Int) > 32) then
 some (false)
 else
 Zjj f0 m1
def ZeI (q0 : Int) : Int × Int → Option ((Int × Int) ⊕ (Int))
 | (k1_2, n5) =>
 bif decide (k1_2 > 0) then
 bif decide ((IntKind.i64.wrap (n5 * q0) : Int) > 4096) then
 some (.inr (0))
 else
 some (.inl (IntKind.i64.wrap (k1_2 - 1), IntKind.i64.wrap (n5 * q0)))
 else
 some (.inr (n5))
def Zjg (q0 k1 : Int) : Option Int :=
 loop (ZeI q0) (k1, 1)
def Ze3 (m0 : List (List Int)) : List (List Int) × Int → Option ((List (List Int) × Int) ⊕ (List (List Int)))
 | (out3, i4) =>
 bif decide (i4 < (m0.length : Int)) then
 (gIdx m0 i4).bind fun e15 =>
 (Za4 e15).bind fun r17 =>
 (gApp 24 out3 [r17]).bind fun l19 =>
 some (.inl (l19, IntKind.i64.wrap (i4 + 1)))
 else
 some (.inr (out3))
def Zfa (m0 : List (List Int)) : Option (List (List Int)) :=
 loop (Ze3 m0) (([] : List (List Int)), 0)
def Zgx (y0 : Ze) (r21 r31 : List Int) (y10 : Int) : Int × List Int → Option ((Int × List Int) ⊕ ((Int × List Int) ⊕ (Int)))
 | (y11, xs_2) =>
 bif decide (y11 < (r31.length : Int)) then
 (gIdx xs_2 (IntKind.i64.wrap (y10 + y11))).bind fun e59 =>
 (gIdx r21 y10).bind fun e63 =>
 (gIdx r31 y11).bind fun e67 =>
 (gNz y0.Prime).bind fun _ =>
 (gIdx xs_2 (IntKind.i64.wrap (y10 + y11))).bind fun e76 =>
 some (.inl (IntKind.i64.wrap (y11 + 1), (xs_2.set (IntKind.i64.wrap (y10 + y11) : Int).toNat (Int.tmod (IntKind.i64.wrap (e59 + (IntKind.i64.wrap (e63 * e67)))) y0.Prime))))
 else
 some (.inr (.inl (IntKind.i64.wrap (y10 + 1), xs_2)))
def Zcy (y0 : Ze) (r21 r31 : List Int) : Int × List Int → Option ((Int × List Int) ⊕ (Int))
 | (y10, xs) =>
 bif decide (y10 < (r21.length : Int)) then
 loop (Zgx y0 r21 r31 y10) (0, xs)
 else
 (Zcf xs y0.Poly y0.Prime).bind fun r86 =>
 (ZaU r86 y0.Prime).bind fun r91 =>
 some (.inr (r91))
def Zdf (y0 : Ze) (y1 y2 : Int) : Option Int :=
 (ZaP y1 y0.Prime y0.Degree).bind fun r21 =>
 (ZaP y2 y0.Prime y0.Degree).bind fun r31 =>
 (gMake 8 (0 : Int) (IntKind.i64.wrap ((IntKind.i64.wrap (2 * y0.Degree)) - 1)) (IntKind.i64.wrap ((IntKind.i64.wrap (2 * y0.Degree)) - 1))).bind fun l38 =>
 loop (Zcy y0 r21 r31) (0, l38)
def Ze5 (f0 : Ze) (v1 : List Int) (c2 : Int) : List Int × Int → Option ((List Int × Int) ⊕ (List Int))
 | (out7, i8) =>
 bif decide (i8 < (v1.length : Int)) then
 (gIdx v1 i8).bind fun e20 =>
 (Zdf f0 e20 c2).bind fun r23 =>
 (gApp 8 out7 [r23]).bind fun l25 =>
 some (.inl (l25, IntKind.i64.wrap (i8 + 1)))
 else
 some (.inr (out7))
def ZhY (f0 : Ze) (v1 : List Int) (c2 : Int) : Option (List Int) :=
 loop (Ze5 f0 v1 c2) (([] : List Int), 0)
def Zhd (f0 : Ze) (a1 : Int) : Int → Option ((Int) ⊕ (Int))
 | b5 =>
 (Zdf f0 a1 b5).bind fun r9 =>
 bif r9 != 1 then
 some (.inl (IntKind.i64.wrap (b5 + 1)))
 else
 some (.inr (b5))
def Zf5 (f0 : Ze) (a1 : Int) : Option Int :=
 loop (Zhd f0 a1) (1)
def Ze0 (f0 : Ze) (k3 : Int) (r31 : List Int) : Int × List Int → Option ((Int × List Int) ⊕ (Int))
 | (i11, xs) =>
 bif decide (i11 < (xs.length : Int)) then
 (gIdx xs i11).bind fun e42 =>
 (gIdx r31 i11).bind fun e47 =>
 (gNz f0.Prime).bind fun _ =>
 (gIdx xs i11).bind fun e56 =>
 some (.inl (IntKind.i64.wrap (i11 + 1), (xs.set i11.toNat (Int.tmod (IntKind.i64.wrap (e42 + (IntKind.i64.wrap (k3 * e47)))) f0.Prime))))
 else
 (ZaU xs f0.Prime).bind fun r62 =>
 some (.inr (r62))
def Zhz (f0 : Ze) (a1 b2 k3 : Int) : Option Int :=
 (ZaP a1 f0.Prime f0.Degree).bind fun r21 =>
 (ZaP b2 f0.Prime f0.Degree).bind fun r31 =>
 loop (Ze0 f0 k3 r31) (0, r21)
def Zeu (f0 : Ze) (v1 w2 : List Int) (c3 : Int) : List Int × Int → Option ((List Int × Int) ⊕ (List Int))
 | (out9, i10) =>
 bif decide (i10 < (v1.length : Int)) then
 (gIdx w2 i10).bind fun e27 =>
 (Zdf f0 e27 c3).bind fun r30 =>
 (gIdx v1 i10).bind fun e22 =>
 (Zhz f0 e22 r30 (IntKind.i64.wrap (f0.Prime - 1))).bind fun r36 =>
 (gApp 8 out9 [r36]).bind fun l38 =>
 some (.inl (l38, IntKind.i64.wrap (i10 + 1)))
 else
 some (.inr (out9))
def ZgR (f0 : Ze) (v1 w2 : List Int) (c3 : Int) : Option (List Int) :=
 loop (Zeu f0 v1 w2 c3) (([] : List Int), 0)
def Zdv (y0 : Ze) (y9 : List Int) (y10 : Int) (r67 : List Int) : Int × List (List Int) → Option ((Int × List (List Int)) ⊕ ((List Int × Int × List (List Int)) ⊕ ((List (List Int)) × (List Int))))
 | (y14, xs_2) =>
 bif decide (y14 < (xs_2.length : Int)) then
 bif y14 != (y9.length : Int) then
 (gIdx xs_2 y14).bind fun e93 =>
 (gIdx xs_2 y14).bind fun e98 =>
 (gIdx e98 y10).bind fun e101 =>
 (ZgR y0 e93 r67 e101).bind fun r103 =>
 (gIdx xs_2 y14).bind fun e104 =>
 some (.inl (IntKind.i64.wrap (y14 + 1), (xs_2.set y14.toNat r103)))
 else
 some (.inl (IntKind.i64.wrap (y14 + 1), xs_2))
 else
 (gApp 8 y9 [y10]).bind fun l108 =>
 some (.inr (.inl (l108, IntKind.i64.wrap (y10 + 1), xs_2)))
def Zao (y0 : Ze) (y9 : List Int) (y10 : Int) (xs : List (List Int)) (y12 : Int) : Option ((List Int × Int × List (List Int)) ⊕ ((List (List Int)) × (List Int))) :=
 bif y12 == (xs.length : Int) then
 some (.inl (y9, IntKind.i64.wrap (y10 + 1), xs))
 else
 (gIdx xs y12).bind fun e61 =>
 (gIdx e61 y10).bind fun e64 =>
 (Zf5 y0 e64).bind fun r66 =>
 (gIdx xs y12).bind fun e56 =>
 (ZhY y0 e56 r66).bind fun r67 =>
 (gIdx xs (y9.length : Int)).bind fun e72 =>
 (gIdx xs y12).bind fun e74 =>
 (gIdx (xs.set y12.toNat e72) (y9.length : Int)).bind fun e78 =>
 loop (Zdv y0 y9 y10 r67) (0, ((xs.set y12.toNat e72).set ((y9.length : Int) : Int).toNat r67))
def ZbX (y0 : Ze) (y9 : List Int) (y10 : Int) (xs : List (List Int)) : Int → Option ((Int) ⊕ ((List Int × Int × List (List Int)) ⊕ ((List (List Int)) × (List Int))))
 | y12_2 =>
 bif decide (y12_2 < (xs.length : Int)) then
 (gIdx xs y12_2).bind fun e40 =>
 (gIdx e40 y10).bind fun e43 =>
 bif e43 == 0 then
 some (.inl (IntKind.i64.wrap (y12_2 + 1)))
 else
 (Zao y0 y9 y10 xs y12_2).map fun x => .inr (x)
 else
 (Zao y0 y9 y10 xs y12_2).map fun x => .inr (x)
def Zhs (y0 : Ze) (y9 : List Int) (y10 : Int) (xs : List (List Int)) : Option ((List Int × Int × List (List Int)) ⊕ ((List (List Int)) × (List Int))) :=
 loop (ZbX y0 y9 y10 xs) ((y9.length : Int))
def Zb5 (y0 : Ze) (y2 : Int) : List Int × Int × List (List Int) → Option ((List Int × Int × List (List Int)) ⊕ ((List (List Int)) × (List Int)))
 | (y9, y10, xs) =>
 bif decide (y10 < y2) then
 bif decide (((y9.length : Int) : Int) < (xs.length : Int)) then
 Zhs y0 y9 y10 xs
 else
 some (.inr ((xs, y9)))
 else
 some (.inr ((xs, y9)))
def Zie (y0 : Ze) (y1 : List (List Int)) (y2 : Int) : Option ((List (List Int)) × (List Int)) :=
 (Zfa y1).bind fun r16 =>
 loop (Zb5 y0 y2) (([] : List Int), 0, r16)
def ZfJ (f0 : Ze) (m1 : List (List Int)) : Option (List (List Int)) :=
 (gIdx m1 0).bind fun e11 =>
 (Zie f0 m1 (e11.length : Int)).bind fun r14 =>
 (gSl r14.1 0 (r14.2.length : Int)).bind fun l20 =>
 some (l20)
def Zi8 (c0 : Za8) : Option (Bool) :=
 (Zck (Ze.mk c0.Field.Prime c0.Field.Degree c0.Field.Poly)).bind fun r33 =>
 (Zjg r33 (c0.Rows.length : Int)).bind fun r39 =>
 bif r39 == 0 then
 some (false)
 else
 (ZfJ (Ze.mk c0.Field.Prime c0.Field.Degree c0.Field.Poly) c0.Rows).bind fun r48 =>
 (ZdR r48 c0.Rows).bind fun r53 =>
 some (r53)
def ZeF (c0 : Za8) : Option Bool :=
 (ZhG (Ze.mk c0.Field.Prime c0.Field.Degree c0.Field.Poly) c0.Rows).bind fun r10 =>
 bif !r10 then
 some (false)
 else
 (gIdx c0.Rows 0).bind fun e17 =>
 bif decide (((e17.length : Int) : Int) > 32) then
 some (false)
 else
 bif decide (((c0.Rows.length : Int) : Int) > 8) then
 some (false)
 else
 Zi8 c0
def Zdj (y0 : Zi) : Option Bool :=
 bif y0.Kind == 1 then
 (Zg7 y0.Rows).bind fun r17 =>
 bif r17 then
 some (((y0.Rows.length : Int) : Int) == y0.Size)
 else
 some (false)
 else
 bif y0.Kind == 2 then
 (Zhv (Zbh.mk y0.Size y0.Rows)).bind fun r42 =>
 some (r42)
 else
 bif y0.Kind == 3 then
 (ZgB y0.Rows).bind fun r49 =>
 bif r49 then
 some (((y0.Rows.length : Int) : Int) == y0.Size)
 else
 some (false)
 else
 bif y0.Kind == 4 then
 (Zf8 y0).bind fun r65 =>
 bif decide (((y0.Rows.length : Int) : Int) > 0) then
 (Zg5 (Zad.mk r65.Levels r65.Columns r65.Rows)).bind fun r73 =>
 some (r73)
 else
 some (false)
 else
 bif y0.Kind == 5 then
 (ZhL y0).bind fun r78 =>
 (ZeF (Za8.mk (Ze.mk r78.Field.Prime r78.Field.Degree r78.Field.Poly) r78.Rows)).bind fun r79 =>
 some (r79)
 else
 bif y0.Kind == 6 then
 (ZgZ y0).bind fun r84 =>
 some (r84.2)
 else
 bif y0.Kind == 7 then
 (ZhE (ZaO.mk y0.Size y0.Rows)).bind fun r100 =>
 some (r100)
 else
 some (false)
def ZaR (c0 : Int) : Option Bool :=
 bif decide (c0 ≥ 97) then
 some (decide (c0 ≤ 122))
 else
 some (false)
def Zct (c0 : Int) : Option Bool :=
 bif decide (c0 ≥ 48) then
 some (decide (c0 ≤ 57))
 else
 some (false)
def Zcv (s0 : ByteArray) : Int → Option ((Int) ⊕ (Bool))
 | i3 =>
 bif decide (i3 < (s0.size : Int)) then
 (gSt s0 i3).bind fun c25 =>
 (ZaR (c25.toNat : Int)).bind fun r26 =>
 bif !r26 then
 (gSt s0 i3).bind fun c31 =>
 (Zct (c31.toNat : Int)).bind fun r32 =>
 bif !r32 then
 some (.inr (false))
 else
 some (.inl (IntKind.i64.wrap (i3 + 1)))
 else
 some (.inl (IntKind.i64.wrap (i3 + 1)))
 else
 some (.inr (true))
def ZiV (s0 : ByteArray) : Option (Bool) :=
 loop (Zcv s0) (0)
def Zg4 (s0 : ByteArray) : Option Bool :=
 bif s0.toList == (⟨#[]⟩ : ByteArray).toList then
 some (false)
 else
 bif decide (((s0.size : Int) : Int) > 10) then
 some (false)
 else
 (gSt s0 0).bind fun c13 =>
 (ZaR (c13.toNat : Int)).bind fun r14 =>
 bif !r14 then
 some (false)
 else
 ZiV s0
def Zf1 (x0 : Zc) : Option Bool :=
 (Zg4 x0.Name).bind fun r7 =>
 bif r7 then
 (Zdj (Zi.mk x0.Object.Kind x0.Object.Size x0.Object.Rows)).bind fun r12 =>
 bif r12 then
 bif decide (((x0.Key.size : Int) : Int) > 0) then
 some (decide (((x0.Key.size : Int) : Int) ≤ 4000))
 else
 some (false)
 else
 some (false)
 else
 some (false)
def ZcY (a0 b1 : Zc) : Option Bool :=
 bif a0.Object.Kind == b1.Object.Kind then
 some (a0.Key.toList == b1.Key.toList)
 else
 some (false)
def Zfe (y0 : Zg) (y3 : Int) : Int → Option ((Int) ⊕ ((Int) ⊕ (Bool)))
 | y4 =>
 bif decide (y4 < y3) then
 (gIdx y0.Items y3).bind fun e56 =>
 (gIdx y0.Items y4).bind fun e62 =>
 (ZcY e56 e62).bind fun r63 =>
 bif r63 then
 some (.inr (.inr (false)))
 else
 some (.inl (IntKind.i64.wrap (y4 + 1)))
 else
 some (.inr (.inl (IntKind.i64.wrap (y3 + 1))))
def Zet (y0 : Zg) (y3 : Int) : Option ((Int) ⊕ (Bool)) :=
 loop (Zfe y0 y3) (0)
def Zbj (y0 : Zg) : Int → Option ((Int) ⊕ (Bool))
 | y3 =>
 bif decide (y3 < (y0.Items.length : Int)) then
 (gIdx y0.Items y3).bind fun e19 =>
 (Zf1 e19).bind fun r20 =>
 bif !r20 then
 some (.inr (false))
 else
 bif decide (y3 > 0) then
 (gIdx y0.Items (IntKind.i64.wrap (y3 - 1))).bind fun e32 =>
 (gIdx y0.Items y3).bind fun e40 =>
 bif !(Op.bytesLess (e32.Name.toList) (e40.Name.toList)) then
 some (.inr (false))
 else
 Zet y0 y3
 else
 Zet y0 y3
 else
 some (.inr (decide (((y0.Items.length : Int) : Int) ≤ 24)))
def Zea (y0 : Zg) : Option Bool :=
 loop (Zbj y0) (0)
def ZbZ (x0 : Zc) : Option Zc :=
 (Zfa x0.Object.Rows).bind fun r19 =>
 some ((Zc.mk x0.Name (Zi.mk x0.Object.Kind x0.Object.Size r19) x0.Key))
def Zb7 (c0 : Zg) (name1 : ByteArray) : Int → Option ((Int) ⊕ (Int))
 | i5 =>
 bif decide (i5 < (c0.Items.length : Int)) then
 (gIdx c0.Items i5).bind fun e20 =>
 bif e20.Name.toList == name1.toList then
 some (.inr (i5))
 else
 some (.inl (IntKind.i64.wrap (i5 + 1)))
 else
 some (.inr ((-1)))
def ZfV (c0 : Zg) (name1 : ByteArray) : Option Int :=
 loop (Zb7 c0 name1) (0)
def Zdo (y0 : Zg) (y8 : Int) (y7_2 : Bool) (xs_2 : List Zc) : Option ((Bool × Int × List Zc) ⊕ (Zg × Int)) :=
 (gIdx y0.Items y8).bind fun e67 =>
 (ZbZ e67).bind fun r68 =>
 (gApp 72 xs_2 [r68]).bind fun l70 =>
 some (.inl (y7_2, IntKind.i64.wrap (y8 + 1), l70))
def Zdx (y0 : Zg) (y1 : Zc) (y7 : Bool) (y8 : Int) (xs : List Zc) (y52 : Bool) : Option ((Bool × Int × List Zc) ⊕ (Zg × Int)) :=
 bif y52 then
 (ZbZ y1).bind fun r56 =>
 (gApp 72 xs [r56]).bind fun l58 =>
 Zdo y0 y8 true l58
 else
 Zdo y0 y8 y7 xs
def Zc2 (xs_3 : List Zc) : Option ((Bool × Int × List Zc) ⊕ (Zg × Int)) :=
 bif decide (((xs_3.length : Int) : Int) > 24) then
 some (.inr (((Zg.mk ([] : List Zc)), 5)))
 else
 some (.inr (((Zg.mk xs_3), 0)))
def ZaH (y0 : Zg) (y1 : Zc) : Bool × Int × List Zc → Option ((Bool × Int × List Zc) ⊕ (Zg × Int))
 | (y7, y8, xs) =>
 bif decide (y8 < (y0.Items.length : Int)) then
 (gIdx y0.Items y8).bind fun e32 =>
 (ZcY e32 y1).bind fun r34 =>
 bif r34 then
 some (.inr (((Zg.mk ([] : List Zc)), 6)))
 else
 bif !y7 then
 (gIdx y0.Items y8).bind fun e44 =>
 Zdx y0 y1 y7 y8 xs (!(Op.bytesLess (e44.Name.toList) (y1.Name.toList) || e44.Name.toList == y1.Name.toList))
 else
 Zdx y0 y1 y7 y8 xs false
 else
 bif !y7 then
 (ZbZ y1).bind fun r77 =>
 (gApp 72 xs [r77]).bind fun l79 =>
 Zc2 l79
 else
 Zc2 xs
def Zb6 (y0 : Zg) (y1 : Zc) : Option (Zg × Int) :=
 (ZfV y0 y1.Name).bind fun r14 =>
 bif decide (r14 ≥ 0) then
 some (((Zg.mk ([] : List Zc)), 4))
 else
 loop (ZaH y0 y1) (false, 0, ([] : List Zc))
def Zbu (y1 : Zg) : List ByteArray × Int × List Zc → Option ((List ByteArray × Int × List Zc) ⊕ ((Int × List Zc) ⊕ (Zg × (List ByteArray) × Int)))
 | (y9, y10, xs_2) =>
 bif decide (y10 < (y1.Items.length : Int)) then
 (gIdx y1.Items y10).bind fun e50 =>
 (Zb6 (Zg.mk xs_2) e50).bind fun r51 =>
 bif r51.2 == 5 then
 some (.inr (.inr (((Zg.mk ([] : List Zc)), ([] : List ByteArray), r51.2))))
 else
 bif r51.2 == 0 then
 some (.inl (y9, IntKind.i64.wrap (y10 + 1), r51.1.Items))
 else
 (gIdx y1.Items y10).bind fun e65 =>
 (gApp 16 y9 [e65.Name]).bind fun l69 =>
 some (.inl (l69, IntKind.i64.wrap (y10 + 1), xs_2))
 else
 some (.inr (.inr (((Zg.mk xs_2), y9, 0))))
def ZdU (y0 y1 : Zg) : Int × List Zc → Option ((Int × List Zc) ⊕ (Zg × (List ByteArray) × Int))
 | (y8, xs) =>
 bif decide (y8 < (y0.Items.length : Int)) then
 (gIdx y0.Items y8).bind fun e33 =>
 (ZbZ e33).bind fun r34 =>
 (gApp 72 xs [r34]).bind fun l36 =>
 some (.inl (IntKind.i64.wrap (y8 + 1), l36))
 else
 loop (Zbu y1) (([] : List ByteArray), 0, xs)
def Zj6 (y0 y1 : Zg) : Option (Zg × (List ByteArray) × Int) :=
 loop (ZdU y0 y1) (0, ([] : List Zc))
def Zh2 (y0 y1 : Zg) : Option (Zg × (List ByteArray) × Int) :=
 (Zea (Zg.mk y0.Items)).bind fun r13 =>
 bif !r13 then
 some (((Zg.mk ([] : List Zc)), ([] : List ByteArray), 1))
 else
 (Zea (Zg.mk y1.Items)).bind fun r16 =>
 bif !r16 then
 some (((Zg.mk ([] : List Zc)), ([] : List ByteArray), 1))
 else
 Zj6 y0 y1
def Z9 (n0 low1 high2 : Int) : Option Bool :=
 bif decide (n0 ≥ low1) then
 some (decide (n0 ≤ high2))
 else
 some (false)
def Zb0 (s0 : List (List Int)) (fn1 : (List Int) → Option Bool) : Int → Option ((Int) ⊕ (Int))
 | y8 =>
 bif decide (y8 < (s0.length : Int)) then
 (gIdx s0 y8).bind fun e14 =>
 (fn1 e14).bind fun r16 =>
 bif r16 then
 some (.inr (y8))
 else
 some (.inl (IntKind.i64.wrap (y8 + 1)))
 else
 some (.inr ((-1)))
def ZdS (s0 : List (List Int)) (fn1 : (List Int) → Option Bool) : Option Int :=
 loop (Zb0 s0 fn1) (0)
def Zfd (s0 : List (List Int)) (fn1 : (List Int) → Option Bool) : Option Bool :=
 (ZdS s0 fn1).bind fun r7 =>
 some (decide (r7 ≥ 0))
def ZR (list0 : List Int) : Option Int :=
 some ((list0.length : Int))
def ZbG (a0 : List Int) : Option (List Int) := gApp 8 [] a0
def ZfW (x0 : List Int) : Option (List Int) := if x0.length < 4611686018427387904 then some (sortI x0) else none
def Zeg (p0 r9 : List Int) : Int → Option ((Int) ⊕ (Bool))
 | y12 =>
 bif decide (y12 < (r9.length : Int)) then
 (gIdx r9 y12).bind fun e15 =>
 bif e15 != y12 then
 some (.inr (false))
 else
 some (.inl (IntKind.i64.wrap (y12 + 1)))
 else
 some (.inr (decide (((p0.length : Int) : Int) ≤ 32)))
def Zfo (p0 : List Int) : Option Bool :=
 (ZbG p0).bind fun r7 =>
 (ZfW r7).bind fun r9 =>
 loop (Zeg p0 r9) (0)
def ZjI (p0 : List Int) (y1 : Int) : Option Bool :=
 (ZR p0).bind fun r5 =>
 bif r5 != y1 then
 some (true)
 else
 (Zfo p0).bind fun r10 =>
 some (!r10)
def ZdM (degree0 : Int) (list1 : List (List Int)) : Option Bool :=
 (Zfd list1 (fun y0 => ZjI y0 degree0)).bind fun r7 =>
 some (!r7)
def Zdl (x0 : Int) : Option Bool :=
 some (x0 != x0)
def ZbW (x0 y1 : Int) : Option Int :=
 (Zdl x0).bind fun r8 =>
 (Zdl y1).bind fun r10 =>
 bif r8 then
 bif r10 then
 some (0)
 else
 some ((-1))
 else
 bif r10 then
 some (1)
 else
 bif decide (x0 < y1) then
 some ((-1))
 else
 bif decide (x0 > y1) then
 some (1)
 else
 some (0)
def ZbA (s0 s1 : List Int) : Int → Option ((Int) ⊕ (Int))
 | y11 =>
 bif decide (y11 < (s0.length : Int)) then
 (gIdx s0 y11).bind fun e14 =>
 bif decide (y11 ≥ (s1.length : Int)) then
 some (.inr (1))
 else
 (gIdx s1 y11).bind fun e22 =>
 (ZbW e14 e22).bind fun r26 =>
 bif r26 != 0 then
 some (.inr (r26))
 else
 some (.inl (IntKind.i64.wrap (y11 + 1)))
 else
 bif decide (((s0.length : Int) : Int) < (s1.length : Int)) then
 some (.inr ((-1)))
 else
 some (.inr (0))
def Zaz (s0 s1 : List Int) : Option Int :=
 loop (ZbA s0 s1) (0)
open Classical in
def ZhC (x0 : List (List Int)) (fn1 : (List Int) → (List Int) → Option Int) : Option (List (List Int)) := if (∀ a ∈ x0, ∀ c ∈ x0, fn1 a c = some (lexC a c)) ∧ x0.length < 4611686018427387904 then some (sortRows x0) else none
def Zd4 (l6 : List Int) : Int × List Int → Option ((Int × List Int) ⊕ (List Int))
 | (y9, xs) =>
 bif decide (y9 < (l6.length : Int)) then
 (gIdx xs y9).bind fun e15 =>
 some (.inl (IntKind.i64.wrap (y9 + 1), (xs.set y9.toNat y9)))
 else
 some (.inr (xs))
def ZhO (n0 : Int) : Option (List Int) :=
 (gMake 8 (0 : Int) n0 n0).bind fun l6 =>
 loop (Zd4 l6) (0, l6)
def ZeG (p0 : List Int) : Int × List Int → Option ((Int × List Int) ⊕ (ByteArray))
 | (y11, xs) =>
 bif decide (y11 < (p0.length : Int)) then
 (gIdx p0 y11).bind fun e14 =>
 (gIdx xs y11).bind fun e20 =>
 some (.inl (IntKind.i64.wrap (y11 + 1), (xs.set y11.toNat (IntKind.u8.wrap e14))))
 else
 (gByt xs).bind fun s23 =>
 some (.inr (s23))
def ZdX (p0 : List Int) : Option ByteArray :=
 (gMake 1 (0 : Int) (p0.length : Int) (p0.length : Int)).bind fun l8 =>
 loop (ZeG p0) (0, l8)
def ZeK (p0 q1 l9 : List Int) : Int × List Int → Option ((Int × List Int) ⊕ (List Int))
 | (y12, xs) =>
 bif decide (y12 < (l9.length : Int)) then
 (gIdx p0 y12).bind fun e20 =>
 (gIdx q1 e20).bind fun e22 =>
 (gIdx xs y12).bind fun e24 =>
 some (.inl (IntKind.i64.wrap (y12 + 1), (xs.set y12.toNat e22)))
 else
 some (.inr (xs))
def Zgg (p0 q1 : List Int) : Option (List Int) :=
 (gMake 8 (0 : Int) (p0.length : Int) (p0.length : Int)).bind fun l9 =>
 loop (ZeK p0 q1 l9) (0, l9)
def Zbe (genera1 : List (List Int)) (k8 : Int) : List (List Int) × Int × List (ByteArray × Bool) → Option ((List (List Int) × Int × List (ByteArray × Bool)) ⊕ ((List (List Int) × Int × List (ByteArray × Bool)) ⊕ ((List (List Int)) × Bool)))
 | (elemen6_2, y30, mp_2) =>
 bif decide (y30 < (genera1.length : Int)) then
 (gIdx genera1 y30).bind fun e32 =>
 (gIdx elemen6_2 k8).bind fun e36 =>
 (Zgg e36 e32).bind fun r39 =>
 (ZdX r39).bind fun r41 =>
 bif !(mpGet mp_2 r41 false) then
 (gApp 24 elemen6_2 [r39]).bind fun l51 =>
 some (.inl (l51, IntKind.i64.wrap (y30 + 1), (mpSet mp_2 r41 true)))
 else
 some (.inl (elemen6_2, IntKind.i64.wrap (y30 + 1), mp_2))
 else
 bif decide (((elemen6_2.length : Int) : Int) > 720) then
 some (.inr (.inr ((([] : List (List Int)), false))))
 else
 some (.inr (.inl (elemen6_2, IntKind.i64.wrap (k8 + 1), mp_2)))
def ZbR (genera1 : List (List Int)) : List (List Int) × Int × List (ByteArray × Bool) → Option ((List (List Int) × Int × List (ByteArray × Bool)) ⊕ ((List (List Int)) × Bool))
 | (elemen6, k8, mp) =>
 bif decide (k8 < (elemen6.length : Int)) then
 loop (Zbe genera1 k8) (elemen6, 0, mp)
 else
 (ZhC elemen6 (fun y0 y1 => Zaz y0 y1)).bind fun r57 =>
 some (.inr ((r57, true)))
def ZcS (degree0 : Int) (genera1 : List (List Int)) : Option ((List (List Int)) × Bool) :=
 (ZhO degree0).bind fun r14 =>
 (gIdx ([r14]) 0).bind fun e18 =>
 (ZdX e18).bind fun r20 =>
 loop (ZbR genera1) ([r14], 0, (mpSet ([] : List (ByteArray × Bool)) r20 true))
def ZcZ (x0 : List (List Int)) (target1 : List Int) (fn2 : (List Int) → (List Int) → Option Int) : Int × Int → Option ((Int × Int) ⊕ (Int × Bool))
 | (i9, j10) =>
 bif decide (i9 < j10) then
 (gNn 1).bind fun _ =>
 (gIdx x0 (IntKind.i64.wrap (Int.fdiv (IntKind.u64.wrap (IntKind.i64.wrap (i9 + j10))) (2 ^ min (1 : Int).toNat IntKind.u64.bits)))).bind fun e27 =>
 (fn2 e27 target1).bind fun r30 =>
 bif decide (r30 < 0) then
 some (.inl (IntKind.i64.wrap ((IntKind.i64.wrap (Int.fdiv (IntKind.u64.wrap (IntKind.i64.wrap (i9 + j10))) (2 ^ min (1 : Int).toNat IntKind.u64.bits))) + 1), j10))
 else
 some (.inl (i9, IntKind.i64.wrap (Int.fdiv (IntKind.u64.wrap (IntKind.i64.wrap (i9 + j10))) (2 ^ min (1 : Int).toNat IntKind.u64.bits))))
 else
 bif decide (i9 < (x0.length : Int)) then
 (gIdx x0 i9).bind fun e43 =>
 (fn2 e43 target1).bind fun r46 =>
 some (.inr ((i9, r46 == 0)))
 else
 some (.inr ((i9, false)))
def ZfX (x0 : List (List Int)) (target1 : List Int) (fn2 : (List Int) → (List Int) → Option Int) : Option (Int × Bool) :=
 loop (ZcZ x0 target1 fn2) (0, (x0.length : Int))
def Zg3 (degree0 : Int) (genera7 : List (List Int)) (y21 : Int) (e23 : List Int) : Option ((List (List Int) × List (List Int) × Bool × Int) ⊕ ((List (List Int)) × (List (List Int)) × Bool)) :=
 (gApp 24 genera7 [e23]).bind fun l39 =>
 (ZcS degree0 l39).bind fun r43 =>
 some (.inl (l39, r43.1, r43.2, IntKind.i64.wrap (y21 + 1)))
def Zav (degree0 : Int) (elemen1 : List (List Int)) : List (List Int) × List (List Int) × Bool × Int → Option ((List (List Int) × List (List Int) × Bool × Int) ⊕ ((List (List Int)) × (List (List Int)) × Bool))
 | (genera7, all8, ok9, y21) =>
 bif decide (y21 < (elemen1.length : Int)) then
 (gIdx elemen1 y21).bind fun e23 =>
 (ZfX all8 e23 (fun y0 y1 => Zaz y0 y1)).bind fun r28 =>
 bif r28.2 then
 some (.inl (genera7, all8, ok9, IntKind.i64.wrap (y21 + 1)))
 else
 bif !ok9 then
 some (.inl (genera7, all8, ok9, IntKind.i64.wrap (y21 + 1)))
 else
 Zg3 degree0 genera7 y21 e23
 else
 some (.inr ((genera7, all8, ok9)))
def Zgw (degree0 : Int) (elemen1 : List (List Int)) : Option ((List (List Int)) × (List (List Int)) × Bool) :=
 (ZcS degree0 ([] : List (List Int))).bind fun r16 =>
 loop (Zav degree0 elemen1) (([] : List (List Int)), r16.1, r16.2, 0)
def ZdH (y0 : ZaO) : Int → Option ((Int) ⊕ (Bool))
 | y3 =>
 bif decide (y3 < (y0.Elements.length : Int)) then
 (gIdx y0.Elements (IntKind.i64.wrap (y3 - 1))).bind fun e42 =>
 (gIdx y0.Elements y3).bind fun e47 =>
 (Zaz e42 e47).bind fun r49 =>
 bif decide (r49 ≥ 0) then
 some (.inr (false))
 else
 some (.inl (IntKind.i64.wrap (y3 + 1)))
 else
 (Zgw y0.Degree y0.Elements).bind fun r56 =>
 bif r56.2.2 then
 some (.inr (((r56.2.1.length : Int) : Int) == (y0.Elements.length : Int)))
 else
 some (.inr (false))
def Zi3 (y0 : ZaO) : Option (Bool) :=
 loop (ZdH y0) (1)
def ZgJ (y0 : ZaO) : Option Bool :=
 (Z9 y0.Degree 1 32).bind fun r9 =>
 bif !r9 then
 some (false)
 else
 bif decide (((y0.Elements.length : Int) : Int) < 1) then
 some (false)
 else
 bif decide (((y0.Elements.length : Int) : Int) > 720) then
 some (false)
 else
 (ZdM y0.Degree y0.Elements).bind fun r28 =>
 bif !r28 then
 some (false)
 else
 Zi3 y0
def ZcG (vals0 : List Int) : Int → Option ((Int) ⊕ (Int))
 | y8 =>
 bif decide (y8 < (vals0.length : Int)) then
 (gIdx vals0 y8).bind fun e10 =>
 bif e10 != 0 then
 some (.inr (e10))
 else
 some (.inl (IntKind.i64.wrap (y8 + 1)))
 else
 some (.inr (0))
def ZgY (vals0 : List Int) : Option Int :=
 loop (ZcG vals0) (0)
def Zgu (a0 b1 : ZN) : Option Int :=
 (ZbW a0.A b1.A).bind fun r9 =>
 (ZbW a0.B b1.B).bind fun r14 =>
 (ZgY ([r9, r14] : List Int)).bind fun r16 =>
 some (r16)
def ZdJ (s0 : List Int) (fn1 : Int → Option Bool) : Int → Option ((Int) ⊕ (Int))
 | y8 =>
 bif decide (y8 < (s0.length : Int)) then
 (gIdx s0 y8).bind fun e14 =>
 (fn1 e14).bind fun r16 =>
 bif r16 then
 some (.inr (y8))
 else
 some (.inl (IntKind.i64.wrap (y8 + 1)))
 else
 some (.inr ((-1)))
def ZfZ (s0 : List Int) (fn1 : Int → Option Bool) : Option Int :=
 loop (ZdJ s0 fn1) (0)
def ZaF (s0 : List Int) (fn1 : Int → Option Bool) : Option Bool :=
 (ZfZ s0 fn1).bind fun r7 =>
 some (decide (r7 ≥ 0))
def Ziy (n0 : Int) : Option Bool :=
 (Z9 n0 0 63).bind fun r4 =>
 some (r4)
def Ziq (n0 : Int) : Option Bool :=
 (Ziy n0).bind fun r4 =>
 some (!r4)
def ZgD (colors0 : List Int) : Option Bool :=
 bif decide (((colors0.length : Int) : Int) ≤ 64) then
 (ZaF colors0 (fun y0 => Ziq y0)).bind fun r8 =>
 some (!r8)
 else
 some (false)
def ZaY (g0 : Z6) : Int → Option ((Int) ⊕ (Bool))
 | y8 =>
 bif decide (y8 < (g0.Edges.length : Int)) then
 (gIdx g0.Edges y8).bind fun e11 =>
 bif decide (e11.A < 0) then
 some (.inr (false))
 else
 bif decide (e11.A ≥ e11.B) then
 some (.inr (false))
 else
 (ZR g0.Colors).bind fun r28 =>
 bif decide (e11.B ≥ r28) then
 some (.inr (false))
 else
 bif decide (y8 > 0) then
 (gIdx g0.Edges (IntKind.i64.wrap (y8 - 1))).bind fun e39 =>
 (Zgu e39 (ZN.mk e11.A e11.B)).bind fun r42 =>
 bif decide (r42 ≥ 0) then
 some (.inr (false))
 else
 some (.inl (IntKind.i64.wrap (y8 + 1)))
 else
 some (.inl (IntKind.i64.wrap (y8 + 1)))
 else
 (ZgD g0.Colors).bind fun r49 =>
 bif r49 then
 some (.inr (decide (((g0.Edges.length : Int) : Int) ≤ 512)))
 else
 some (.inr (false))
def Zgi (g0 : Z6) : Option Bool :=
 loop (ZaY g0) (0)
def ZbB (o0 : Zi) (l14 : List Int) : Int × List ZN → Option ((Int × List ZN) ⊕ (Z6 × Bool))
 | (y19, xs) =>
 bif decide (y19 < (o0.Rows.length : Int)) then
 (gIdx o0.Rows y19).bind fun e21 =>
 bif ((e21.length : Int) : Int) != 2 then
 some (.inr (((Z6.mk ([] : List Int) ([] : List ZN)), false)))
 else
 (gIdx e21 0).bind fun e30 =>
 (gIdx e21 1).bind fun e33 =>
 (gApp 16 xs [(ZN.mk e30 e33)]).bind fun l37 =>
 some (.inl (IntKind.i64.wrap (y19 + 1), l37))
 else
 (Zgi (Z6.mk l14 xs)).bind fun r42 =>
 some (.inr (((Z6.mk l14 xs), r42)))
def ZfC (o0 : Zi) : Option (Z6 × Bool) :=
 (Z9 o0.Size 0 64).bind fun r9 =>
 bif !r9 then
 some (((Z6.mk ([] : List Int) ([] : List ZN)), false))
 else
 (gMake 8 (0 : Int) o0.Size o0.Size).bind fun l14 =>
 loop (ZbB o0 l14) (0, ([] : List ZN))
def Zaa (list0 : List (List Int)) : Option Int :=
 some ((list0.length : Int))
def Zdn (a0 : List (List Int)) (y20 : Int) : List Int × Int → Option ((List Int × Int) ⊕ ((Int) ⊕ (Bool)))
 | (column5, y25) =>
 bif decide (y25 < (a0.length : Int)) then
 (gIdx a0 y25).bind fun e31 =>
 (gIdx e31 y20).bind fun e34 =>
 (gApp 8 column5 [e34]).bind fun l37 =>
 some (.inl (l37, IntKind.i64.wrap (y25 + 1)))
 else
 (Zfo column5).bind fun r40 =>
 bif !r40 then
 some (.inr (.inr (false)))
 else
 some (.inr (.inl (IntKind.i64.wrap (y20 + 1))))
def Zh3 (a0 : List (List Int)) : Int → Option ((Int) ⊕ (Bool))
 | y20 =>
 bif decide (y20 < (a0.length : Int)) then
 loop (Zdn a0 y20) (([] : List Int), 0)
 else
 some (.inr (true))
def ZiW (a0 : List (List Int)) : Option (Bool) :=
 loop (Zh3 a0) (0)
def Zh6 (a0 : List (List Int)) : Option Bool :=
 (Zaa a0).bind fun r8 =>
 (Z9 r8 1 10).bind fun r10 =>
 bif !r10 then
 some (false)
 else
 (ZdM r8 a0).bind fun r15 =>
 bif !r15 then
 some (false)
 else
 ZiW a0
def ZbT (set0 : List Int) (n1 : Int) : Int × Int → Option ((Int × Int) ⊕ (Bool))
 | (last5, y10) =>
 bif decide (y10 < (set0.length : Int)) then
 (gIdx set0 y10).bind fun e12 =>
 bif decide (e12 ≤ last5) then
 some (.inr (false))
 else
 bif decide (e12 ≥ n1) then
 some (.inr (false))
 else
 some (.inl (e12, IntKind.i64.wrap (y10 + 1)))
 else
 (Z9 n1 0 32).bind fun r25 =>
 some (.inr (r25))
def ZgL (set0 : List Int) (n1 : Int) : Option Bool :=
 loop (ZbT set0 n1) ((-1), 0)
def Zgz (block0 : List Int) (points1 : Int) : Option Bool :=
 bif decide (((block0.length : Int) : Int) > 0) then
 (ZgL block0 points1).bind fun r11 =>
 some (r11)
 else
 some (false)
def ZfU (b0 : List Int) (y1 : Int) : Option Bool :=
 (Zgz b0 y1).bind fun r6 =>
 some (!r6)
def Zit (blocks0 : List (List Int)) (points1 : Int) : Option Bool :=
 (Z9 points1 1 32).bind fun r6 =>
 bif r6 then
 (Zfd blocks0 (fun y0 => ZfU y0 points1)).bind fun r10 =>
 some (!r10)
 else
 some (false)
def Zc1 (x0 : List (List Int)) (fn1 : (List Int) → (List Int) → Option Int) : Int → Option ((Int) ⊕ (Bool))
 | i5 =>
 bif decide (i5 > 0) then
 (gIdx x0 i5).bind fun e16 =>
 (gIdx x0 (IntKind.i64.wrap (i5 - 1))).bind fun e21 =>
 (fn1 e16 e21).bind fun r23 =>
 bif decide (r23 < 0) then
 some (.inr (false))
 else
 some (.inl (IntKind.i64.wrap (i5 - 1)))
 else
 some (.inr (true))
def Zhf (x0 : List (List Int)) (fn1 : (List Int) → (List Int) → Option Int) : Option Bool :=
 loop (Zc1 x0 fn1) (IntKind.i64.wrap ((x0.length : Int) - 1))
def Zgk (d0 : Zbh) : Option Bool :=
 (Zit d0.Blocks d0.Points).bind fun r7 =>
 bif r7 then
 bif decide (((d0.Blocks.length : Int) : Int) ≤ 128) then
 (Zhf d0.Blocks (fun y0 y1 => Zaz y0 y1)).bind fun r17 =>
 some (r17)
 else
 some (false)
 else
 some (false)
def Zfc (lists0 : List (List Int)) : List (List Int) × Int → Option ((List (List Int) × Int) ⊕ (List (List Int)))
 | (out3, y8) =>
 bif decide (y8 < (lists0.length : Int)) then
 (gIdx lists0 y8).bind fun e10 =>
 (ZbG e10).bind fun r14 =>
 (gApp 24 out3 [r14]).bind fun l16 =>
 some (.inl (l16, IntKind.i64.wrap (y8 + 1)))
 else
 some (.inr (out3))
def Zbp (lists0 : List (List Int)) : Option (List (List Int)) :=
 loop (Zfc lists0) (([] : List (List Int)), 0)
def ZiT (o0 : Zi) : Option Zbh :=
 (Zbp o0.Rows).bind fun r7 =>
 some ((Zbh.mk o0.Size r7))
def Zh0 (x0 : Int) : Option Bool :=
 bif x0 != 1 then
 some (x0 != (-1))
 else
 some (false)
def ZcJ (e17 : List Int) (y31 : Int) (e33 : List Int) : Int × Int → Option ((Int × Int) ⊕ ((Int) ⊕ ((Int) ⊕ (Bool))))
 | (sum8, y37) =>
 bif decide (y37 < (e17.length : Int)) then
 (gIdx e17 y37).bind fun e43 =>
 (gIdx e33 y37).bind fun e47 =>
 some (.inl (IntKind.i64.wrap (sum8 + (IntKind.i64.wrap (e43 * e47))), IntKind.i64.wrap (y37 + 1)))
 else
 bif sum8 != 0 then
 some (.inr (.inr (.inr (false))))
 else
 some (.inr (.inl (IntKind.i64.wrap (y31 + 1))))
def Zd0 (y14 : Int) (e17 : List Int) (l29 : List (List Int)) : Int → Option ((Int) ⊕ ((Int) ⊕ (Bool)))
 | y31 =>
 bif decide (y31 < (l29.length : Int)) then
 (gIdx l29 y31).bind fun e33 =>
 loop (ZcJ e17 y31 e33) (0, 0)
 else
 some (.inr (.inl (IntKind.i64.wrap (y14 + 1))))
def ZfA (h0 : List (List Int)) (y14 : Int) (e17 : List Int) : Option ((Int) ⊕ (Bool)) :=
 (gSl h0 0 y14).bind fun l29 =>
 loop (Zd0 y14 e17 l29) (0)
def Zcx (h0 : List (List Int)) (r11 : Int) : Int → Option ((Int) ⊕ (Bool))
 | y14 =>
 bif decide (y14 < (h0.length : Int)) then
 (gIdx h0 y14).bind fun e17 =>
 (ZR e17).bind fun r20 =>
 bif r20 != r11 then
 some (.inr (false))
 else
 (ZaF e17 (fun y0 => Zh0 y0)).bind fun r25 =>
 bif r25 then
 some (.inr (false))
 else
 ZfA h0 y14 e17
 else
 (Z9 r11 1 32).bind fun r57 =>
 some (.inr (r57))
def ZgA (h0 : List (List Int)) : Option Bool :=
 (Zaa h0).bind fun r11 =>
 loop (Zcx h0 r11) (0)
def ZiG (levels0 column1 : Int) : Option Bool :=
 (Z9 levels0 2 16).bind fun r6 =>
 bif r6 then
 (Z9 column1 1 8).bind fun r9 =>
 some (r9)
 else
 some (false)
def Zhq (x0 : Int) (y1 : Zad) : Option Bool :=
 (Z9 x0 0 (IntKind.i64.wrap (y1.Levels - 1))).bind fun r8 =>
 some (!r8)
def Zej (a0 : Zad) : Int → Option ((Int) ⊕ (Bool))
 | y20 =>
 bif decide (y20 < (a0.Rows.length : Int)) then
 (gIdx a0.Rows y20).bind fun e22 =>
 (ZR e22).bind fun r25 =>
 bif r25 != a0.Columns then
 some (.inr (false))
 else
 (ZaF e22 (fun y0 => Zhq y0 (Zad.mk a0.Levels a0.Columns a0.Rows))).bind fun r32 =>
 bif r32 then
 some (.inr (false))
 else
 some (.inl (IntKind.i64.wrap (y20 + 1)))
 else
 some (.inr (true))
def ZjT (a0 : Zad) : Option (Bool) :=
 loop (Zej a0) (0)
def Zf0 (a0 : Zad) : Option Bool :=
 (ZiG a0.Levels a0.Columns).bind fun r9 =>
 bif !r9 then
 some (false)
 else
 bif decide (((a0.Rows.length : Int) : Int) > 256) then
 some (false)
 else
 ZjT a0
def Zh9 (o0 : Zi) : Option Zad :=
 (Zbp o0.Rows).bind fun r8 =>
 bif decide (((o0.Rows.length : Int) : Int) > 0) then
 (gIdx o0.Rows 0).bind fun e16 =>
 (ZR e16).bind fun r18 =>
 some ((Zad.mk o0.Size r18 r8))
 else
 some ((Zad.mk o0.Size 0 r8))
def Zfq (base0 e1_2 power7 : Int) : Option ((Int × Int) ⊕ (Int)) :=
 some (.inl (IntKind.i64.wrap (e1_2 - 1), IntKind.i64.wrap (power7 * base0)))
def Za0 (base0 limit2 : Int) : Int × Int → Option ((Int × Int) ⊕ (Int))
 | (e1_2, power7) =>
 bif decide (e1_2 > 0) then
 bif decide (power7 ≤ limit2) then
 Zfq base0 e1_2 power7
 else
 some (.inr (power7))
 else
 some (.inr (power7))
def Zbz (base0 e1 limit2 : Int) : Option Int :=
 loop (Za0 base0 limit2) (e1, 1)
def ZbP (f0 : Ze) : Option Int :=
 (Zbz f0.Prime f0.Degree 64).bind fun r7 =>
 some (r7)
def ZbI (base1 : Int) (l10 : List Int) : Int × Int × List Int → Option ((Int × Int × List Int) ⊕ (List Int))
 | (n0_2, y13, xs) =>
 bif decide (y13 < (l10.length : Int)) then
 (gNz base1).bind fun _ =>
 (gIdx xs y13).bind fun e21 =>
 (gNz base1).bind fun _ =>
 some (.inl (IntKind.i64.wrap (Int.tdiv n0_2 base1), IntKind.i64.wrap (y13 + 1), (xs.set y13.toNat (Int.tmod n0_2 base1))))
 else
 some (.inr (xs))
def ZaK (n0 base1 count2 : Int) : Option (List Int) :=
 (gMake 8 (0 : Int) count2 count2).bind fun l10 =>
 loop (ZbI base1 l10) (n0, 0, l10)
def ZcW (y1 : List Int) (y2 y9 e29 : Int) : Int × List Int → Option ((Int × List Int) ⊕ ((Int × List Int) ⊕ (List Int)))
 | (y33, xs_2) =>
 bif decide (y33 < (y1.length : Int)) then
 (gIdx y1 y33).bind fun e36 =>
 (gIdx xs_2 (IntKind.i64.wrap ((IntKind.i64.wrap (y9 - (IntKind.i64.wrap ((y1.length : Int) - 1)))) + y33))).bind fun e47 =>
 (gNz y2).bind fun _ =>
 (gNz y2).bind fun _ =>
 (gIdx xs_2 (IntKind.i64.wrap ((IntKind.i64.wrap (y9 - (IntKind.i64.wrap ((y1.length : Int) - 1)))) + y33))).bind fun e59 =>
 some (.inl (IntKind.i64.wrap (y33 + 1), (xs_2.set (IntKind.i64.wrap ((IntKind.i64.wrap (y9 - (IntKind.i64.wrap ((y1.length : Int) - 1)))) + y33) : Int).toNat (Int.tmod (IntKind.i64.wrap ((Int.tmod (IntKind.i64.wrap (e47 - (IntKind.i64.wrap (e29 * e36)))) y2) + y2)) y2))))
 else
 some (.inr (.inl (IntKind.i64.wrap (y9 - 1), xs_2)))
def Za7 (y1 : List Int) (y2 : Int) : Int × List Int → Option ((Int × List Int) ⊕ (List Int))
 | (y9, xs) =>
 bif decide (y9 ≥ (IntKind.i64.wrap ((y1.length : Int) - 1))) then
 (gIdx xs y9).bind fun e29 =>
 loop (ZcW y1 y2 y9 e29) (0, xs)
 else
 (gSl xs 0 (if ((xs.length : Int) : Int) < (IntKind.i64.wrap ((y1.length : Int) - 1)) then (xs.length : Int) else IntKind.i64.wrap ((y1.length : Int) - 1))).bind fun l66 =>
 some (.inr (l66))
def ZcB (y0 y1 : List Int) (y2 : Int) : Option (List Int) :=
 (ZbG y0).bind fun r15 =>
 loop (Za7 y1 y2) (IntKind.i64.wrap ((r15.length : Int) - 1), r15)
def ZfP (x0 : Int) : Option Bool :=
 some (x0 != 0)
def ZhX (list0 : List Int) : Option Bool :=
 (ZaF list0 (fun y0 => ZfP y0)).bind fun r4 =>
 some (!r4)
def Zjs (poly0 : List Int) (p1 d6 : Int) : Int → Option ((Int) ⊕ ((Int) ⊕ (Bool)))
 | n7 =>
 (Zbz p1 d6 64).bind fun r20 =>
 bif decide (n7 < r20) then
 (ZaK n7 p1 d6).bind fun r28 =>
 (gApp 8 r28 [1]).bind fun l30 =>
 (ZcB poly0 l30 p1).bind fun r32 =>
 (ZhX r32).bind fun r33 =>
 bif r33 then
 some (.inr (.inr (false)))
 else
 some (.inl (IntKind.i64.wrap (n7 + 1)))
 else
 some (.inr (.inl (IntKind.i64.wrap (d6 + 1))))
def ZiA (poly0 : List Int) (p1 r9 : Int) : Int → Option ((Int) ⊕ (Bool))
 | d6 =>
 bif decide ((IntKind.i64.wrap (2 * d6) : Int) ≤ (IntKind.i64.wrap (r9 - 1))) then
 loop (Zjs poly0 p1 d6) (0)
 else
 some (.inr (true))
def ZdV (poly0 : List Int) (p1 : Int) : Option Bool :=
 (ZR poly0).bind fun r9 =>
 loop (ZiA poly0 p1 r9) (1)
def Zcd (p4 : Int) : Int × List Int → Option ((Int × List Int) ⊕ ((Int × List Int × Int) ⊕ (List Int)))
 | (n0_3, factor3_2) =>
 (gNz p4).bind fun _ =>
 bif (Int.tmod n0_3 p4 : Int) == 0 then
 (gApp 8 factor3_2 [p4]).bind fun l22 =>
 (gNz p4).bind fun _ =>
 some (.inl (IntKind.i64.wrap (Int.tdiv n0_3 p4), l22))
 else
 some (.inr (.inl (n0_3, factor3_2, IntKind.i64.wrap (p4 + 1))))
def Zbb : Int × List Int × Int → Option ((Int × List Int × Int) ⊕ (List Int))
 | (n0_2, factor3, p4) =>
 bif decide ((IntKind.i64.wrap (p4 * p4) : Int) ≤ n0_2) then
 loop (Zcd p4) (n0_2, factor3)
 else
 bif decide (n0_2 > 1) then
 (gApp 8 factor3 [n0_2]).bind fun l31 =>
 some (.inr (l31))
 else
 some (.inr (factor3))
def ZbH (n0 : Int) : Option (List Int) :=
 (Z9 n0 1 1000000).bind fun r6 =>
 bif !r6 then
 some (([] : List Int))
 else
 loop (Zbb) (n0, ([] : List Int), 2)
def Zf2 (n0 : Int) : Option Bool :=
 (ZbH n0).bind fun r4 =>
 some (((r4.length : Int) : Int) == 1)
def Zj0 (f0 : Ze) : Int → Option ((Int) ⊕ (Bool))
 | y41 =>
 bif decide (y41 < (f0.Poly.length : Int)) then
 (gIdx f0.Poly y41).bind fun e43 =>
 (Z9 e43 0 (IntKind.i64.wrap (f0.Prime - 1))).bind fun r49 =>
 bif !r49 then
 some (.inr (false))
 else
 some (.inl (IntKind.i64.wrap (y41 + 1)))
 else
 (ZdV f0.Poly f0.Prime).bind fun r56 =>
 some (.inr (r56))
def ZhM (f0 : Ze) : Option (Bool) :=
 loop (Zj0 f0) (0)
def Zge (f0 : Ze) : Option (Bool) :=
 (ZR f0.Poly).bind fun r24 =>
 bif r24 != (IntKind.i64.wrap (f0.Degree + 1)) then
 some (false)
 else
 (gIdx f0.Poly f0.Degree).bind fun e34 =>
 bif e34 != 1 then
 some (false)
 else
 ZhM f0
def ZeP (f0 : Ze) : Option Bool :=
 (Zf2 f0.Prime).bind fun r7 =>
 bif !r7 then
 some (false)
 else
 bif decide (f0.Degree < 1) then
 some (false)
 else
 (Zbz f0.Prime f0.Degree 64).bind fun r19 =>
 bif decide (r19 > 64) then
 some (false)
 else
 Zge f0
def Zdp (x0 y1 : Int) : Option Bool :=
 (Z9 x0 0 (IntKind.i64.wrap (y1 - 1))).bind fun r7 =>
 some (!r7)
def Zh7 (q0 : Int) (list1 : List Int) : Option Bool :=
 (ZaF list1 (fun y0 => Zdp y0 q0)).bind fun r7 =>
 some (!r7)
def ZeO (row0 : List Int) (y1 : List (List Int)) (y2 : Int) : Option Bool :=
 (gIdx y1 0).bind fun e8 =>
 bif ((row0.length : Int) : Int) != (e8.length : Int) then
 some (true)
 else
 (Zh7 y2 row0).bind fun r15 =>
 some (!r15)
def Zjm (f0 : Ze) (m1 : List (List Int)) : Option (Bool) :=
 (ZbP (Ze.mk f0.Prime f0.Degree f0.Poly)).bind fun r24 =>
 (Zfd m1 (fun y0 => ZeO y0 m1 r24)).bind fun r27 =>
 some (!r27)
def ZhW (f0 : Ze) (m1 : List (List Int)) : Option Bool :=
 (ZeP (Ze.mk f0.Prime f0.Degree f0.Poly)).bind fun r7 =>
 bif !r7 then
 some (false)
 else
 (Zaa m1).bind fun r11 =>
 (Z9 r11 1 32).bind fun r12 =>
 bif !r12 then
 some (false)
 else
 (gIdx m1 0).bind fun e17 =>
 (ZR e17).bind fun r19 =>
 (Z9 r19 1 32).bind fun r20 =>
 bif !r20 then
 some (false)
 else
 Zjm f0 m1
def Zpj (digits0 : List Int) (base1 : Int) : Int × Int → Option ((Int × Int) ⊕ (Int))
 | (n5, k6) =>
 bif decide (k6 ≥ 0) then
 (gIdx digits0 k6).bind fun e19 =>
 some (.inl (IntKind.i64.wrap ((IntKind.i64.wrap (n5 * base1)) + e19), IntKind.i64.wrap (k6 - 1)))
 else
 some (.inr (n5))
def Zf4 (digits0 : List Int) (base1 : Int) : Option Int :=
 loop (Zpj digits0 base1) (0, IntKind.i64.wrap ((digits0.length : Int) - 1))
def Zd9 (f0 : Ze) (sign3 : Int) (r17 r23 : List Int) : Int × List Int → Option ((Int × List Int) ⊕ (Int))
 | (y26, xs) =>
 bif decide (y26 < (r17.length : Int)) then
 (gIdx xs y26).bind fun e33 =>
 (gIdx r23 y26).bind fun e38 =>
 (gNz f0.Prime).bind fun _ =>
 (gIdx xs y26).bind fun e48 =>
 some (.inl (IntKind.i64.wrap (y26 + 1), (xs.set y26.toNat (Int.tmod (IntKind.i64.wrap ((IntKind.i64.wrap (e33 + (IntKind.i64.wrap (sign3 * e38)))) + f0.Prime)) f0.Prime))))
 else
 (Zf4 xs f0.Prime).bind fun r53 =>
 some (.inr (r53))
def ZdY (f0 : Ze) (a1 b2 sign3 : Int) : Option Int :=
 (ZaK a1 f0.Prime f0.Degree).bind fun r17 =>
 (ZaK b2 f0.Prime f0.Degree).bind fun r23 =>
 loop (Zd9 f0 sign3 r17 r23) (0, r17)
def Zfy (y0 : Ze) (r17 r23 : List Int) (y30 : Int) : Int × List Int → Option ((Int × List Int) ⊕ ((Int × List Int) ⊕ (Int)))
 | (y35, xs_2) =>
 bif decide (y35 < (r23.length : Int)) then
 (gIdx xs_2 (IntKind.i64.wrap (y30 + y35))).bind fun e46 =>
 (gIdx r17 y30).bind fun e50 =>
 (gIdx r23 y35).bind fun e54 =>
 (gNz y0.Prime).bind fun _ =>
 (gIdx xs_2 (IntKind.i64.wrap (y30 + y35))).bind fun e61 =>
 some (.inl (IntKind.i64.wrap (y35 + 1), (xs_2.set (IntKind.i64.wrap (y30 + y35) : Int).toNat (Int.tmod (IntKind.i64.wrap (e46 + (IntKind.i64.wrap (e50 * e54)))) y0.Prime))))
 else
 some (.inr (.inl (IntKind.i64.wrap (y30 + 1), xs_2)))
def Zcs (y0 : Ze) (r17 r23 : List Int) : Int × List Int → Option ((Int × List Int) ⊕ (Int))
 | (y30, xs) =>
 bif decide (y30 < (r17.length : Int)) then
 loop (Zfy y0 r17 r23 y30) (0, xs)
 else
 (ZcB xs y0.Poly y0.Prime).bind fun r69 =>
 (Zf4 r69 y0.Prime).bind fun r72 =>
 some (.inr (r72))
def Zgo (y0 : Ze) (y1 y2 : Int) : Option Int :=
 (ZaK y1 y0.Prime y0.Degree).bind fun r17 =>
 (ZaK y2 y0.Prime y0.Degree).bind fun r23 =>
 (gMake 8 (0 : Int) (IntKind.i64.wrap (2 * y0.Degree)) (IntKind.i64.wrap (2 * y0.Degree))).bind fun l27 =>
 loop (Zcs y0 r17 r23) (0, l27)
def Zcl (y0 : Ze) (r10 y4 : Int) (xs xs_2 xs_3 : List (List Int)) : Int × List Int × List Int × List Int × List Int → Option ((Int × List Int × List Int × List Int × List Int) ⊕ ((Int × List (List Int) × List (List Int) × List (List Int) × List Int) ⊕ (Zak)))
 | (y8, xs_5, xs_6, xs_7, xs_8) =>
 bif decide (y8 < r10) then
 (ZdY (Ze.mk y0.Prime y0.Degree y0.Poly) y4 y8 1).bind fun r46 =>
 (ZdY (Ze.mk y0.Prime y0.Degree y0.Poly) y4 y8 (-1)).bind fun r50 =>
 (Zgo (Ze.mk y0.Prime y0.Degree y0.Poly) y4 y8).bind fun r54 =>
 (gIdx xs_6 y8).bind fun e55 =>
 (gIdx xs_7 y8).bind fun e56 =>
 (gIdx xs_8 y8).bind fun e57 =>
 (gIdx (xs_8.set y8.toNat r54) y8).bind fun e60 =>
 bif e60 == 1 then
 (gIdx xs_5 y4).bind fun e67 =>
 some (.inl (IntKind.i64.wrap (y8 + 1), (xs_5.set y4.toNat y8), (xs_6.set y8.toNat r46), (xs_7.set y8.toNat r50), (xs_8.set y8.toNat r54)))
 else
 some (.inl (IntKind.i64.wrap (y8 + 1), xs_5, (xs_6.set y8.toNat r46), (xs_7.set y8.toNat r50), (xs_8.set y8.toNat r54)))
 else
 (gApp 24 xs [xs_6]).bind fun l72 =>
 (gApp 24 xs_2 [xs_7]).bind fun l77 =>
 (gApp 24 xs_3 [xs_8]).bind fun l82 =>
 some (.inr (.inl (IntKind.i64.wrap (y4 + 1), l72, l77, l82, xs_5)))
def Zeh (y0 : Ze) (r10 : Int) : Int × List (List Int) × List (List Int) × List (List Int) × List Int → Option ((Int × List (List Int) × List (List Int) × List (List Int) × List Int) ⊕ (Zak))
 | (y4, xs, xs_2, xs_3, xs_4) =>
 bif decide (y4 < r10) then
 (gMake 8 (0 : Int) r10 r10).bind fun l24 =>
 (gMake 8 (0 : Int) r10 r10).bind fun l27 =>
 (gMake 8 (0 : Int) r10 r10).bind fun l30 =>
 loop (Zcl y0 r10 y4 xs xs_2 xs_3) (0, xs_4, l24, l27, l30)
 else
 some (.inr ((Zak.mk r10 xs xs_2 xs_3 xs_4)))
def ZhZ (y0 : Ze) : Option Zak :=
 (ZbP (Ze.mk y0.Prime y0.Degree y0.Poly)).bind fun r10 =>
 (gMake 8 (0 : Int) r10 r10).bind fun l14 =>
 loop (Zeh y0 r10) (0, ([] : List (List Int)), ([] : List (List Int)), ([] : List (List Int)), l14)
def ZdI (row0 : List Int) (y1 : Int) : Option Bool :=
 (gIdx row0 y1).bind fun e6 =>
 some (e6 != 0)
def ZeS (t0 : Zak) (row2 : List Int) (factor3 : Int) : Int × List Int → Option ((Int × List Int) ⊕ (List Int))
 | (y12, xs) =>
 bif decide (y12 < (row2.length : Int)) then
 (gIdx row2 y12).bind fun e15 =>
 (gIdx xs y12).bind fun e23 =>
 (gIdx t0.qadd e23).bind fun e25 =>
 (gIdx t0.qmul factor3).bind fun e30 =>
 (gIdx e30 e15).bind fun e33 =>
 (gIdx e25 e33).bind fun e35 =>
 (gIdx xs y12).bind fun e37 =>
 some (.inl (IntKind.i64.wrap (y12 + 1), (xs.set y12.toNat e35)))
 else
 some (.inr (xs))
def ZfG (t0 : Zak) (to1 row2 : List Int) (factor3 : Int) : Option (List Int) :=
 loop (ZeS t0 row2 factor3) (0, to1)
def Zc0 (y8 : List Int) (y9 : Int) (xs : List (List Int)) : Option ((List (List Int)) × (List Int) × Int) :=
 (gSl xs 0 (y8.length : Int)).bind fun l161 =>
 some ((l161, y8, y9))
def ZeH (y10 : Int) (y8_3 : List Int) (y9_3 : Int) (xs_3 : List (List Int)) : Option ((List Int × Int × Int × List (List Int)) ⊕ ((List (List Int)) × (List Int) × Int)) :=
 some (.inl (y8_3, y9_3, IntKind.i64.wrap (y10 + 1), xs_3))
def Zdh (y0 : Zak) (y8_2 : List Int) (y10 y115 : Int) (xs_6 : List (List Int)) (e118 : List Int) (y129 : Bool) : Option ((Int × List (List Int)) ⊕ ((Int × List (List Int)) ⊕ ((List Int × Int × Int × List (List Int)) ⊕ ((List (List Int)) × (List Int) × Int)))) :=
 bif y129 then
 (gIdx xs_6 (y8_2.length : Int)).bind fun e134 =>
 (gIdx y0.qsub 0).bind fun e138 =>
 (gIdx e118 y10).bind fun e142 =>
 (gIdx e138 e142).bind fun e144 =>
 (gNe y115 (y8_2.length : Int)).bind fun ne146 =>
 (ZfG (Zak.mk y0.qq y0.qadd y0.qsub y0.qmul y0.qinv) e118 e134 e144).bind fun r146 =>
 some (.inl (IntKind.i64.wrap (y115 + 1), (xs_6.set y115.toNat r146)))
 else
 some (.inl (IntKind.i64.wrap (y115 + 1), xs_6))
def Zbg (y0 : Zak) (y8_2 : List Int) (y10 e82 : Int) (xs_5 : List (List Int)) : Int × List (List Int) → Option ((Int × List (List Int)) ⊕ ((Int × List (List Int)) ⊕ ((List Int × Int × Int × List (List Int)) ⊕ ((List (List Int)) × (List Int) × Int))))
 | (y115, xs_6) =>
 bif decide (y115 < (xs_5.length : Int)) then
 (gIdx xs_6 y115).bind fun e118 =>
 bif y115 != (y8_2.length : Int) then
 (gIdx e118 y10).bind fun e126 =>
 Zdh y0 y8_2 y10 y115 xs_6 e118 (e126 != 0)
 else
 Zdh y0 y8_2 y10 y115 xs_6 e118 false
 else
 (gApp 8 y8_2 [y10]).bind fun l151 =>
 bif ((l151.length : Int) : Int) == (xs_6.length : Int) then
 (Zc0 l151 e82 xs_6).map fun x => .inr (.inr (.inr (x)))
 else
 (ZeH y10 l151 e82 xs_6).map fun x => .inr (.inr (x))
def Zfl (y0 : Zak) (y8_2 : List Int) (y10 e74 e82 : Int) (e86 : List Int) : Int × List (List Int) → Option ((Int × List (List Int)) ⊕ ((List Int × Int × Int × List (List Int)) ⊕ ((List (List Int)) × (List Int) × Int)))
 | (y89, xs_5) =>
 bif decide (y89 < (e86.length : Int)) then
 (gIdx xs_5 (y8_2.length : Int)).bind fun e =>
 (gIdx e y89).bind fun e92 =>
 (gIdx xs_5 (y8_2.length : Int)).bind fun e96 =>
 (gIdx y0.qinv e74).bind fun e104 =>
 (gIdx y0.qmul e104).bind fun e106 =>
 (gIdx e106 e92).bind fun e109 =>
 (gIdx e96 y89).bind fun e111 =>
 some (.inl (IntKind.i64.wrap (y89 + 1), (xs_5.set ((y8_2.length : Int) : Int).toNat (e96.set y89.toNat e109))))
 else
 loop (Zbg y0 y8_2 y10 e82 xs_5) (0, xs_5)
def Ze2 (y0 : Zak) (y8_2 : List Int) (y10 y9_4 : Int) (xs_4 : List (List Int)) : Option ((List Int × Int × Int × List (List Int)) ⊕ ((List (List Int)) × (List Int) × Int)) :=
 (gIdx xs_4 (y8_2.length : Int)).bind fun e71 =>
 (gIdx e71 y10).bind fun e74 =>
 (gIdx y0.qmul y9_4).bind fun e79 =>
 (gIdx e79 e74).bind fun e82 =>
 (gIdx xs_4 (y8_2.length : Int)).bind fun e86 =>
 loop (Zfl y0 y8_2 y10 e74 e82 e86) (0, xs_4)
def Zfb (y0 : Zak) (y8_2 : List Int) (y9_2 y10 : Int) (xs_2 : List (List Int)) : Option ((List Int × Int × Int × List (List Int)) ⊕ ((List (List Int)) × (List Int) × Int)) :=
 (gSl xs_2 (y8_2.length : Int) (xs_2.length : Int)).bind fun l37 =>
 (ZdS l37 (fun y0 => ZdI y0 y10)).bind fun r39 =>
 bif decide (r39 < 0) then
 ZeH y10 y8_2 0 xs_2
 else
 bif decide (r39 > 0) then
 (gIdx xs_2 (IntKind.i64.wrap ((y8_2.length : Int) + r39))).bind fun e54 =>
 (gIdx xs_2 (y8_2.length : Int)).bind fun e58 =>
 (gIdx xs_2 (y8_2.length : Int)).bind fun e60 =>
 (gIdx (xs_2.set ((y8_2.length : Int) : Int).toNat e54) (IntKind.i64.wrap ((y8_2.length : Int) + r39))).bind fun e61 =>
 (gIdx y0.qsub 0).bind fun e64 =>
 (gIdx e64 y9_2).bind fun e67 =>
 Ze2 y0 y8_2 y10 e67 ((xs_2.set ((y8_2.length : Int) : Int).toNat e54).set (IntKind.i64.wrap ((y8_2.length : Int) + r39) : Int).toNat e58)
 else
 Ze2 y0 y8_2 y10 y9_2 xs_2
def Zbm (y0 : Zak) : List Int × Int × Int × List (List Int) → Option ((List Int × Int × Int × List (List Int)) ⊕ ((List (List Int)) × (List Int) × Int))
 | (y8_2, y9_2, y10, xs_2) =>
 bif decide (((xs_2.length : Int) : Int) > 0) then
 (gIdx xs_2 0).bind fun e26 =>
 bif decide (y10 < (e26.length : Int)) then
 Zfb y0 y8_2 y9_2 y10 xs_2
 else
 (Zc0 y8_2 y9_2 xs_2).map fun x => .inr (x)
 else
 (Zc0 y8_2 y9_2 xs_2).map fun x => .inr (x)
def ZhH (y0 : Zak) (y1 : List (List Int)) : Option ((List (List Int)) × (List Int) × Int) :=
 (Zbp y1).bind fun r19 =>
 loop (Zbm y0) (([] : List Int), 1, 0, r19)
def Zhg (s0 s1 : List Int) : Int → Option ((Int) ⊕ (Bool))
 | y13 =>
 bif decide (y13 < (s0.length : Int)) then
 (gIdx s0 y13).bind fun e18 =>
 (gIdx s1 y13).bind fun e22 =>
 bif e18 != e22 then
 some (.inr (false))
 else
 some (.inl (IntKind.i64.wrap (y13 + 1)))
 else
 some (.inr (true))
def Zhm (s0 s1 : List Int) : Option Bool :=
 bif ((s0.length : Int) : Int) != (s1.length : Int) then
 some (false)
 else
 loop (Zhg s0 s1) (0)
def ZfR (s0 s1 : List (List Int)) (fn2 : (List Int) → (List Int) → Option Bool) : Int → Option ((Int) ⊕ (Bool))
 | y17 =>
 bif decide (y17 < (s0.length : Int)) then
 (gIdx s0 y17).bind fun e20 =>
 (gIdx s1 y17).bind fun e24 =>
 (fn2 e20 e24).bind fun r29 =>
 bif !r29 then
 some (.inr (false))
 else
 some (.inl (IntKind.i64.wrap (y17 + 1)))
 else
 some (.inr (true))
def Zjd (s0 s1 : List (List Int)) (fn2 : (List Int) → (List Int) → Option Bool) : Option Bool :=
 bif ((s0.length : Int) : Int) != (s1.length : Int) then
 some (false)
 else
 loop (ZfR s0 s1 fn2) (0)
def Zha (a0 b1 : List (List Int)) : Option Bool :=
 (Zjd a0 b1 (fun y0 y1 => Zhm y0 y1)).bind fun r7 =>
 some (r7)
def Zjb (c0 : Za8) : Option (Bool) :=
 (ZhZ (Ze.mk c0.Field.Prime c0.Field.Degree c0.Field.Poly)).bind fun r31 =>
 (ZhH r31 c0.Rows).bind fun r34 =>
 (Zha r34.1 c0.Rows).bind fun r41 =>
 some (r41)
def Zd3 (c0 : Za8) : Option Bool :=
 (ZhW (Ze.mk c0.Field.Prime c0.Field.Degree c0.Field.Poly) c0.Rows).bind fun r10 =>
 bif !r10 then
 some (false)
 else
 bif decide (((c0.Rows.length : Int) : Int) > 8) then
 some (false)
 else
 (ZbP (Ze.mk c0.Field.Prime c0.Field.Degree c0.Field.Poly)).bind fun r21 =>
 (Zaa c0.Rows).bind fun r24 =>
 (Zbz r21 r24 4096).bind fun r25 =>
 bif decide (r25 > 4096) then
 some (false)
 else
 Zjb c0
def Zbf (r8 : List Int) : Int → Option ((Int) ⊕ (Int × Int))
 | y11 =>
 bif decide (y11 < (r8.length : Int)) then
 (gIdx r8 y11).bind fun e13 =>
 (gIdx r8 0).bind fun e17 =>
 bif e13 != e17 then
 some (.inr ((0, 0)))
 else
 some (.inl (IntKind.i64.wrap (y11 + 1)))
 else
 bif ((r8.length : Int) : Int) == 0 then
 some (.inr ((0, 0)))
 else
 (ZR r8).bind fun r28 =>
 (gIdx r8 0).bind fun e25 =>
 some (.inr ((e25, r28)))
def ZbQ (n0 : Int) : Option (Int × Int) :=
 (ZbH n0).bind fun r8 =>
 loop (Zbf r8) (0)
def Zip (r9 : Int × Int) : Int → Option ((Int) ⊕ (Ze × Int))
 | n6 =>
 (ZaK n6 r9.1 r9.2).bind fun r22 =>
 (gApp 8 r22 [1]).bind fun l24 =>
 (ZdV l24 r9.1).bind fun r26 =>
 bif !r26 then
 some (.inl (IntKind.i64.wrap (n6 + 1)))
 else
 (ZaK n6 r9.1 r9.2).bind fun r35 =>
 (gApp 8 r35 [1]).bind fun l37 =>
 some (.inr (((Ze.mk r9.1 r9.2 l37), 0)))
def ZhB (r9 : Int × Int) : Option (Ze × Int) :=
 loop (Zip r9) (0)
def Zbv (q0 : Int) : Option (Ze × Int) :=
 (ZbQ q0).bind fun r9 =>
 bif r9.1 == 0 then
 some (((Ze.mk 0 0 ([] : List Int)), 2))
 else
 bif decide (q0 > 64) then
 some (((Ze.mk 0 0 ([] : List Int)), 2))
 else
 ZhB r9
def ZgU (o0 : Zi) : Option Za8 :=
 (Zbv o0.Size).bind fun r8 =>
 (Zbp o0.Rows).bind fun r14 =>
 some ((Za8.mk (Ze.mk r8.1.Prime r8.1.Degree r8.1.Poly) r14))
def Zi0 (o0 : Zi) : Option ZaO :=
 (Zbp o0.Rows).bind fun r7 =>
 some ((ZaO.mk o0.Size r7))
def Zes (y0 : Zi) : Option Bool :=
 bif y0.Kind == 1 then
 (Zaa y0.Rows).bind fun r11 =>
 bif r11 == y0.Size then
 (Zh6 y0.Rows).bind fun r18 =>
 some (r18)
 else
 some (false)
 else
 bif y0.Kind == 2 then
 (ZiT (Zi.mk y0.Kind y0.Size y0.Rows)).bind fun r23 =>
 (Zgk r23).bind fun r24 =>
 some (r24)
 else
 bif y0.Kind == 3 then
 (Zaa y0.Rows).bind fun r29 =>
 bif r29 == y0.Size then
 (ZgA y0.Rows).bind fun r36 =>
 some (r36)
 else
 some (false)
 else
 bif y0.Kind == 4 then
 bif decide (((y0.Rows.length : Int) : Int) > 0) then
 (Zh9 (Zi.mk y0.Kind y0.Size y0.Rows)).bind fun r46 =>
 (Zf0 r46).bind fun r47 =>
 some (r47)
 else
 some (false)
 else
 bif y0.Kind == 5 then
 (ZgU (Zi.mk y0.Kind y0.Size y0.Rows)).bind fun r52 =>
 (Zd3 r52).bind fun r53 =>
 some (r53)
 else
 bif y0.Kind == 6 then
 (ZfC (Zi.mk y0.Kind y0.Size y0.Rows)).bind fun r58 =>
 some (r58.2)
 else
 bif y0.Kind == 7 then
 (Zi0 (Zi.mk y0.Kind y0.Size y0.Rows)).bind fun r65 =>
 (ZgJ r65).bind fun r66 =>
 some (r66)
 else
 some (false)
def ZaN (y18 : Int) (letter5 digit6 : Bool) : Option ((Int) ⊕ (Bool)) :=
 bif !letter5 then
 bif y18 == 0 then
 some (.inr (false))
 else
 bif !digit6 then
 some (.inr (false))
 else
 some (.inl (IntKind.i64.wrap (y18 + 1)))
 else
 some (.inl (IntKind.i64.wrap (y18 + 1)))
def ZaQ (y18 e21 : Int) (letter5 : Bool) : Option ((Int) ⊕ (Bool)) :=
 bif decide (e21 ≥ 48) then
 ZaN y18 letter5 (decide (e21 ≤ 57))
 else
 ZaN y18 letter5 false
def Za1 (s0 : ByteArray) : Int → Option ((Int) ⊕ (Bool))
 | y18 =>
 bif decide (y18 < ((byts s0).length : Int)) then
 (gIdx (byts s0) y18).bind fun e21 =>
 bif decide (e21 ≥ 97) then
 ZaQ y18 e21 (decide (e21 ≤ 122))
 else
 ZaQ y18 e21 false
 else
 some (.inr (true))
def ZjR (s0 : ByteArray) : Option (Bool) :=
 loop (Za1 s0) (0)
def Zhw (s0 : ByteArray) : Option Bool :=
 bif decide (((s0.size : Int) : Int) < 1) then
 some (false)
 else
 bif decide (((s0.size : Int) : Int) > 10) then
 some (false)
 else
 ZjR s0
def ZgX (x0 : Zc) : Option Bool :=
 (Zhw x0.Name).bind fun r5 =>
 bif r5 then
 (Zes (Zi.mk x0.Object.Kind x0.Object.Size x0.Object.Rows)).bind fun r9 =>
 bif r9 then
 bif decide (((x0.Key.size : Int) : Int) ≥ 1) then
 some (decide (((x0.Key.size : Int) : Int) ≤ 4000))
 else
 some (false)
 else
 some (false)
 else
 some (false)
def Zek (s0 : List Zc) (fn1 : Zc → Option Bool) : Int → Option ((Int) ⊕ (Int))
 | y8 =>
 bif decide (y8 < (s0.length : Int)) then
 (gIdx s0 y8).bind fun e14 =>
 (fn1 e14).bind fun r16 =>
 bif r16 then
 some (.inr (y8))
 else
 some (.inl (IntKind.i64.wrap (y8 + 1)))
 else
 some (.inr ((-1)))
def Zin (s0 : List Zc) (fn1 : Zc → Option Bool) : Option Int :=
 loop (Zek s0 fn1) (0)
def ZiZ (x0 y1 : Zc) : Option Bool :=
 bif x0.Object.Kind == y1.Object.Kind then
 some (x0.Key.toList == y1.Key.toList)
 else
 some (false)
def Zdu (y0 y1 : Zc) : Option Bool :=
 (ZiZ y1 (Zc.mk y0.Name (Zi.mk y0.Object.Kind y0.Object.Size y0.Object.Rows) y0.Key)).bind fun r6 =>
 some (r6)
def ZcR (items0 : List Zc) (x1 : Zc) : Option Int :=
 (Zin items0 (fun y0 => Zdu y0 (Zc.mk x1.Name (Zi.mk x1.Object.Kind x1.Object.Size x1.Object.Rows) x1.Key))).bind fun r7 =>
 some (r7)
def Zbt (c0 : Zg) : Int → Option ((Int) ⊕ (Bool))
 | y8 =>
 bif decide (y8 < (c0.Items.length : Int)) then
 (gIdx c0.Items y8).bind fun e11 =>
 (ZgX (Zc.mk e11.Name (Zi.mk e11.Object.Kind e11.Object.Size e11.Object.Rows) e11.Key)).bind fun r14 =>
 bif !r14 then
 some (.inr (false))
 else
 bif decide (y8 > 0) then
 (gIdx c0.Items (IntKind.i64.wrap (y8 - 1))).bind fun e26 =>
 bif Op.bytesLess (e11.Name.toList) (e26.Name.toList) || e11.Name.toList == e26.Name.toList then
 some (.inr (false))
 else
 (gSl c0.Items 0 y8).bind fun l36 =>
 (ZcR l36 (Zc.mk e11.Name (Zi.mk e11.Object.Kind e11.Object.Size e11.Object.Rows) e11.Key)).bind fun r38 =>
 bif decide (r38 ≥ 0) then
 some (.inr (false))
 else
 some (.inl (IntKind.i64.wrap (y8 + 1)))
 else
 (gSl c0.Items 0 y8).bind fun l36_2 =>
 (ZcR l36_2 (Zc.mk e11.Name (Zi.mk e11.Object.Kind e11.Object.Size e11.Object.Rows) e11.Key)).bind fun r38_2 =>
 bif decide (r38_2 ≥ 0) then
 some (.inr (false))
 else
 some (.inl (IntKind.i64.wrap (y8 + 1)))
 else
 some (.inr (decide (((c0.Items.length : Int) : Int) ≤ 24)))
def Zex (c0 : Zg) : Option Bool :=
 loop (Zbt c0) (0)
def ZcA (x0 : List Zc) (target1 : ByteArray) (fn2 : Zc → ByteArray → Option Int) : Int × Int → Option ((Int × Int) ⊕ (Int × Bool))
 | (i9, j10) =>
 bif decide (i9 < j10) then
 (gNn 1).bind fun _ =>
 (gIdx x0 (IntKind.i64.wrap (Int.fdiv (IntKind.u64.wrap (IntKind.i64.wrap (i9 + j10))) (2 ^ min (1 : Int).toNat IntKind.u64.bits)))).bind fun e27 =>
 (fn2 e27 target1).bind fun r30 =>
 bif decide (r30 < 0) then
 some (.inl (IntKind.i64.wrap ((IntKind.i64.wrap (Int.fdiv (IntKind.u64.wrap (IntKind.i64.wrap (i9 + j10))) (2 ^ min (1 : Int).toNat IntKind.u64.bits))) + 1), j10))
 else
 some (.inl (i9, IntKind.i64.wrap (Int.fdiv (IntKind.u64.wrap (IntKind.i64.wrap (i9 + j10))) (2 ^ min (1 : Int).toNat IntKind.u64.bits))))
 else
 bif decide (i9 < (x0.length : Int)) then
 (gIdx x0 i9).bind fun e43 =>
 (fn2 e43 target1).bind fun r46 =>
 some (.inr ((i9, r46 == 0)))
 else
 some (.inr ((i9, false)))
def Ziv (x0 : List Zc) (target1 : ByteArray) (fn2 : Zc → ByteArray → Option Int) : Option (Int × Bool) :=
 loop (ZcA x0 target1 fn2) (0, (x0.length : Int))
def ZeA (x0 : ByteArray) : Option Bool :=
 some (!(x0.toList == x0.toList))
def Zj4 (x0 y1 : ByteArray) : Option Int :=
 (ZeA x0).bind fun r8 =>
 (ZeA y1).bind fun r10 =>
 bif r8 then
 bif r10 then
 some (0)
 else
 some ((-1))
 else
 bif r10 then
 some (1)
 else
 bif Op.bytesLess (x0.toList) (y1.toList) then
 some ((-1))
 else
 bif !(Op.bytesLess (x0.toList) (y1.toList) || x0.toList == y1.toList) then
 some (1)
 else
 some (0)
def ZcU (x0 : Zc) (name1 : ByteArray) : Option Int :=
 (Zj4 x0.Name name1).bind fun r8 =>
 some (r8)
def Zep (c0 : Zg) (name1 : ByteArray) : Option (Int × Bool) :=
 (Ziv c0.Items name1 (fun y0 y1 => ZcU y0 y1)).bind fun r9 =>
 some ((r9.1, r9.2))
def ZiE (o0 : Zi) : Option Zi :=
 (Zbp o0.Rows).bind fun r5 =>
 some ((Zi.mk o0.Kind o0.Size r5))
def Zfm (x0 : Zc) : Option Zc :=
 (ZiE (Zi.mk x0.Object.Kind x0.Object.Size x0.Object.Rows)).bind fun r5 =>
 some ((Zc.mk x0.Name (Zi.mk r5.Kind r5.Size r5.Rows) x0.Key))
def Zef (c0 : Zg) : Int × List Zc → Option ((Int × List Zc) ⊕ (Zg))
 | (y9, xs) =>
 bif decide (y9 < (c0.Items.length : Int)) then
 (gIdx c0.Items y9).bind fun e11 =>
 (Zfm (Zc.mk e11.Name (Zi.mk e11.Object.Kind e11.Object.Size e11.Object.Rows) e11.Key)).bind fun r16 =>
 (gApp 72 xs [r16]).bind fun l18 =>
 some (.inl (IntKind.i64.wrap (y9 + 1), l18))
 else
 some (.inr ((Zg.mk xs)))
def Zfw (c0 : Zg) : Option Zg :=
 loop (Zef c0) (0, ([] : List Zc))
def Zf9 (x0 : List Zc) (i1 : Int) (y2 : Zc) : Option (List Zc) := if 0 ≤ i1 ∧ i1 ≤ x0.length ∧ (x0.length + 1) * 72 ≤ 140737488355328 ∧ x0.length + 1 ≤ 4611686018427387904 then some (x0.take i1.toNat ++ [y2] ++ x0.drop i1.toNat) else none
def Zjw (y27 : Int) (xs : List Zc) (e29 : Zc) (r35 : Int × Bool) (y8_2 : List ByteArray) : Option ((List ByteArray × Int × List Zc) ⊕ (Zg × (List ByteArray) × Int)) :=
 (Zfm (Zc.mk e29.Name (Zi.mk e29.Object.Kind e29.Object.Size e29.Object.Rows) e29.Key)).bind fun r55 =>
 (Zf9 xs r35.1 r55).bind fun r57 =>
 some (.inl (y8_2, IntKind.i64.wrap (y27 + 1), r57))
def ZdC (y8 : List ByteArray) (y27 : Int) (xs : List Zc) (e29 : Zc) (r35 : Int × Bool) (y45 : Bool) : Option ((List ByteArray × Int × List Zc) ⊕ (Zg × (List ByteArray) × Int)) :=
 bif y45 then
 (gApp 16 y8 [e29.Name]).bind fun l50 =>
 some (.inl (l50, IntKind.i64.wrap (y27 + 1), xs))
 else
 Zjw y27 xs e29 r35 y8
def Za2 (y1 : Zg) : List ByteArray × Int × List Zc → Option ((List ByteArray × Int × List Zc) ⊕ (Zg × (List ByteArray) × Int))
 | (y8, y27, xs) =>
 bif decide (y27 < (y1.Items.length : Int)) then
 (gIdx y1.Items y27).bind fun e29 =>
 (Zep (Zg.mk xs) e29.Name).bind fun r35 =>
 bif r35.2 then
 ZdC y8 y27 xs e29 r35 true
 else
 (ZcR xs (Zc.mk e29.Name (Zi.mk e29.Object.Kind e29.Object.Size e29.Object.Rows) e29.Key)).bind fun r43 =>
 ZdC y8 y27 xs e29 r35 (decide (r43 ≥ 0))
 else
 bif decide (((xs.length : Int) : Int) > 24) then
 some (.inr (((Zg.mk ([] : List Zc)), ([] : List ByteArray), 5)))
 else
 some (.inr (((Zg.mk xs), y8, 0)))
def Zic (y0 y1 : Zg) : Option (Zg × (List ByteArray) × Int) :=
 (Zfw (Zg.mk y0.Items)).bind fun r23 =>
 loop (Za2 y1) (([] : List ByteArray), 0, r23.Items)
def ZeJ (y0 y1 : Zg) : Option (Zg × (List ByteArray) × Int) :=
 (Zex (Zg.mk y0.Items)).bind fun r14 =>
 bif !r14 then
 some (((Zg.mk ([] : List Zc)), ([] : List ByteArray), 1))
 else
 (Zex (Zg.mk y1.Items)).bind fun r18 =>
 bif !r18 then
 some (((Zg.mk ([] : List Zc)), ([] : List ByteArray), 1))
 else
 Zic y0 y1
def ZhN (r102 : Int × Zg) (r105 : Int × (List ByteArray)) : Option (Bool) :=
 (Zen (Zg.mk r102.2.Items) 1).bind fun r145 =>
 bif decide (r145 < 0) then
 some (false)
 else
 (ZeV r105.2 r145).bind fun r150 =>
 bif decide (r150 < 0) then
 some (false)
 else
 bif r150 != r105.1 then
 some (false)
 else
 some (true)
def Zfu (y0 y1 : ZU) (r35 r46 : Zg × (List ByteArray) × Int) : Option (Bool) :=
 (ZbK (Zg.mk r46.1.Items) 1).bind fun r102 =>
 (Zgh r46.2.1 r102.1).bind fun r105 =>
 (Zen (Zg.mk r102.2.Items) 1).bind fun r108 =>
 bif decide (r108 < 0) then
 some (false)
 else
 (ZeV r105.2 r108).bind fun r113 =>
 bif decide (r113 < 0) then
 some (false)
 else
 bif r113 != r105.1 then
 some (false)
 else
 (ZaT (ZU.mk y0.Items)).bind fun r121 =>
 (ZaT (ZU.mk y1.Items)).bind fun r123 =>
 (ZeJ r121 r123).bind fun r124 =>
 (ZbS (Zg.mk r124.1.Items) (Zg.mk r35.1.Items)).bind fun r130 =>
 bif !r130 then
 some (false)
 else
 (ZcP r124.2.1 r35.2.1).bind fun r135 =>
 bif !r135 then
 some (false)
 else
 bif r124.2.2 != r35.2.2 then
 some (false)
 else
 ZhN r102 r105
def Zg1 (y0 y1 : ZU) (r35 : Zg × (List ByteArray) × Int) (r40 r42 : Zg) (r46 : Zg × (List ByteArray) × Int) : Option (Bool) :=
 (ZaT (ZU.mk y0.Items)).bind fun r67 =>
 (ZbS (Zg.mk r40.Items) r67).bind fun r68 =>
 bif !r68 then
 some (false)
 else
 (ZaT (ZU.mk y1.Items)).bind fun r72 =>
 (ZbS (Zg.mk r42.Items) r72).bind fun r73 =>
 bif !r73 then
 some (false)
 else
 (ZbK (Zg.mk r40.Items) 1).bind fun r77 =>
 (ZbK (Zg.mk r42.Items) r77.1).bind fun r80 =>
 bif decide (r80.1 < 0) then
 some (false)
 else
 (ZbS (Zg.mk r46.1.Items) (Zg.mk r35.1.Items)).bind fun r86 =>
 bif !r86 then
 some (false)
 else
 (ZcP r46.2.1 r35.2.1).bind fun r92 =>
 bif !r92 then
 some (false)
 else
 bif r46.2.2 != r35.2.2 then
 some (false)
 else
 Zfu y0 y1 r35 r46
def ZiI (y0 y1 : ZU) : Option Bool :=
 (Zff (ZU.mk y0.Items) 1048576).bind fun r22 =>
 bif decide (r22 < 0) then
 some (true)
 else
 (Zff (ZU.mk y1.Items) r22).bind fun r27 =>
 bif decide (r27 < 0) then
 some (true)
 else
 (ZaT (ZU.mk y0.Items)).bind fun r32 =>
 (ZaT (ZU.mk y1.Items)).bind fun r34 =>
 (Zh2 r32 r34).bind fun r35 =>
 (ZaT (ZU.mk y0.Items)).bind fun r40 =>
 (ZaT (ZU.mk y1.Items)).bind fun r42 =>
 (ZeJ (Zg.mk r40.Items) (Zg.mk r42.Items)).bind fun r46 =>
 (ZbS (Zg.mk r46.1.Items) (Zg.mk r35.1.Items)).bind fun r52 =>
 bif !r52 then
 some (false)
 else
 (ZcP r46.2.1 r35.2.1).bind fun r57 =>
 bif !r57 then
 some (false)
 else
 bif r46.2.2 != r35.2.2 then
 some (false)
 else
 Zg1 y0 y1 r35 r40 r42 r46
end
end Go.Proofs.YtapkemdomnkccaaGreat
