import Derived.Test.YtmmbnjijjdakmaaGreatDoorPuTxt
namespace Go.Proofs.YtmmbnjijjdakmaaGreatDoor
set_option linter.unusedSimpArgs false
open Go Go.Vc
set_option linter.unusedVariables false
structure Zba where
 Points : Int
 Blocks : List (List Int)
structure Zg where
 Kind : Int
 Size : Int
 Rows : List (List Int)
structure Z6 where
 Levels : Int
 Columns : Int
 Rows : List (List Int)
structure Zc where
 Prime : Int
 Degree : Int
 Poly : List Int
structure ZaY where
 Field : Zc
 Rows : List (List Int)
structure ZJ where
 A : Int
 B : Int
structure ZZ where
 Colors : List Int
 Edges : List ZJ
structure ZaE where
 Degree : Int
 Elements : List (List Int)
structure Zaf where
 qq : Int
 qadd : List (List Int)
 qsub : List (List Int)
 qmul : List (List Int)
 qinv : List Int
noncomputable section
def Zdr (s0 : ByteArray) (by1 : Int) : List ByteArray × Int × Int → Option ((List ByteArray × Int × Int) ⊕ (List ByteArray))
 | (out5, from6, i7) =>
 bif decide (i7 < (s0.size : Int)) then
 (gSt s0 i7).bind fun c17 =>
 bif ((c17.toNat : Int) : Int) == by1 then
 (gStSl s0 from6 i7).bind fun s24 =>
 (gApp 16 out5 [s24]).bind fun l26 =>
 some (.inl (l26, IntKind.i64.wrap (i7 + 1), IntKind.i64.wrap (i7 + 1)))
 else
 some (.inl (out5, from6, IntKind.i64.wrap (i7 + 1)))
 else
 (gStSl s0 from6 (s0.size)).bind fun s32 =>
 (gApp 16 out5 [s32]).bind fun l34 =>
 some (.inr (l34))
def Zbc (s0 : ByteArray) (by1 : Int) : Option (List ByteArray) :=
 loop (Zdr s0 by1) (([] : List ByteArray), 0, 0)
def Zct : Option (List ByteArray) :=
 some (([⟨#[]⟩, ⟨#[115, 113, 117, 97, 114, 101]⟩, ⟨#[100, 101, 115, 105, 103, 110]⟩, ⟨#[104, 97, 100, 97, 109, 97, 114, 100]⟩, ⟨#[97, 114, 114, 97, 121]⟩, ⟨#[99, 111, 100, 101]⟩, ⟨#[103, 114, 97, 112, 104]⟩, ⟨#[103, 114, 111, 117, 112]⟩] : List ByteArray))
def Za7 (s0 : ByteArray) (r6 : List ByteArray) : Int → Option ((Int) ⊕ (Int × Bool))
 | i5 =>
 bif decide (i5 < (r6.length : Int)) then
 (gIdx r6 i5).bind fun e15 =>
 bif e15.toList == s0.toList then
 some (.inr ((i5, true)))
 else
 some (.inl (IntKind.i64.wrap (i5 + 1)))
 else
 some (.inr ((0, false)))
def ZfV (s0 : ByteArray) : Option (Int × Bool) :=
 (Zct).bind fun r6 =>
 loop (Za7 s0 r6) (1)
def Zcr (c0 : Int) : Option Bool :=
 bif decide (c0 ≥ 48) then
 some (decide (c0 ≤ 57))
 else
 some (false)
def Zev (out3 : List Int) (k4 d5 : Int) : Option ((List Int × Int) ⊕ (ByteArray)) :=
 (gApp 1 ([IntKind.u8.wrap (IntKind.i64.wrap (48 + d5))] : List Int) out3).bind fun l23 =>
 (gNz 10).bind fun _ =>
 some (.inl (l23, IntKind.i64.wrap (Int.tdiv k4 10)))
def ZaC (n0 : Int) : List Int × Int → Option ((List Int × Int) ⊕ (ByteArray))
 | (out3, k4) =>
 bif k4 != 0 then
 (gNz 10).bind fun _ =>
 bif decide ((Int.tmod k4 10 : Int) < 0) then
 Zev out3 k4 (IntKind.i64.wrap (0 - (Int.tmod k4 10)))
 else
 Zev out3 k4 (Int.tmod k4 10)
 else
 bif ((out3.length : Int) : Int) == 0 then
 some (.inr (⟨#[48]⟩))
 else
 bif decide (n0 < 0) then
 (gByt out3).bind fun s30 =>
 (gFit (⟨#[45]⟩ : ByteArray) s30).bind fun _ =>
 some (.inr ((⟨#[45]⟩ : ByteArray) ++ s30))
 else
 (gByt out3).bind fun s33 =>
 some (.inr (s33))
def Zcv (n0 : Int) : Option ByteArray :=
 loop (ZaC n0) (([] : List Int), n0)
def ZdN (s0 : ByteArray) (n5_2 : Int) : Option ((Int × Int) ⊕ (Int × Bool)) :=
 (Zcv n5_2).bind fun r52 =>
 bif !(r52.toList == s0.toList) then
 some (.inr ((0, false)))
 else
 some (.inr ((n5_2, true)))
def Zb9 (s0 t4 : ByteArray) : Int × Int → Option ((Int × Int) ⊕ (Int × Bool))
 | (n5, i6) =>
 bif decide (i6 < (t4.size : Int)) then
 (gSt t4 i6).bind fun c33 =>
 (Zcr (c33.toNat : Int)).bind fun r34 =>
 bif !r34 then
 some (.inr ((0, false)))
 else
 (gSt t4 i6).bind fun c40 =>
 some (.inl (IntKind.i64.wrap ((IntKind.i64.wrap (10 * n5)) + (IntKind.i64.wrap (IntKind.u8.wrap ((c40.toNat : Int) - 48)))), IntKind.i64.wrap (i6 + 1)))
 else
 bif decide (((t4.size : Int) : Int) < (s0.size : Int)) then
 ZdN s0 (IntKind.i64.wrap (0 - n5))
 else
 ZdN s0 n5
def ZgR (s0 t4 : ByteArray) : Option (Int × Bool) :=
 loop (Zb9 s0 t4) (0, 0)
def Zda (s0 t4 : ByteArray) : Option (Int × Bool) :=
 bif decide (((t4.size : Int) : Int) < 1) then
 some ((0, false))
 else
 bif decide (((t4.size : Int) : Int) > 18) then
 some ((0, false))
 else
 ZgR s0 t4
def ZdK (s0 : ByteArray) : Option (Int × Bool) :=
 bif !(s0.toList == (⟨#[]⟩ : ByteArray).toList) then
 (gSt s0 0).bind fun c12 =>
 bif ((c12.toNat : Int) : Int) == 45 then
 (gStSl s0 1 (s0.size)).bind fun s16 =>
 Zda s0 s16
 else
 Zda s0 s0
 else
 Zda s0 s0
def ZH (n0 low1 high2 : Int) : Option Bool :=
 bif decide (n0 ≥ low1) then
 some (decide (n0 ≤ high2))
 else
 some (false)
def ZiM (out5 : List Int) (i6 : Int) (r29 : Int × Bool) : Option ((List Int × Int) ⊕ ((List Int) × Bool)) :=
 (gApp 8 out5 [r29.1]).bind fun l42 =>
 some (.inl (l42, IntKind.i64.wrap (i6 + 1)))
def ZaB (r13 : List ByteArray) : List Int × Int → Option ((List Int × Int) ⊕ ((List Int) × Bool))
 | (out5, i6) =>
 bif decide (i6 < (r13.length : Int)) then
 (gIdx r13 i6).bind fun e27 =>
 (ZdK e27).bind fun r29 =>
 bif !r29.2 then
 some (.inr ((([] : List Int), false)))
 else
 (ZH r29.1 (-999999999) 999999999).bind fun r36 =>
 bif !r36 then
 some (.inr ((([] : List Int), false)))
 else
 ZiM out5 i6 r29
 else
 some (.inr ((out5, true)))
def ZgK (s0 : ByteArray) : Option ((List Int) × Bool) :=
 bif s0.toList == (⟨#[45]⟩ : ByteArray).toList then
 some ((([] : List Int), true))
 else
 (Zbc s0 44).bind fun r13 =>
 bif decide (((r13.length : Int) : Int) > 100) then
 some ((([] : List Int), false))
 else
 loop (ZaB r13) (([] : List Int), 0)
def Zd6 (list0 : List Int) (n1 : Int) : Int → Option ((Int) ⊕ (Bool))
 | i5 =>
 bif decide (i5 < (list0.length : Int)) then
 (gIdx list0 i5).bind fun e14 =>
 bif e14 == n1 then
 some (.inr (true))
 else
 some (.inl (IntKind.i64.wrap (i5 + 1)))
 else
 some (.inr (false))
def ZeZ (list0 : List Int) (n1 : Int) : Option Bool :=
 loop (Zd6 list0 n1) (0)
def ZdD (p0 : List Int) : Int → Option ((Int) ⊕ (Bool))
 | i3 =>
 bif decide (i3 < (p0.length : Int)) then
 (gIdx p0 i3).bind fun e15 =>
 (ZH e15 0 (IntKind.i64.wrap ((p0.length : Int) - 1))).bind fun r20 =>
 bif !r20 then
 some (.inr (false))
 else
 (gSl p0 0 i3).bind fun l25 =>
 (gIdx p0 i3).bind fun e28 =>
 (ZeZ l25 e28).bind fun r30 =>
 bif r30 then
 some (.inr (false))
 else
 some (.inl (IntKind.i64.wrap (i3 + 1)))
 else
 some (.inr (true))
def ZcO (p0 : List Int) : Option Bool :=
 bif decide (((p0.length : Int) : Int) > 32) then
 some (false)
 else
 loop (ZdD p0) (0)
def ZcH (a0 : List (List Int)) (y5 : Int) : List Int × Int → Option ((List Int × Int) ⊕ ((Int) ⊕ ((Int) ⊕ (Bool))))
 | (col6, x7) =>
 bif decide (x7 < (a0.length : Int)) then
 (gIdx a0 x7).bind fun e50 =>
 (gIdx e50 y5).bind fun e53 =>
 (gApp 8 col6 [e53]).bind fun l56 =>
 some (.inl (l56, IntKind.i64.wrap (x7 + 1)))
 else
 (ZcO col6).bind fun r58 =>
 bif !r58 then
 some (.inr (.inr (.inr (false))))
 else
 some (.inr (.inl (IntKind.i64.wrap (y5 + 1))))
def Zdb (a0 : List (List Int)) : Int → Option ((Int) ⊕ ((Int) ⊕ (Bool)))
 | y5 =>
 bif decide (y5 < (a0.length : Int)) then
 loop (ZcH a0 y5) (([] : List Int), 0)
 else
 some (.inr (.inr (true)))
def ZeU (a0 : List (List Int)) : Int → Option ((Int) ⊕ (Bool))
 | x4 =>
 bif decide (x4 < (a0.length : Int)) then
 (gIdx a0 x4).bind fun e23 =>
 bif ((e23.length : Int) : Int) != (a0.length : Int) then
 some (.inr (false))
 else
 (gIdx a0 x4).bind fun e31 =>
 (ZcO e31).bind fun r33 =>
 bif !r33 then
 some (.inr (false))
 else
 some (.inl (IntKind.i64.wrap (x4 + 1)))
 else
 loop (Zdb a0) (0)
def Zh3 (a0 : List (List Int)) : Option (Bool) :=
 loop (ZeU a0) (0)
def Zgh (a0 : List (List Int)) : Option Bool :=
 bif decide (((a0.length : Int) : Int) < 1) then
 some (false)
 else
 bif decide (((a0.length : Int) : Int) > 10) then
 some (false)
 else
 Zh3 a0
def ZcG (list0 : List Int) (low1 high2 : Int) : Int → Option ((Int) ⊕ (Bool))
 | i7 =>
 bif decide (i7 < (list0.length : Int)) then
 (gIdx list0 i7).bind fun e16 =>
 (ZH e16 low1 high2).bind fun r20 =>
 bif !r20 then
 some (.inr (false))
 else
 bif decide (i7 > 0) then
 (gIdx list0 (IntKind.i64.wrap (i7 - 1))).bind fun e29 =>
 (gIdx list0 i7).bind fun e33 =>
 bif decide (e29 ≥ e33) then
 some (.inr (false))
 else
 some (.inl (IntKind.i64.wrap (i7 + 1)))
 else
 some (.inl (IntKind.i64.wrap (i7 + 1)))
 else
 some (.inr (true))
def ZgA (list0 : List Int) (low1 high2 : Int) : Option Bool :=
 loop (ZcG list0 low1 high2) (0)
def ZfQ (set0 : List Int) (points1 : Int) : Option Bool :=
 bif decide (((set0.length : Int) : Int) > 0) then
 (ZgA set0 0 (IntKind.i64.wrap (points1 - 1))).bind fun r12 =>
 some (r12)
 else
 some (false)
def Zdi (a0 b1 : List Int) : Option (Int) :=
 bif decide (((a0.length : Int) : Int) < (b1.length : Int)) then
 some ((-1))
 else
 bif decide (((a0.length : Int) : Int) > (b1.length : Int)) then
 some (1)
 else
 some (0)
def ZeJ (a0 b1 : List Int) (i5 : Int) : Option ((Int) ⊕ (Int)) :=
 (gIdx a0 i5).bind fun e20 =>
 (gIdx b1 i5).bind fun e24 =>
 bif decide (e20 < e24) then
 some (.inr ((-1)))
 else
 (gIdx a0 i5).bind fun e29 =>
 (gIdx b1 i5).bind fun e33 =>
 bif decide (e29 > e33) then
 some (.inr (1))
 else
 some (.inl (IntKind.i64.wrap (i5 + 1)))
def ZbJ (a0 b1 : List Int) : Int → Option ((Int) ⊕ (Int))
 | i5 =>
 bif decide (i5 < (a0.length : Int)) then
 bif decide (i5 < (b1.length : Int)) then
 ZeJ a0 b1 i5
 else
 (Zdi a0 b1).map fun x => .inr (x)
 else
 (Zdi a0 b1).map fun x => .inr (x)
def Zc2 (a0 b1 : List Int) : Option Int :=
 loop (ZbJ a0 b1) (0)
def Zdq (d0 : Zba) : Int → Option ((Int) ⊕ (Bool))
 | i3 =>
 bif decide (i3 < (d0.Blocks.length : Int)) then
 (gIdx d0.Blocks i3).bind fun e32 =>
 (ZfQ e32 d0.Points).bind fun r38 =>
 bif !r38 then
 some (.inr (false))
 else
 bif decide (i3 > 0) then
 (gIdx d0.Blocks (IntKind.i64.wrap (i3 - 1))).bind fun e50 =>
 (gIdx d0.Blocks i3).bind fun e57 =>
 (Zc2 e50 e57).bind fun r59 =>
 bif decide (r59 > 0) then
 some (.inr (false))
 else
 some (.inl (IntKind.i64.wrap (i3 + 1)))
 else
 some (.inl (IntKind.i64.wrap (i3 + 1)))
 else
 some (.inr (true))
def Zht (d0 : Zba) : Option (Bool) :=
 loop (Zdq d0) (0)
def Zgv (d0 : Zba) : Option Bool :=
 (ZH d0.Points 1 32).bind fun r8 =>
 bif !r8 then
 some (false)
 else
 bif decide (((d0.Blocks.length : Int) : Int) > 128) then
 some (false)
 else
 Zht d0
def Zfh (a0 b1 : List Int) : Int × Int → Option ((Int × Int) ⊕ (Int))
 | (sum5, i6) =>
 bif decide (i6 < (a0.length : Int)) then
 (gIdx a0 i6).bind fun e16 =>
 (gIdx b1 i6).bind fun e20 =>
 some (.inl (IntKind.i64.wrap (sum5 + (IntKind.i64.wrap (e16 * e20))), IntKind.i64.wrap (i6 + 1)))
 else
 some (.inr (sum5))
def ZeR (a0 b1 : List Int) : Option Int :=
 loop (Zfh a0 b1) (0, 0)
def ZaD (y0 : List (List Int)) (y4 : Int) : Int → Option ((Int) ⊕ ((Int) ⊕ (Bool)))
 | y5 =>
 bif decide (y5 < (y0.length : Int)) then
 (gIdx y0 y4).bind fun e35 =>
 (gIdx e35 y5).bind fun e38 =>
 bif e38 != 1 then
 (gIdx y0 y4).bind fun e44 =>
 (gIdx e44 y5).bind fun e47 =>
 bif e47 != (-1) then
 some (.inr (.inr (false)))
 else
 some (.inl (IntKind.i64.wrap (y5 + 1)))
 else
 some (.inl (IntKind.i64.wrap (y5 + 1)))
 else
 some (.inr (.inl (IntKind.i64.wrap (y4 + 1))))
def Zc7 (y0 : List (List Int)) (y6 : Int) : Int → Option ((Int) ⊕ ((Int) ⊕ ((Int) ⊕ (Bool))))
 | y7 =>
 bif decide (y7 < y6) then
 (gIdx y0 y6).bind fun e63 =>
 (gIdx y0 y7).bind fun e67 =>
 (ZeR e63 e67).bind fun r69 =>
 bif r69 != 0 then
 some (.inr (.inr (.inr (false))))
 else
 some (.inl (IntKind.i64.wrap (y7 + 1)))
 else
 some (.inr (.inl (IntKind.i64.wrap (y6 + 1))))
def Zer (y0 : List (List Int)) : Int → Option ((Int) ⊕ ((Int) ⊕ (Bool)))
 | y6 =>
 bif decide (y6 < (y0.length : Int)) then
 loop (Zc7 y0 y6) (0)
 else
 some (.inr (.inr (true)))
def Zdt (y0 : List (List Int)) : Int → Option ((Int) ⊕ (Bool))
 | y4 =>
 bif decide (y4 < (y0.length : Int)) then
 (gIdx y0 y4).bind fun e23 =>
 bif ((e23.length : Int) : Int) != (y0.length : Int) then
 some (.inr (false))
 else
 loop (ZaD y0 y4) (0)
 else
 loop (Zer y0) (0)
def ZiQ (y0 : List (List Int)) : Option (Bool) :=
 loop (Zdt y0) (0)
def Ze9 (y0 : List (List Int)) : Option Bool :=
 bif decide (((y0.length : Int) : Int) < 1) then
 some (false)
 else
 bif decide (((y0.length : Int) : Int) > 32) then
 some (false)
 else
 ZiQ y0
def ZgD (o0 : Zg) : Option Z6 :=
 bif decide (((o0.Rows.length : Int) : Int) > 0) then
 (gIdx o0.Rows 0).bind fun e23 =>
 some ((Z6.mk o0.Size (e23.length : Int) o0.Rows))
 else
 some ((Z6.mk o0.Size 0 o0.Rows))
def ZiG (levels0 column1 : Int) : Option Bool :=
 (ZH levels0 2 16).bind fun r6 =>
 bif r6 then
 (ZH column1 1 8).bind fun r9 =>
 some (r9)
 else
 some (false)
def Zc1 (y0 : Z6) (y3 : Int) : Int → Option ((Int) ⊕ ((Int) ⊕ (Bool)))
 | y4 =>
 (gIdx y0.Rows y3).bind fun e51 =>
 bif decide (y4 < (e51.length : Int)) then
 (gIdx y0.Rows y3).bind fun e62 =>
 (gIdx e62 y4).bind fun e65 =>
 (ZH e65 0 (IntKind.i64.wrap (y0.Levels - 1))).bind fun r72 =>
 bif !r72 then
 some (.inr (.inr (false)))
 else
 some (.inl (IntKind.i64.wrap (y4 + 1)))
 else
 some (.inr (.inl (IntKind.i64.wrap (y3 + 1))))
def Zdv (y0 : Z6) : Int → Option ((Int) ⊕ (Bool))
 | y3 =>
 bif decide (y3 < (y0.Rows.length : Int)) then
 (gIdx y0.Rows y3).bind fun e37 =>
 bif ((e37.length : Int) : Int) != y0.Columns then
 some (.inr (false))
 else
 loop (Zc1 y0 y3) (0)
 else
 some (.inr (true))
def Zhp (y0 : Z6) : Option (Bool) :=
 loop (Zdv y0) (0)
def ZfZ (y0 : Z6) : Option Bool :=
 (ZiG y0.Levels y0.Columns).bind fun r13 =>
 bif !r13 then
 some (false)
 else
 bif decide (((y0.Rows.length : Int) : Int) > 256) then
 some (false)
 else
 Zhp y0
def Zhm (p4 : Int) : Int × Int → Option ((Int × Int) ⊕ ((Int) ⊕ (Int × Int)))
 | (k5, n6) =>
 bif decide (n6 > 1) then
 (gNz p4).bind fun _ =>
 bif (Int.tmod n6 p4 : Int) != 0 then
 some (.inr (.inr ((0, 0))))
 else
 (gNz p4).bind fun _ =>
 some (.inl (IntKind.i64.wrap (k5 + 1), IntKind.i64.wrap (Int.tdiv n6 p4)))
 else
 some (.inr (.inr ((p4, k5))))
def Zis (q0 : Int) : Int → Option ((Int) ⊕ (Int × Int))
 | p4 =>
 (gNz p4).bind fun _ =>
 bif (Int.tmod q0 p4 : Int) != 0 then
 some (.inl (IntKind.i64.wrap (p4 + 1)))
 else
 loop (Zhm p4) (0, q0)
def Za6 (q0 : Int) : Option (Int × Int) :=
 (ZH q0 2 64).bind fun r8 =>
 bif !r8 then
 some ((0, 0))
 else
 loop (Zis q0) (2)
def Zb8 (p1 : Int) : Int × Int × List Int → Option ((Int × Int × List Int) ⊕ (List Int))
 | (a0_2, n2_2, out7) =>
 bif decide (n2_2 > 0) then
 (gNz p1).bind fun _ =>
 (gApp 8 out7 [Int.tmod a0_2 p1]).bind fun l18 =>
 (gNz p1).bind fun _ =>
 some (.inl (IntKind.i64.wrap (Int.tdiv a0_2 p1), IntKind.i64.wrap (n2_2 - 1), l18))
 else
 some (.inr (out7))
def ZaH (a0 p1 n2 : Int) : Option (List Int) :=
 loop (Zb8 p1) (a0, n2, ([] : List Int))
def Zi1 (p0 : Int) : Int × Int → Option ((Int × Int) ⊕ (Int))
 | (k1_2, out5) =>
 bif decide (k1_2 > 0) then
 some (.inl (IntKind.i64.wrap (k1_2 - 1), IntKind.i64.wrap (out5 * p0)))
 else
 some (.inr (out5))
def ZcK (p0 k1 : Int) : Option Int :=
 loop (Zi1 p0) (k1, 1)
def ZaR (list0 : List Int) : Option (List Int) :=
 (gApp 8 ([] : List Int) list0).bind fun l5 =>
 some (l5)
def Zde (y1 : List Int) (y2 y9 e28 : Int) : Int × List Int → Option ((Int × List Int) ⊕ ((Int × List Int) ⊕ (List Int)))
 | (y11, xs_2) =>
 bif decide (y11 < (y1.length : Int)) then
 (gIdx xs_2 (IntKind.i64.wrap ((IntKind.i64.wrap ((IntKind.i64.wrap (y9 - (y1.length : Int))) + 1)) + y11))).bind fun e45 =>
 (gIdx y1 y11).bind fun e52 =>
 (gNz y2).bind fun _ =>
 (gIdx xs_2 (IntKind.i64.wrap ((IntKind.i64.wrap ((IntKind.i64.wrap (y9 - (y1.length : Int))) + 1)) + y11))).bind fun e58 =>
 some (.inl (IntKind.i64.wrap (y11 + 1), (xs_2.set (IntKind.i64.wrap ((IntKind.i64.wrap ((IntKind.i64.wrap (y9 - (y1.length : Int))) + 1)) + y11) : Int).toNat (Int.tmod (IntKind.i64.wrap (e45 + (IntKind.i64.wrap ((IntKind.i64.wrap (y2 - e28)) * e52)))) y2))))
 else
 some (.inr (.inl (IntKind.i64.wrap (y9 - 1), xs_2)))
def ZbP (y1 : List Int) : List Int → Option ((List Int) ⊕ ((Int × List Int) ⊕ (List Int)))
 | y7 =>
 bif decide (((y7.length : Int) : Int) ≥ (y1.length : Int)) then
 (gSl y7 0 (IntKind.i64.wrap ((y7.length : Int) - 1))).bind fun l67 =>
 some (.inl (l67))
 else
 some (.inr (.inr (y7)))
def ZaX (y1 : List Int) (y2 : Int) : Int × List Int → Option ((Int × List Int) ⊕ (List Int))
 | (y9, xs) =>
 bif decide (y9 ≥ (IntKind.i64.wrap ((y1.length : Int) - 1))) then
 (gIdx xs y9).bind fun e28 =>
 loop (Zde y1 y2 y9 e28) (0, xs)
 else
 loop (ZbP y1) (xs)
def Zco (y0 y1 : List Int) (y2 : Int) : Option (List Int) :=
 (ZaR y0).bind fun r14 =>
 loop (ZaX y1 y2) (IntKind.i64.wrap ((r14.length : Int) - 1), r14)
def Zdg (list0 : List Int) (p1 : Int) : Int × Int → Option ((Int × Int) ⊕ (Int))
 | (out5, i6) =>
 bif decide (i6 ≥ 0) then
 (gIdx list0 i6).bind fun e19 =>
 some (.inl (IntKind.i64.wrap ((IntKind.i64.wrap (out5 * p1)) + e19), IntKind.i64.wrap (i6 - 1)))
 else
 some (.inr (out5))
def ZaJ (list0 : List Int) (p1 : Int) : Option Int :=
 loop (Zdg list0 p1) (0, IntKind.i64.wrap ((list0.length : Int) - 1))
def Ziq (poly0 : List Int) (p1 d6 : Int) : Int → Option ((Int) ⊕ ((Int) ⊕ (Bool)))
 | n7 =>
 (ZcK p1 d6).bind fun r22 =>
 bif decide (n7 < r22) then
 (ZaH n7 p1 d6).bind fun r29 =>
 (gApp 8 r29 [1]).bind fun l31 =>
 (Zco poly0 l31 p1).bind fun r35 =>
 (ZaJ r35 p1).bind fun r38 =>
 bif r38 == 0 then
 some (.inr (.inr (false)))
 else
 some (.inl (IntKind.i64.wrap (n7 + 1)))
 else
 some (.inr (.inl (IntKind.i64.wrap (d6 + 1))))
def Zia (poly0 : List Int) (p1 : Int) : Int → Option ((Int) ⊕ (Bool))
 | d6 =>
 bif decide ((IntKind.i64.wrap (2 * d6) : Int) ≤ (IntKind.i64.wrap ((poly0.length : Int) - 1))) then
 loop (Ziq poly0 p1 d6) (0)
 else
 some (.inr (true))
def Zei (poly0 : List Int) (p1 : Int) : Option Bool :=
 loop (Zia poly0 p1) (1)
def Zh0 (r9 : Int × Int) : Int → Option ((Int) ⊕ (Zc))
 | n5 =>
 (ZaH n5 r9.1 r9.2).bind fun r17 =>
 (gApp 8 r17 [1]).bind fun l19 =>
 (Zei l19 r9.1).bind fun r22 =>
 bif r22 then
 some (.inr ((Zc.mk r9.1 r9.2 l19)))
 else
 some (.inl (IntKind.i64.wrap (n5 + 1)))
def ZeL (q0 : Int) : Option Zc :=
 (Za6 q0).bind fun r9 =>
 loop (Zh0 r9) (0)
def Zf6 (o0 : Zg) : Option ZaY :=
 (Za6 o0.Size).bind fun r10 =>
 bif r10.1 == 0 then
 some ((ZaY.mk (Zc.mk 0 0 ([] : List Int)) ([] : List (List Int))))
 else
 (ZeL o0.Size).bind fun r20 =>
 some ((ZaY.mk (Zc.mk r20.Prime r20.Degree r20.Poly) o0.Rows))
def ZiO (y0 : Zc) (r58 : Int × Int) : Int → Option ((Int) ⊕ (Bool))
 | y6 =>
 bif decide (y6 < (y0.Poly.length : Int)) then
 (gIdx y0.Poly y6).bind fun e81 =>
 (ZH e81 0 (IntKind.i64.wrap (r58.1 - 1))).bind fun r85 =>
 bif !r85 then
 some (.inr (false))
 else
 some (.inl (IntKind.i64.wrap (y6 + 1)))
 else
 (Zei y0.Poly r58.1).bind fun r92 =>
 some (.inr (r92))
def Zgl (y0 : Zc) : Option (Bool) :=
 (ZcK y0.Prime y0.Degree).bind fun r55 =>
 (Za6 r55).bind fun r58 =>
 bif r58.1 != y0.Prime then
 some (false)
 else
 loop (ZiO y0 r58) (0)
def Zdx (y0 : Zc) : Option Bool :=
 (ZH y0.Prime 2 64).bind fun r11 =>
 bif !r11 then
 some (false)
 else
 (ZH y0.Degree 1 6).bind fun r18 =>
 bif !r18 then
 some (false)
 else
 bif ((y0.Poly.length : Int) : Int) != (IntKind.i64.wrap (y0.Degree + 1)) then
 some (false)
 else
 (gIdx y0.Poly y0.Degree).bind fun e43 =>
 bif e43 != 1 then
 some (false)
 else
 Zgl y0
def Zcl (f0 : Zc) : Option Int :=
 (ZcK f0.Prime f0.Degree).bind fun r11 =>
 some (r11)
def Zcy (v1 : List Int) (r8 : Int) : Int → Option ((Int) ⊕ (Bool))
 | i6 =>
 bif decide (i6 < (v1.length : Int)) then
 (gIdx v1 i6).bind fun e17 =>
 (ZH e17 0 (IntKind.i64.wrap (r8 - 1))).bind fun r21 =>
 bif !r21 then
 some (.inr (false))
 else
 some (.inl (IntKind.i64.wrap (i6 + 1)))
 else
 some (.inr (true))
def Zfp (f0 : Zc) (v1 : List Int) : Option Bool :=
 (Zcl f0).bind fun r8 =>
 loop (Zcy v1 r8) (0)
def ZdR (f0 : Zc) (m1 : List (List Int)) : Int → Option ((Int) ⊕ (Bool))
 | i5 =>
 bif decide (i5 < (m1.length : Int)) then
 (gIdx m1 i5).bind fun e41 =>
 (gIdx m1 0).bind fun e45 =>
 bif ((e41.length : Int) : Int) != (e45.length : Int) then
 some (.inr (false))
 else
 (gIdx m1 i5).bind fun e53 =>
 (Zfp f0 e53).bind fun r55 =>
 bif !r55 then
 some (.inr (false))
 else
 some (.inl (IntKind.i64.wrap (i5 + 1)))
 else
 some (.inr (true))
def ZiU (f0 : Zc) (m1 : List (List Int)) : Option (Bool) :=
 loop (ZdR f0 m1) (0)
def ZfT (f0 : Zc) (m1 : List (List Int)) : Option Bool :=
 (Zdx f0).bind fun r7 =>
 bif !r7 then
 some (false)
 else
 bif ((m1.length : Int) : Int) == 0 then
 some (false)
 else
 bif decide (((m1.length : Int) : Int) > 32) then
 some (false)
 else
 (gIdx m1 0).bind fun e21 =>
 bif ((e21.length : Int) : Int) == 0 then
 some (false)
 else
 (gIdx m1 0).bind fun e28 =>
 bif decide (((e28.length : Int) : Int) > 32) then
 some (false)
 else
 ZiU f0 m1
def ZdJ (q0 : Int) : Int × Int → Option ((Int × Int) ⊕ (Int))
 | (k1_2, n5) =>
 bif decide (k1_2 > 0) then
 bif decide ((IntKind.i64.wrap (n5 * q0) : Int) > 4096) then
 some (.inr (0))
 else
 some (.inl (IntKind.i64.wrap (k1_2 - 1), IntKind.i64.wrap (n5 * q0)))
 else
 some (.inr (n5))
def Zir (q0 k1 : Int) : Option Int :=
 loop (ZdJ q0) (k1, 1)
def Zfk (a0 b1 : List Int) : Int → Option ((Int) ⊕ (Bool))
 | i5 =>
 bif decide (i5 < (a0.length : Int)) then
 (gIdx a0 i5).bind fun e19 =>
 (gIdx b1 i5).bind fun e23 =>
 bif e19 != e23 then
 some (.inr (false))
 else
 some (.inl (IntKind.i64.wrap (i5 + 1)))
 else
 some (.inr (true))
def ZfS (a0 b1 : List Int) : Option Bool :=
 bif ((a0.length : Int) : Int) != (b1.length : Int) then
 some (false)
 else
 loop (Zfk a0 b1) (0)
def ZfA (a0 b1 : List (List Int)) : Int → Option ((Int) ⊕ (Bool))
 | i5 =>
 bif decide (i5 < (a0.length : Int)) then
 (gIdx a0 i5).bind fun e19 =>
 (gIdx b1 i5).bind fun e23 =>
 (ZfS e19 e23).bind fun r25 =>
 bif !r25 then
 some (.inr (false))
 else
 some (.inl (IntKind.i64.wrap (i5 + 1)))
 else
 some (.inr (true))
def Zdy (a0 b1 : List (List Int)) : Option Bool :=
 bif ((a0.length : Int) : Int) != (b1.length : Int) then
 some (false)
 else
 loop (ZfA a0 b1) (0)
def Zgn (y0 : Zc) (r21 r31 : List Int) (y10 : Int) : Int × List Int → Option ((Int × List Int) ⊕ ((Int × List Int) ⊕ (Int)))
 | (y11, xs_2) =>
 bif decide (y11 < (r31.length : Int)) then
 (gIdx xs_2 (IntKind.i64.wrap (y10 + y11))).bind fun e59 =>
 (gIdx r21 y10).bind fun e63 =>
 (gIdx r31 y11).bind fun e67 =>
 (gNz y0.Prime).bind fun _ =>
 (gIdx xs_2 (IntKind.i64.wrap (y10 + y11))).bind fun e76 =>
 some (.inl (IntKind.i64.wrap (y11 + 1), (xs_2.set (IntKind.i64.wrap (y10 + y11) : Int).toNat (Int.tmod (IntKind.i64.wrap (e59 + (IntKind.i64.wrap (e63 * e67)))) y0.Prime))))
 else
 some (.inr (.inl (IntKind.i64.wrap (y10 + 1), xs_2)))
def ZbW (y0 : Zc) (r21 r31 : List Int) : Int × List Int → Option ((Int × List Int) ⊕ (Int))
 | (y10, xs) =>
 bif decide (y10 < (r21.length : Int)) then
 loop (Zgn y0 r21 r31 y10) (0, xs)
 else
 (Zco xs y0.Poly y0.Prime).bind fun r86 =>
 (ZaJ r86 y0.Prime).bind fun r91 =>
 some (.inr (r91))
def ZcB (y0 : Zc) (y1 y2 : Int) : Option Int :=
 (ZaH y1 y0.Prime y0.Degree).bind fun r21 =>
 (ZaH y2 y0.Prime y0.Degree).bind fun r31 =>
 (gMake 8 (0 : Int) (IntKind.i64.wrap ((IntKind.i64.wrap (2 * y0.Degree)) - 1)) (IntKind.i64.wrap ((IntKind.i64.wrap (2 * y0.Degree)) - 1))).bind fun l38 =>
 loop (ZbW y0 r21 r31) (0, l38)
def ZdQ (f0 : Zc) (v1 : List Int) (c2 : Int) : List Int × Int → Option ((List Int × Int) ⊕ (List Int))
 | (out7, i8) =>
 bif decide (i8 < (v1.length : Int)) then
 (gIdx v1 i8).bind fun e20 =>
 (ZcB f0 e20 c2).bind fun r23 =>
 (gApp 8 out7 [r23]).bind fun l25 =>
 some (.inl (l25, IntKind.i64.wrap (i8 + 1)))
 else
 some (.inr (out7))
def Zgx (f0 : Zc) (v1 : List Int) (c2 : Int) : Option (List Int) :=
 loop (ZdQ f0 v1 c2) (([] : List Int), 0)
def Zes (m0 : List (List Int)) : List (List Int) × Int → Option ((List (List Int) × Int) ⊕ (List (List Int)))
 | (out3, i4) =>
 bif decide (i4 < (m0.length : Int)) then
 (gIdx m0 i4).bind fun e15 =>
 (ZaR e15).bind fun r17 =>
 (gApp 24 out3 [r17]).bind fun l19 =>
 some (.inl (l19, IntKind.i64.wrap (i4 + 1)))
 else
 some (.inr (out3))
def ZfE (m0 : List (List Int)) : Option (List (List Int)) :=
 loop (Zes m0) (([] : List (List Int)), 0)
def Zgz (f0 : Zc) (a1 : Int) : Int → Option ((Int) ⊕ (Int))
 | b5 =>
 (ZcB f0 a1 b5).bind fun r9 =>
 bif r9 != 1 then
 some (.inl (IntKind.i64.wrap (b5 + 1)))
 else
 some (.inr (b5))
def ZeW (f0 : Zc) (a1 : Int) : Option Int :=
 loop (Zgz f0 a1) (1)
def ZdV (f0 : Zc) (k3 : Int) (r31 : List Int) : Int × List Int → Option ((Int × List Int) ⊕ (Int))
 | (i11, xs) =>
 bif decide (i11 < (xs.length : Int)) then
 (gIdx xs i11).bind fun e42 =>
 (gIdx r31 i11).bind fun e47 =>
 (gNz f0.Prime).bind fun _ =>
 (gIdx xs i11).bind fun e56 =>
 some (.inl (IntKind.i64.wrap (i11 + 1), (xs.set i11.toNat (Int.tmod (IntKind.i64.wrap (e42 + (IntKind.i64.wrap (k3 * e47)))) f0.Prime))))
 else
 (ZaJ xs f0.Prime).bind fun r62 =>
 some (.inr (r62))
def Zgs (f0 : Zc) (a1 b2 k3 : Int) : Option Int :=
 (ZaH a1 f0.Prime f0.Degree).bind fun r21 =>
 (ZaH b2 f0.Prime f0.Degree).bind fun r31 =>
 loop (ZdV f0 k3 r31) (0, r21)
def Zd8 (f0 : Zc) (v1 w2 : List Int) (c3 : Int) : List Int × Int → Option ((List Int × Int) ⊕ (List Int))
 | (out9, i10) =>
 bif decide (i10 < (v1.length : Int)) then
 (gIdx w2 i10).bind fun e27 =>
 (ZcB f0 e27 c3).bind fun r30 =>
 (gIdx v1 i10).bind fun e22 =>
 (Zgs f0 e22 r30 (IntKind.i64.wrap (f0.Prime - 1))).bind fun r36 =>
 (gApp 8 out9 [r36]).bind fun l38 =>
 some (.inl (l38, IntKind.i64.wrap (i10 + 1)))
 else
 some (.inr (out9))
def Zhe (f0 : Zc) (v1 w2 : List Int) (c3 : Int) : Option (List Int) :=
 loop (Zd8 f0 v1 w2 c3) (([] : List Int), 0)
def Zdo (y0 : Zc) (y9 : List Int) (y10 : Int) (r67 : List Int) : Int × List (List Int) → Option ((Int × List (List Int)) ⊕ ((List Int × Int × List (List Int)) ⊕ ((List (List Int)) × (List Int))))
 | (y14, xs_2) =>
 bif decide (y14 < (xs_2.length : Int)) then
 bif y14 != (y9.length : Int) then
 (gIdx xs_2 y14).bind fun e93 =>
 (gIdx xs_2 y14).bind fun e98 =>
 (gIdx e98 y10).bind fun e101 =>
 (Zhe y0 e93 r67 e101).bind fun r103 =>
 (gIdx xs_2 y14).bind fun e104 =>
 some (.inl (IntKind.i64.wrap (y14 + 1), (xs_2.set y14.toNat r103)))
 else
 some (.inl (IntKind.i64.wrap (y14 + 1), xs_2))
 else
 (gApp 8 y9 [y10]).bind fun l108 =>
 some (.inr (.inl (l108, IntKind.i64.wrap (y10 + 1), xs_2)))
def Zak (y0 : Zc) (y9 : List Int) (y10 : Int) (xs : List (List Int)) (y12 : Int) : Option ((List Int × Int × List (List Int)) ⊕ ((List (List Int)) × (List Int))) :=
 bif y12 == (xs.length : Int) then
 some (.inl (y9, IntKind.i64.wrap (y10 + 1), xs))
 else
 (gIdx xs y12).bind fun e61 =>
 (gIdx e61 y10).bind fun e64 =>
 (ZeW y0 e64).bind fun r66 =>
 (gIdx xs y12).bind fun e56 =>
 (Zgx y0 e56 r66).bind fun r67 =>
 (gIdx xs (y9.length : Int)).bind fun e72 =>
 (gIdx xs y12).bind fun e74 =>
 (gIdx (xs.set y12.toNat e72) (y9.length : Int)).bind fun e78 =>
 loop (Zdo y0 y9 y10 r67) (0, ((xs.set y12.toNat e72).set ((y9.length : Int) : Int).toNat r67))
def Zbq (y0 : Zc) (y9 : List Int) (y10 : Int) (xs : List (List Int)) : Int → Option ((Int) ⊕ ((List Int × Int × List (List Int)) ⊕ ((List (List Int)) × (List Int))))
 | y12_2 =>
 bif decide (y12_2 < (xs.length : Int)) then
 (gIdx xs y12_2).bind fun e40 =>
 (gIdx e40 y10).bind fun e43 =>
 bif e43 == 0 then
 some (.inl (IntKind.i64.wrap (y12_2 + 1)))
 else
 (Zak y0 y9 y10 xs y12_2).map fun x => .inr (x)
 else
 (Zak y0 y9 y10 xs y12_2).map fun x => .inr (x)
def Zf3 (y0 : Zc) (y9 : List Int) (y10 : Int) (xs : List (List Int)) : Option ((List Int × Int × List (List Int)) ⊕ ((List (List Int)) × (List Int))) :=
 loop (Zbq y0 y9 y10 xs) ((y9.length : Int))
def Zbv (y0 : Zc) (y2 : Int) : List Int × Int × List (List Int) → Option ((List Int × Int × List (List Int)) ⊕ ((List (List Int)) × (List Int)))
 | (y9, y10, xs) =>
 bif decide (y10 < y2) then
 bif decide (((y9.length : Int) : Int) < (xs.length : Int)) then
 Zf3 y0 y9 y10 xs
 else
 some (.inr ((xs, y9)))
 else
 some (.inr ((xs, y9)))
def Zhu (y0 : Zc) (y1 : List (List Int)) (y2 : Int) : Option ((List (List Int)) × (List Int)) :=
 (ZfE y1).bind fun r16 =>
 loop (Zbv y0 y2) (([] : List Int), 0, r16)
def Ze7 (f0 : Zc) (m1 : List (List Int)) : Option (List (List Int)) :=
 (gIdx m1 0).bind fun e11 =>
 (Zhu f0 m1 (e11.length : Int)).bind fun r14 =>
 (gSl r14.1 0 (r14.2.length : Int)).bind fun l20 =>
 some (l20)
def ZiV (c0 : ZaY) : Option (Bool) :=
 (Zcl (Zc.mk c0.Field.Prime c0.Field.Degree c0.Field.Poly)).bind fun r33 =>
 (Zir r33 (c0.Rows.length : Int)).bind fun r39 =>
 bif r39 == 0 then
 some (false)
 else
 (Ze7 (Zc.mk c0.Field.Prime c0.Field.Degree c0.Field.Poly) c0.Rows).bind fun r48 =>
 (Zdy r48 c0.Rows).bind fun r53 =>
 some (r53)
def Zew (c0 : ZaY) : Option Bool :=
 (ZfT (Zc.mk c0.Field.Prime c0.Field.Degree c0.Field.Poly) c0.Rows).bind fun r10 =>
 bif !r10 then
 some (false)
 else
 (gIdx c0.Rows 0).bind fun e17 =>
 bif decide (((e17.length : Int) : Int) > 32) then
 some (false)
 else
 bif decide (((c0.Rows.length : Int) : Int) > 8) then
 some (false)
 else
 ZiV c0
def ZfM (list0 : List Int) : Int → Option ((Int) ⊕ (Bool))
 | i3 =>
 bif decide (i3 < (list0.length : Int)) then
 (gIdx list0 i3).bind fun e15 =>
 (ZH e15 0 63).bind fun r17 =>
 bif !r17 then
 some (.inr (false))
 else
 some (.inl (IntKind.i64.wrap (i3 + 1)))
 else
 some (.inr (true))
def ZfJ (list0 : List Int) : Option Bool :=
 bif decide (((list0.length : Int) : Int) > 64) then
 some (false)
 else
 loop (ZfM list0) (0)
def ZgO (a0 b1 : ZJ) : Option Bool :=
 bif decide (a0.A < b1.A) then
 some (true)
 else
 bif a0.A == b1.A then
 some (decide (a0.B < b1.B))
 else
 some (false)
def Zb7 (g0 : ZZ) : Int → Option ((Int) ⊕ (Bool))
 | i4 =>
 bif decide (i4 < (g0.Edges.length : Int)) then
 (gIdx g0.Edges i4).bind fun e29 =>
 (ZH e29.A 0 (IntKind.i64.wrap ((g0.Colors.length : Int) - 1))).bind fun r35 =>
 bif !r35 then
 some (.inr (false))
 else
 (ZH e29.B (IntKind.i64.wrap (e29.A + 1)) (IntKind.i64.wrap ((g0.Colors.length : Int) - 1))).bind fun r45 =>
 bif !r45 then
 some (.inr (false))
 else
 bif decide (i4 > 0) then
 (gIdx g0.Edges (IntKind.i64.wrap (i4 - 1))).bind fun e56 =>
 (ZgO e56 (ZJ.mk e29.A e29.B)).bind fun r59 =>
 bif !r59 then
 some (.inr (false))
 else
 some (.inl (IntKind.i64.wrap (i4 + 1)))
 else
 some (.inl (IntKind.i64.wrap (i4 + 1)))
 else
 some (.inr (true))
def Zhk (g0 : ZZ) : Option (Bool) :=
 loop (Zb7 g0) (0)
def Zgk (g0 : ZZ) : Option Bool :=
 (ZfJ g0.Colors).bind fun r8 =>
 bif !r8 then
 some (false)
 else
 bif decide (((g0.Edges.length : Int) : Int) > 512) then
 some (false)
 else
 Zhk g0
def ZcL (y0 : Zg) (l17 : List Int) : Int × List ZJ → Option ((Int × List ZJ) ⊕ (ZZ × Bool))
 | (y5, xs) =>
 bif decide (y5 < (y0.Rows.length : Int)) then
 (gIdx y0.Rows y5).bind fun e33 =>
 bif ((e33.length : Int) : Int) != 2 then
 some (.inr (((ZZ.mk ([] : List Int) ([] : List ZJ)), false)))
 else
 (gIdx y0.Rows y5).bind fun e45 =>
 (gIdx e45 0).bind fun e47 =>
 (gIdx y0.Rows y5).bind fun e54 =>
 (gIdx e54 1).bind fun e56 =>
 (gApp 16 xs [(ZJ.mk e47 e56)]).bind fun l60 =>
 some (.inl (IntKind.i64.wrap (y5 + 1), l60))
 else
 (Zgk (ZZ.mk l17 xs)).bind fun r64 =>
 some (.inr (((ZZ.mk l17 xs), r64)))
def Zha (y0 : Zg) : Option (ZZ × Bool) :=
 (ZH y0.Size 0 64).bind fun r10 =>
 bif !r10 then
 some (((ZZ.mk ([] : List Int) ([] : List ZJ)), false))
 else
 (gMake 8 (0 : Int) y0.Size y0.Size).bind fun l17 =>
 loop (ZcL y0 l17) (0, ([] : List ZJ))
def ZaP (list0 : List (List Int)) (p1 : List Int) : Int × Int → Option ((Int × Int) ⊕ (Int × Bool))
 | (low6, high7) =>
 bif decide (low6 < high7) then
 (gNz 2).bind fun _ =>
 (gIdx list0 (IntKind.i64.wrap (Int.tdiv (IntKind.i64.wrap (low6 + high7)) 2))).bind fun e21 =>
 (Zc2 e21 p1).bind fun r24 =>
 bif r24 == 0 then
 some (.inr ((IntKind.i64.wrap (Int.tdiv (IntKind.i64.wrap (low6 + high7)) 2), true)))
 else
 bif decide (r24 < 0) then
 some (.inl (IntKind.i64.wrap ((IntKind.i64.wrap (Int.tdiv (IntKind.i64.wrap (low6 + high7)) 2)) + 1), high7))
 else
 some (.inl (low6, IntKind.i64.wrap (Int.tdiv (IntKind.i64.wrap (low6 + high7)) 2)))
 else
 some (.inr ((low6, false)))
def Zc5 (list0 : List (List Int)) (p1 : List Int) : Option (Int × Bool) :=
 loop (ZaP list0 p1) (0, (list0.length : Int))
def ZdG (n0 : Int) : List Int × Int → Option ((List Int × Int) ⊕ (List Int))
 | (out3, i4) =>
 bif decide (i4 < n0) then
 (gApp 8 out3 [i4]).bind fun l14 =>
 some (.inl (l14, IntKind.i64.wrap (i4 + 1)))
 else
 some (.inr (out3))
def Zga (n0 : Int) : Option (List Int) :=
 loop (ZdG n0) (([] : List Int), 0)
def ZdS (p0 q1 : List Int) : List Int × Int → Option ((List Int × Int) ⊕ (List Int))
 | (out5, i6) =>
 bif decide (i6 < (p0.length : Int)) then
 (gIdx p0 i6).bind fun e18 =>
 (gIdx q1 e18).bind fun e20 =>
 (gApp 8 out5 [e20]).bind fun l23 =>
 some (.inl (l23, IntKind.i64.wrap (i6 + 1)))
 else
 some (.inr (out5))
def ZfP (p0 q1 : List Int) : Option (List Int) :=
 loop (ZdS p0 q1) (([] : List Int), 0)
def Zgj (list0 : List (List Int)) (at1 : Int) (p2 : List Int) : Option (List (List Int)) :=
 (gSl list0 0 at1).bind fun l11 =>
 (gApp 24 ([] : List (List Int)) l11).bind fun l12 =>
 (gApp 24 l12 [p2]).bind fun l16 =>
 (gSl list0 at1 (list0.length : Int)).bind fun l20 =>
 (gApp 24 l16 l20).bind fun l21 =>
 some (l21)
def Zav (genera1 : List (List Int)) (most2 i11 : Int) : List (List Int) × List (List Int) × Int → Option ((List (List Int) × List (List Int) × Int) ⊕ ((List (List Int) × List (List Int) × Int) ⊕ ((List (List Int)) × Bool)))
 | (list9_2, queue10_2, k12) =>
 bif decide (k12 < (genera1.length : Int)) then
 (gIdx queue10_2 i11).bind fun e36 =>
 (gIdx genera1 k12).bind fun e40 =>
 (ZfP e36 e40).bind fun r42 =>
 (Zc5 list9_2 r42).bind fun r46 =>
 bif r46.2 then
 some (.inl (list9_2, queue10_2, IntKind.i64.wrap (k12 + 1)))
 else
 bif ((list9_2.length : Int) : Int) == most2 then
 some (.inr (.inr ((([] : List (List Int)), false))))
 else
 (Zgj list9_2 r46.1 r42).bind fun r57 =>
 (gApp 24 queue10_2 [r42]).bind fun l61 =>
 some (.inl (r57, l61, IntKind.i64.wrap (k12 + 1)))
 else
 some (.inr (.inl (list9_2, queue10_2, IntKind.i64.wrap (i11 + 1))))
def Zbx (genera1 : List (List Int)) (most2 : Int) : List (List Int) × List (List Int) × Int → Option ((List (List Int) × List (List Int) × Int) ⊕ ((List (List Int)) × Bool))
 | (list9, queue10, i11) =>
 bif decide (i11 < (queue10.length : Int)) then
 loop (Zav genera1 most2 i11) (list9, queue10, 0)
 else
 some (.inr ((list9, true)))
def ZbZ (degree0 : Int) (genera1 : List (List Int)) (most2 : Int) : Option ((List (List Int)) × Bool) :=
 (Zga degree0).bind fun r17 =>
 loop (Zbx genera1 most2) ([r17], [r17], 0)
def Zbd (degree0 : Int) (list1 : List (List Int)) : List (List Int) × List (List Int) × Int → Option ((List (List Int) × List (List Int) × Int) ⊕ ((List (List Int)) × Bool))
 | (out6, have7, i9) =>
 bif decide (i9 < (list1.length : Int)) then
 (gIdx list1 i9).bind fun e31 =>
 (Zc5 have7 e31).bind fun r33 =>
 bif r33.2 then
 some (.inl (out6, have7, IntKind.i64.wrap (i9 + 1)))
 else
 (gIdx list1 i9).bind fun e40 =>
 (ZaR e40).bind fun r42 =>
 (gApp 24 out6 [r42]).bind fun l44 =>
 (ZbZ degree0 l44 (list1.length : Int)).bind fun r50 =>
 bif !r50.2 then
 some (.inr ((([] : List (List Int)), false)))
 else
 some (.inl (l44, r50.1, IntKind.i64.wrap (i9 + 1)))
 else
 (Zdy have7 list1).bind fun r59 =>
 some (.inr ((out6, r59)))
def Zg8 (degree0 : Int) (list1 : List (List Int)) : Option ((List (List Int)) × Bool) :=
 (ZbZ degree0 ([] : List (List Int)) 1).bind fun r18 =>
 loop (Zbd degree0 list1) (([] : List (List Int)), r18.1, 0)
def ZbX (y0 : ZaE) : Int → Option ((Int) ⊕ (Bool))
 | y3 =>
 bif decide (y3 < (y0.Elements.length : Int)) then
 (gIdx y0.Elements y3).bind fun e42 =>
 (ZcO e42).bind fun r44 =>
 bif !r44 then
 some (.inr (false))
 else
 (gIdx y0.Elements y3).bind fun e52 =>
 bif ((e52.length : Int) : Int) != y0.Degree then
 some (.inr (false))
 else
 bif decide (y3 > 0) then
 (gIdx y0.Elements (IntKind.i64.wrap (y3 - 1))).bind fun e71 =>
 (gIdx y0.Elements y3).bind fun e78 =>
 (Zc2 e71 e78).bind fun r80 =>
 bif decide (r80 ≥ 0) then
 some (.inr (false))
 else
 some (.inl (IntKind.i64.wrap (y3 + 1)))
 else
 some (.inl (IntKind.i64.wrap (y3 + 1)))
 else
 (Zg8 y0.Degree y0.Elements).bind fun r93 =>
 some (.inr (r93.2))
def Zja (y0 : ZaE) : Option (Bool) :=
 loop (ZbX y0) (0)
def Zhi (y0 : ZaE) : Option Bool :=
 (ZH y0.Degree 1 32).bind fun r10 =>
 bif !r10 then
 some (false)
 else
 bif ((y0.Elements.length : Int) : Int) == 0 then
 some (false)
 else
 bif decide (((y0.Elements.length : Int) : Int) > 720) then
 some (false)
 else
 Zja y0
def ZfY (y0 : Zg) : Option Bool :=
 bif y0.Kind == 1 then
 (Zgh y0.Rows).bind fun r17 =>
 bif r17 then
 some (((y0.Rows.length : Int) : Int) == y0.Size)
 else
 some (false)
 else
 bif y0.Kind == 2 then
 (Zgv (Zba.mk y0.Size y0.Rows)).bind fun r42 =>
 some (r42)
 else
 bif y0.Kind == 3 then
 (Ze9 y0.Rows).bind fun r49 =>
 bif r49 then
 some (((y0.Rows.length : Int) : Int) == y0.Size)
 else
 some (false)
 else
 bif y0.Kind == 4 then
 (ZgD y0).bind fun r65 =>
 bif decide (((y0.Rows.length : Int) : Int) > 0) then
 (ZfZ (Z6.mk r65.Levels r65.Columns r65.Rows)).bind fun r73 =>
 some (r73)
 else
 some (false)
 else
 bif y0.Kind == 5 then
 (Zf6 y0).bind fun r78 =>
 (Zew (ZaY.mk (Zc.mk r78.Field.Prime r78.Field.Degree r78.Field.Poly) r78.Rows)).bind fun r79 =>
 some (r79)
 else
 bif y0.Kind == 6 then
 (Zha y0).bind fun r84 =>
 some (r84.2)
 else
 bif y0.Kind == 7 then
 (Zhi (ZaE.mk y0.Size y0.Rows)).bind fun r100 =>
 some (r100)
 else
 some (false)
def ZdI (list0 : List Int) (i4 : Int) (out3_2 : ByteArray) : Option ((ByteArray × Int) ⊕ (ByteArray)) :=
 (gIdx list0 i4).bind fun e30 =>
 (Zcv e30).bind fun r32 =>
 (gFit out3_2 r32).bind fun _ =>
 some (.inl (out3_2 ++ r32, IntKind.i64.wrap (i4 + 1)))
def Zbg (list0 : List Int) : ByteArray × Int → Option ((ByteArray × Int) ⊕ (ByteArray))
 | (out3, i4) =>
 bif decide (i4 < (list0.length : Int)) then
 (gIdx list0 i4).bind fun e19 =>
 (ZH e19 (-999999999) 999999999).bind fun r21 =>
 bif !r21 then
 some (.inr (⟨#[]⟩))
 else
 bif decide (i4 > 0) then
 (gFit out3 (⟨#[44]⟩ : ByteArray)).bind fun _ =>
 ZdI list0 i4 (out3 ++ (⟨#[44]⟩ : ByteArray))
 else
 ZdI list0 i4 out3
 else
 some (.inr (out3))
def ZgH (list0 : List Int) : Option ByteArray :=
 bif decide (((list0.length : Int) : Int) > 100) then
 some (⟨#[]⟩)
 else
 bif ((list0.length : Int) : Int) == 0 then
 some (⟨#[45]⟩)
 else
 loop (Zbg list0) (⟨#[]⟩, 0)
def Zch (o0 : Zg) (i4 : Int) (out3_2 : ByteArray) : Option ((ByteArray × Int) ⊕ (ByteArray)) :=
 (gIdx o0.Rows i4).bind fun e47 =>
 (ZgH e47).bind fun r49 =>
 (gFit out3_2 r49).bind fun _ =>
 some (.inl (out3_2 ++ r49, IntKind.i64.wrap (i4 + 1)))
def ZaN (o0 : Zg) : ByteArray × Int → Option ((ByteArray × Int) ⊕ (ByteArray))
 | (out3, i4) =>
 bif decide (i4 < (o0.Rows.length : Int)) then
 bif decide (i4 > 0) then
 (gFit out3 (⟨#[47]⟩ : ByteArray)).bind fun _ =>
 Zch o0 i4 (out3 ++ (⟨#[47]⟩ : ByteArray))
 else
 Zch o0 i4 out3
 else
 some (.inr (out3))
def Zgd (o0 : Zg) : Option ByteArray :=
 (Zct).bind fun r5 =>
 (gIdx r5 o0.Kind).bind fun e10 =>
 (Zcv o0.Size).bind fun r17 =>
 (gFit e10 (⟨#[32]⟩ : ByteArray)).bind fun _ =>
 (gFit (e10 ++ (⟨#[32]⟩ : ByteArray) : ByteArray) r17).bind fun _ =>
 (gFit ((e10 ++ (⟨#[32]⟩ : ByteArray) : ByteArray) ++ r17 : ByteArray) (⟨#[32]⟩ : ByteArray)).bind fun _ =>
 bif ((o0.Rows.length : Int) : Int) == 0 then
 (gFit (((e10 ++ (⟨#[32]⟩ : ByteArray) : ByteArray) ++ r17 : ByteArray) ++ (⟨#[32]⟩ : ByteArray) : ByteArray) (⟨#[110, 111, 110, 101]⟩ : ByteArray)).bind fun _ =>
 some ((((e10 ++ (⟨#[32]⟩ : ByteArray) : ByteArray) ++ r17 : ByteArray) ++ (⟨#[32]⟩ : ByteArray) : ByteArray) ++ (⟨#[110, 111, 110, 101]⟩ : ByteArray))
 else
 loop (ZaN o0) (((e10 ++ (⟨#[32]⟩ : ByteArray) : ByteArray) ++ r17 : ByteArray) ++ (⟨#[32]⟩ : ByteArray), 0)
def Zd4 (y0 : ByteArray) (r24 r31 : Int × Bool) (xs : List (List Int)) : Option (Zg × Bool) :=
 (ZfY (Zg.mk r24.1 r31.1 xs)).bind fun r79 =>
 bif !r79 then
 some (((Zg.mk 0 0 ([] : List (List Int))), false))
 else
 (Zgd (Zg.mk r24.1 r31.1 xs)).bind fun r82 =>
 bif !(r82.toList == y0.toList) then
 some (((Zg.mk 0 0 ([] : List (List Int))), false))
 else
 some (((Zg.mk r24.1 r31.1 xs), true))
def ZaW (y0 : ByteArray) (r24 r31 : Int × Bool) (r51 : List ByteArray) : Int × List (List Int) → Option ((Int × List (List Int)) ⊕ (Zg × Bool))
 | (y11, xs_2) =>
 bif decide (y11 < (r51.length : Int)) then
 (gIdx r51 y11).bind fun e65 =>
 (ZgK e65).bind fun r67 =>
 bif !r67.2 then
 some (.inr (((Zg.mk 0 0 ([] : List (List Int))), false)))
 else
 (gApp 24 xs_2 [r67.1]).bind fun l77 =>
 some (.inl (IntKind.i64.wrap (y11 + 1), l77))
 else
 (Zd4 y0 r24 r31 xs_2).map fun x => .inr (x)
def Zg6 (y0 : ByteArray) (r15 : List ByteArray) (r24 r31 : Int × Bool) : Option (Zg × Bool) :=
 (gIdx r15 2).bind fun e45 =>
 bif !(e45.toList == (⟨#[110, 111, 110, 101]⟩ : ByteArray).toList) then
 (gIdx r15 2).bind fun e49 =>
 (Zbc e49 47).bind fun r51 =>
 bif decide (((r51.length : Int) : Int) > 720) then
 some (((Zg.mk 0 0 ([] : List (List Int))), false))
 else
 loop (ZaW y0 r24 r31 r51) (0, ([] : List (List Int)))
 else
 Zd4 y0 r24 r31 ([] : List (List Int))
def Zg1 (y0 : ByteArray) : Option (Zg × Bool) :=
 (Zbc y0 32).bind fun r15 =>
 bif ((r15.length : Int) : Int) != 3 then
 some (((Zg.mk 0 0 ([] : List (List Int))), false))
 else
 (gIdx r15 0).bind fun e22 =>
 (ZfV e22).bind fun r24 =>
 (gIdx r15 1).bind fun e29 =>
 (ZdK e29).bind fun r31 =>
 bif !r24.2 then
 some (((Zg.mk 0 0 ([] : List (List Int))), false))
 else
 bif !r31.2 then
 some (((Zg.mk 0 0 ([] : List (List Int))), false))
 else
 Zg6 y0 r15 r24 r31
def Zcp (s0 sep1 : ByteArray) : Option (List ByteArray) := if s0.size < 4294967281 ∧ 1 ≤ sep1.size then some (Go.Lib.splitB sep1 0 (Go.Lib.countB s0 sep1) s0) else none
def Zb5 (s0 : List ByteArray) (v1 : ByteArray) : Int → Option ((Int) ⊕ (Int))
 | y8 =>
 bif decide (y8 < (s0.length : Int)) then
 (gIdx s0 y8).bind fun e14 =>
 bif v1.toList == e14.toList then
 some (.inr (y8))
 else
 some (.inl (IntKind.i64.wrap (y8 + 1)))
 else
 some (.inr ((-1)))
def ZhZ (s0 : List ByteArray) (v1 : ByteArray) : Option Int :=
 loop (Zb5 s0 v1) (0)
def Zd7 : Option (List ByteArray) :=
 some (([⟨#[115, 113, 117, 97, 114, 101]⟩, ⟨#[100, 101, 115, 105, 103, 110]⟩, ⟨#[104, 97, 100, 97, 109, 97, 114, 100]⟩, ⟨#[97, 114, 114, 97, 121]⟩, ⟨#[99, 111, 100, 101]⟩, ⟨#[103, 114, 97, 112, 104]⟩, ⟨#[103, 114, 111, 117, 112]⟩] : List ByteArray))
def Zgw (s0 : ByteArray) : Option (Int × Bool) :=
 (Zd7).bind fun r5 =>
 (ZhZ r5 s0).bind fun r7 =>
 some ((IntKind.i64.wrap (r7 + 1), decide (r7 ≥ 0)))
def Zii (s0 prefix1 : ByteArray) : Option Bool :=
 bif decide (((s0.size : Int) : Int) ≥ (prefix1.size : Int)) then
 (gStSl s0 0 (prefix1.size : Int)).bind fun s14 =>
 some (s14.toList == prefix1.toList)
 else
 some (false)
def Zi9 (s0 prefix1 : ByteArray) : Option ByteArray :=
 (Zii s0 prefix1).bind fun r7 =>
 bif r7 then
 (gStSl s0 (prefix1.size : Int) (s0.size)).bind fun s11 =>
 some (s11)
 else
 some (s0)
def ZgY (s0 prefix1 : ByteArray) : Option ByteArray :=
 (Zi9 s0 prefix1).bind fun r7 =>
 some (r7)
def Zi6 (i0 base1 : Int) : Option ByteArray := if base1 = 10 ∧ -9223372036854775808 ≤ i0 ∧ i0 ≤ 9223372036854775807 then some (itoaB i0) else none
def ZcZ (n0 : Int) : Option ByteArray :=
 (Zi6 n0 10).bind fun r4 =>
 some (r4)
def ZcD (s0 : ByteArray) : Option Int → Option (Int × Bool)
 | none => some (0, false)
 | some n =>
 (ZcZ n).bind fun r26 =>
 bif !(r26.toList == s0.toList) then
 some (0, false)
 else
 some (n, true)
def Zd2 (s0 : ByteArray) : Option (Int × Bool) :=
 (ZgY s0 ⟨#[45]⟩).bind fun r8 =>
 bif decide (((r8.size : Int) : Int) < 1) then
 some (0, false)
 else
 bif decide (((r8.size : Int) : Int) > 18) then
 some (0, false)
 else
 (gPars s0).bind fun q => ZcD s0 q
def ZdA (x0 : List ByteArray) (s1 : ByteArray) : Option ByteArray := if x0.length ≤ 140737488355328 ∧ (joinB x0 s1).size ≤ 140737488355328 then some (joinB x0 s1) else none
def ZcM (s0 : List Int) (fn1 : Int → Option Bool) : Int → Option ((Int) ⊕ (Int))
 | y8 =>
 bif decide (y8 < (s0.length : Int)) then
 (gIdx s0 y8).bind fun e14 =>
 (fn1 e14).bind fun r16 =>
 bif r16 then
 some (.inr (y8))
 else
 some (.inl (IntKind.i64.wrap (y8 + 1)))
 else
 some (.inr ((-1)))
def ZgN (s0 : List Int) (fn1 : Int → Option Bool) : Option Int :=
 loop (ZcM s0 fn1) (0)
def Zat (s0 : List Int) (fn1 : Int → Option Bool) : Option Bool :=
 (ZgN s0 fn1).bind fun r7 =>
 some (decide (r7 ≥ 0))
def ZP (n0 low1 high2 : Int) : Option Bool :=
 bif decide (n0 ≥ low1) then
 some (decide (n0 ≤ high2))
 else
 some (false)
def Zdl (n0 : Int) : Option Bool :=
 (ZP n0 (-999999999) 999999999).bind fun r4 =>
 some (!r4)
def ZcP (list0 : List Int) : List ByteArray × Int → Option ((List ByteArray × Int) ⊕ (ByteArray))
 | (words3, y18) =>
 bif decide (y18 < (list0.length : Int)) then
 (gIdx list0 y18).bind fun e20 =>
 (ZcZ e20).bind fun r24 =>
 (gApp 16 words3 [r24]).bind fun l26 =>
 some (.inl (l26, IntKind.i64.wrap (y18 + 1)))
 else
 (ZdA words3 ⟨#[44]⟩).bind fun r29 =>
 some (.inr (r29))
def Zgp (list0 : List Int) : Option (ByteArray) :=
 bif ((list0.length : Int) : Int) == 0 then
 some (⟨#[45]⟩)
 else
 loop (ZcP list0) (([] : List ByteArray), 0)
def Zeu (list0 : List Int) : Option ByteArray :=
 bif decide (((list0.length : Int) : Int) > 100) then
 some (⟨#[]⟩)
 else
 (Zat list0 (fun y0 => Zdl y0)).bind fun r11 =>
 bif r11 then
 some (⟨#[]⟩)
 else
 Zgp list0
def Zb3 (s0 : ByteArray) (r12 : List ByteArray) : List Int × Int → Option ((List Int × Int) ⊕ ((List Int) × Bool))
 | (list4, y14) =>
 bif decide (y14 < (r12.length : Int)) then
 (gIdx r12 y14).bind fun e16 =>
 (Zd2 e16).bind fun r20 =>
 (gApp 8 list4 [r20.1]).bind fun l26 =>
 some (.inl (l26, IntKind.i64.wrap (y14 + 1)))
 else
 (Zeu list4).bind fun r29 =>
 bif !(r29.toList == s0.toList) then
 some (.inr ((([] : List Int), false)))
 else
 some (.inr ((list4, true)))
def ZgS (s0 : ByteArray) : Option ((List Int) × Bool) :=
 bif s0.toList == (⟨#[45]⟩ : ByteArray).toList then
 some ((([] : List Int), true))
 else
 (Zcp s0 ⟨#[44]⟩).bind fun r12 =>
 loop (Zb3 s0 r12) (([] : List Int), 0)
def ZY (list0 : List (List Int)) : Option Int :=
 some ((list0.length : Int))
def Zbs (a0 : List Int) : Option (List Int) := gApp 8 [] a0
def ZeH (lists0 : List (List Int)) : List (List Int) × Int → Option ((List (List Int) × Int) ⊕ (List (List Int)))
 | (out3, y8) =>
 bif decide (y8 < (lists0.length : Int)) then
 (gIdx lists0 y8).bind fun e10 =>
 (Zbs e10).bind fun r14 =>
 (gApp 24 out3 [r14]).bind fun l16 =>
 some (.inl (l16, IntKind.i64.wrap (y8 + 1)))
 else
 some (.inr (out3))
def ZbO (lists0 : List (List Int)) : Option (List (List Int)) :=
 loop (ZeH lists0) (([] : List (List Int)), 0)
def ZK (list0 : List Int) : Option Int :=
 some ((list0.length : Int))
def Zg7 (o0 : Zg) : Option Z6 :=
 (ZbO o0.Rows).bind fun r8 =>
 bif decide (((o0.Rows.length : Int) : Int) > 0) then
 (gIdx o0.Rows 0).bind fun e16 =>
 (ZK e16).bind fun r18 =>
 some ((Z6.mk o0.Size r18 r8))
 else
 some ((Z6.mk o0.Size 0 r8))
def ZbI (s0 : List (List Int)) (fn1 : (List Int) → Option Bool) : Int → Option ((Int) ⊕ (Int))
 | y8 =>
 bif decide (y8 < (s0.length : Int)) then
 (gIdx s0 y8).bind fun e14 =>
 (fn1 e14).bind fun r16 =>
 bif r16 then
 some (.inr (y8))
 else
 some (.inl (IntKind.i64.wrap (y8 + 1)))
 else
 some (.inr ((-1)))
def ZdO (s0 : List (List Int)) (fn1 : (List Int) → Option Bool) : Option Int :=
 loop (ZbI s0 fn1) (0)
def ZeP (s0 : List (List Int)) (fn1 : (List Int) → Option Bool) : Option Bool :=
 (ZdO s0 fn1).bind fun r7 =>
 some (decide (r7 ≥ 0))
def Zhd (x0 : List Int) : Option (List Int) := if x0.length < 4611686018427387904 then some (sortI x0) else none
def Zet (p0 r9 : List Int) : Int → Option ((Int) ⊕ (Bool))
 | y12 =>
 bif decide (y12 < (r9.length : Int)) then
 (gIdx r9 y12).bind fun e15 =>
 bif e15 != y12 then
 some (.inr (false))
 else
 some (.inl (IntKind.i64.wrap (y12 + 1)))
 else
 some (.inr (decide (((p0.length : Int) : Int) ≤ 32)))
def ZeO (p0 : List Int) : Option Bool :=
 (Zbs p0).bind fun r7 =>
 (Zhd r7).bind fun r9 =>
 loop (Zet p0 r9) (0)
def Ziu (p0 : List Int) (y1 : Int) : Option Bool :=
 (ZK p0).bind fun r5 =>
 bif r5 != y1 then
 some (true)
 else
 (ZeO p0).bind fun r10 =>
 some (!r10)
def Zek (degree0 : Int) (list1 : List (List Int)) : Option Bool :=
 (ZeP list1 (fun y0 => Ziu y0 degree0)).bind fun r7 =>
 some (!r7)
def Zdc (a0 : List (List Int)) (y20 : Int) : List Int × Int → Option ((List Int × Int) ⊕ ((Int) ⊕ (Bool)))
 | (column5, y25) =>
 bif decide (y25 < (a0.length : Int)) then
 (gIdx a0 y25).bind fun e31 =>
 (gIdx e31 y20).bind fun e34 =>
 (gApp 8 column5 [e34]).bind fun l37 =>
 some (.inl (l37, IntKind.i64.wrap (y25 + 1)))
 else
 (ZeO column5).bind fun r40 =>
 bif !r40 then
 some (.inr (.inr (false)))
 else
 some (.inr (.inl (IntKind.i64.wrap (y20 + 1))))
def Zg9 (a0 : List (List Int)) : Int → Option ((Int) ⊕ (Bool))
 | y20 =>
 bif decide (y20 < (a0.length : Int)) then
 loop (Zdc a0 y20) (([] : List Int), 0)
 else
 some (.inr (true))
def ZiC (a0 : List (List Int)) : Option (Bool) :=
 loop (Zg9 a0) (0)
def Zhc (a0 : List (List Int)) : Option Bool :=
 (ZY a0).bind fun r8 =>
 (ZP r8 1 10).bind fun r10 =>
 bif !r10 then
 some (false)
 else
 (Zek r8 a0).bind fun r15 =>
 bif !r15 then
 some (false)
 else
 ZiC a0
def ZbN (set0 : List Int) (n1 : Int) : Int × Int → Option ((Int × Int) ⊕ (Bool))
 | (last5, y10) =>
 bif decide (y10 < (set0.length : Int)) then
 (gIdx set0 y10).bind fun e12 =>
 bif decide (e12 ≤ last5) then
 some (.inr (false))
 else
 bif decide (e12 ≥ n1) then
 some (.inr (false))
 else
 some (.inl (e12, IntKind.i64.wrap (y10 + 1)))
 else
 (ZP n1 0 32).bind fun r25 =>
 some (.inr (r25))
def Zg0 (set0 : List Int) (n1 : Int) : Option Bool :=
 loop (ZbN set0 n1) ((-1), 0)
def Zf2 (block0 : List Int) (points1 : Int) : Option Bool :=
 bif decide (((block0.length : Int) : Int) > 0) then
 (Zg0 block0 points1).bind fun r11 =>
 some (r11)
 else
 some (false)
def ZfR (b0 : List Int) (y1 : Int) : Option Bool :=
 (Zf2 b0 y1).bind fun r6 =>
 some (!r6)
def ZhR (blocks0 : List (List Int)) (points1 : Int) : Option Bool :=
 (ZP points1 1 32).bind fun r6 =>
 bif r6 then
 (ZeP blocks0 (fun y0 => ZfR y0 points1)).bind fun r10 =>
 some (!r10)
 else
 some (false)
def ZcF (x0 : List (List Int)) (fn1 : (List Int) → (List Int) → Option Int) : Int → Option ((Int) ⊕ (Bool))
 | i5 =>
 bif decide (i5 > 0) then
 (gIdx x0 i5).bind fun e16 =>
 (gIdx x0 (IntKind.i64.wrap (i5 - 1))).bind fun e21 =>
 (fn1 e16 e21).bind fun r23 =>
 bif decide (r23 < 0) then
 some (.inr (false))
 else
 some (.inl (IntKind.i64.wrap (i5 - 1)))
 else
 some (.inr (true))
def Zfo (x0 : List (List Int)) (fn1 : (List Int) → (List Int) → Option Int) : Option Bool :=
 loop (ZcF x0 fn1) (IntKind.i64.wrap ((x0.length : Int) - 1))
def Zbp (x0 : Int) : Option Bool :=
 some (x0 != x0)
def ZaO (x0 y1 : Int) : Option Int :=
 (Zbp x0).bind fun r8 =>
 (Zbp y1).bind fun r10 =>
 bif r8 then
 bif r10 then
 some (0)
 else
 some ((-1))
 else
 bif r10 then
 some (1)
 else
 bif decide (x0 < y1) then
 some ((-1))
 else
 bif decide (x0 > y1) then
 some (1)
 else
 some (0)
def ZaT (s0 s1 : List Int) : Int → Option ((Int) ⊕ (Int))
 | y11 =>
 bif decide (y11 < (s0.length : Int)) then
 (gIdx s0 y11).bind fun e14 =>
 bif decide (y11 ≥ (s1.length : Int)) then
 some (.inr (1))
 else
 (gIdx s1 y11).bind fun e22 =>
 (ZaO e14 e22).bind fun r26 =>
 bif r26 != 0 then
 some (.inr (r26))
 else
 some (.inl (IntKind.i64.wrap (y11 + 1)))
 else
 bif decide (((s0.length : Int) : Int) < (s1.length : Int)) then
 some (.inr ((-1)))
 else
 some (.inr (0))
def Zaj (s0 s1 : List Int) : Option Int :=
 loop (ZaT s0 s1) (0)
def Zfg (d0 : Zba) : Option Bool :=
 (ZhR d0.Blocks d0.Points).bind fun r7 =>
 bif r7 then
 bif decide (((d0.Blocks.length : Int) : Int) ≤ 128) then
 (Zfo d0.Blocks (fun y0 y1 => Zaj y0 y1)).bind fun r17 =>
 some (r17)
 else
 some (false)
 else
 some (false)
def ZgJ (o0 : Zg) : Option Zba :=
 (ZbO o0.Rows).bind fun r7 =>
 some ((Zba.mk o0.Size r7))
def Zfz (x0 : Int) : Option Bool :=
 bif x0 != 1 then
 some (x0 != (-1))
 else
 some (false)
def Zdn (e17 : List Int) (y31 : Int) (e33 : List Int) : Int × Int → Option ((Int × Int) ⊕ ((Int) ⊕ ((Int) ⊕ (Bool))))
 | (sum8, y37) =>
 bif decide (y37 < (e17.length : Int)) then
 (gIdx e17 y37).bind fun e43 =>
 (gIdx e33 y37).bind fun e47 =>
 some (.inl (IntKind.i64.wrap (sum8 + (IntKind.i64.wrap (e43 * e47))), IntKind.i64.wrap (y37 + 1)))
 else
 bif sum8 != 0 then
 some (.inr (.inr (.inr (false))))
 else
 some (.inr (.inl (IntKind.i64.wrap (y31 + 1))))
def Zeg (y14 : Int) (e17 : List Int) (l29 : List (List Int)) : Int → Option ((Int) ⊕ ((Int) ⊕ (Bool)))
 | y31 =>
 bif decide (y31 < (l29.length : Int)) then
 (gIdx l29 y31).bind fun e33 =>
 loop (Zdn e17 y31 e33) (0, 0)
 else
 some (.inr (.inl (IntKind.i64.wrap (y14 + 1))))
def Zge (h0 : List (List Int)) (y14 : Int) (e17 : List Int) : Option ((Int) ⊕ (Bool)) :=
 (gSl h0 0 y14).bind fun l29 =>
 loop (Zeg y14 e17 l29) (0)
def Zcq (h0 : List (List Int)) (r11 : Int) : Int → Option ((Int) ⊕ (Bool))
 | y14 =>
 bif decide (y14 < (h0.length : Int)) then
 (gIdx h0 y14).bind fun e17 =>
 (ZK e17).bind fun r20 =>
 bif r20 != r11 then
 some (.inr (false))
 else
 (Zat e17 (fun y0 => Zfz y0)).bind fun r25 =>
 bif r25 then
 some (.inr (false))
 else
 Zge h0 y14 e17
 else
 (ZP r11 1 32).bind fun r57 =>
 some (.inr (r57))
def ZfI (h0 : List (List Int)) : Option Bool :=
 (ZY h0).bind fun r11 =>
 loop (Zcq h0 r11) (0)
def ZiS (levels0 column1 : Int) : Option Bool :=
 (ZP levels0 2 16).bind fun r6 =>
 bif r6 then
 (ZP column1 1 8).bind fun r9 =>
 some (r9)
 else
 some (false)
def ZfX (x0 : Int) (y1 : Z6) : Option Bool :=
 (ZP x0 0 (IntKind.i64.wrap (y1.Levels - 1))).bind fun r8 =>
 some (!r8)
def Zea (a0 : Z6) : Int → Option ((Int) ⊕ (Bool))
 | y20 =>
 bif decide (y20 < (a0.Rows.length : Int)) then
 (gIdx a0.Rows y20).bind fun e22 =>
 (ZK e22).bind fun r25 =>
 bif r25 != a0.Columns then
 some (.inr (false))
 else
 (Zat e22 (fun y0 => ZfX y0 (Z6.mk a0.Levels a0.Columns a0.Rows))).bind fun r32 =>
 bif r32 then
 some (.inr (false))
 else
 some (.inl (IntKind.i64.wrap (y20 + 1)))
 else
 some (.inr (true))
def Zix (a0 : Z6) : Option (Bool) :=
 loop (Zea a0) (0)
def Ze0 (a0 : Z6) : Option Bool :=
 (ZiS a0.Levels a0.Columns).bind fun r9 =>
 bif !r9 then
 some (false)
 else
 bif decide (((a0.Rows.length : Int) : Int) > 256) then
 some (false)
 else
 Zix a0
def ZdX (base0 e1_2 power7 : Int) : Option ((Int × Int) ⊕ (Int)) :=
 some (.inl (IntKind.i64.wrap (e1_2 - 1), IntKind.i64.wrap (power7 * base0)))
def ZaK (base0 limit2 : Int) : Int × Int → Option ((Int × Int) ⊕ (Int))
 | (e1_2, power7) =>
 bif decide (e1_2 > 0) then
 bif decide (power7 ≤ limit2) then
 ZdX base0 e1_2 power7
 else
 some (.inr (power7))
 else
 some (.inr (power7))
def ZbD (base0 e1 limit2 : Int) : Option Int :=
 loop (ZaK base0 limit2) (e1, 1)
def ZbA (f0 : Zc) : Option Int :=
 (ZbD f0.Prime f0.Degree 64).bind fun r7 =>
 some (r7)
def Zbl (base1 : Int) (l10 : List Int) : Int × Int × List Int → Option ((Int × Int × List Int) ⊕ (List Int))
 | (n0_2, y13, xs) =>
 bif decide (y13 < (l10.length : Int)) then
 (gNz base1).bind fun _ =>
 (gIdx xs y13).bind fun e21 =>
 (gNz base1).bind fun _ =>
 some (.inl (IntKind.i64.wrap (Int.tdiv n0_2 base1), IntKind.i64.wrap (y13 + 1), (xs.set y13.toNat (Int.tmod n0_2 base1))))
 else
 some (.inr (xs))
def Zay (n0 base1 count2 : Int) : Option (List Int) :=
 (gMake 8 (0 : Int) count2 count2).bind fun l10 =>
 loop (Zbl base1 l10) (n0, 0, l10)
def ZcW (y1 : List Int) (y2 y9 e29 : Int) : Int × List Int → Option ((Int × List Int) ⊕ ((Int × List Int) ⊕ (List Int)))
 | (y33, xs_2) =>
 bif decide (y33 < (y1.length : Int)) then
 (gIdx y1 y33).bind fun e36 =>
 (gIdx xs_2 (IntKind.i64.wrap ((IntKind.i64.wrap (y9 - (IntKind.i64.wrap ((y1.length : Int) - 1)))) + y33))).bind fun e47 =>
 (gNz y2).bind fun _ =>
 (gNz y2).bind fun _ =>
 (gIdx xs_2 (IntKind.i64.wrap ((IntKind.i64.wrap (y9 - (IntKind.i64.wrap ((y1.length : Int) - 1)))) + y33))).bind fun e59 =>
 some (.inl (IntKind.i64.wrap (y33 + 1), (xs_2.set (IntKind.i64.wrap ((IntKind.i64.wrap (y9 - (IntKind.i64.wrap ((y1.length : Int) - 1)))) + y33) : Int).toNat (Int.tmod (IntKind.i64.wrap ((Int.tmod (IntKind.i64.wrap (e47 - (IntKind.i64.wrap (e29 * e36)))) y2) + y2)) y2))))
 else
 some (.inr (.inl (IntKind.i64.wrap (y9 - 1), xs_2)))
def ZaU (y1 : List Int) (y2 : Int) : Int × List Int → Option ((Int × List Int) ⊕ (List Int))
 | (y9, xs) =>
 bif decide (y9 ≥ (IntKind.i64.wrap ((y1.length : Int) - 1))) then
 (gIdx xs y9).bind fun e29 =>
 loop (ZcW y1 y2 y9 e29) (0, xs)
 else
 (gSl xs 0 (if ((xs.length : Int) : Int) < (IntKind.i64.wrap ((y1.length : Int) - 1)) then (xs.length : Int) else IntKind.i64.wrap ((y1.length : Int) - 1))).bind fun l66 =>
 some (.inr (l66))
def ZbT (y0 y1 : List Int) (y2 : Int) : Option (List Int) :=
 (Zbs y0).bind fun r15 =>
 loop (ZaU y1 y2) (IntKind.i64.wrap ((r15.length : Int) - 1), r15)
def ZgT (x0 : Int) : Option Bool :=
 some (x0 != 0)
def ZfC (list0 : List Int) : Option Bool :=
 (Zat list0 (fun y0 => ZgT y0)).bind fun r4 =>
 some (!r4)
def Zip (poly0 : List Int) (p1 d6 : Int) : Int → Option ((Int) ⊕ ((Int) ⊕ (Bool)))
 | n7 =>
 (ZbD p1 d6 64).bind fun r20 =>
 bif decide (n7 < r20) then
 (Zay n7 p1 d6).bind fun r28 =>
 (gApp 8 r28 [1]).bind fun l30 =>
 (ZbT poly0 l30 p1).bind fun r32 =>
 (ZfC r32).bind fun r33 =>
 bif r33 then
 some (.inr (.inr (false)))
 else
 some (.inl (IntKind.i64.wrap (n7 + 1)))
 else
 some (.inr (.inl (IntKind.i64.wrap (d6 + 1))))
def ZhB (poly0 : List Int) (p1 r9 : Int) : Int → Option ((Int) ⊕ (Bool))
 | d6 =>
 bif decide ((IntKind.i64.wrap (2 * d6) : Int) ≤ (IntKind.i64.wrap (r9 - 1))) then
 loop (Zip poly0 p1 d6) (0)
 else
 some (.inr (true))
def ZeE (poly0 : List Int) (p1 : Int) : Option Bool :=
 (ZK poly0).bind fun r9 =>
 loop (ZhB poly0 p1 r9) (1)
def ZbR (p4 : Int) : Int × List Int → Option ((Int × List Int) ⊕ ((Int × List Int × Int) ⊕ (List Int)))
 | (n0_3, factor3_2) =>
 (gNz p4).bind fun _ =>
 bif (Int.tmod n0_3 p4 : Int) == 0 then
 (gApp 8 factor3_2 [p4]).bind fun l22 =>
 (gNz p4).bind fun _ =>
 some (.inl (IntKind.i64.wrap (Int.tdiv n0_3 p4), l22))
 else
 some (.inr (.inl (n0_3, factor3_2, IntKind.i64.wrap (p4 + 1))))
def ZaM : Int × List Int × Int → Option ((Int × List Int × Int) ⊕ (List Int))
 | (n0_2, factor3, p4) =>
 bif decide ((IntKind.i64.wrap (p4 * p4) : Int) ≤ n0_2) then
 loop (ZbR p4) (n0_2, factor3)
 else
 bif decide (n0_2 > 1) then
 (gApp 8 factor3 [n0_2]).bind fun l31 =>
 some (.inr (l31))
 else
 some (.inr (factor3))
def Zbw (n0 : Int) : Option (List Int) :=
 (ZP n0 1 1000000).bind fun r6 =>
 bif !r6 then
 some (([] : List Int))
 else
 loop (ZaM) (n0, ([] : List Int), 2)
def Zgr (n0 : Int) : Option Bool :=
 (Zbw n0).bind fun r4 =>
 some (((r4.length : Int) : Int) == 1)
def Zhv (f0 : Zc) : Int → Option ((Int) ⊕ (Bool))
 | y41 =>
 bif decide (y41 < (f0.Poly.length : Int)) then
 (gIdx f0.Poly y41).bind fun e43 =>
 (ZP e43 0 (IntKind.i64.wrap (f0.Prime - 1))).bind fun r49 =>
 bif !r49 then
 some (.inr (false))
 else
 some (.inl (IntKind.i64.wrap (y41 + 1)))
 else
 (ZeE f0.Poly f0.Prime).bind fun r56 =>
 some (.inr (r56))
def Zfu (f0 : Zc) : Option (Bool) :=
 loop (Zhv f0) (0)
def ZfD (f0 : Zc) : Option (Bool) :=
 (ZK f0.Poly).bind fun r24 =>
 bif r24 != (IntKind.i64.wrap (f0.Degree + 1)) then
 some (false)
 else
 (gIdx f0.Poly f0.Degree).bind fun e34 =>
 bif e34 != 1 then
 some (false)
 else
 Zfu f0
def Zez (f0 : Zc) : Option Bool :=
 (Zgr f0.Prime).bind fun r7 =>
 bif !r7 then
 some (false)
 else
 bif decide (f0.Degree < 1) then
 some (false)
 else
 (ZbD f0.Prime f0.Degree 64).bind fun r19 =>
 bif decide (r19 > 64) then
 some (false)
 else
 ZfD f0
def Zdd (x0 y1 : Int) : Option Bool :=
 (ZP x0 0 (IntKind.i64.wrap (y1 - 1))).bind fun r7 =>
 some (!r7)
def ZiW (q0 : Int) (list1 : List Int) : Option Bool :=
 (Zat list1 (fun y0 => Zdd y0 q0)).bind fun r7 =>
 some (!r7)
def Zd0 (row0 : List Int) (y1 : List (List Int)) (y2 : Int) : Option Bool :=
 (gIdx y1 0).bind fun e8 =>
 bif ((row0.length : Int) : Int) != (e8.length : Int) then
 some (true)
 else
 (ZiW y2 row0).bind fun r15 =>
 some (!r15)
def Zin (f0 : Zc) (m1 : List (List Int)) : Option (Bool) :=
 (ZbA (Zc.mk f0.Prime f0.Degree f0.Poly)).bind fun r24 =>
 (ZeP m1 (fun y0 => Zd0 y0 m1 r24)).bind fun r27 =>
 some (!r27)
def ZdP (f0 : Zc) (m1 : List (List Int)) : Option Bool :=
 (Zez (Zc.mk f0.Prime f0.Degree f0.Poly)).bind fun r7 =>
 bif !r7 then
 some (false)
 else
 (ZY m1).bind fun r11 =>
 (ZP r11 1 32).bind fun r12 =>
 bif !r12 then
 some (false)
 else
 (gIdx m1 0).bind fun e17 =>
 (ZK e17).bind fun r19 =>
 (ZP r19 1 32).bind fun r20 =>
 bif !r20 then
 some (false)
 else
 Zin f0 m1
def Zon (digits0 : List Int) (base1 : Int) : Int × Int → Option ((Int × Int) ⊕ (Int))
 | (n5, k6) =>
 bif decide (k6 ≥ 0) then
 (gIdx digits0 k6).bind fun e19 =>
 some (.inl (IntKind.i64.wrap ((IntKind.i64.wrap (n5 * base1)) + e19), IntKind.i64.wrap (k6 - 1)))
 else
 some (.inr (n5))
def Zf5 (digits0 : List Int) (base1 : Int) : Option Int :=
 loop (Zon digits0 base1) (0, IntKind.i64.wrap ((digits0.length : Int) - 1))
def Zep (f0 : Zc) (sign3 : Int) (r17 r23 : List Int) : Int × List Int → Option ((Int × List Int) ⊕ (Int))
 | (y26, xs) =>
 bif decide (y26 < (r17.length : Int)) then
 (gIdx xs y26).bind fun e33 =>
 (gIdx r23 y26).bind fun e38 =>
 (gNz f0.Prime).bind fun _ =>
 (gIdx xs y26).bind fun e48 =>
 some (.inl (IntKind.i64.wrap (y26 + 1), (xs.set y26.toNat (Int.tmod (IntKind.i64.wrap ((IntKind.i64.wrap (e33 + (IntKind.i64.wrap (sign3 * e38)))) + f0.Prime)) f0.Prime))))
 else
 (Zf5 xs f0.Prime).bind fun r53 =>
 some (.inr (r53))
def ZeK (f0 : Zc) (a1 b2 sign3 : Int) : Option Int :=
 (Zay a1 f0.Prime f0.Degree).bind fun r17 =>
 (Zay b2 f0.Prime f0.Degree).bind fun r23 =>
 loop (Zep f0 sign3 r17 r23) (0, r17)
def ZfN (y0 : Zc) (r17 r23 : List Int) (y30 : Int) : Int × List Int → Option ((Int × List Int) ⊕ ((Int × List Int) ⊕ (Int)))
 | (y35, xs_2) =>
 bif decide (y35 < (r23.length : Int)) then
 (gIdx xs_2 (IntKind.i64.wrap (y30 + y35))).bind fun e46 =>
 (gIdx r17 y30).bind fun e50 =>
 (gIdx r23 y35).bind fun e54 =>
 (gNz y0.Prime).bind fun _ =>
 (gIdx xs_2 (IntKind.i64.wrap (y30 + y35))).bind fun e61 =>
 some (.inl (IntKind.i64.wrap (y35 + 1), (xs_2.set (IntKind.i64.wrap (y30 + y35) : Int).toNat (Int.tmod (IntKind.i64.wrap (e46 + (IntKind.i64.wrap (e50 * e54)))) y0.Prime))))
 else
 some (.inr (.inl (IntKind.i64.wrap (y30 + 1), xs_2)))
def ZbQ (y0 : Zc) (r17 r23 : List Int) : Int × List Int → Option ((Int × List Int) ⊕ (Int))
 | (y30, xs) =>
 bif decide (y30 < (r17.length : Int)) then
 loop (ZfN y0 r17 r23 y30) (0, xs)
 else
 (ZbT xs y0.Poly y0.Prime).bind fun r69 =>
 (Zf5 r69 y0.Prime).bind fun r72 =>
 some (.inr (r72))
def Zfc (y0 : Zc) (y1 y2 : Int) : Option Int :=
 (Zay y1 y0.Prime y0.Degree).bind fun r17 =>
 (Zay y2 y0.Prime y0.Degree).bind fun r23 =>
 (gMake 8 (0 : Int) (IntKind.i64.wrap (2 * y0.Degree)) (IntKind.i64.wrap (2 * y0.Degree))).bind fun l27 =>
 loop (ZbQ y0 r17 r23) (0, l27)
def ZbU (y0 : Zc) (r10 y4 : Int) (xs xs_2 xs_3 : List (List Int)) : Int × List Int × List Int × List Int × List Int → Option ((Int × List Int × List Int × List Int × List Int) ⊕ ((Int × List (List Int) × List (List Int) × List (List Int) × List Int) ⊕ (Zaf)))
 | (y8, xs_5, xs_6, xs_7, xs_8) =>
 bif decide (y8 < r10) then
 (ZeK (Zc.mk y0.Prime y0.Degree y0.Poly) y4 y8 1).bind fun r46 =>
 (ZeK (Zc.mk y0.Prime y0.Degree y0.Poly) y4 y8 (-1)).bind fun r50 =>
 (Zfc (Zc.mk y0.Prime y0.Degree y0.Poly) y4 y8).bind fun r54 =>
 (gIdx xs_6 y8).bind fun e55 =>
 (gIdx xs_7 y8).bind fun e56 =>
 (gIdx xs_8 y8).bind fun e57 =>
 (gIdx (xs_8.set y8.toNat r54) y8).bind fun e60 =>
 bif e60 == 1 then
 (gIdx xs_5 y4).bind fun e67 =>
 some (.inl (IntKind.i64.wrap (y8 + 1), (xs_5.set y4.toNat y8), (xs_6.set y8.toNat r46), (xs_7.set y8.toNat r50), (xs_8.set y8.toNat r54)))
 else
 some (.inl (IntKind.i64.wrap (y8 + 1), xs_5, (xs_6.set y8.toNat r46), (xs_7.set y8.toNat r50), (xs_8.set y8.toNat r54)))
 else
 (gApp 24 xs [xs_6]).bind fun l72 =>
 (gApp 24 xs_2 [xs_7]).bind fun l77 =>
 (gApp 24 xs_3 [xs_8]).bind fun l82 =>
 some (.inr (.inl (IntKind.i64.wrap (y4 + 1), l72, l77, l82, xs_5)))
def Zeo (y0 : Zc) (r10 : Int) : Int × List (List Int) × List (List Int) × List (List Int) × List Int → Option ((Int × List (List Int) × List (List Int) × List (List Int) × List Int) ⊕ (Zaf))
 | (y4, xs, xs_2, xs_3, xs_4) =>
 bif decide (y4 < r10) then
 (gMake 8 (0 : Int) r10 r10).bind fun l24 =>
 (gMake 8 (0 : Int) r10 r10).bind fun l27 =>
 (gMake 8 (0 : Int) r10 r10).bind fun l30 =>
 loop (ZbU y0 r10 y4 xs xs_2 xs_3) (0, xs_4, l24, l27, l30)
 else
 some (.inr ((Zaf.mk r10 xs xs_2 xs_3 xs_4)))
def Ze4 (y0 : Zc) : Option Zaf :=
 (ZbA (Zc.mk y0.Prime y0.Degree y0.Poly)).bind fun r10 =>
 (gMake 8 (0 : Int) r10 r10).bind fun l14 =>
 loop (Zeo y0 r10) (0, ([] : List (List Int)), ([] : List (List Int)), ([] : List (List Int)), l14)
def Zcs (row0 : List Int) (y1 : Int) : Option Bool :=
 (gIdx row0 y1).bind fun e6 =>
 some (e6 != 0)
def Zed (t0 : Zaf) (row2 : List Int) (factor3 : Int) : Int × List Int → Option ((Int × List Int) ⊕ (List Int))
 | (y12, xs) =>
 bif decide (y12 < (row2.length : Int)) then
 (gIdx row2 y12).bind fun e15 =>
 (gIdx xs y12).bind fun e23 =>
 (gIdx t0.qadd e23).bind fun e25 =>
 (gIdx t0.qmul factor3).bind fun e30 =>
 (gIdx e30 e15).bind fun e33 =>
 (gIdx e25 e33).bind fun e35 =>
 (gIdx xs y12).bind fun e37 =>
 some (.inl (IntKind.i64.wrap (y12 + 1), (xs.set y12.toNat e35)))
 else
 some (.inr (xs))
def ZgM (t0 : Zaf) (to1 row2 : List Int) (factor3 : Int) : Option (List Int) :=
 loop (Zed t0 row2 factor3) (0, to1)
def Zc8 (y8 : List Int) (y9 : Int) (xs : List (List Int)) : Option ((List (List Int)) × (List Int) × Int) :=
 (gSl xs 0 (y8.length : Int)).bind fun l161 =>
 some ((l161, y8, y9))
def ZeS (y10 : Int) (y8_3 : List Int) (y9_3 : Int) (xs_3 : List (List Int)) : Option ((List Int × Int × Int × List (List Int)) ⊕ ((List (List Int)) × (List Int) × Int)) :=
 some (.inl (y8_3, y9_3, IntKind.i64.wrap (y10 + 1), xs_3))
def ZcC (y0 : Zaf) (y8_2 : List Int) (y10 y115 : Int) (xs_6 : List (List Int)) (e118 : List Int) (y129 : Bool) : Option ((Int × List (List Int)) ⊕ ((Int × List (List Int)) ⊕ ((List Int × Int × Int × List (List Int)) ⊕ ((List (List Int)) × (List Int) × Int)))) :=
 bif y129 then
 (gIdx xs_6 (y8_2.length : Int)).bind fun e134 =>
 (gIdx y0.qsub 0).bind fun e138 =>
 (gIdx e118 y10).bind fun e142 =>
 (gIdx e138 e142).bind fun e144 =>
 (gNe y115 (y8_2.length : Int)).bind fun ne146 =>
 (ZgM (Zaf.mk y0.qq y0.qadd y0.qsub y0.qmul y0.qinv) e118 e134 e144).bind fun r146 =>
 some (.inl (IntKind.i64.wrap (y115 + 1), (xs_6.set y115.toNat r146)))
 else
 some (.inl (IntKind.i64.wrap (y115 + 1), xs_6))
def Za5 (y0 : Zaf) (y8_2 : List Int) (y10 e82 : Int) (xs_5 : List (List Int)) : Int × List (List Int) → Option ((Int × List (List Int)) ⊕ ((Int × List (List Int)) ⊕ ((List Int × Int × Int × List (List Int)) ⊕ ((List (List Int)) × (List Int) × Int))))
 | (y115, xs_6) =>
 bif decide (y115 < (xs_5.length : Int)) then
 (gIdx xs_6 y115).bind fun e118 =>
 bif y115 != (y8_2.length : Int) then
 (gIdx e118 y10).bind fun e126 =>
 ZcC y0 y8_2 y10 y115 xs_6 e118 (e126 != 0)
 else
 ZcC y0 y8_2 y10 y115 xs_6 e118 false
 else
 (gApp 8 y8_2 [y10]).bind fun l151 =>
 bif ((l151.length : Int) : Int) == (xs_6.length : Int) then
 (Zc8 l151 e82 xs_6).map fun x => .inr (.inr (.inr (x)))
 else
 (ZeS y10 l151 e82 xs_6).map fun x => .inr (.inr (x))
def ZdT (y0 : Zaf) (y8_2 : List Int) (y10 e74 e82 : Int) (e86 : List Int) : Int × List (List Int) → Option ((Int × List (List Int)) ⊕ ((List Int × Int × Int × List (List Int)) ⊕ ((List (List Int)) × (List Int) × Int)))
 | (y89, xs_5) =>
 bif decide (y89 < (e86.length : Int)) then
 (gIdx xs_5 (y8_2.length : Int)).bind fun e =>
 (gIdx e y89).bind fun e92 =>
 (gIdx xs_5 (y8_2.length : Int)).bind fun e96 =>
 (gIdx y0.qinv e74).bind fun e104 =>
 (gIdx y0.qmul e104).bind fun e106 =>
 (gIdx e106 e92).bind fun e109 =>
 (gIdx e96 y89).bind fun e111 =>
 some (.inl (IntKind.i64.wrap (y89 + 1), (xs_5.set ((y8_2.length : Int) : Int).toNat (e96.set y89.toNat e109))))
 else
 loop (Za5 y0 y8_2 y10 e82 xs_5) (0, xs_5)
def Zd5 (y0 : Zaf) (y8_2 : List Int) (y10 y9_4 : Int) (xs_4 : List (List Int)) : Option ((List Int × Int × Int × List (List Int)) ⊕ ((List (List Int)) × (List Int) × Int)) :=
 (gIdx xs_4 (y8_2.length : Int)).bind fun e71 =>
 (gIdx e71 y10).bind fun e74 =>
 (gIdx y0.qmul y9_4).bind fun e79 =>
 (gIdx e79 e74).bind fun e82 =>
 (gIdx xs_4 (y8_2.length : Int)).bind fun e86 =>
 loop (ZdT y0 y8_2 y10 e74 e82 e86) (0, xs_4)
def ZdE (y0 : Zaf) (y8_2 : List Int) (y9_2 y10 : Int) (xs_2 : List (List Int)) : Option ((List Int × Int × Int × List (List Int)) ⊕ ((List (List Int)) × (List Int) × Int)) :=
 (gSl xs_2 (y8_2.length : Int) (xs_2.length : Int)).bind fun l37 =>
 (ZdO l37 (fun y0 => Zcs y0 y10)).bind fun r39 =>
 bif decide (r39 < 0) then
 ZeS y10 y8_2 0 xs_2
 else
 bif decide (r39 > 0) then
 (gIdx xs_2 (IntKind.i64.wrap ((y8_2.length : Int) + r39))).bind fun e54 =>
 (gIdx xs_2 (y8_2.length : Int)).bind fun e58 =>
 (gIdx xs_2 (y8_2.length : Int)).bind fun e60 =>
 (gIdx (xs_2.set ((y8_2.length : Int) : Int).toNat e54) (IntKind.i64.wrap ((y8_2.length : Int) + r39))).bind fun e61 =>
 (gIdx y0.qsub 0).bind fun e64 =>
 (gIdx e64 y9_2).bind fun e67 =>
 Zd5 y0 y8_2 y10 e67 ((xs_2.set ((y8_2.length : Int) : Int).toNat e54).set (IntKind.i64.wrap ((y8_2.length : Int) + r39) : Int).toNat e58)
 else
 Zd5 y0 y8_2 y10 y9_2 xs_2
def Zbe (y0 : Zaf) : List Int × Int × Int × List (List Int) → Option ((List Int × Int × Int × List (List Int)) ⊕ ((List (List Int)) × (List Int) × Int))
 | (y8_2, y9_2, y10, xs_2) =>
 bif decide (((xs_2.length : Int) : Int) > 0) then
 (gIdx xs_2 0).bind fun e26 =>
 bif decide (y10 < (e26.length : Int)) then
 ZdE y0 y8_2 y9_2 y10 xs_2
 else
 (Zc8 y8_2 y9_2 xs_2).map fun x => .inr (x)
 else
 (Zc8 y8_2 y9_2 xs_2).map fun x => .inr (x)
def ZgB (y0 : Zaf) (y1 : List (List Int)) : Option ((List (List Int)) × (List Int) × Int) :=
 (ZbO y1).bind fun r19 =>
 loop (Zbe y0) (([] : List Int), 1, 0, r19)
def Zfy (s0 s1 : List (List Int)) (fn2 : (List Int) → (List Int) → Option Bool) : Int → Option ((Int) ⊕ (Bool))
 | y17 =>
 bif decide (y17 < (s0.length : Int)) then
 (gIdx s0 y17).bind fun e20 =>
 (gIdx s1 y17).bind fun e24 =>
 (fn2 e20 e24).bind fun r29 =>
 bif !r29 then
 some (.inr (false))
 else
 some (.inl (IntKind.i64.wrap (y17 + 1)))
 else
 some (.inr (true))
def Zio (s0 s1 : List (List Int)) (fn2 : (List Int) → (List Int) → Option Bool) : Option Bool :=
 bif ((s0.length : Int) : Int) != (s1.length : Int) then
 some (false)
 else
 loop (Zfy s0 s1 fn2) (0)
def ZgC (s0 s1 : List Int) : Int → Option ((Int) ⊕ (Bool))
 | y13 =>
 bif decide (y13 < (s0.length : Int)) then
 (gIdx s0 y13).bind fun e18 =>
 (gIdx s1 y13).bind fun e22 =>
 bif e18 != e22 then
 some (.inr (false))
 else
 some (.inl (IntKind.i64.wrap (y13 + 1)))
 else
 some (.inr (true))
def ZfU (s0 s1 : List Int) : Option Bool :=
 bif ((s0.length : Int) : Int) != (s1.length : Int) then
 some (false)
 else
 loop (ZgC s0 s1) (0)
def Zfd (a0 b1 : List (List Int)) : Option Bool :=
 (Zio a0 b1 (fun y0 y1 => ZfU y0 y1)).bind fun r7 =>
 some (r7)
def ZhQ (c0 : ZaY) : Option (Bool) :=
 (Ze4 (Zc.mk c0.Field.Prime c0.Field.Degree c0.Field.Poly)).bind fun r31 =>
 (ZgB r31 c0.Rows).bind fun r34 =>
 (Zfd r34.1 c0.Rows).bind fun r41 =>
 some (r41)
def Zdh (c0 : ZaY) : Option Bool :=
 (ZdP (Zc.mk c0.Field.Prime c0.Field.Degree c0.Field.Poly) c0.Rows).bind fun r10 =>
 bif !r10 then
 some (false)
 else
 bif decide (((c0.Rows.length : Int) : Int) > 8) then
 some (false)
 else
 (ZbA (Zc.mk c0.Field.Prime c0.Field.Degree c0.Field.Poly)).bind fun r21 =>
 (ZY c0.Rows).bind fun r24 =>
 (ZbD r21 r24 4096).bind fun r25 =>
 bif decide (r25 > 4096) then
 some (false)
 else
 ZhQ c0
def Za3 (r8 : List Int) : Int → Option ((Int) ⊕ (Int × Int))
 | y11 =>
 bif decide (y11 < (r8.length : Int)) then
 (gIdx r8 y11).bind fun e13 =>
 (gIdx r8 0).bind fun e17 =>
 bif e13 != e17 then
 some (.inr ((0, 0)))
 else
 some (.inl (IntKind.i64.wrap (y11 + 1)))
 else
 bif ((r8.length : Int) : Int) == 0 then
 some (.inr ((0, 0)))
 else
 (ZK r8).bind fun r28 =>
 (gIdx r8 0).bind fun e25 =>
 some (.inr ((e25, r28)))
def Zbm (n0 : Int) : Option (Int × Int) :=
 (Zbw n0).bind fun r8 =>
 loop (Za3 r8) (0)
def ZhP (r9 : Int × Int) : Int → Option ((Int) ⊕ (Zc × Int))
 | n6 =>
 (Zay n6 r9.1 r9.2).bind fun r22 =>
 (gApp 8 r22 [1]).bind fun l24 =>
 (ZeE l24 r9.1).bind fun r26 =>
 bif !r26 then
 some (.inl (IntKind.i64.wrap (n6 + 1)))
 else
 (Zay n6 r9.1 r9.2).bind fun r35 =>
 (gApp 8 r35 [1]).bind fun l37 =>
 some (.inr (((Zc.mk r9.1 r9.2 l37), 0)))
def Zfq (r9 : Int × Int) : Option (Zc × Int) :=
 loop (ZhP r9) (0)
def Za0 (q0 : Int) : Option (Zc × Int) :=
 (Zbm q0).bind fun r9 =>
 bif r9.1 == 0 then
 some (((Zc.mk 0 0 ([] : List Int)), 2))
 else
 bif decide (q0 > 64) then
 some (((Zc.mk 0 0 ([] : List Int)), 2))
 else
 Zfq r9
def Zem (o0 : Zg) : Option ZaY :=
 (Za0 o0.Size).bind fun r8 =>
 (ZbO o0.Rows).bind fun r14 =>
 some ((ZaY.mk (Zc.mk r8.1.Prime r8.1.Degree r8.1.Poly) r14))
def Zcu (vals0 : List Int) : Int → Option ((Int) ⊕ (Int))
 | y8 =>
 bif decide (y8 < (vals0.length : Int)) then
 (gIdx vals0 y8).bind fun e10 =>
 bif e10 != 0 then
 some (.inr (e10))
 else
 some (.inl (IntKind.i64.wrap (y8 + 1)))
 else
 some (.inr (0))
def Zf0 (vals0 : List Int) : Option Int :=
 loop (Zcu vals0) (0)
def Zgy (a0 b1 : ZJ) : Option Int :=
 (ZaO a0.A b1.A).bind fun r9 =>
 (ZaO a0.B b1.B).bind fun r14 =>
 (Zf0 ([r9, r14] : List Int)).bind fun r16 =>
 some (r16)
def Zhl (n0 : Int) : Option Bool :=
 (ZP n0 0 63).bind fun r4 =>
 some (r4)
def Zh4 (n0 : Int) : Option Bool :=
 (Zhl n0).bind fun r4 =>
 some (!r4)
def Zg2 (colors0 : List Int) : Option Bool :=
 bif decide (((colors0.length : Int) : Int) ≤ 64) then
 (Zat colors0 (fun y0 => Zh4 y0)).bind fun r8 =>
 some (!r8)
 else
 some (false)
def ZaV (g0 : ZZ) : Int → Option ((Int) ⊕ (Bool))
 | y8 =>
 bif decide (y8 < (g0.Edges.length : Int)) then
 (gIdx g0.Edges y8).bind fun e11 =>
 bif decide (e11.A < 0) then
 some (.inr (false))
 else
 bif decide (e11.A ≥ e11.B) then
 some (.inr (false))
 else
 (ZK g0.Colors).bind fun r28 =>
 bif decide (e11.B ≥ r28) then
 some (.inr (false))
 else
 bif decide (y8 > 0) then
 (gIdx g0.Edges (IntKind.i64.wrap (y8 - 1))).bind fun e39 =>
 (Zgy e39 (ZJ.mk e11.A e11.B)).bind fun r42 =>
 bif decide (r42 ≥ 0) then
 some (.inr (false))
 else
 some (.inl (IntKind.i64.wrap (y8 + 1)))
 else
 some (.inl (IntKind.i64.wrap (y8 + 1)))
 else
 (Zg2 g0.Colors).bind fun r49 =>
 bif r49 then
 some (.inr (decide (((g0.Edges.length : Int) : Int) ≤ 512)))
 else
 some (.inr (false))
def Zfj (g0 : ZZ) : Option Bool :=
 loop (ZaV g0) (0)
def ZbC (o0 : Zg) (l14 : List Int) : Int × List ZJ → Option ((Int × List ZJ) ⊕ (ZZ × Bool))
 | (y19, xs) =>
 bif decide (y19 < (o0.Rows.length : Int)) then
 (gIdx o0.Rows y19).bind fun e21 =>
 bif ((e21.length : Int) : Int) != 2 then
 some (.inr (((ZZ.mk ([] : List Int) ([] : List ZJ)), false)))
 else
 (gIdx e21 0).bind fun e30 =>
 (gIdx e21 1).bind fun e33 =>
 (gApp 16 xs [(ZJ.mk e30 e33)]).bind fun l37 =>
 some (.inl (IntKind.i64.wrap (y19 + 1), l37))
 else
 (Zfj (ZZ.mk l14 xs)).bind fun r42 =>
 some (.inr (((ZZ.mk l14 xs), r42)))
def ZeY (o0 : Zg) : Option (ZZ × Bool) :=
 (ZP o0.Size 0 64).bind fun r9 =>
 bif !r9 then
 some (((ZZ.mk ([] : List Int) ([] : List ZJ)), false))
 else
 (gMake 8 (0 : Int) o0.Size o0.Size).bind fun l14 =>
 loop (ZbC o0 l14) (0, ([] : List ZJ))
def ZdM (l6 : List Int) : Int × List Int → Option ((Int × List Int) ⊕ (List Int))
 | (y9, xs) =>
 bif decide (y9 < (l6.length : Int)) then
 (gIdx xs y9).bind fun e15 =>
 some (.inl (IntKind.i64.wrap (y9 + 1), (xs.set y9.toNat y9)))
 else
 some (.inr (xs))
def ZgL (n0 : Int) : Option (List Int) :=
 (gMake 8 (0 : Int) n0 n0).bind fun l6 =>
 loop (ZdM l6) (0, l6)
def ZeF (p0 : List Int) : Int × List Int → Option ((Int × List Int) ⊕ (ByteArray))
 | (y11, xs) =>
 bif decide (y11 < (p0.length : Int)) then
 (gIdx p0 y11).bind fun e14 =>
 (gIdx xs y11).bind fun e20 =>
 some (.inl (IntKind.i64.wrap (y11 + 1), (xs.set y11.toNat (IntKind.u8.wrap e14))))
 else
 (gByt xs).bind fun s23 =>
 some (.inr (s23))
def ZdB (p0 : List Int) : Option ByteArray :=
 (gMake 1 (0 : Int) (p0.length : Int) (p0.length : Int)).bind fun l8 =>
 loop (ZeF p0) (0, l8)
def Zey (p0 q1 l9 : List Int) : Int × List Int → Option ((Int × List Int) ⊕ (List Int))
 | (y12, xs) =>
 bif decide (y12 < (l9.length : Int)) then
 (gIdx p0 y12).bind fun e20 =>
 (gIdx q1 e20).bind fun e22 =>
 (gIdx xs y12).bind fun e24 =>
 some (.inl (IntKind.i64.wrap (y12 + 1), (xs.set y12.toNat e22)))
 else
 some (.inr (xs))
def Zfr (p0 q1 : List Int) : Option (List Int) :=
 (gMake 8 (0 : Int) (p0.length : Int) (p0.length : Int)).bind fun l9 =>
 loop (Zey p0 q1 l9) (0, l9)
open Classical in
def ZgV (x0 : List (List Int)) (fn1 : (List Int) → (List Int) → Option Int) : Option (List (List Int)) := if (∀ a ∈ x0, ∀ c ∈ x0, fn1 a c = some (lexC a c)) ∧ x0.length < 4611686018427387904 then some (sortRows x0) else none
def Zbf (genera1 : List (List Int)) (k8 : Int) : List (List Int) × Int × List (ByteArray × Bool) → Option ((List (List Int) × Int × List (ByteArray × Bool)) ⊕ ((List (List Int) × Int × List (ByteArray × Bool)) ⊕ ((List (List Int)) × Bool)))
 | (elemen6_2, y30, mp_2) =>
 bif decide (y30 < (genera1.length : Int)) then
 (gIdx genera1 y30).bind fun e32 =>
 (gIdx elemen6_2 k8).bind fun e36 =>
 (Zfr e36 e32).bind fun r39 =>
 (ZdB r39).bind fun r41 =>
 bif !(mpGet mp_2 r41 false) then
 (gApp 24 elemen6_2 [r39]).bind fun l51 =>
 some (.inl (l51, IntKind.i64.wrap (y30 + 1), (mpSet mp_2 r41 true)))
 else
 some (.inl (elemen6_2, IntKind.i64.wrap (y30 + 1), mp_2))
 else
 bif decide (((elemen6_2.length : Int) : Int) > 720) then
 some (.inr (.inr ((([] : List (List Int)), false))))
 else
 some (.inr (.inl (elemen6_2, IntKind.i64.wrap (k8 + 1), mp_2)))
def Zbu (genera1 : List (List Int)) : List (List Int) × Int × List (ByteArray × Bool) → Option ((List (List Int) × Int × List (ByteArray × Bool)) ⊕ ((List (List Int)) × Bool))
 | (elemen6, k8, mp) =>
 bif decide (k8 < (elemen6.length : Int)) then
 loop (Zbf genera1 k8) (elemen6, 0, mp)
 else
 (ZgV elemen6 (fun y0 y1 => Zaj y0 y1)).bind fun r57 =>
 some (.inr ((r57, true)))
def Zdk (degree0 : Int) (genera1 : List (List Int)) : Option ((List (List Int)) × Bool) :=
 (ZgL degree0).bind fun r14 =>
 (gIdx ([r14]) 0).bind fun e18 =>
 (ZdB e18).bind fun r20 =>
 loop (Zbu genera1) ([r14], 0, (mpSet ([] : List (ByteArray × Bool)) r20 true))
def ZcE (x0 : List (List Int)) (target1 : List Int) (fn2 : (List Int) → (List Int) → Option Int) : Int × Int → Option ((Int × Int) ⊕ (Int × Bool))
 | (i9, j10) =>
 bif decide (i9 < j10) then
 (gNn 1).bind fun _ =>
 (gIdx x0 (IntKind.i64.wrap (Int.fdiv (IntKind.u64.wrap (IntKind.i64.wrap (i9 + j10))) (2 ^ min (1 : Int).toNat IntKind.u64.bits)))).bind fun e27 =>
 (fn2 e27 target1).bind fun r30 =>
 bif decide (r30 < 0) then
 some (.inl (IntKind.i64.wrap ((IntKind.i64.wrap (Int.fdiv (IntKind.u64.wrap (IntKind.i64.wrap (i9 + j10))) (2 ^ min (1 : Int).toNat IntKind.u64.bits))) + 1), j10))
 else
 some (.inl (i9, IntKind.i64.wrap (Int.fdiv (IntKind.u64.wrap (IntKind.i64.wrap (i9 + j10))) (2 ^ min (1 : Int).toNat IntKind.u64.bits))))
 else
 bif decide (i9 < (x0.length : Int)) then
 (gIdx x0 i9).bind fun e43 =>
 (fn2 e43 target1).bind fun r46 =>
 some (.inr ((i9, r46 == 0)))
 else
 some (.inr ((i9, false)))
def Ze1 (x0 : List (List Int)) (target1 : List Int) (fn2 : (List Int) → (List Int) → Option Int) : Option (Int × Bool) :=
 loop (ZcE x0 target1 fn2) (0, (x0.length : Int))
def Zhb (degree0 : Int) (genera7 : List (List Int)) (y21 : Int) (e23 : List Int) : Option ((List (List Int) × List (List Int) × Bool × Int) ⊕ ((List (List Int)) × (List (List Int)) × Bool)) :=
 (gApp 24 genera7 [e23]).bind fun l39 =>
 (Zdk degree0 l39).bind fun r43 =>
 some (.inl (l39, r43.1, r43.2, IntKind.i64.wrap (y21 + 1)))
def Zao (degree0 : Int) (elemen1 : List (List Int)) : List (List Int) × List (List Int) × Bool × Int → Option ((List (List Int) × List (List Int) × Bool × Int) ⊕ ((List (List Int)) × (List (List Int)) × Bool))
 | (genera7, all8, ok9, y21) =>
 bif decide (y21 < (elemen1.length : Int)) then
 (gIdx elemen1 y21).bind fun e23 =>
 (Ze1 all8 e23 (fun y0 y1 => Zaj y0 y1)).bind fun r28 =>
 bif r28.2 then
 some (.inl (genera7, all8, ok9, IntKind.i64.wrap (y21 + 1)))
 else
 bif !ok9 then
 some (.inl (genera7, all8, ok9, IntKind.i64.wrap (y21 + 1)))
 else
 Zhb degree0 genera7 y21 e23
 else
 some (.inr ((genera7, all8, ok9)))
def Zhf (degree0 : Int) (elemen1 : List (List Int)) : Option ((List (List Int)) × (List (List Int)) × Bool) :=
 (Zdk degree0 ([] : List (List Int))).bind fun r16 =>
 loop (Zao degree0 elemen1) (([] : List (List Int)), r16.1, r16.2, 0)
def ZcN (y0 : ZaE) : Int → Option ((Int) ⊕ (Bool))
 | y3 =>
 bif decide (y3 < (y0.Elements.length : Int)) then
 (gIdx y0.Elements (IntKind.i64.wrap (y3 - 1))).bind fun e42 =>
 (gIdx y0.Elements y3).bind fun e47 =>
 (Zaj e42 e47).bind fun r49 =>
 bif decide (r49 ≥ 0) then
 some (.inr (false))
 else
 some (.inl (IntKind.i64.wrap (y3 + 1)))
 else
 (Zhf y0.Degree y0.Elements).bind fun r56 =>
 bif r56.2.2 then
 some (.inr (((r56.2.1.length : Int) : Int) == (y0.Elements.length : Int)))
 else
 some (.inr (false))
def Zh6 (y0 : ZaE) : Option (Bool) :=
 loop (ZcN y0) (1)
def Zgg (y0 : ZaE) : Option Bool :=
 (ZP y0.Degree 1 32).bind fun r9 =>
 bif !r9 then
 some (false)
 else
 bif decide (((y0.Elements.length : Int) : Int) < 1) then
 some (false)
 else
 bif decide (((y0.Elements.length : Int) : Int) > 720) then
 some (false)
 else
 (Zek y0.Degree y0.Elements).bind fun r28 =>
 bif !r28 then
 some (false)
 else
 Zh6 y0
def Zf4 (o0 : Zg) : Option ZaE :=
 (ZbO o0.Rows).bind fun r7 =>
 some ((ZaE.mk o0.Size r7))
def Zax (y0 : Zg) : Option Bool :=
 bif y0.Kind == 1 then
 (ZY y0.Rows).bind fun r11 =>
 bif r11 == y0.Size then
 (Zhc y0.Rows).bind fun r18 =>
 some (r18)
 else
 some (false)
 else
 bif y0.Kind == 2 then
 (ZgJ (Zg.mk y0.Kind y0.Size y0.Rows)).bind fun r23 =>
 (Zfg r23).bind fun r24 =>
 some (r24)
 else
 bif y0.Kind == 3 then
 (ZY y0.Rows).bind fun r29 =>
 bif r29 == y0.Size then
 (ZfI y0.Rows).bind fun r36 =>
 some (r36)
 else
 some (false)
 else
 bif y0.Kind == 4 then
 bif decide (((y0.Rows.length : Int) : Int) > 0) then
 (Zg7 (Zg.mk y0.Kind y0.Size y0.Rows)).bind fun r46 =>
 (Ze0 r46).bind fun r47 =>
 some (r47)
 else
 some (false)
 else
 bif y0.Kind == 5 then
 (Zem (Zg.mk y0.Kind y0.Size y0.Rows)).bind fun r52 =>
 (Zdh r52).bind fun r53 =>
 some (r53)
 else
 bif y0.Kind == 6 then
 (ZeY (Zg.mk y0.Kind y0.Size y0.Rows)).bind fun r58 =>
 some (r58.2)
 else
 bif y0.Kind == 7 then
 (Zf4 (Zg.mk y0.Kind y0.Size y0.Rows)).bind fun r65 =>
 (Zgg r65).bind fun r66 =>
 some (r66)
 else
 some (false)
def ZgZ (kind0 : Int) : Option Bool :=
 (ZP kind0 1 7).bind fun r4 =>
 some (r4)
def ZfW (kind0 : Int) : Option ByteArray :=
 (ZgZ kind0).bind fun r4 =>
 bif !r4 then
 some (⟨#[]⟩)
 else
 (Zd7).bind fun r6 =>
 (gIdx r6 (IntKind.i64.wrap (kind0 - 1))).bind fun e9 =>
 some (e9)
def Zeb (o0 : Zg) (rows3 : ByteArray) : Option (ByteArray) :=
 (ZfW o0.Kind).bind fun r31 =>
 (ZcZ o0.Size).bind fun r35 =>
 (gFit r31 (⟨#[32]⟩ : ByteArray)).bind fun _ =>
 (gFit (r31 ++ (⟨#[32]⟩ : ByteArray) : ByteArray) r35).bind fun _ =>
 (gFit ((r31 ++ (⟨#[32]⟩ : ByteArray) : ByteArray) ++ r35 : ByteArray) (⟨#[32]⟩ : ByteArray)).bind fun _ =>
 (gFit (((r31 ++ (⟨#[32]⟩ : ByteArray) : ByteArray) ++ r35 : ByteArray) ++ (⟨#[32]⟩ : ByteArray) : ByteArray) rows3).bind fun _ =>
 some ((((r31 ++ (⟨#[32]⟩ : ByteArray) : ByteArray) ++ r35 : ByteArray) ++ (⟨#[32]⟩ : ByteArray) : ByteArray) ++ rows3)
def ZcY (o0 : Zg) : List ByteArray × Int → Option ((List ByteArray × Int) ⊕ (ByteArray))
 | (words4, y17) =>
 bif decide (y17 < (o0.Rows.length : Int)) then
 (gIdx o0.Rows y17).bind fun e19 =>
 (Zeu e19).bind fun r23 =>
 (gApp 16 words4 [r23]).bind fun l25 =>
 some (.inl (l25, IntKind.i64.wrap (y17 + 1)))
 else
 (ZdA words4 ⟨#[47]⟩).bind fun r28 =>
 (Zeb o0 r28).map fun x => .inr (x)
def Zf7 (o0 : Zg) : Option ByteArray :=
 (Zax (Zg.mk o0.Kind o0.Size o0.Rows)).bind fun r8 =>
 bif !r8 then
 some (⟨#[]⟩)
 else
 bif decide (((o0.Rows.length : Int) : Int) > 0) then
 loop (ZcY o0) (([] : List ByteArray), 0)
 else
 Zeb o0 ⟨#[110, 111, 110, 101]⟩
def ZeN (y0 : ByteArray) (r20 r28 : Int × Bool) (xs : List (List Int)) : Option (Zg × Bool) :=
 (Zax (Zg.mk r20.1 r28.1 xs)).bind fun r58 =>
 bif !r58 then
 some (((Zg.mk 0 0 ([] : List (List Int))), false))
 else
 (Zf7 (Zg.mk r20.1 r28.1 xs)).bind fun r62 =>
 bif !(r62.toList == y0.toList) then
 some (((Zg.mk 0 0 ([] : List (List Int))), false))
 else
 some (((Zg.mk r20.1 r28.1 xs), true))
def ZcQ (y0 : ByteArray) (r20 r28 : Int × Bool) (r39 : List ByteArray) : Int × List (List Int) → Option ((Int × List (List Int)) ⊕ (Zg × Bool))
 | (y41, xs_2) =>
 bif decide (y41 < (r39.length : Int)) then
 (gIdx r39 y41).bind fun e43 =>
 (ZgS e43).bind fun r47 =>
 (gApp 24 xs_2 [r47.1]).bind fun l54 =>
 some (.inl (IntKind.i64.wrap (y41 + 1), l54))
 else
 (ZeN y0 r20 r28 xs_2).map fun x => .inr (x)
def ZdZ (y0 : ByteArray) : Option (Zg × Bool) :=
 (Zcp y0 ⟨#[32]⟩).bind fun r11 =>
 bif ((r11.length : Int) : Int) != 3 then
 some (((Zg.mk 0 0 ([] : List (List Int))), false))
 else
 (gIdx r11 0).bind fun e18 =>
 (Zgw e18).bind fun r20 =>
 (gIdx r11 1).bind fun e26 =>
 (Zd2 e26).bind fun r28 =>
 (gIdx r11 2).bind fun e33 =>
 bif !(e33.toList == (⟨#[110, 111, 110, 101]⟩ : ByteArray).toList) then
 (gIdx r11 2).bind fun e37 =>
 (Zcp e37 ⟨#[47]⟩).bind fun r39 =>
 loop (ZcQ y0 r20 r28 r39) (0, ([] : List (List Int)))
 else
 ZeN y0 r20 r28 ([] : List (List Int))
def Zg5 (a0 b1 : List Int) : Int → Option ((Int) ⊕ (Bool))
 | i5 =>
 bif decide (i5 < (a0.length : Int)) then
 (gIdx a0 i5).bind fun e19 =>
 (gIdx b1 i5).bind fun e23 =>
 bif e19 != e23 then
 some (.inr (false))
 else
 some (.inl (IntKind.i64.wrap (i5 + 1)))
 else
 some (.inr (true))
def Zel (a0 b1 : List Int) : Option Bool :=
 bif ((a0.length : Int) : Int) != (b1.length : Int) then
 some (false)
 else
 loop (Zg5 a0 b1) (0)
def ZfG (a0 b1 : List (List Int)) : Int → Option ((Int) ⊕ (Bool))
 | i5 =>
 bif decide (i5 < (a0.length : Int)) then
 (gIdx a0 i5).bind fun e19 =>
 (gIdx b1 i5).bind fun e23 =>
 (Zel e19 e23).bind fun r25 =>
 bif !r25 then
 some (.inr (false))
 else
 some (.inl (IntKind.i64.wrap (i5 + 1)))
 else
 some (.inr (true))
def ZgW (a0 b1 : List (List Int)) : Option Bool :=
 bif ((a0.length : Int) : Int) != (b1.length : Int) then
 some (false)
 else
 loop (ZfG a0 b1) (0)
def ZeI (a0 b1 : Zg) : Option Bool :=
 bif a0.Kind != b1.Kind then
 some (false)
 else
 bif a0.Size != b1.Size then
 some (false)
 else
 (ZgW a0.Rows b1.Rows).bind fun r19 =>
 bif !r19 then
 some (false)
 else
 some (true)
def ZfB : Int × Int × List Int → Option ((Int × Int × List Int) ⊕ (Int × (List Int)))
 | (k1_2, i5, xs) =>
 bif decide (i5 < (xs.length : Int)) then
 (gIdx xs i5).bind fun e15 =>
 some (.inl (IntKind.i64.wrap (k1_2 + 1), IntKind.i64.wrap (i5 + 1), (xs.set i5.toNat k1_2)))
 else
 some (.inr ((k1_2, xs)))
def Zf9 (a0 : List Int) (k1 : Int) : Option (Int × (List Int)) :=
 loop (ZfB) (k1, 0, a0)
def Zgc : Int × Int × List (List Int) → Option ((Int × Int × List (List Int)) ⊕ (Int × (List (List Int))))
 | (k1_2, i5, xs) =>
 bif decide (i5 < (xs.length : Int)) then
 (gIdx xs i5).bind fun e14 =>
 (Zf9 e14 k1_2).bind fun r17 =>
 some (.inl (r17.1, IntKind.i64.wrap (i5 + 1), (xs.set i5.toNat r17.2)))
 else
 some (.inr ((k1_2, xs)))
def Zfb (a0 : List (List Int)) (k1 : Int) : Option (Int × (List (List Int))) :=
 loop (Zgc) (k1, 0, a0)
def Ze5 (a0 : Zg) (k1 : Int) : Option (Int × Zg) :=
 (Zfb a0.Rows k1).bind fun r8 =>
 some ((r8.1, (Zg.mk a0.Kind a0.Size r8.2)))
def Zhr (a0 : List Int) : Int × Int → Option ((Int × Int) ⊕ (Int))
 | (k1_2, i5) =>
 bif decide (i5 < (a0.length : Int)) then
 (gIdx a0 i5).bind fun e14 =>
 bif e14 != k1_2 then
 some (.inr ((-1)))
 else
 some (.inl (IntKind.i64.wrap (k1_2 + 1), IntKind.i64.wrap (i5 + 1)))
 else
 some (.inr (k1_2))
def Zfi (a0 : List Int) (k1 : Int) : Option Int :=
 loop (Zhr a0) (k1, 0)
def Zij (a0 : List (List Int)) : Int × Int → Option ((Int × Int) ⊕ (Int))
 | (k1_2, i5) =>
 bif decide (i5 < (a0.length : Int)) then
 (gIdx a0 i5).bind fun e14 =>
 (Zfi e14 k1_2).bind fun r17 =>
 bif decide (r17 < 0) then
 some (.inr ((-1)))
 else
 some (.inl (r17, IntKind.i64.wrap (i5 + 1)))
 else
 some (.inr (k1_2))
def ZfH (a0 : List (List Int)) (k1 : Int) : Option Int :=
 loop (Zij a0) (k1, 0)
def ZeQ (a0 : Zg) (k1 : Int) : Option Int :=
 (ZfH a0.Rows k1).bind fun r8 =>
 bif decide (r8 < 0) then
 some ((-1))
 else
 some (r8)
def ZgQ (r21 : Zg × Bool) (r35 : Int × Zg) : Option (Bool) :=
 (ZeQ (Zg.mk r21.1.Kind r21.1.Size r35.2.Rows) 1).bind fun r60 =>
 bif decide (r60 < 0) then
 some (false)
 else
 bif r60 != r35.1 then
 some (false)
 else
 some (true)
def Zgm (y0 : ByteArray) (r16 r21 : Zg × Bool) : Option (Bool) :=
 (Ze5 (Zg.mk r21.1.Kind r21.1.Size r21.1.Rows) 1).bind fun r35 =>
 (ZeQ (Zg.mk r21.1.Kind r21.1.Size r35.2.Rows) 1).bind fun r38 =>
 bif decide (r38 < 0) then
 some (false)
 else
 bif r38 != r35.1 then
 some (false)
 else
 (ZdZ y0).bind fun r46 =>
 (ZeI (Zg.mk r46.1.Kind r46.1.Size r46.1.Rows) (Zg.mk r16.1.Kind r16.1.Size r16.1.Rows)).bind fun r51 =>
 bif !r51 then
 some (false)
 else
 bif !(r46.2 == r16.2) then
 some (false)
 else
 ZgQ r21 r35
def Zie (y0 : ByteArray) : Option Bool :=
 bif decide (((y0.size : Int) : Int) > 1048576) then
 some (true)
 else
 (Zg1 y0).bind fun r16 =>
 (ZdZ y0).bind fun r21 =>
 (ZeI (Zg.mk r21.1.Kind r21.1.Size r21.1.Rows) (Zg.mk r16.1.Kind r16.1.Size r16.1.Rows)).bind fun r26 =>
 bif !r26 then
 some (false)
 else
 bif !(r21.2 == r16.2) then
 some (false)
 else
 Zgm y0 r16 r21
end
end Go.Proofs.YtmmbnjijjdakmaaGreatDoor
