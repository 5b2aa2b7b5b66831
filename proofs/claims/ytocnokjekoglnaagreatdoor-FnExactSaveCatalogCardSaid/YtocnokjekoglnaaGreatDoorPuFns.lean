import Derived.Test.YtocnokjekoglnaaGreatDoorPuTxt
namespace Go.Proofs.YtocnokjekoglnaaGreatDoor
set_option linter.unusedSimpArgs false
open Go Go.Vc
set_option linter.unusedVariables false
structure Z3 where
 Kind : Int
 Size : Int
 Rows : List (List Int)
structure Zxi where
 Name : ByteArray
 Object : Z3
 Key : ByteArray
structure Zzh where
 Items : List Zxi
structure Za4 where
 Points : Int
 Blocks : List (List Int)
structure Zz where
 Kind : Int
 Size : Int
 Rows : List (List Int)
structure Z4 where
 Levels : Int
 Columns : Int
 Rows : List (List Int)
structure Zc where
 Prime : Int
 Degree : Int
 Poly : List Int
structure ZaL where
 Field : Zc
 Rows : List (List Int)
structure ZH where
 A : Int
 B : Int
structure ZY where
 Colors : List Int
 Edges : List ZH
structure ZaD where
 Degree : Int
 Elements : List (List Int)
structure Zxh where
 Name : ByteArray
 Object : Zz
 Key : ByteArray
structure Zzg where
 Items : List Zxh
structure Zaf where
 qq : Int
 qadd : List (List Int)
 qsub : List (List Int)
 qmul : List (List Int)
 qinv : List Int
noncomputable section
def ZcK (a0 : List Int) (left1 : Int) : Option Int :=
 bif decide ((IntKind.i64.wrap (left1 - (a0.length : Int)) : Int) < 0) then
 some ((-1))
 else
 some (IntKind.i64.wrap (left1 - (a0.length : Int)))
def ZeO (a0 : List (List Int)) : Int × Int → Option ((Int × Int) ⊕ (Int))
 | (left1_2, i5) =>
 bif decide (i5 < (a0.length : Int)) then
 (gIdx a0 i5).bind fun e20 =>
 (ZcK e20 left1_2).bind fun r23 =>
 bif decide (r23 < 0) then
 some (.inr ((-1)))
 else
 some (.inl (r23, IntKind.i64.wrap (i5 + 1)))
 else
 some (.inr (left1_2))
def Zet (a0 : List (List Int)) (left1 : Int) : Option Int :=
 bif decide ((IntKind.i64.wrap (left1 - (a0.length : Int)) : Int) < 0) then
 some ((-1))
 else
 loop (ZeO a0) (IntKind.i64.wrap (left1 - (a0.length : Int)), 0)
def Zgd (a0 : Z3) (left1 : Int) : Option Int :=
 (Zet a0.Rows left1).bind fun r8 =>
 bif decide (r8 < 0) then
 some ((-1))
 else
 some (r8)
def ZxF (a0 : Zxi) (left1 : Int) : Option Int :=
 bif decide ((IntKind.i64.wrap (left1 - (a0.Name.size : Int)) : Int) < 0) then
 some ((-1))
 else
 (Zgd (Z3.mk a0.Object.Kind a0.Object.Size a0.Object.Rows) (IntKind.i64.wrap (left1 - (a0.Name.size : Int)))).bind fun r15 =>
 bif decide (r15 < 0) then
 some ((-1))
 else
 bif decide ((IntKind.i64.wrap (r15 - (a0.Key.size : Int)) : Int) < 0) then
 some ((-1))
 else
 some (IntKind.i64.wrap (r15 - (a0.Key.size : Int)))
def ZzB (a0 : List Zxi) : Int × Int → Option ((Int × Int) ⊕ (Int))
 | (left1_2, i5) =>
 bif decide (i5 < (a0.length : Int)) then
 (gIdx a0 i5).bind fun e20 =>
 (ZxF e20 left1_2).bind fun r23 =>
 bif decide (r23 < 0) then
 some (.inr ((-1)))
 else
 some (.inl (r23, IntKind.i64.wrap (i5 + 1)))
 else
 some (.inr (left1_2))
def ZzG (a0 : List Zxi) (left1 : Int) : Option Int :=
 bif decide ((IntKind.i64.wrap (left1 - (a0.length : Int)) : Int) < 0) then
 some ((-1))
 else
 loop (ZzB a0) (IntKind.i64.wrap (left1 - (a0.length : Int)), 0)
def ZzJ (a0 : Zzh) (left1 : Int) : Option Int :=
 (ZzG a0.Items left1).bind fun r8 =>
 bif decide (r8 < 0) then
 some ((-1))
 else
 some (r8)
def ZN (n0 low1 high2 : Int) : Option Bool :=
 bif decide (n0 ≥ low1) then
 some (decide (n0 ≤ high2))
 else
 some (false)
def ZdJ (list0 : List Int) (n1 : Int) : Int → Option ((Int) ⊕ (Bool))
 | i5 =>
 bif decide (i5 < (list0.length : Int)) then
 (gIdx list0 i5).bind fun e14 =>
 bif e14 == n1 then
 some (.inr (true))
 else
 some (.inl (IntKind.i64.wrap (i5 + 1)))
 else
 some (.inr (false))
def Zeu (list0 : List Int) (n1 : Int) : Option Bool :=
 loop (ZdJ list0 n1) (0)
def ZdM (p0 : List Int) : Int → Option ((Int) ⊕ (Bool))
 | i3 =>
 bif decide (i3 < (p0.length : Int)) then
 (gIdx p0 i3).bind fun e15 =>
 (ZN e15 0 (IntKind.i64.wrap ((p0.length : Int) - 1))).bind fun r20 =>
 bif !r20 then
 some (.inr (false))
 else
 (gSl p0 0 i3).bind fun l25 =>
 (gIdx p0 i3).bind fun e28 =>
 (Zeu l25 e28).bind fun r30 =>
 bif r30 then
 some (.inr (false))
 else
 some (.inl (IntKind.i64.wrap (i3 + 1)))
 else
 some (.inr (true))
def Zc0 (p0 : List Int) : Option Bool :=
 bif decide (((p0.length : Int) : Int) > 32) then
 some (false)
 else
 loop (ZdM p0) (0)
def Zcn (a0 : List (List Int)) (y5 : Int) : List Int × Int → Option ((List Int × Int) ⊕ ((Int) ⊕ ((Int) ⊕ (Bool))))
 | (col6, x7) =>
 bif decide (x7 < (a0.length : Int)) then
 (gIdx a0 x7).bind fun e50 =>
 (gIdx e50 y5).bind fun e53 =>
 (gApp 8 col6 [e53]).bind fun l56 =>
 some (.inl (l56, IntKind.i64.wrap (x7 + 1)))
 else
 (Zc0 col6).bind fun r58 =>
 bif !r58 then
 some (.inr (.inr (.inr (false))))
 else
 some (.inr (.inl (IntKind.i64.wrap (y5 + 1))))
def Zc4 (a0 : List (List Int)) : Int → Option ((Int) ⊕ ((Int) ⊕ (Bool)))
 | y5 =>
 bif decide (y5 < (a0.length : Int)) then
 loop (Zcn a0 y5) (([] : List Int), 0)
 else
 some (.inr (.inr (true)))
def Zel (a0 : List (List Int)) : Int → Option ((Int) ⊕ (Bool))
 | x4 =>
 bif decide (x4 < (a0.length : Int)) then
 (gIdx a0 x4).bind fun e23 =>
 bif ((e23.length : Int) : Int) != (a0.length : Int) then
 some (.inr (false))
 else
 (gIdx a0 x4).bind fun e31 =>
 (Zc0 e31).bind fun r33 =>
 bif !r33 then
 some (.inr (false))
 else
 some (.inl (IntKind.i64.wrap (x4 + 1)))
 else
 loop (Zc4 a0) (0)
def Zhp (a0 : List (List Int)) : Option (Bool) :=
 loop (Zel a0) (0)
def Zf8 (a0 : List (List Int)) : Option Bool :=
 bif decide (((a0.length : Int) : Int) < 1) then
 some (false)
 else
 bif decide (((a0.length : Int) : Int) > 10) then
 some (false)
 else
 Zhp a0
def ZcB (list0 : List Int) (low1 high2 : Int) : Int → Option ((Int) ⊕ (Bool))
 | i7 =>
 bif decide (i7 < (list0.length : Int)) then
 (gIdx list0 i7).bind fun e16 =>
 (ZN e16 low1 high2).bind fun r20 =>
 bif !r20 then
 some (.inr (false))
 else
 bif decide (i7 > 0) then
 (gIdx list0 (IntKind.i64.wrap (i7 - 1))).bind fun e29 =>
 (gIdx list0 i7).bind fun e33 =>
 bif decide (e29 ≥ e33) then
 some (.inr (false))
 else
 some (.inl (IntKind.i64.wrap (i7 + 1)))
 else
 some (.inl (IntKind.i64.wrap (i7 + 1)))
 else
 some (.inr (true))
def Zgw (list0 : List Int) (low1 high2 : Int) : Option Bool :=
 loop (ZcB list0 low1 high2) (0)
def Zew (set0 : List Int) (points1 : Int) : Option Bool :=
 bif decide (((set0.length : Int) : Int) > 0) then
 (Zgw set0 0 (IntKind.i64.wrap (points1 - 1))).bind fun r12 =>
 some (r12)
 else
 some (false)
def Zcs (a0 b1 : List Int) : Option (Int) :=
 bif decide (((a0.length : Int) : Int) < (b1.length : Int)) then
 some ((-1))
 else
 bif decide (((a0.length : Int) : Int) > (b1.length : Int)) then
 some (1)
 else
 some (0)
def ZdX (a0 b1 : List Int) (i5 : Int) : Option ((Int) ⊕ (Int)) :=
 (gIdx a0 i5).bind fun e20 =>
 (gIdx b1 i5).bind fun e24 =>
 bif decide (e20 < e24) then
 some (.inr ((-1)))
 else
 (gIdx a0 i5).bind fun e29 =>
 (gIdx b1 i5).bind fun e33 =>
 bif decide (e29 > e33) then
 some (.inr (1))
 else
 some (.inl (IntKind.i64.wrap (i5 + 1)))
def ZbF (a0 b1 : List Int) : Int → Option ((Int) ⊕ (Int))
 | i5 =>
 bif decide (i5 < (a0.length : Int)) then
 bif decide (i5 < (b1.length : Int)) then
 ZdX a0 b1 i5
 else
 (Zcs a0 b1).map fun x => .inr (x)
 else
 (Zcs a0 b1).map fun x => .inr (x)
def Zct (a0 b1 : List Int) : Option Int :=
 loop (ZbF a0 b1) (0)
def Zc3 (d0 : Za4) : Int → Option ((Int) ⊕ (Bool))
 | i3 =>
 bif decide (i3 < (d0.Blocks.length : Int)) then
 (gIdx d0.Blocks i3).bind fun e32 =>
 (Zew e32 d0.Points).bind fun r38 =>
 bif !r38 then
 some (.inr (false))
 else
 bif decide (i3 > 0) then
 (gIdx d0.Blocks (IntKind.i64.wrap (i3 - 1))).bind fun e50 =>
 (gIdx d0.Blocks i3).bind fun e57 =>
 (Zct e50 e57).bind fun r59 =>
 bif decide (r59 > 0) then
 some (.inr (false))
 else
 some (.inl (IntKind.i64.wrap (i3 + 1)))
 else
 some (.inl (IntKind.i64.wrap (i3 + 1)))
 else
 some (.inr (true))
def Zh0 (d0 : Za4) : Option (Bool) :=
 loop (Zc3 d0) (0)
def ZeC (d0 : Za4) : Option Bool :=
 (ZN d0.Points 1 32).bind fun r8 =>
 bif !r8 then
 some (false)
 else
 bif decide (((d0.Blocks.length : Int) : Int) > 128) then
 some (false)
 else
 Zh0 d0
def Zgg (a0 b1 : List Int) : Int × Int → Option ((Int × Int) ⊕ (Int))
 | (sum5, i6) =>
 bif decide (i6 < (a0.length : Int)) then
 (gIdx a0 i6).bind fun e16 =>
 (gIdx b1 i6).bind fun e20 =>
 some (.inl (IntKind.i64.wrap (sum5 + (IntKind.i64.wrap (e16 * e20))), IntKind.i64.wrap (i6 + 1)))
 else
 some (.inr (sum5))
def Zei (a0 b1 : List Int) : Option Int :=
 loop (Zgg a0 b1) (0, 0)
def Zaw (y0 : List (List Int)) (y4 : Int) : Int → Option ((Int) ⊕ ((Int) ⊕ (Bool)))
 | y5 =>
 bif decide (y5 < (y0.length : Int)) then
 (gIdx y0 y4).bind fun e35 =>
 (gIdx e35 y5).bind fun e38 =>
 bif e38 != 1 then
 (gIdx y0 y4).bind fun e44 =>
 (gIdx e44 y5).bind fun e47 =>
 bif e47 != (-1) then
 some (.inr (.inr (false)))
 else
 some (.inl (IntKind.i64.wrap (y5 + 1)))
 else
 some (.inl (IntKind.i64.wrap (y5 + 1)))
 else
 some (.inr (.inl (IntKind.i64.wrap (y4 + 1))))
def ZcZ (y0 : List (List Int)) (y6 : Int) : Int → Option ((Int) ⊕ ((Int) ⊕ ((Int) ⊕ (Bool))))
 | y7 =>
 bif decide (y7 < y6) then
 (gIdx y0 y6).bind fun e63 =>
 (gIdx y0 y7).bind fun e67 =>
 (Zei e63 e67).bind fun r69 =>
 bif r69 != 0 then
 some (.inr (.inr (.inr (false))))
 else
 some (.inl (IntKind.i64.wrap (y7 + 1)))
 else
 some (.inr (.inl (IntKind.i64.wrap (y6 + 1))))
def ZdQ (y0 : List (List Int)) : Int → Option ((Int) ⊕ ((Int) ⊕ (Bool)))
 | y6 =>
 bif decide (y6 < (y0.length : Int)) then
 loop (ZcZ y0 y6) (0)
 else
 some (.inr (.inr (true)))
def Zdo (y0 : List (List Int)) : Int → Option ((Int) ⊕ (Bool))
 | y4 =>
 bif decide (y4 < (y0.length : Int)) then
 (gIdx y0 y4).bind fun e23 =>
 bif ((e23.length : Int) : Int) != (y0.length : Int) then
 some (.inr (false))
 else
 loop (Zaw y0 y4) (0)
 else
 loop (ZdQ y0) (0)
def ZgY (y0 : List (List Int)) : Option (Bool) :=
 loop (Zdo y0) (0)
def Zfg (y0 : List (List Int)) : Option Bool :=
 bif decide (((y0.length : Int) : Int) < 1) then
 some (false)
 else
 bif decide (((y0.length : Int) : Int) > 32) then
 some (false)
 else
 ZgY y0
def ZeF (o0 : Zz) : Option Z4 :=
 bif decide (((o0.Rows.length : Int) : Int) > 0) then
 (gIdx o0.Rows 0).bind fun e23 =>
 some ((Z4.mk o0.Size (e23.length : Int) o0.Rows))
 else
 some ((Z4.mk o0.Size 0 o0.Rows))
def ZgD (levels0 column1 : Int) : Option Bool :=
 (ZN levels0 2 16).bind fun r6 =>
 bif r6 then
 (ZN column1 1 8).bind fun r9 =>
 some (r9)
 else
 some (false)
def ZcV (y0 : Z4) (y3 : Int) : Int → Option ((Int) ⊕ ((Int) ⊕ (Bool)))
 | y4 =>
 (gIdx y0.Rows y3).bind fun e51 =>
 bif decide (y4 < (e51.length : Int)) then
 (gIdx y0.Rows y3).bind fun e62 =>
 (gIdx e62 y4).bind fun e65 =>
 (ZN e65 0 (IntKind.i64.wrap (y0.Levels - 1))).bind fun r72 =>
 bif !r72 then
 some (.inr (.inr (false)))
 else
 some (.inl (IntKind.i64.wrap (y4 + 1)))
 else
 some (.inr (.inl (IntKind.i64.wrap (y3 + 1))))
def ZdI (y0 : Z4) : Int → Option ((Int) ⊕ (Bool))
 | y3 =>
 bif decide (y3 < (y0.Rows.length : Int)) then
 (gIdx y0.Rows y3).bind fun e37 =>
 bif ((e37.length : Int) : Int) != y0.Columns then
 some (.inr (false))
 else
 loop (ZcV y0 y3) (0)
 else
 some (.inr (true))
def Zhw (y0 : Z4) : Option (Bool) :=
 loop (ZdI y0) (0)
def ZeR (y0 : Z4) : Option Bool :=
 (ZgD y0.Levels y0.Columns).bind fun r13 =>
 bif !r13 then
 some (false)
 else
 bif decide (((y0.Rows.length : Int) : Int) > 256) then
 some (false)
 else
 Zhw y0
def Zg8 (p4 : Int) : Int × Int → Option ((Int × Int) ⊕ ((Int) ⊕ (Int × Int)))
 | (k5, n6) =>
 bif decide (n6 > 1) then
 (gNz p4).bind fun _ =>
 bif (Int.tmod n6 p4 : Int) != 0 then
 some (.inr (.inr ((0, 0))))
 else
 (gNz p4).bind fun _ =>
 some (.inl (IntKind.i64.wrap (k5 + 1), IntKind.i64.wrap (Int.tdiv n6 p4)))
 else
 some (.inr (.inr ((p4, k5))))
def ZgB (q0 : Int) : Int → Option ((Int) ⊕ (Int × Int))
 | p4 =>
 (gNz p4).bind fun _ =>
 bif (Int.tmod q0 p4 : Int) != 0 then
 some (.inl (IntKind.i64.wrap (p4 + 1)))
 else
 loop (Zg8 p4) (0, q0)
def Zba (q0 : Int) : Option (Int × Int) :=
 (ZN q0 2 64).bind fun r8 =>
 bif !r8 then
 some ((0, 0))
 else
 loop (ZgB q0) (2)
def Zb5 (p1 : Int) : Int × Int × List Int → Option ((Int × Int × List Int) ⊕ (List Int))
 | (a0_2, n2_2, out7) =>
 bif decide (n2_2 > 0) then
 (gNz p1).bind fun _ =>
 (gApp 8 out7 [Int.tmod a0_2 p1]).bind fun l18 =>
 (gNz p1).bind fun _ =>
 some (.inl (IntKind.i64.wrap (Int.tdiv a0_2 p1), IntKind.i64.wrap (n2_2 - 1), l18))
 else
 some (.inr (out7))
def ZaE (a0 p1 n2 : Int) : Option (List Int) :=
 loop (Zb5 p1) (a0, n2, ([] : List Int))
def Zhj (p0 : Int) : Int × Int → Option ((Int × Int) ⊕ (Int))
 | (k1_2, out5) =>
 bif decide (k1_2 > 0) then
 some (.inl (IntKind.i64.wrap (k1_2 - 1), IntKind.i64.wrap (out5 * p0)))
 else
 some (.inr (out5))
def ZcU (p0 k1 : Int) : Option Int :=
 loop (Zhj p0) (k1, 1)
def ZaH (list0 : List Int) : Option (List Int) :=
 (gApp 8 ([] : List Int) list0).bind fun l5 =>
 some (l5)
def ZcI (y1 : List Int) (y2 y9 e28 : Int) : Int × List Int → Option ((Int × List Int) ⊕ ((Int × List Int) ⊕ (List Int)))
 | (y11, xs_2) =>
 bif decide (y11 < (y1.length : Int)) then
 (gIdx xs_2 (IntKind.i64.wrap ((IntKind.i64.wrap ((IntKind.i64.wrap (y9 - (y1.length : Int))) + 1)) + y11))).bind fun e45 =>
 (gIdx y1 y11).bind fun e52 =>
 (gNz y2).bind fun _ =>
 (gIdx xs_2 (IntKind.i64.wrap ((IntKind.i64.wrap ((IntKind.i64.wrap (y9 - (y1.length : Int))) + 1)) + y11))).bind fun e58 =>
 some (.inl (IntKind.i64.wrap (y11 + 1), (xs_2.set (IntKind.i64.wrap ((IntKind.i64.wrap ((IntKind.i64.wrap (y9 - (y1.length : Int))) + 1)) + y11) : Int).toNat (Int.tmod (IntKind.i64.wrap (e45 + (IntKind.i64.wrap ((IntKind.i64.wrap (y2 - e28)) * e52)))) y2))))
 else
 some (.inr (.inl (IntKind.i64.wrap (y9 - 1), xs_2)))
def Zbj (y1 : List Int) : List Int → Option ((List Int) ⊕ ((Int × List Int) ⊕ (List Int)))
 | y7 =>
 bif decide (((y7.length : Int) : Int) ≥ (y1.length : Int)) then
 (gSl y7 0 (IntKind.i64.wrap ((y7.length : Int) - 1))).bind fun l67 =>
 some (.inl (l67))
 else
 some (.inr (.inr (y7)))
def ZaO (y1 : List Int) (y2 : Int) : Int × List Int → Option ((Int × List Int) ⊕ (List Int))
 | (y9, xs) =>
 bif decide (y9 ≥ (IntKind.i64.wrap ((y1.length : Int) - 1))) then
 (gIdx xs y9).bind fun e28 =>
 loop (ZcI y1 y2 y9 e28) (0, xs)
 else
 loop (Zbj y1) (xs)
def ZbH (y0 y1 : List Int) (y2 : Int) : Option (List Int) :=
 (ZaH y0).bind fun r14 =>
 loop (ZaO y1 y2) (IntKind.i64.wrap ((r14.length : Int) - 1), r14)
def ZcE (list0 : List Int) (p1 : Int) : Int × Int → Option ((Int × Int) ⊕ (Int))
 | (out5, i6) =>
 bif decide (i6 ≥ 0) then
 (gIdx list0 i6).bind fun e19 =>
 some (.inl (IntKind.i64.wrap ((IntKind.i64.wrap (out5 * p1)) + e19), IntKind.i64.wrap (i6 - 1)))
 else
 some (.inr (out5))
def ZaA (list0 : List Int) (p1 : Int) : Option Int :=
 loop (ZcE list0 p1) (0, IntKind.i64.wrap ((list0.length : Int) - 1))
def ZgQ (poly0 : List Int) (p1 d6 : Int) : Int → Option ((Int) ⊕ ((Int) ⊕ (Bool)))
 | n7 =>
 (ZcU p1 d6).bind fun r22 =>
 bif decide (n7 < r22) then
 (ZaE n7 p1 d6).bind fun r29 =>
 (gApp 8 r29 [1]).bind fun l31 =>
 (ZbH poly0 l31 p1).bind fun r35 =>
 (ZaA r35 p1).bind fun r38 =>
 bif r38 == 0 then
 some (.inr (.inr (false)))
 else
 some (.inl (IntKind.i64.wrap (n7 + 1)))
 else
 some (.inr (.inl (IntKind.i64.wrap (d6 + 1))))
def Zhh (poly0 : List Int) (p1 : Int) : Int → Option ((Int) ⊕ (Bool))
 | d6 =>
 bif decide ((IntKind.i64.wrap (2 * d6) : Int) ≤ (IntKind.i64.wrap ((poly0.length : Int) - 1))) then
 loop (ZgQ poly0 p1 d6) (0)
 else
 some (.inr (true))
def ZdG (poly0 : List Int) (p1 : Int) : Option Bool :=
 loop (Zhh poly0 p1) (1)
def Zhs (r9 : Int × Int) : Int → Option ((Int) ⊕ (Zc))
 | n5 =>
 (ZaE n5 r9.1 r9.2).bind fun r17 =>
 (gApp 8 r17 [1]).bind fun l19 =>
 (ZdG l19 r9.1).bind fun r22 =>
 bif r22 then
 some (.inr ((Zc.mk r9.1 r9.2 l19)))
 else
 some (.inl (IntKind.i64.wrap (n5 + 1)))
def Zc9 (q0 : Int) : Option Zc :=
 (Zba q0).bind fun r9 =>
 loop (Zhs r9) (0)
def Zgm (o0 : Zz) : Option ZaL :=
 (Zba o0.Size).bind fun r10 =>
 bif r10.1 == 0 then
 some ((ZaL.mk (Zc.mk 0 0 ([] : List Int)) ([] : List (List Int))))
 else
 (Zc9 o0.Size).bind fun r20 =>
 some ((ZaL.mk (Zc.mk r20.Prime r20.Degree r20.Poly) o0.Rows))
def ZhK (y0 : Zc) (r58 : Int × Int) : Int → Option ((Int) ⊕ (Bool))
 | y6 =>
 bif decide (y6 < (y0.Poly.length : Int)) then
 (gIdx y0.Poly y6).bind fun e81 =>
 (ZN e81 0 (IntKind.i64.wrap (r58.1 - 1))).bind fun r85 =>
 bif !r85 then
 some (.inr (false))
 else
 some (.inl (IntKind.i64.wrap (y6 + 1)))
 else
 (ZdG y0.Poly r58.1).bind fun r92 =>
 some (.inr (r92))
def ZfN (y0 : Zc) : Option (Bool) :=
 (ZcU y0.Prime y0.Degree).bind fun r55 =>
 (Zba r55).bind fun r58 =>
 bif r58.1 != y0.Prime then
 some (false)
 else
 loop (ZhK y0 r58) (0)
def ZdV (y0 : Zc) : Option Bool :=
 (ZN y0.Prime 2 64).bind fun r11 =>
 bif !r11 then
 some (false)
 else
 (ZN y0.Degree 1 6).bind fun r18 =>
 bif !r18 then
 some (false)
 else
 bif ((y0.Poly.length : Int) : Int) != (IntKind.i64.wrap (y0.Degree + 1)) then
 some (false)
 else
 (gIdx y0.Poly y0.Degree).bind fun e43 =>
 bif e43 != 1 then
 some (false)
 else
 ZfN y0
def ZbY (f0 : Zc) : Option Int :=
 (ZcU f0.Prime f0.Degree).bind fun r11 =>
 some (r11)
def Zcd (v1 : List Int) (r8 : Int) : Int → Option ((Int) ⊕ (Bool))
 | i6 =>
 bif decide (i6 < (v1.length : Int)) then
 (gIdx v1 i6).bind fun e17 =>
 (ZN e17 0 (IntKind.i64.wrap (r8 - 1))).bind fun r21 =>
 bif !r21 then
 some (.inr (false))
 else
 some (.inl (IntKind.i64.wrap (i6 + 1)))
 else
 some (.inr (true))
def ZfR (f0 : Zc) (v1 : List Int) : Option Bool :=
 (ZbY f0).bind fun r8 =>
 loop (Zcd v1 r8) (0)
def Zec (f0 : Zc) (m1 : List (List Int)) : Int → Option ((Int) ⊕ (Bool))
 | i5 =>
 bif decide (i5 < (m1.length : Int)) then
 (gIdx m1 i5).bind fun e41 =>
 (gIdx m1 0).bind fun e45 =>
 bif ((e41.length : Int) : Int) != (e45.length : Int) then
 some (.inr (false))
 else
 (gIdx m1 i5).bind fun e53 =>
 (ZfR f0 e53).bind fun r55 =>
 bif !r55 then
 some (.inr (false))
 else
 some (.inl (IntKind.i64.wrap (i5 + 1)))
 else
 some (.inr (true))
def ZgI (f0 : Zc) (m1 : List (List Int)) : Option (Bool) :=
 loop (Zec f0 m1) (0)
def Zf4 (f0 : Zc) (m1 : List (List Int)) : Option Bool :=
 (ZdV f0).bind fun r7 =>
 bif !r7 then
 some (false)
 else
 bif ((m1.length : Int) : Int) == 0 then
 some (false)
 else
 bif decide (((m1.length : Int) : Int) > 32) then
 some (false)
 else
 (gIdx m1 0).bind fun e21 =>
 bif ((e21.length : Int) : Int) == 0 then
 some (false)
 else
 (gIdx m1 0).bind fun e28 =>
 bif decide (((e28.length : Int) : Int) > 32) then
 some (false)
 else
 ZgI f0 m1
def Zdm (q0 : Int) : Int × Int → Option ((Int × Int) ⊕ (Int))
 | (k1_2, n5) =>
 bif decide (k1_2 > 0) then
 bif decide ((IntKind.i64.wrap (n5 * q0) : Int) > 4096) then
 some (.inr (0))
 else
 some (.inl (IntKind.i64.wrap (k1_2 - 1), IntKind.i64.wrap (n5 * q0)))
 else
 some (.inr (n5))
def ZgM (q0 k1 : Int) : Option Int :=
 loop (Zdm q0) (k1, 1)
def Zf9 (a0 b1 : List Int) : Int → Option ((Int) ⊕ (Bool))
 | i5 =>
 bif decide (i5 < (a0.length : Int)) then
 (gIdx a0 i5).bind fun e19 =>
 (gIdx b1 i5).bind fun e23 =>
 bif e19 != e23 then
 some (.inr (false))
 else
 some (.inl (IntKind.i64.wrap (i5 + 1)))
 else
 some (.inr (true))
def ZfJ (a0 b1 : List Int) : Option Bool :=
 bif ((a0.length : Int) : Int) != (b1.length : Int) then
 some (false)
 else
 loop (Zf9 a0 b1) (0)
def ZfZ (a0 b1 : List (List Int)) : Int → Option ((Int) ⊕ (Bool))
 | i5 =>
 bif decide (i5 < (a0.length : Int)) then
 (gIdx a0 i5).bind fun e19 =>
 (gIdx b1 i5).bind fun e23 =>
 (ZfJ e19 e23).bind fun r25 =>
 bif !r25 then
 some (.inr (false))
 else
 some (.inl (IntKind.i64.wrap (i5 + 1)))
 else
 some (.inr (true))
def Zej (a0 b1 : List (List Int)) : Option Bool :=
 bif ((a0.length : Int) : Int) != (b1.length : Int) then
 some (false)
 else
 loop (ZfZ a0 b1) (0)
def Zds (m0 : List (List Int)) : List (List Int) × Int → Option ((List (List Int) × Int) ⊕ (List (List Int)))
 | (out3, i4) =>
 bif decide (i4 < (m0.length : Int)) then
 (gIdx m0 i4).bind fun e15 =>
 (ZaH e15).bind fun r17 =>
 (gApp 24 out3 [r17]).bind fun l19 =>
 some (.inl (l19, IntKind.i64.wrap (i4 + 1)))
 else
 some (.inr (out3))
def Zey (m0 : List (List Int)) : Option (List (List Int)) :=
 loop (Zds m0) (([] : List (List Int)), 0)
def ZeW (y0 : Zc) (r21 r31 : List Int) (y10 : Int) : Int × List Int → Option ((Int × List Int) ⊕ ((Int × List Int) ⊕ (Int)))
 | (y11, xs_2) =>
 bif decide (y11 < (r31.length : Int)) then
 (gIdx xs_2 (IntKind.i64.wrap (y10 + y11))).bind fun e59 =>
 (gIdx r21 y10).bind fun e63 =>
 (gIdx r31 y11).bind fun e67 =>
 (gNz y0.Prime).bind fun _ =>
 (gIdx xs_2 (IntKind.i64.wrap (y10 + y11))).bind fun e76 =>
 some (.inl (IntKind.i64.wrap (y11 + 1), (xs_2.set (IntKind.i64.wrap (y10 + y11) : Int).toNat (Int.tmod (IntKind.i64.wrap (e59 + (IntKind.i64.wrap (e63 * e67)))) y0.Prime))))
 else
 some (.inr (.inl (IntKind.i64.wrap (y10 + 1), xs_2)))
def Zb2 (y0 : Zc) (r21 r31 : List Int) : Int × List Int → Option ((Int × List Int) ⊕ (Int))
 | (y10, xs) =>
 bif decide (y10 < (r21.length : Int)) then
 loop (ZeW y0 r21 r31 y10) (0, xs)
 else
 (ZbH xs y0.Poly y0.Prime).bind fun r86 =>
 (ZaA r86 y0.Prime).bind fun r91 =>
 some (.inr (r91))
def Zcf (y0 : Zc) (y1 y2 : Int) : Option Int :=
 (ZaE y1 y0.Prime y0.Degree).bind fun r21 =>
 (ZaE y2 y0.Prime y0.Degree).bind fun r31 =>
 (gMake 8 (0 : Int) (IntKind.i64.wrap ((IntKind.i64.wrap (2 * y0.Degree)) - 1)) (IntKind.i64.wrap ((IntKind.i64.wrap (2 * y0.Degree)) - 1))).bind fun l38 =>
 loop (Zb2 y0 r21 r31) (0, l38)
def Zd3 (f0 : Zc) (v1 : List Int) (c2 : Int) : List Int × Int → Option ((List Int × Int) ⊕ (List Int))
 | (out7, i8) =>
 bif decide (i8 < (v1.length : Int)) then
 (gIdx v1 i8).bind fun e20 =>
 (Zcf f0 e20 c2).bind fun r23 =>
 (gApp 8 out7 [r23]).bind fun l25 =>
 some (.inl (l25, IntKind.i64.wrap (i8 + 1)))
 else
 some (.inr (out7))
def Zfq (f0 : Zc) (v1 : List Int) (c2 : Int) : Option (List Int) :=
 loop (Zd3 f0 v1 c2) (([] : List Int), 0)
def Zfx (f0 : Zc) (a1 : Int) : Int → Option ((Int) ⊕ (Int))
 | b5 =>
 (Zcf f0 a1 b5).bind fun r9 =>
 bif r9 != 1 then
 some (.inl (IntKind.i64.wrap (b5 + 1)))
 else
 some (.inr (b5))
def Zfv (f0 : Zc) (a1 : Int) : Option Int :=
 loop (Zfx f0 a1) (1)
def Zdh (f0 : Zc) (k3 : Int) (r31 : List Int) : Int × List Int → Option ((Int × List Int) ⊕ (Int))
 | (i11, xs) =>
 bif decide (i11 < (xs.length : Int)) then
 (gIdx xs i11).bind fun e42 =>
 (gIdx r31 i11).bind fun e47 =>
 (gNz f0.Prime).bind fun _ =>
 (gIdx xs i11).bind fun e56 =>
 some (.inl (IntKind.i64.wrap (i11 + 1), (xs.set i11.toNat (Int.tmod (IntKind.i64.wrap (e42 + (IntKind.i64.wrap (k3 * e47)))) f0.Prime))))
 else
 (ZaA xs f0.Prime).bind fun r62 =>
 some (.inr (r62))
def ZeS (f0 : Zc) (a1 b2 k3 : Int) : Option Int :=
 (ZaE a1 f0.Prime f0.Degree).bind fun r21 =>
 (ZaE b2 f0.Prime f0.Degree).bind fun r31 =>
 loop (Zdh f0 k3 r31) (0, r21)
def ZdK (f0 : Zc) (v1 w2 : List Int) (c3 : Int) : List Int × Int → Option ((List Int × Int) ⊕ (List Int))
 | (out9, i10) =>
 bif decide (i10 < (v1.length : Int)) then
 (gIdx w2 i10).bind fun e27 =>
 (Zcf f0 e27 c3).bind fun r30 =>
 (gIdx v1 i10).bind fun e22 =>
 (ZeS f0 e22 r30 (IntKind.i64.wrap (f0.Prime - 1))).bind fun r36 =>
 (gApp 8 out9 [r36]).bind fun l38 =>
 some (.inl (l38, IntKind.i64.wrap (i10 + 1)))
 else
 some (.inr (out9))
def ZeU (f0 : Zc) (v1 w2 : List Int) (c3 : Int) : Option (List Int) :=
 loop (ZdK f0 v1 w2 c3) (([] : List Int), 0)
def ZcF (y0 : Zc) (y9 : List Int) (y10 : Int) (r67 : List Int) : Int × List (List Int) → Option ((Int × List (List Int)) ⊕ ((List Int × Int × List (List Int)) ⊕ ((List (List Int)) × (List Int))))
 | (y14, xs_2) =>
 bif decide (y14 < (xs_2.length : Int)) then
 bif y14 != (y9.length : Int) then
 (gIdx xs_2 y14).bind fun e93 =>
 (gIdx xs_2 y14).bind fun e98 =>
 (gIdx e98 y10).bind fun e101 =>
 (ZeU y0 e93 r67 e101).bind fun r103 =>
 (gIdx xs_2 y14).bind fun e104 =>
 some (.inl (IntKind.i64.wrap (y14 + 1), (xs_2.set y14.toNat r103)))
 else
 some (.inl (IntKind.i64.wrap (y14 + 1), xs_2))
 else
 (gApp 8 y9 [y10]).bind fun l108 =>
 some (.inr (.inl (l108, IntKind.i64.wrap (y10 + 1), xs_2)))
def Zah (y0 : Zc) (y9 : List Int) (y10 : Int) (xs : List (List Int)) (y12 : Int) : Option ((List Int × Int × List (List Int)) ⊕ ((List (List Int)) × (List Int))) :=
 bif y12 == (xs.length : Int) then
 some (.inl (y9, IntKind.i64.wrap (y10 + 1), xs))
 else
 (gIdx xs y12).bind fun e61 =>
 (gIdx e61 y10).bind fun e64 =>
 (Zfv y0 e64).bind fun r66 =>
 (gIdx xs y12).bind fun e56 =>
 (Zfq y0 e56 r66).bind fun r67 =>
 (gIdx xs (y9.length : Int)).bind fun e72 =>
 (gIdx xs y12).bind fun e74 =>
 (gIdx (xs.set y12.toNat e72) (y9.length : Int)).bind fun e78 =>
 loop (ZcF y0 y9 y10 r67) (0, ((xs.set y12.toNat e72).set ((y9.length : Int) : Int).toNat r67))
def Zbg (y0 : Zc) (y9 : List Int) (y10 : Int) (xs : List (List Int)) : Int → Option ((Int) ⊕ ((List Int × Int × List (List Int)) ⊕ ((List (List Int)) × (List Int))))
 | y12_2 =>
 bif decide (y12_2 < (xs.length : Int)) then
 (gIdx xs y12_2).bind fun e40 =>
 (gIdx e40 y10).bind fun e43 =>
 bif e43 == 0 then
 some (.inl (IntKind.i64.wrap (y12_2 + 1)))
 else
 (Zah y0 y9 y10 xs y12_2).map fun x => .inr (x)
 else
 (Zah y0 y9 y10 xs y12_2).map fun x => .inr (x)
def Zev (y0 : Zc) (y9 : List Int) (y10 : Int) (xs : List (List Int)) : Option ((List Int × Int × List (List Int)) ⊕ ((List (List Int)) × (List Int))) :=
 loop (Zbg y0 y9 y10 xs) ((y9.length : Int))
def Zbo (y0 : Zc) (y2 : Int) : List Int × Int × List (List Int) → Option ((List Int × Int × List (List Int)) ⊕ ((List (List Int)) × (List Int)))
 | (y9, y10, xs) =>
 bif decide (y10 < y2) then
 bif decide (((y9.length : Int) : Int) < (xs.length : Int)) then
 Zev y0 y9 y10 xs
 else
 some (.inr ((xs, y9)))
 else
 some (.inr ((xs, y9)))
def ZhB (y0 : Zc) (y1 : List (List Int)) (y2 : Int) : Option ((List (List Int)) × (List Int)) :=
 (Zey y1).bind fun r16 =>
 loop (Zbo y0 y2) (([] : List Int), 0, r16)
def Zgk (f0 : Zc) (m1 : List (List Int)) : Option (List (List Int)) :=
 (gIdx m1 0).bind fun e11 =>
 (ZhB f0 m1 (e11.length : Int)).bind fun r14 =>
 (gSl r14.1 0 (r14.2.length : Int)).bind fun l20 =>
 some (l20)
def ZgN (c0 : ZaL) : Option (Bool) :=
 (ZbY (Zc.mk c0.Field.Prime c0.Field.Degree c0.Field.Poly)).bind fun r33 =>
 (ZgM r33 (c0.Rows.length : Int)).bind fun r39 =>
 bif r39 == 0 then
 some (false)
 else
 (Zgk (Zc.mk c0.Field.Prime c0.Field.Degree c0.Field.Poly) c0.Rows).bind fun r48 =>
 (Zej r48 c0.Rows).bind fun r53 =>
 some (r53)
def Zdp (c0 : ZaL) : Option Bool :=
 (Zf4 (Zc.mk c0.Field.Prime c0.Field.Degree c0.Field.Poly) c0.Rows).bind fun r10 =>
 bif !r10 then
 some (false)
 else
 (gIdx c0.Rows 0).bind fun e17 =>
 bif decide (((e17.length : Int) : Int) > 32) then
 some (false)
 else
 bif decide (((c0.Rows.length : Int) : Int) > 8) then
 some (false)
 else
 ZgN c0
def Zgx (list0 : List Int) : Int → Option ((Int) ⊕ (Bool))
 | i3 =>
 bif decide (i3 < (list0.length : Int)) then
 (gIdx list0 i3).bind fun e15 =>
 (ZN e15 0 63).bind fun r17 =>
 bif !r17 then
 some (.inr (false))
 else
 some (.inl (IntKind.i64.wrap (i3 + 1)))
 else
 some (.inr (true))
def Zf5 (list0 : List Int) : Option Bool :=
 bif decide (((list0.length : Int) : Int) > 64) then
 some (false)
 else
 loop (Zgx list0) (0)
def ZfK (a0 b1 : ZH) : Option Bool :=
 bif decide (a0.A < b1.A) then
 some (true)
 else
 bif a0.A == b1.A then
 some (decide (a0.B < b1.B))
 else
 some (false)
def ZbV (g0 : ZY) : Int → Option ((Int) ⊕ (Bool))
 | i4 =>
 bif decide (i4 < (g0.Edges.length : Int)) then
 (gIdx g0.Edges i4).bind fun e29 =>
 (ZN e29.A 0 (IntKind.i64.wrap ((g0.Colors.length : Int) - 1))).bind fun r35 =>
 bif !r35 then
 some (.inr (false))
 else
 (ZN e29.B (IntKind.i64.wrap (e29.A + 1)) (IntKind.i64.wrap ((g0.Colors.length : Int) - 1))).bind fun r45 =>
 bif !r45 then
 some (.inr (false))
 else
 bif decide (i4 > 0) then
 (gIdx g0.Edges (IntKind.i64.wrap (i4 - 1))).bind fun e56 =>
 (ZfK e56 (ZH.mk e29.A e29.B)).bind fun r59 =>
 bif !r59 then
 some (.inr (false))
 else
 some (.inl (IntKind.i64.wrap (i4 + 1)))
 else
 some (.inl (IntKind.i64.wrap (i4 + 1)))
 else
 some (.inr (true))
def Zhd (g0 : ZY) : Option (Bool) :=
 loop (ZbV g0) (0)
def Zex (g0 : ZY) : Option Bool :=
 (Zf5 g0.Colors).bind fun r8 =>
 bif !r8 then
 some (false)
 else
 bif decide (((g0.Edges.length : Int) : Int) > 512) then
 some (false)
 else
 Zhd g0
def ZcD (y0 : Zz) (l17 : List Int) : Int × List ZH → Option ((Int × List ZH) ⊕ (ZY × Bool))
 | (y5, xs) =>
 bif decide (y5 < (y0.Rows.length : Int)) then
 (gIdx y0.Rows y5).bind fun e33 =>
 bif ((e33.length : Int) : Int) != 2 then
 some (.inr (((ZY.mk ([] : List Int) ([] : List ZH)), false)))
 else
 (gIdx y0.Rows y5).bind fun e45 =>
 (gIdx e45 0).bind fun e47 =>
 (gIdx y0.Rows y5).bind fun e54 =>
 (gIdx e54 1).bind fun e56 =>
 (gApp 16 xs [(ZH.mk e47 e56)]).bind fun l60 =>
 some (.inl (IntKind.i64.wrap (y5 + 1), l60))
 else
 (Zex (ZY.mk l17 xs)).bind fun r64 =>
 some (.inr (((ZY.mk l17 xs), r64)))
def Zgi (y0 : Zz) : Option (ZY × Bool) :=
 (ZN y0.Size 0 64).bind fun r10 =>
 bif !r10 then
 some (((ZY.mk ([] : List Int) ([] : List ZH)), false))
 else
 (gMake 8 (0 : Int) y0.Size y0.Size).bind fun l17 =>
 loop (ZcD y0 l17) (0, ([] : List ZH))
def ZaI (list0 : List (List Int)) (p1 : List Int) : Int × Int → Option ((Int × Int) ⊕ (Int × Bool))
 | (low6, high7) =>
 bif decide (low6 < high7) then
 (gNz 2).bind fun _ =>
 (gIdx list0 (IntKind.i64.wrap (Int.tdiv (IntKind.i64.wrap (low6 + high7)) 2))).bind fun e21 =>
 (Zct e21 p1).bind fun r24 =>
 bif r24 == 0 then
 some (.inr ((IntKind.i64.wrap (Int.tdiv (IntKind.i64.wrap (low6 + high7)) 2), true)))
 else
 bif decide (r24 < 0) then
 some (.inl (IntKind.i64.wrap ((IntKind.i64.wrap (Int.tdiv (IntKind.i64.wrap (low6 + high7)) 2)) + 1), high7))
 else
 some (.inl (low6, IntKind.i64.wrap (Int.tdiv (IntKind.i64.wrap (low6 + high7)) 2)))
 else
 some (.inr ((low6, false)))
def Zch (list0 : List (List Int)) (p1 : List Int) : Option (Int × Bool) :=
 loop (ZaI list0 p1) (0, (list0.length : Int))
def Zed (n0 : Int) : List Int × Int → Option ((List Int × Int) ⊕ (List Int))
 | (out3, i4) =>
 bif decide (i4 < n0) then
 (gApp 8 out3 [i4]).bind fun l14 =>
 some (.inl (l14, IntKind.i64.wrap (i4 + 1)))
 else
 some (.inr (out3))
def Zgb (n0 : Int) : Option (List Int) :=
 loop (Zed n0) (([] : List Int), 0)
def Zd2 (p0 q1 : List Int) : List Int × Int → Option ((List Int × Int) ⊕ (List Int))
 | (out5, i6) =>
 bif decide (i6 < (p0.length : Int)) then
 (gIdx p0 i6).bind fun e18 =>
 (gIdx q1 e18).bind fun e20 =>
 (gApp 8 out5 [e20]).bind fun l23 =>
 some (.inl (l23, IntKind.i64.wrap (i6 + 1)))
 else
 some (.inr (out5))
def ZeG (p0 q1 : List Int) : Option (List Int) :=
 loop (Zd2 p0 q1) (([] : List Int), 0)
def ZeV (list0 : List (List Int)) (at1 : Int) (p2 : List Int) : Option (List (List Int)) :=
 (gSl list0 0 at1).bind fun l11 =>
 (gApp 24 ([] : List (List Int)) l11).bind fun l12 =>
 (gApp 24 l12 [p2]).bind fun l16 =>
 (gSl list0 at1 (list0.length : Int)).bind fun l20 =>
 (gApp 24 l16 l20).bind fun l21 =>
 some (l21)
def Zas (genera1 : List (List Int)) (most2 i11 : Int) : List (List Int) × List (List Int) × Int → Option ((List (List Int) × List (List Int) × Int) ⊕ ((List (List Int) × List (List Int) × Int) ⊕ ((List (List Int)) × Bool)))
 | (list9_2, queue10_2, k12) =>
 bif decide (k12 < (genera1.length : Int)) then
 (gIdx queue10_2 i11).bind fun e36 =>
 (gIdx genera1 k12).bind fun e40 =>
 (ZeG e36 e40).bind fun r42 =>
 (Zch list9_2 r42).bind fun r46 =>
 bif r46.2 then
 some (.inl (list9_2, queue10_2, IntKind.i64.wrap (k12 + 1)))
 else
 bif ((list9_2.length : Int) : Int) == most2 then
 some (.inr (.inr ((([] : List (List Int)), false))))
 else
 (ZeV list9_2 r46.1 r42).bind fun r57 =>
 (gApp 24 queue10_2 [r42]).bind fun l61 =>
 some (.inl (r57, l61, IntKind.i64.wrap (k12 + 1)))
 else
 some (.inr (.inl (list9_2, queue10_2, IntKind.i64.wrap (i11 + 1))))
def Zbq (genera1 : List (List Int)) (most2 : Int) : List (List Int) × List (List Int) × Int → Option ((List (List Int) × List (List Int) × Int) ⊕ ((List (List Int)) × Bool))
 | (list9, queue10, i11) =>
 bif decide (i11 < (queue10.length : Int)) then
 loop (Zas genera1 most2 i11) (list9, queue10, 0)
 else
 some (.inr ((list9, true)))
def Zb3 (degree0 : Int) (genera1 : List (List Int)) (most2 : Int) : Option ((List (List Int)) × Bool) :=
 (Zgb degree0).bind fun r17 =>
 loop (Zbq genera1 most2) ([r17], [r17], 0)
def Za6 (degree0 : Int) (list1 : List (List Int)) : List (List Int) × List (List Int) × Int → Option ((List (List Int) × List (List Int) × Int) ⊕ ((List (List Int)) × Bool))
 | (out6, have7, i9) =>
 bif decide (i9 < (list1.length : Int)) then
 (gIdx list1 i9).bind fun e31 =>
 (Zch have7 e31).bind fun r33 =>
 bif r33.2 then
 some (.inl (out6, have7, IntKind.i64.wrap (i9 + 1)))
 else
 (gIdx list1 i9).bind fun e40 =>
 (ZaH e40).bind fun r42 =>
 (gApp 24 out6 [r42]).bind fun l44 =>
 (Zb3 degree0 l44 (list1.length : Int)).bind fun r50 =>
 bif !r50.2 then
 some (.inr ((([] : List (List Int)), false)))
 else
 some (.inl (l44, r50.1, IntKind.i64.wrap (i9 + 1)))
 else
 (Zej have7 list1).bind fun r59 =>
 some (.inr ((out6, r59)))
def ZfL (degree0 : Int) (list1 : List (List Int)) : Option ((List (List Int)) × Bool) :=
 (Zb3 degree0 ([] : List (List Int)) 1).bind fun r18 =>
 loop (Za6 degree0 list1) (([] : List (List Int)), r18.1, 0)
def ZbQ (y0 : ZaD) : Int → Option ((Int) ⊕ (Bool))
 | y3 =>
 bif decide (y3 < (y0.Elements.length : Int)) then
 (gIdx y0.Elements y3).bind fun e42 =>
 (Zc0 e42).bind fun r44 =>
 bif !r44 then
 some (.inr (false))
 else
 (gIdx y0.Elements y3).bind fun e52 =>
 bif ((e52.length : Int) : Int) != y0.Degree then
 some (.inr (false))
 else
 bif decide (y3 > 0) then
 (gIdx y0.Elements (IntKind.i64.wrap (y3 - 1))).bind fun e71 =>
 (gIdx y0.Elements y3).bind fun e78 =>
 (Zct e71 e78).bind fun r80 =>
 bif decide (r80 ≥ 0) then
 some (.inr (false))
 else
 some (.inl (IntKind.i64.wrap (y3 + 1)))
 else
 some (.inl (IntKind.i64.wrap (y3 + 1)))
 else
 (ZfL y0.Degree y0.Elements).bind fun r93 =>
 some (.inr (r93.2))
def ZhX (y0 : ZaD) : Option (Bool) :=
 loop (ZbQ y0) (0)
def Ze3 (y0 : ZaD) : Option Bool :=
 (ZN y0.Degree 1 32).bind fun r10 =>
 bif !r10 then
 some (false)
 else
 bif ((y0.Elements.length : Int) : Int) == 0 then
 some (false)
 else
 bif decide (((y0.Elements.length : Int) : Int) > 720) then
 some (false)
 else
 ZhX y0
def ZeN (y0 : Zz) : Option Bool :=
 bif y0.Kind == 1 then
 (Zf8 y0.Rows).bind fun r17 =>
 bif r17 then
 some (((y0.Rows.length : Int) : Int) == y0.Size)
 else
 some (false)
 else
 bif y0.Kind == 2 then
 (ZeC (Za4.mk y0.Size y0.Rows)).bind fun r42 =>
 some (r42)
 else
 bif y0.Kind == 3 then
 (Zfg y0.Rows).bind fun r49 =>
 bif r49 then
 some (((y0.Rows.length : Int) : Int) == y0.Size)
 else
 some (false)
 else
 bif y0.Kind == 4 then
 (ZeF y0).bind fun r65 =>
 bif decide (((y0.Rows.length : Int) : Int) > 0) then
 (ZeR (Z4.mk r65.Levels r65.Columns r65.Rows)).bind fun r73 =>
 some (r73)
 else
 some (false)
 else
 bif y0.Kind == 5 then
 (Zgm y0).bind fun r78 =>
 (Zdp (ZaL.mk (Zc.mk r78.Field.Prime r78.Field.Degree r78.Field.Poly) r78.Rows)).bind fun r79 =>
 some (r79)
 else
 bif y0.Kind == 6 then
 (Zgi y0).bind fun r84 =>
 some (r84.2)
 else
 bif y0.Kind == 7 then
 (Ze3 (ZaD.mk y0.Size y0.Rows)).bind fun r100 =>
 some (r100)
 else
 some (false)
def Zxk (c0 : Int) : Option Bool :=
 bif decide (c0 ≥ 97) then
 some (decide (c0 ≤ 122))
 else
 some (false)
def Zxq (c0 : Int) : Option Bool :=
 bif decide (c0 ≥ 48) then
 some (decide (c0 ≤ 57))
 else
 some (false)
def Zxr (s0 : ByteArray) : Int → Option ((Int) ⊕ (Bool))
 | i3 =>
 bif decide (i3 < (s0.size : Int)) then
 (gSt s0 i3).bind fun c25 =>
 (Zxk (c25.toNat : Int)).bind fun r26 =>
 bif !r26 then
 (gSt s0 i3).bind fun c31 =>
 (Zxq (c31.toNat : Int)).bind fun r32 =>
 bif !r32 then
 some (.inr (false))
 else
 some (.inl (IntKind.i64.wrap (i3 + 1)))
 else
 some (.inl (IntKind.i64.wrap (i3 + 1)))
 else
 some (.inr (true))
def ZxL (s0 : ByteArray) : Option (Bool) :=
 loop (Zxr s0) (0)
def ZxD (s0 : ByteArray) : Option Bool :=
 bif s0.toList == (⟨#[]⟩ : ByteArray).toList then
 some (false)
 else
 bif decide (((s0.size : Int) : Int) > 10) then
 some (false)
 else
 (gSt s0 0).bind fun c13 =>
 (Zxk (c13.toNat : Int)).bind fun r14 =>
 bif !r14 then
 some (false)
 else
 ZxL s0
def ZxI (x0 : Zxh) : Option Bool :=
 (ZxD x0.Name).bind fun r7 =>
 bif r7 then
 (ZeN (Zz.mk x0.Object.Kind x0.Object.Size x0.Object.Rows)).bind fun r12 =>
 bif r12 then
 bif decide (((x0.Key.size : Int) : Int) > 0) then
 some (decide (((x0.Key.size : Int) : Int) ≤ 4000))
 else
 some (false)
 else
 some (false)
 else
 some (false)
def ZzM (a0 b1 : Zxh) : Option Bool :=
 bif a0.Object.Kind == b1.Object.Kind then
 some (a0.Key.toList == b1.Key.toList)
 else
 some (false)
def ZzA (y0 : Zzg) (y3 : Int) : Int → Option ((Int) ⊕ ((Int) ⊕ (Bool)))
 | y4 =>
 bif decide (y4 < y3) then
 (gIdx y0.Items y3).bind fun e56 =>
 (gIdx y0.Items y4).bind fun e62 =>
 (ZzM e56 e62).bind fun r63 =>
 bif r63 then
 some (.inr (.inr (false)))
 else
 some (.inl (IntKind.i64.wrap (y4 + 1)))
 else
 some (.inr (.inl (IntKind.i64.wrap (y3 + 1))))
def Zzv (y0 : Zzg) (y3 : Int) : Option ((Int) ⊕ (Bool)) :=
 loop (ZzA y0 y3) (0)
def Zzl (y0 : Zzg) : Int → Option ((Int) ⊕ (Bool))
 | y3 =>
 bif decide (y3 < (y0.Items.length : Int)) then
 (gIdx y0.Items y3).bind fun e19 =>
 (ZxI e19).bind fun r20 =>
 bif !r20 then
 some (.inr (false))
 else
 bif decide (y3 > 0) then
 (gIdx y0.Items (IntKind.i64.wrap (y3 - 1))).bind fun e32 =>
 (gIdx y0.Items y3).bind fun e40 =>
 bif !(Op.bytesLess (e32.Name.toList) (e40.Name.toList)) then
 some (.inr (false))
 else
 Zzv y0 y3
 else
 Zzv y0 y3
 else
 some (.inr (decide (((y0.Items.length : Int) : Int) ≤ 24)))
def ZzC (y0 : Zzg) : Option Bool :=
 loop (Zzl y0) (0)
def ZfV : Option (List ByteArray) :=
 some (([⟨#[]⟩, ⟨#[115, 113, 117, 97, 114, 101]⟩, ⟨#[100, 101, 115, 105, 103, 110]⟩, ⟨#[104, 97, 100, 97, 109, 97, 114, 100]⟩, ⟨#[97, 114, 114, 97, 121]⟩, ⟨#[99, 111, 100, 101]⟩, ⟨#[103, 114, 97, 112, 104]⟩, ⟨#[103, 114, 111, 117, 112]⟩] : List ByteArray))
def Zda (out3 : List Int) (k4 d5 : Int) : Option ((List Int × Int) ⊕ (ByteArray)) :=
 (gApp 1 ([IntKind.u8.wrap (IntKind.i64.wrap (48 + d5))] : List Int) out3).bind fun l23 =>
 (gNz 10).bind fun _ =>
 some (.inl (l23, IntKind.i64.wrap (Int.tdiv k4 10)))
def Zav (n0 : Int) : List Int × Int → Option ((List Int × Int) ⊕ (ByteArray))
 | (out3, k4) =>
 bif k4 != 0 then
 (gNz 10).bind fun _ =>
 bif decide ((Int.tmod k4 10 : Int) < 0) then
 Zda out3 k4 (IntKind.i64.wrap (0 - (Int.tmod k4 10)))
 else
 Zda out3 k4 (Int.tmod k4 10)
 else
 bif ((out3.length : Int) : Int) == 0 then
 some (.inr (⟨#[48]⟩))
 else
 bif decide (n0 < 0) then
 (gByt out3).bind fun s30 =>
 (gFit (⟨#[45]⟩ : ByteArray) s30).bind fun _ =>
 some (.inr ((⟨#[45]⟩ : ByteArray) ++ s30))
 else
 (gByt out3).bind fun s33 =>
 some (.inr (s33))
def Zdd (n0 : Int) : Option ByteArray :=
 loop (Zav n0) (([] : List Int), n0)
def Zdc (list0 : List Int) (i4 : Int) (out3_2 : ByteArray) : Option ((ByteArray × Int) ⊕ (ByteArray)) :=
 (gIdx list0 i4).bind fun e30 =>
 (Zdd e30).bind fun r32 =>
 (gFit out3_2 r32).bind fun _ =>
 some (.inl (out3_2 ++ r32, IntKind.i64.wrap (i4 + 1)))
def Za8 (list0 : List Int) : ByteArray × Int → Option ((ByteArray × Int) ⊕ (ByteArray))
 | (out3, i4) =>
 bif decide (i4 < (list0.length : Int)) then
 (gIdx list0 i4).bind fun e19 =>
 (ZN e19 (-999999999) 999999999).bind fun r21 =>
 bif !r21 then
 some (.inr (⟨#[]⟩))
 else
 bif decide (i4 > 0) then
 (gFit out3 (⟨#[44]⟩ : ByteArray)).bind fun _ =>
 Zdc list0 i4 (out3 ++ (⟨#[44]⟩ : ByteArray))
 else
 Zdc list0 i4 out3
 else
 some (.inr (out3))
def Ze7 (list0 : List Int) : Option ByteArray :=
 bif decide (((list0.length : Int) : Int) > 100) then
 some (⟨#[]⟩)
 else
 bif ((list0.length : Int) : Int) == 0 then
 some (⟨#[45]⟩)
 else
 loop (Za8 list0) (⟨#[]⟩, 0)
def ZbP (o0 : Zz) (i4 : Int) (out3_2 : ByteArray) : Option ((ByteArray × Int) ⊕ (ByteArray)) :=
 (gIdx o0.Rows i4).bind fun e47 =>
 (Ze7 e47).bind fun r49 =>
 (gFit out3_2 r49).bind fun _ =>
 some (.inl (out3_2 ++ r49, IntKind.i64.wrap (i4 + 1)))
def ZaS (o0 : Zz) : ByteArray × Int → Option ((ByteArray × Int) ⊕ (ByteArray))
 | (out3, i4) =>
 bif decide (i4 < (o0.Rows.length : Int)) then
 bif decide (i4 > 0) then
 (gFit out3 (⟨#[47]⟩ : ByteArray)).bind fun _ =>
 ZbP o0 i4 (out3 ++ (⟨#[47]⟩ : ByteArray))
 else
 ZbP o0 i4 out3
 else
 some (.inr (out3))
def Zfo (o0 : Zz) : Option ByteArray :=
 (ZfV).bind fun r5 =>
 (gIdx r5 o0.Kind).bind fun e10 =>
 (Zdd o0.Size).bind fun r17 =>
 (gFit e10 (⟨#[32]⟩ : ByteArray)).bind fun _ =>
 (gFit (e10 ++ (⟨#[32]⟩ : ByteArray) : ByteArray) r17).bind fun _ =>
 (gFit ((e10 ++ (⟨#[32]⟩ : ByteArray) : ByteArray) ++ r17 : ByteArray) (⟨#[32]⟩ : ByteArray)).bind fun _ =>
 bif ((o0.Rows.length : Int) : Int) == 0 then
 (gFit (((e10 ++ (⟨#[32]⟩ : ByteArray) : ByteArray) ++ r17 : ByteArray) ++ (⟨#[32]⟩ : ByteArray) : ByteArray) (⟨#[110, 111, 110, 101]⟩ : ByteArray)).bind fun _ =>
 some ((((e10 ++ (⟨#[32]⟩ : ByteArray) : ByteArray) ++ r17 : ByteArray) ++ (⟨#[32]⟩ : ByteArray) : ByteArray) ++ (⟨#[110, 111, 110, 101]⟩ : ByteArray))
 else
 loop (ZaS o0) (((e10 ++ (⟨#[32]⟩ : ByteArray) : ByteArray) ++ r17 : ByteArray) ++ (⟨#[32]⟩ : ByteArray), 0)
def Zxp (i5 : Int) : Int × Int → Option ((Int × Int) ⊕ ((Int × Int) ⊕ (Int)))
 | (x1_3, k6) =>
 bif decide (k6 < 8) then
 (gNn 1).bind fun _ =>
 bif decide (x1_3 ≥ 32768) then
 some (.inl (IntKind.i64.wrap ((BitVec.ofInt IntKind.i64.bits (IntKind.i64.wrap ((BitVec.ofInt IntKind.i64.bits (IntKind.i64.wrap (x1_3 * 2 ^ min (1 : Int).toNat IntKind.i64.bits)) &&& BitVec.ofInt IntKind.i64.bits 65535).toNat : Int)) ^^^ BitVec.ofInt IntKind.i64.bits 4129).toNat : Int), IntKind.i64.wrap (k6 + 1)))
 else
 some (.inl (IntKind.i64.wrap ((BitVec.ofInt IntKind.i64.bits (IntKind.i64.wrap (x1_3 * 2 ^ min (1 : Int).toNat IntKind.i64.bits)) &&& BitVec.ofInt IntKind.i64.bits 65535).toNat : Int), IntKind.i64.wrap (k6 + 1)))
 else
 some (.inr (.inl (x1_3, IntKind.i64.wrap (i5 + 1))))
def Zxw (s0 : ByteArray) : Int × Int → Option ((Int × Int) ⊕ (Int))
 | (x1_2, i5) =>
 bif decide (i5 < (s0.size : Int)) then
 (gSt s0 i5).bind fun c17 =>
 (gNn 8).bind fun _ =>
 loop (Zxp i5) (IntKind.i64.wrap ((BitVec.ofInt IntKind.i64.bits x1_2 ^^^ BitVec.ofInt IntKind.i64.bits (IntKind.i64.wrap ((IntKind.i64.wrap (c17.toNat : Int)) * 2 ^ min (8 : Int).toNat IntKind.i64.bits))).toNat : Int), 0)
 else
 some (.inr (x1_2))
def ZxC (s0 : ByteArray) (x1 : Int) : Option Int :=
 loop (Zxw s0) (x1, 0)
def ZxJ (x0 : Zxh) : Option ByteArray :=
 (Zfo (Zz.mk x0.Object.Kind x0.Object.Size x0.Object.Rows)).bind fun r12 =>
 (gFit x0.Name (⟨#[32]⟩ : ByteArray)).bind fun _ =>
 (gFit (x0.Name ++ (⟨#[32]⟩ : ByteArray) : ByteArray) r12).bind fun _ =>
 (gFit ((x0.Name ++ (⟨#[32]⟩ : ByteArray) : ByteArray) ++ r12 : ByteArray) (⟨#[32]⟩ : ByteArray)).bind fun _ =>
 (ZxC ((x0.Name ++ (⟨#[32]⟩ : ByteArray) : ByteArray) ++ r12) 65535).bind fun r17 =>
 (Zdd r17).bind fun r18 =>
 (gFit (((x0.Name ++ (⟨#[32]⟩ : ByteArray) : ByteArray) ++ r12 : ByteArray) ++ (⟨#[32]⟩ : ByteArray) : ByteArray) r18).bind fun _ =>
 some ((((x0.Name ++ (⟨#[32]⟩ : ByteArray) : ByteArray) ++ r12 : ByteArray) ++ (⟨#[32]⟩ : ByteArray) : ByteArray) ++ r18)
def Zzu (c0 : Zzg) : ByteArray × Int → Option ((ByteArray × Int) ⊕ (ByteArray))
 | (out3, i4) =>
 bif decide (i4 < (c0.Items.length : Int)) then
 (gIdx c0.Items i4).bind fun e28 =>
 (ZxJ e28).bind fun r29 =>
 (gFit r29 (⟨#[10]⟩ : ByteArray)).bind fun _ =>
 (gFit out3 (r29 ++ (⟨#[10]⟩ : ByteArray) : ByteArray)).bind fun _ =>
 some (.inl (out3 ++ (r29 ++ (⟨#[10]⟩ : ByteArray) : ByteArray), IntKind.i64.wrap (i4 + 1)))
 else
 some (.inr (out3))
def ZzE (c0 : Zzg) : Option ByteArray :=
 (Zdd (c0.Items.length : Int)).bind fun r10 =>
 (gFit (⟨#[99, 97, 116, 97, 108, 111, 103, 32]⟩ : ByteArray) r10).bind fun _ =>
 (gFit ((⟨#[99, 97, 116, 97, 108, 111, 103, 32]⟩ : ByteArray) ++ r10 : ByteArray) (⟨#[10]⟩ : ByteArray)).bind fun _ =>
 loop (Zzu c0) (((⟨#[99, 97, 116, 97, 108, 111, 103, 32]⟩ : ByteArray) ++ r10 : ByteArray) ++ (⟨#[10]⟩ : ByteArray), 0)
def Zzy (c0 : Zzg) : Option (ByteArray × Int) :=
 (ZzC (Zzg.mk c0.Items)).bind fun r4 =>
 bif !r4 then
 some ((⟨#[]⟩, 1))
 else
 (ZzE (Zzg.mk c0.Items)).bind fun r6 =>
 some ((r6, 0))
def Zfb (a0 : List Int) : Int × List Int → Option ((Int × List Int) ⊕ (List Int))
 | (i4, xs) =>
 bif decide (i4 < (a0.length : Int)) then
 (gIdx a0 i4).bind fun e18 =>
 (gIdx xs i4).bind fun e20 =>
 some (.inl (IntKind.i64.wrap (i4 + 1), (xs.set i4.toNat e18)))
 else
 some (.inr (xs))
def Zd8 (a0 : List Int) : Option (List Int) :=
 (gMake 8 (0 : Int) (a0.length : Int) (a0.length : Int)).bind fun l7 =>
 loop (Zfb a0) (0, l7)
def ZfH (a0 : List (List Int)) : Int × List (List Int) → Option ((Int × List (List Int)) ⊕ (List (List Int)))
 | (i4, xs) =>
 bif decide (i4 < (a0.length : Int)) then
 (gIdx a0 i4).bind fun e18 =>
 (Zd8 e18).bind fun r20 =>
 (gIdx xs i4).bind fun e21 =>
 some (.inl (IntKind.i64.wrap (i4 + 1), (xs.set i4.toNat r20)))
 else
 some (.inr (xs))
def Zeg (a0 : List (List Int)) : Option (List (List Int)) :=
 (gMake 24 ([] : List Int) (a0.length : Int) (a0.length : Int)).bind fun l7 =>
 loop (ZfH a0) (0, l7)
def Zcc (a0 : Z3) : Option Zz :=
 (Zeg a0.Rows).bind fun r12 =>
 some ((Zz.mk a0.Kind a0.Size r12))
def Zxu (a0 : Zxi) : Option Zxh :=
 (Zcc (Z3.mk a0.Object.Kind a0.Object.Size a0.Object.Rows)).bind fun r9 =>
 some ((Zxh.mk a0.Name (Zz.mk r9.Kind r9.Size r9.Rows) a0.Key))
def ZzH (a0 : List Zxi) : Int × List Zxh → Option ((Int × List Zxh) ⊕ (List Zxh))
 | (i4, xs) =>
 bif decide (i4 < (a0.length : Int)) then
 (gIdx a0 i4).bind fun e18 =>
 (Zxu e18).bind fun r20 =>
 (gIdx xs i4).bind fun e21 =>
 some (.inl (IntKind.i64.wrap (i4 + 1), (xs.set i4.toNat r20)))
 else
 some (.inr (xs))
def Zzt (a0 : List Zxi) : Option (List Zxh) :=
 (gMake 72 (Zxh.mk (⟨#[]⟩ : ByteArray) (Zz.mk (0 : Int) (0 : Int) ([] : List (List Int))) (⟨#[]⟩ : ByteArray)) (a0.length : Int) (a0.length : Int)).bind fun l7 =>
 loop (ZzH a0) (0, l7)
def Zzr (a0 : Zzh) : Option Zzg :=
 (Zzt a0.Items).bind fun r6 =>
 some ((Zzg.mk r6))
def Zh5 (i0 base1 : Int) : Option ByteArray := if base1 = 10 ∧ -9223372036854775808 ≤ i0 ∧ i0 ≤ 9223372036854775807 then some (itoaB i0) else none
def Zde (n0 : Int) : Option ByteArray :=
 (Zh5 n0 10).bind fun r4 =>
 some (r4)
def Z2 (list0 : List (List Int)) : Option Int :=
 some ((list0.length : Int))
def ZL (n0 low1 high2 : Int) : Option Bool :=
 bif decide (n0 ≥ low1) then
 some (decide (n0 ≤ high2))
 else
 some (false)
def ZbA (s0 : List (List Int)) (fn1 : (List Int) → Option Bool) : Int → Option ((Int) ⊕ (Int))
 | y8 =>
 bif decide (y8 < (s0.length : Int)) then
 (gIdx s0 y8).bind fun e14 =>
 (fn1 e14).bind fun r16 =>
 bif r16 then
 some (.inr (y8))
 else
 some (.inl (IntKind.i64.wrap (y8 + 1)))
 else
 some (.inr ((-1)))
def Zdv (s0 : List (List Int)) (fn1 : (List Int) → Option Bool) : Option Int :=
 loop (ZbA s0 fn1) (0)
def Zdl (s0 : List (List Int)) (fn1 : (List Int) → Option Bool) : Option Bool :=
 (Zdv s0 fn1).bind fun r7 =>
 some (decide (r7 ≥ 0))
def Zbf (a0 : List Int) : Option (List Int) := gApp 8 [] a0
def Zf7 (x0 : List Int) : Option (List Int) := if x0.length < 4611686018427387904 then some (sortI x0) else none
def Zdb (p0 r9 : List Int) : Int → Option ((Int) ⊕ (Bool))
 | y12 =>
 bif decide (y12 < (r9.length : Int)) then
 (gIdx r9 y12).bind fun e15 =>
 bif e15 != y12 then
 some (.inr (false))
 else
 some (.inl (IntKind.i64.wrap (y12 + 1)))
 else
 some (.inr (decide (((p0.length : Int) : Int) ≤ 32)))
def ZdA (p0 : List Int) : Option Bool :=
 (Zbf p0).bind fun r7 =>
 (Zf7 r7).bind fun r9 =>
 loop (Zdb p0 r9) (0)
def ZJ (list0 : List Int) : Option Int :=
 some ((list0.length : Int))
def Zhk (p0 : List Int) (y1 : Int) : Option Bool :=
 (ZJ p0).bind fun r5 =>
 bif r5 != y1 then
 some (true)
 else
 (ZdA p0).bind fun r10 =>
 some (!r10)
def Zem (degree0 : Int) (list1 : List (List Int)) : Option Bool :=
 (Zdl list1 (fun y0 => Zhk y0 degree0)).bind fun r7 =>
 some (!r7)
def ZcN (a0 : List (List Int)) (y20 : Int) : List Int × Int → Option ((List Int × Int) ⊕ ((Int) ⊕ (Bool)))
 | (column5, y25) =>
 bif decide (y25 < (a0.length : Int)) then
 (gIdx a0 y25).bind fun e31 =>
 (gIdx e31 y20).bind fun e34 =>
 (gApp 8 column5 [e34]).bind fun l37 =>
 some (.inl (l37, IntKind.i64.wrap (y25 + 1)))
 else
 (ZdA column5).bind fun r40 =>
 bif !r40 then
 some (.inr (.inr (false)))
 else
 some (.inr (.inl (IntKind.i64.wrap (y20 + 1))))
def Zfi (a0 : List (List Int)) : Int → Option ((Int) ⊕ (Bool))
 | y20 =>
 bif decide (y20 < (a0.length : Int)) then
 loop (ZcN a0 y20) (([] : List Int), 0)
 else
 some (.inr (true))
def ZhO (a0 : List (List Int)) : Option (Bool) :=
 loop (Zfi a0) (0)
def Zff (a0 : List (List Int)) : Option Bool :=
 (Z2 a0).bind fun r8 =>
 (ZL r8 1 10).bind fun r10 =>
 bif !r10 then
 some (false)
 else
 (Zem r8 a0).bind fun r15 =>
 bif !r15 then
 some (false)
 else
 ZhO a0
def Zbu (set0 : List Int) (n1 : Int) : Int × Int → Option ((Int × Int) ⊕ (Bool))
 | (last5, y10) =>
 bif decide (y10 < (set0.length : Int)) then
 (gIdx set0 y10).bind fun e12 =>
 bif decide (e12 ≤ last5) then
 some (.inr (false))
 else
 bif decide (e12 ≥ n1) then
 some (.inr (false))
 else
 some (.inl (e12, IntKind.i64.wrap (y10 + 1)))
 else
 (ZL n1 0 32).bind fun r25 =>
 some (.inr (r25))
def Zfp (set0 : List Int) (n1 : Int) : Option Bool :=
 loop (Zbu set0 n1) ((-1), 0)
def ZfA (block0 : List Int) (points1 : Int) : Option Bool :=
 bif decide (((block0.length : Int) : Int) > 0) then
 (Zfp block0 points1).bind fun r11 =>
 some (r11)
 else
 some (false)
def Zfm (b0 : List Int) (y1 : Int) : Option Bool :=
 (ZfA b0 y1).bind fun r6 =>
 some (!r6)
def ZgO (blocks0 : List (List Int)) (points1 : Int) : Option Bool :=
 (ZL points1 1 32).bind fun r6 =>
 bif r6 then
 (Zdl blocks0 (fun y0 => Zfm y0 points1)).bind fun r10 =>
 some (!r10)
 else
 some (false)
def Zcy (x0 : List (List Int)) (fn1 : (List Int) → (List Int) → Option Int) : Int → Option ((Int) ⊕ (Bool))
 | i5 =>
 bif decide (i5 > 0) then
 (gIdx x0 i5).bind fun e16 =>
 (gIdx x0 (IntKind.i64.wrap (i5 - 1))).bind fun e21 =>
 (fn1 e16 e21).bind fun r23 =>
 bif decide (r23 < 0) then
 some (.inr (false))
 else
 some (.inl (IntKind.i64.wrap (i5 - 1)))
 else
 some (.inr (true))
def ZeA (x0 : List (List Int)) (fn1 : (List Int) → (List Int) → Option Int) : Option Bool :=
 loop (Zcy x0 fn1) (IntKind.i64.wrap ((x0.length : Int) - 1))
def Zbz (x0 : Int) : Option Bool :=
 some (x0 != x0)
def ZaM (x0 y1 : Int) : Option Int :=
 (Zbz x0).bind fun r8 =>
 (Zbz y1).bind fun r10 =>
 bif r8 then
 bif r10 then
 some (0)
 else
 some ((-1))
 else
 bif r10 then
 some (1)
 else
 bif decide (x0 < y1) then
 some ((-1))
 else
 bif decide (x0 > y1) then
 some (1)
 else
 some (0)
def ZaV (s0 s1 : List Int) : Int → Option ((Int) ⊕ (Int))
 | y11 =>
 bif decide (y11 < (s0.length : Int)) then
 (gIdx s0 y11).bind fun e14 =>
 bif decide (y11 ≥ (s1.length : Int)) then
 some (.inr (1))
 else
 (gIdx s1 y11).bind fun e22 =>
 (ZaM e14 e22).bind fun r26 =>
 bif r26 != 0 then
 some (.inr (r26))
 else
 some (.inl (IntKind.i64.wrap (y11 + 1)))
 else
 bif decide (((s0.length : Int) : Int) < (s1.length : Int)) then
 some (.inr ((-1)))
 else
 some (.inr (0))
def Zag (s0 s1 : List Int) : Option Int :=
 loop (ZaV s0 s1) (0)
def Zf6 (d0 : Za4) : Option Bool :=
 (ZgO d0.Blocks d0.Points).bind fun r7 =>
 bif r7 then
 bif decide (((d0.Blocks.length : Int) : Int) ≤ 128) then
 (ZeA d0.Blocks (fun y0 y1 => Zag y0 y1)).bind fun r17 =>
 some (r17)
 else
 some (false)
 else
 some (false)
def Zd0 (lists0 : List (List Int)) : List (List Int) × Int → Option ((List (List Int) × Int) ⊕ (List (List Int)))
 | (out3, y8) =>
 bif decide (y8 < (lists0.length : Int)) then
 (gIdx lists0 y8).bind fun e10 =>
 (Zbf e10).bind fun r14 =>
 (gApp 24 out3 [r14]).bind fun l16 =>
 some (.inl (l16, IntKind.i64.wrap (y8 + 1)))
 else
 some (.inr (out3))
def Zbe (lists0 : List (List Int)) : Option (List (List Int)) :=
 loop (Zd0 lists0) (([] : List (List Int)), 0)
def ZhH (o0 : Zz) : Option Za4 :=
 (Zbe o0.Rows).bind fun r7 =>
 some ((Za4.mk o0.Size r7))
def Zcx (s0 : List Int) (fn1 : Int → Option Bool) : Int → Option ((Int) ⊕ (Int))
 | y8 =>
 bif decide (y8 < (s0.length : Int)) then
 (gIdx s0 y8).bind fun e14 =>
 (fn1 e14).bind fun r16 =>
 bif r16 then
 some (.inr (y8))
 else
 some (.inl (IntKind.i64.wrap (y8 + 1)))
 else
 some (.inr ((-1)))
def Zfu (s0 : List Int) (fn1 : Int → Option Bool) : Option Int :=
 loop (Zcx s0 fn1) (0)
def Zap (s0 : List Int) (fn1 : Int → Option Bool) : Option Bool :=
 (Zfu s0 fn1).bind fun r7 =>
 some (decide (r7 ≥ 0))
def Zf0 (x0 : Int) : Option Bool :=
 bif x0 != 1 then
 some (x0 != (-1))
 else
 some (false)
def Zcr (e17 : List Int) (y31 : Int) (e33 : List Int) : Int × Int → Option ((Int × Int) ⊕ ((Int) ⊕ ((Int) ⊕ (Bool))))
 | (sum8, y37) =>
 bif decide (y37 < (e17.length : Int)) then
 (gIdx e17 y37).bind fun e43 =>
 (gIdx e33 y37).bind fun e47 =>
 some (.inl (IntKind.i64.wrap (sum8 + (IntKind.i64.wrap (e43 * e47))), IntKind.i64.wrap (y37 + 1)))
 else
 bif sum8 != 0 then
 some (.inr (.inr (.inr (false))))
 else
 some (.inr (.inl (IntKind.i64.wrap (y31 + 1))))
def Zdu (y14 : Int) (e17 : List Int) (l29 : List (List Int)) : Int → Option ((Int) ⊕ ((Int) ⊕ (Bool)))
 | y31 =>
 bif decide (y31 < (l29.length : Int)) then
 (gIdx l29 y31).bind fun e33 =>
 loop (Zcr e17 y31 e33) (0, 0)
 else
 some (.inr (.inl (IntKind.i64.wrap (y14 + 1))))
def ZeT (h0 : List (List Int)) (y14 : Int) (e17 : List Int) : Option ((Int) ⊕ (Bool)) :=
 (gSl h0 0 y14).bind fun l29 =>
 loop (Zdu y14 e17 l29) (0)
def ZbM (h0 : List (List Int)) (r11 : Int) : Int → Option ((Int) ⊕ (Bool))
 | y14 =>
 bif decide (y14 < (h0.length : Int)) then
 (gIdx h0 y14).bind fun e17 =>
 (ZJ e17).bind fun r20 =>
 bif r20 != r11 then
 some (.inr (false))
 else
 (Zap e17 (fun y0 => Zf0 y0)).bind fun r25 =>
 bif r25 then
 some (.inr (false))
 else
 ZeT h0 y14 e17
 else
 (ZL r11 1 32).bind fun r57 =>
 some (.inr (r57))
def ZfI (h0 : List (List Int)) : Option Bool :=
 (Z2 h0).bind fun r11 =>
 loop (ZbM h0 r11) (0)
def ZhD (levels0 column1 : Int) : Option Bool :=
 (ZL levels0 2 16).bind fun r6 =>
 bif r6 then
 (ZL column1 1 8).bind fun r9 =>
 some (r9)
 else
 some (false)
def Zgl (x0 : Int) (y1 : Z4) : Option Bool :=
 (ZL x0 0 (IntKind.i64.wrap (y1.Levels - 1))).bind fun r8 =>
 some (!r8)
def Zd6 (a0 : Z4) : Int → Option ((Int) ⊕ (Bool))
 | y20 =>
 bif decide (y20 < (a0.Rows.length : Int)) then
 (gIdx a0.Rows y20).bind fun e22 =>
 (ZJ e22).bind fun r25 =>
 bif r25 != a0.Columns then
 some (.inr (false))
 else
 (Zap e22 (fun y0 => Zgl y0 (Z4.mk a0.Levels a0.Columns a0.Rows))).bind fun r32 =>
 bif r32 then
 some (.inr (false))
 else
 some (.inl (IntKind.i64.wrap (y20 + 1)))
 else
 some (.inr (true))
def Zhy (a0 : Z4) : Option (Bool) :=
 loop (Zd6 a0) (0)
def Zfl (a0 : Z4) : Option Bool :=
 (ZhD a0.Levels a0.Columns).bind fun r9 =>
 bif !r9 then
 some (false)
 else
 bif decide (((a0.Rows.length : Int) : Int) > 256) then
 some (false)
 else
 Zhy a0
def ZgE (o0 : Zz) : Option Z4 :=
 (Zbe o0.Rows).bind fun r8 =>
 bif decide (((o0.Rows.length : Int) : Int) > 0) then
 (gIdx o0.Rows 0).bind fun e16 =>
 (ZJ e16).bind fun r18 =>
 some ((Z4.mk o0.Size r18 r8))
 else
 some ((Z4.mk o0.Size 0 r8))
def Zdy (base0 e1_2 power7 : Int) : Option ((Int × Int) ⊕ (Int)) :=
 some (.inl (IntKind.i64.wrap (e1_2 - 1), IntKind.i64.wrap (power7 * base0)))
def ZaK (base0 limit2 : Int) : Int × Int → Option ((Int × Int) ⊕ (Int))
 | (e1_2, power7) =>
 bif decide (e1_2 > 0) then
 bif decide (power7 ≤ limit2) then
 Zdy base0 e1_2 power7
 else
 some (.inr (power7))
 else
 some (.inr (power7))
def Zbt (base0 e1 limit2 : Int) : Option Int :=
 loop (ZaK base0 limit2) (e1, 1)
def Zbl (f0 : Zc) : Option Int :=
 (Zbt f0.Prime f0.Degree 64).bind fun r7 =>
 some (r7)
def ZbE (base1 : Int) (l10 : List Int) : Int × Int × List Int → Option ((Int × Int × List Int) ⊕ (List Int))
 | (n0_2, y13, xs) =>
 bif decide (y13 < (l10.length : Int)) then
 (gNz base1).bind fun _ =>
 (gIdx xs y13).bind fun e21 =>
 (gNz base1).bind fun _ =>
 some (.inl (IntKind.i64.wrap (Int.tdiv n0_2 base1), IntKind.i64.wrap (y13 + 1), (xs.set y13.toNat (Int.tmod n0_2 base1))))
 else
 some (.inr (xs))
def Zau (n0 base1 count2 : Int) : Option (List Int) :=
 (gMake 8 (0 : Int) count2 count2).bind fun l10 =>
 loop (ZbE base1 l10) (n0, 0, l10)
def Zc1 (y1 : List Int) (y2 y9 e29 : Int) : Int × List Int → Option ((Int × List Int) ⊕ ((Int × List Int) ⊕ (List Int)))
 | (y33, xs_2) =>
 bif decide (y33 < (y1.length : Int)) then
 (gIdx y1 y33).bind fun e36 =>
 (gIdx xs_2 (IntKind.i64.wrap ((IntKind.i64.wrap (y9 - (IntKind.i64.wrap ((y1.length : Int) - 1)))) + y33))).bind fun e47 =>
 (gNz y2).bind fun _ =>
 (gNz y2).bind fun _ =>
 (gIdx xs_2 (IntKind.i64.wrap ((IntKind.i64.wrap (y9 - (IntKind.i64.wrap ((y1.length : Int) - 1)))) + y33))).bind fun e59 =>
 some (.inl (IntKind.i64.wrap (y33 + 1), (xs_2.set (IntKind.i64.wrap ((IntKind.i64.wrap (y9 - (IntKind.i64.wrap ((y1.length : Int) - 1)))) + y33) : Int).toNat (Int.tmod (IntKind.i64.wrap ((Int.tmod (IntKind.i64.wrap (e47 - (IntKind.i64.wrap (e29 * e36)))) y2) + y2)) y2))))
 else
 some (.inr (.inl (IntKind.i64.wrap (y9 - 1), xs_2)))
def ZaR (y1 : List Int) (y2 : Int) : Int × List Int → Option ((Int × List Int) ⊕ (List Int))
 | (y9, xs) =>
 bif decide (y9 ≥ (IntKind.i64.wrap ((y1.length : Int) - 1))) then
 (gIdx xs y9).bind fun e29 =>
 loop (Zc1 y1 y2 y9 e29) (0, xs)
 else
 (gSl xs 0 (if ((xs.length : Int) : Int) < (IntKind.i64.wrap ((y1.length : Int) - 1)) then (xs.length : Int) else IntKind.i64.wrap ((y1.length : Int) - 1))).bind fun l66 =>
 some (.inr (l66))
def Zb9 (y0 y1 : List Int) (y2 : Int) : Option (List Int) :=
 (Zbf y0).bind fun r15 =>
 loop (ZaR y1 y2) (IntKind.i64.wrap ((r15.length : Int) - 1), r15)
def ZeD (x0 : Int) : Option Bool :=
 some (x0 != 0)
def ZfU (list0 : List Int) : Option Bool :=
 (Zap list0 (fun y0 => ZeD y0)).bind fun r4 =>
 some (!r4)
def ZhV (poly0 : List Int) (p1 d6 : Int) : Int → Option ((Int) ⊕ ((Int) ⊕ (Bool)))
 | n7 =>
 (Zbt p1 d6 64).bind fun r20 =>
 bif decide (n7 < r20) then
 (Zau n7 p1 d6).bind fun r28 =>
 (gApp 8 r28 [1]).bind fun l30 =>
 (Zb9 poly0 l30 p1).bind fun r32 =>
 (ZfU r32).bind fun r33 =>
 bif r33 then
 some (.inr (.inr (false)))
 else
 some (.inl (IntKind.i64.wrap (n7 + 1)))
 else
 some (.inr (.inl (IntKind.i64.wrap (d6 + 1))))
def ZgA (poly0 : List Int) (p1 r9 : Int) : Int → Option ((Int) ⊕ (Bool))
 | d6 =>
 bif decide ((IntKind.i64.wrap (2 * d6) : Int) ≤ (IntKind.i64.wrap (r9 - 1))) then
 loop (ZhV poly0 p1 d6) (0)
 else
 some (.inr (true))
def ZdC (poly0 : List Int) (p1 : Int) : Option Bool :=
 (ZJ poly0).bind fun r9 =>
 loop (ZgA poly0 p1 r9) (1)
def ZbW (p4 : Int) : Int × List Int → Option ((Int × List Int) ⊕ ((Int × List Int × Int) ⊕ (List Int)))
 | (n0_3, factor3_2) =>
 (gNz p4).bind fun _ =>
 bif (Int.tmod n0_3 p4 : Int) == 0 then
 (gApp 8 factor3_2 [p4]).bind fun l22 =>
 (gNz p4).bind fun _ =>
 some (.inl (IntKind.i64.wrap (Int.tdiv n0_3 p4), l22))
 else
 some (.inr (.inl (n0_3, factor3_2, IntKind.i64.wrap (p4 + 1))))
def ZaF : Int × List Int × Int → Option ((Int × List Int × Int) ⊕ (List Int))
 | (n0_2, factor3, p4) =>
 bif decide ((IntKind.i64.wrap (p4 * p4) : Int) ≤ n0_2) then
 loop (ZbW p4) (n0_2, factor3)
 else
 bif decide (n0_2 > 1) then
 (gApp 8 factor3 [n0_2]).bind fun l31 =>
 some (.inr (l31))
 else
 some (.inr (factor3))
def ZbB (n0 : Int) : Option (List Int) :=
 (ZL n0 1 1000000).bind fun r6 =>
 bif !r6 then
 some (([] : List Int))
 else
 loop (ZaF) (n0, ([] : List Int), 2)
def ZeM (n0 : Int) : Option Bool :=
 (ZbB n0).bind fun r4 =>
 some (((r4.length : Int) : Int) == 1)
def ZgP (f0 : Zc) : Int → Option ((Int) ⊕ (Bool))
 | y41 =>
 bif decide (y41 < (f0.Poly.length : Int)) then
 (gIdx f0.Poly y41).bind fun e43 =>
 (ZL e43 0 (IntKind.i64.wrap (f0.Prime - 1))).bind fun r49 =>
 bif !r49 then
 some (.inr (false))
 else
 some (.inl (IntKind.i64.wrap (y41 + 1)))
 else
 (ZdC f0.Poly f0.Prime).bind fun r56 =>
 some (.inr (r56))
def Zfe (f0 : Zc) : Option (Bool) :=
 loop (ZgP f0) (0)
def Zgr (f0 : Zc) : Option (Bool) :=
 (ZJ f0.Poly).bind fun r24 =>
 bif r24 != (IntKind.i64.wrap (f0.Degree + 1)) then
 some (false)
 else
 (gIdx f0.Poly f0.Degree).bind fun e34 =>
 bif e34 != 1 then
 some (false)
 else
 Zfe f0
def Zdx (f0 : Zc) : Option Bool :=
 (ZeM f0.Prime).bind fun r7 =>
 bif !r7 then
 some (false)
 else
 bif decide (f0.Degree < 1) then
 some (false)
 else
 (Zbt f0.Prime f0.Degree 64).bind fun r19 =>
 bif decide (r19 > 64) then
 some (false)
 else
 Zgr f0
def ZcG (x0 y1 : Int) : Option Bool :=
 (ZL x0 0 (IntKind.i64.wrap (y1 - 1))).bind fun r7 =>
 some (!r7)
def Zht (q0 : Int) (list1 : List Int) : Option Bool :=
 (Zap list1 (fun y0 => ZcG y0 q0)).bind fun r7 =>
 some (!r7)
def Zdk (row0 : List Int) (y1 : List (List Int)) (y2 : Int) : Option Bool :=
 (gIdx y1 0).bind fun e8 =>
 bif ((row0.length : Int) : Int) != (e8.length : Int) then
 some (true)
 else
 (Zht y2 row0).bind fun r15 =>
 some (!r15)
def Zg0 (f0 : Zc) (m1 : List (List Int)) : Option (Bool) :=
 (Zbl (Zc.mk f0.Prime f0.Degree f0.Poly)).bind fun r24 =>
 (Zdl m1 (fun y0 => Zdk y0 m1 r24)).bind fun r27 =>
 some (!r27)
def Ze9 (f0 : Zc) (m1 : List (List Int)) : Option Bool :=
 (Zdx (Zc.mk f0.Prime f0.Degree f0.Poly)).bind fun r7 =>
 bif !r7 then
 some (false)
 else
 (Z2 m1).bind fun r11 =>
 (ZL r11 1 32).bind fun r12 =>
 bif !r12 then
 some (false)
 else
 (gIdx m1 0).bind fun e17 =>
 (ZJ e17).bind fun r19 =>
 (ZL r19 1 32).bind fun r20 =>
 bif !r20 then
 some (false)
 else
 Zg0 f0 m1
def ZnN (digits0 : List Int) (base1 : Int) : Int × Int → Option ((Int × Int) ⊕ (Int))
 | (n5, k6) =>
 bif decide (k6 ≥ 0) then
 (gIdx digits0 k6).bind fun e19 =>
 some (.inl (IntKind.i64.wrap ((IntKind.i64.wrap (n5 * base1)) + e19), IntKind.i64.wrap (k6 - 1)))
 else
 some (.inr (n5))
def Zgo (digits0 : List Int) (base1 : Int) : Option Int :=
 loop (ZnN digits0 base1) (0, IntKind.i64.wrap ((digits0.length : Int) - 1))
def ZdR (f0 : Zc) (sign3 : Int) (r17 r23 : List Int) : Int × List Int → Option ((Int × List Int) ⊕ (Int))
 | (y26, xs) =>
 bif decide (y26 < (r17.length : Int)) then
 (gIdx xs y26).bind fun e33 =>
 (gIdx r23 y26).bind fun e38 =>
 (gNz f0.Prime).bind fun _ =>
 (gIdx xs y26).bind fun e48 =>
 some (.inl (IntKind.i64.wrap (y26 + 1), (xs.set y26.toNat (Int.tmod (IntKind.i64.wrap ((IntKind.i64.wrap (e33 + (IntKind.i64.wrap (sign3 * e38)))) + f0.Prime)) f0.Prime))))
 else
 (Zgo xs f0.Prime).bind fun r53 =>
 some (.inr (r53))
def Zc7 (f0 : Zc) (a1 b2 sign3 : Int) : Option Int :=
 (Zau a1 f0.Prime f0.Degree).bind fun r17 =>
 (Zau b2 f0.Prime f0.Degree).bind fun r23 =>
 loop (ZdR f0 sign3 r17 r23) (0, r17)
def ZeK (y0 : Zc) (r17 r23 : List Int) (y30 : Int) : Int × List Int → Option ((Int × List Int) ⊕ ((Int × List Int) ⊕ (Int)))
 | (y35, xs_2) =>
 bif decide (y35 < (r23.length : Int)) then
 (gIdx xs_2 (IntKind.i64.wrap (y30 + y35))).bind fun e46 =>
 (gIdx r17 y30).bind fun e50 =>
 (gIdx r23 y35).bind fun e54 =>
 (gNz y0.Prime).bind fun _ =>
 (gIdx xs_2 (IntKind.i64.wrap (y30 + y35))).bind fun e61 =>
 some (.inl (IntKind.i64.wrap (y35 + 1), (xs_2.set (IntKind.i64.wrap (y30 + y35) : Int).toNat (Int.tmod (IntKind.i64.wrap (e46 + (IntKind.i64.wrap (e50 * e54)))) y0.Prime))))
 else
 some (.inr (.inl (IntKind.i64.wrap (y30 + 1), xs_2)))
def ZbT (y0 : Zc) (r17 r23 : List Int) : Int × List Int → Option ((Int × List Int) ⊕ (Int))
 | (y30, xs) =>
 bif decide (y30 < (r17.length : Int)) then
 loop (ZeK y0 r17 r23 y30) (0, xs)
 else
 (Zb9 xs y0.Poly y0.Prime).bind fun r69 =>
 (Zgo r69 y0.Prime).bind fun r72 =>
 some (.inr (r72))
def Zfc (y0 : Zc) (y1 y2 : Int) : Option Int :=
 (Zau y1 y0.Prime y0.Degree).bind fun r17 =>
 (Zau y2 y0.Prime y0.Degree).bind fun r23 =>
 (gMake 8 (0 : Int) (IntKind.i64.wrap (2 * y0.Degree)) (IntKind.i64.wrap (2 * y0.Degree))).bind fun l27 =>
 loop (ZbT y0 r17 r23) (0, l27)
def ZbU (y0 : Zc) (r10 y4 : Int) (xs xs_2 xs_3 : List (List Int)) : Int × List Int × List Int × List Int × List Int → Option ((Int × List Int × List Int × List Int × List Int) ⊕ ((Int × List (List Int) × List (List Int) × List (List Int) × List Int) ⊕ (Zaf)))
 | (y8, xs_5, xs_6, xs_7, xs_8) =>
 bif decide (y8 < r10) then
 (Zc7 (Zc.mk y0.Prime y0.Degree y0.Poly) y4 y8 1).bind fun r46 =>
 (Zc7 (Zc.mk y0.Prime y0.Degree y0.Poly) y4 y8 (-1)).bind fun r50 =>
 (Zfc (Zc.mk y0.Prime y0.Degree y0.Poly) y4 y8).bind fun r54 =>
 (gIdx xs_6 y8).bind fun e55 =>
 (gIdx xs_7 y8).bind fun e56 =>
 (gIdx xs_8 y8).bind fun e57 =>
 (gIdx (xs_8.set y8.toNat r54) y8).bind fun e60 =>
 bif e60 == 1 then
 (gIdx xs_5 y4).bind fun e67 =>
 some (.inl (IntKind.i64.wrap (y8 + 1), (xs_5.set y4.toNat y8), (xs_6.set y8.toNat r46), (xs_7.set y8.toNat r50), (xs_8.set y8.toNat r54)))
 else
 some (.inl (IntKind.i64.wrap (y8 + 1), xs_5, (xs_6.set y8.toNat r46), (xs_7.set y8.toNat r50), (xs_8.set y8.toNat r54)))
 else
 (gApp 24 xs [xs_6]).bind fun l72 =>
 (gApp 24 xs_2 [xs_7]).bind fun l77 =>
 (gApp 24 xs_3 [xs_8]).bind fun l82 =>
 some (.inr (.inl (IntKind.i64.wrap (y4 + 1), l72, l77, l82, xs_5)))
def Zdg (y0 : Zc) (r10 : Int) : Int × List (List Int) × List (List Int) × List (List Int) × List Int → Option ((Int × List (List Int) × List (List Int) × List (List Int) × List Int) ⊕ (Zaf))
 | (y4, xs, xs_2, xs_3, xs_4) =>
 bif decide (y4 < r10) then
 (gMake 8 (0 : Int) r10 r10).bind fun l24 =>
 (gMake 8 (0 : Int) r10 r10).bind fun l27 =>
 (gMake 8 (0 : Int) r10 r10).bind fun l30 =>
 loop (ZbU y0 r10 y4 xs xs_2 xs_3) (0, xs_4, l24, l27, l30)
 else
 some (.inr ((Zaf.mk r10 xs xs_2 xs_3 xs_4)))
def ZeI (y0 : Zc) : Option Zaf :=
 (Zbl (Zc.mk y0.Prime y0.Degree y0.Poly)).bind fun r10 =>
 (gMake 8 (0 : Int) r10 r10).bind fun l14 =>
 loop (Zdg y0 r10) (0, ([] : List (List Int)), ([] : List (List Int)), ([] : List (List Int)), l14)
def ZcM (row0 : List Int) (y1 : Int) : Option Bool :=
 (gIdx row0 y1).bind fun e6 =>
 some (e6 != 0)
def Zee (t0 : Zaf) (row2 : List Int) (factor3 : Int) : Int × List Int → Option ((Int × List Int) ⊕ (List Int))
 | (y12, xs) =>
 bif decide (y12 < (row2.length : Int)) then
 (gIdx row2 y12).bind fun e15 =>
 (gIdx xs y12).bind fun e23 =>
 (gIdx t0.qadd e23).bind fun e25 =>
 (gIdx t0.qmul factor3).bind fun e30 =>
 (gIdx e30 e15).bind fun e33 =>
 (gIdx e25 e33).bind fun e35 =>
 (gIdx xs y12).bind fun e37 =>
 some (.inl (IntKind.i64.wrap (y12 + 1), (xs.set y12.toNat e35)))
 else
 some (.inr (xs))
def Zfy (t0 : Zaf) (to1 row2 : List Int) (factor3 : Int) : Option (List Int) :=
 loop (Zee t0 row2 factor3) (0, to1)
def Zc5 (y8 : List Int) (y9 : Int) (xs : List (List Int)) : Option ((List (List Int)) × (List Int) × Int) :=
 (gSl xs 0 (y8.length : Int)).bind fun l161 =>
 some ((l161, y8, y9))
def Zdq (y10 : Int) (y8_3 : List Int) (y9_3 : Int) (xs_3 : List (List Int)) : Option ((List Int × Int × Int × List (List Int)) ⊕ ((List (List Int)) × (List Int) × Int)) :=
 some (.inl (y8_3, y9_3, IntKind.i64.wrap (y10 + 1), xs_3))
def Zcl (y0 : Zaf) (y8_2 : List Int) (y10 y115 : Int) (xs_6 : List (List Int)) (e118 : List Int) (y129 : Bool) : Option ((Int × List (List Int)) ⊕ ((Int × List (List Int)) ⊕ ((List Int × Int × Int × List (List Int)) ⊕ ((List (List Int)) × (List Int) × Int)))) :=
 bif y129 then
 (gIdx xs_6 (y8_2.length : Int)).bind fun e134 =>
 (gIdx y0.qsub 0).bind fun e138 =>
 (gIdx e118 y10).bind fun e142 =>
 (gIdx e138 e142).bind fun e144 =>
 (gNe y115 (y8_2.length : Int)).bind fun ne146 =>
 (Zfy (Zaf.mk y0.qq y0.qadd y0.qsub y0.qmul y0.qinv) e118 e134 e144).bind fun r146 =>
 some (.inl (IntKind.i64.wrap (y115 + 1), (xs_6.set y115.toNat r146)))
 else
 some (.inl (IntKind.i64.wrap (y115 + 1), xs_6))
def ZaX (y0 : Zaf) (y8_2 : List Int) (y10 e82 : Int) (xs_5 : List (List Int)) : Int × List (List Int) → Option ((Int × List (List Int)) ⊕ ((Int × List (List Int)) ⊕ ((List Int × Int × Int × List (List Int)) ⊕ ((List (List Int)) × (List Int) × Int))))
 | (y115, xs_6) =>
 bif decide (y115 < (xs_5.length : Int)) then
 (gIdx xs_6 y115).bind fun e118 =>
 bif y115 != (y8_2.length : Int) then
 (gIdx e118 y10).bind fun e126 =>
 Zcl y0 y8_2 y10 y115 xs_6 e118 (e126 != 0)
 else
 Zcl y0 y8_2 y10 y115 xs_6 e118 false
 else
 (gApp 8 y8_2 [y10]).bind fun l151 =>
 bif ((l151.length : Int) : Int) == (xs_6.length : Int) then
 (Zc5 l151 e82 xs_6).map fun x => .inr (.inr (.inr (x)))
 else
 (Zdq y10 l151 e82 xs_6).map fun x => .inr (.inr (x))
def Zep (y0 : Zaf) (y8_2 : List Int) (y10 e74 e82 : Int) (e86 : List Int) : Int × List (List Int) → Option ((Int × List (List Int)) ⊕ ((List Int × Int × Int × List (List Int)) ⊕ ((List (List Int)) × (List Int) × Int)))
 | (y89, xs_5) =>
 bif decide (y89 < (e86.length : Int)) then
 (gIdx xs_5 (y8_2.length : Int)).bind fun e =>
 (gIdx e y89).bind fun e92 =>
 (gIdx xs_5 (y8_2.length : Int)).bind fun e96 =>
 (gIdx y0.qinv e74).bind fun e104 =>
 (gIdx y0.qmul e104).bind fun e106 =>
 (gIdx e106 e92).bind fun e109 =>
 (gIdx e96 y89).bind fun e111 =>
 some (.inl (IntKind.i64.wrap (y89 + 1), (xs_5.set ((y8_2.length : Int) : Int).toNat (e96.set y89.toNat e109))))
 else
 loop (ZaX y0 y8_2 y10 e82 xs_5) (0, xs_5)
def ZdW (y0 : Zaf) (y8_2 : List Int) (y10 y9_4 : Int) (xs_4 : List (List Int)) : Option ((List Int × Int × Int × List (List Int)) ⊕ ((List (List Int)) × (List Int) × Int)) :=
 (gIdx xs_4 (y8_2.length : Int)).bind fun e71 =>
 (gIdx e71 y10).bind fun e74 =>
 (gIdx y0.qmul y9_4).bind fun e79 =>
 (gIdx e79 e74).bind fun e82 =>
 (gIdx xs_4 (y8_2.length : Int)).bind fun e86 =>
 loop (Zep y0 y8_2 y10 e74 e82 e86) (0, xs_4)
def Zd1 (y0 : Zaf) (y8_2 : List Int) (y9_2 y10 : Int) (xs_2 : List (List Int)) : Option ((List Int × Int × Int × List (List Int)) ⊕ ((List (List Int)) × (List Int) × Int)) :=
 (gSl xs_2 (y8_2.length : Int) (xs_2.length : Int)).bind fun l37 =>
 (Zdv l37 (fun y0 => ZcM y0 y10)).bind fun r39 =>
 bif decide (r39 < 0) then
 Zdq y10 y8_2 0 xs_2
 else
 bif decide (r39 > 0) then
 (gIdx xs_2 (IntKind.i64.wrap ((y8_2.length : Int) + r39))).bind fun e54 =>
 (gIdx xs_2 (y8_2.length : Int)).bind fun e58 =>
 (gIdx xs_2 (y8_2.length : Int)).bind fun e60 =>
 (gIdx (xs_2.set ((y8_2.length : Int) : Int).toNat e54) (IntKind.i64.wrap ((y8_2.length : Int) + r39))).bind fun e61 =>
 (gIdx y0.qsub 0).bind fun e64 =>
 (gIdx e64 y9_2).bind fun e67 =>
 ZdW y0 y8_2 y10 e67 ((xs_2.set ((y8_2.length : Int) : Int).toNat e54).set (IntKind.i64.wrap ((y8_2.length : Int) + r39) : Int).toNat e58)
 else
 ZdW y0 y8_2 y10 y9_2 xs_2
def Za5 (y0 : Zaf) : List Int × Int × Int × List (List Int) → Option ((List Int × Int × Int × List (List Int)) ⊕ ((List (List Int)) × (List Int) × Int))
 | (y8_2, y9_2, y10, xs_2) =>
 bif decide (((xs_2.length : Int) : Int) > 0) then
 (gIdx xs_2 0).bind fun e26 =>
 bif decide (y10 < (e26.length : Int)) then
 Zd1 y0 y8_2 y9_2 y10 xs_2
 else
 (Zc5 y8_2 y9_2 xs_2).map fun x => .inr (x)
 else
 (Zc5 y8_2 y9_2 xs_2).map fun x => .inr (x)
def Zgs (y0 : Zaf) (y1 : List (List Int)) : Option ((List (List Int)) × (List Int) × Int) :=
 (Zbe y1).bind fun r19 =>
 loop (Za5 y0) (([] : List Int), 1, 0, r19)
def Zfd (s0 s1 : List (List Int)) (fn2 : (List Int) → (List Int) → Option Bool) : Int → Option ((Int) ⊕ (Bool))
 | y17 =>
 bif decide (y17 < (s0.length : Int)) then
 (gIdx s0 y17).bind fun e20 =>
 (gIdx s1 y17).bind fun e24 =>
 (fn2 e20 e24).bind fun r29 =>
 bif !r29 then
 some (.inr (false))
 else
 some (.inl (IntKind.i64.wrap (y17 + 1)))
 else
 some (.inr (true))
def Zhb (s0 s1 : List (List Int)) (fn2 : (List Int) → (List Int) → Option Bool) : Option Bool :=
 bif ((s0.length : Int) : Int) != (s1.length : Int) then
 some (false)
 else
 loop (Zfd s0 s1 fn2) (0)
def Zga (s0 s1 : List Int) : Int → Option ((Int) ⊕ (Bool))
 | y13 =>
 bif decide (y13 < (s0.length : Int)) then
 (gIdx s0 y13).bind fun e18 =>
 (gIdx s1 y13).bind fun e22 =>
 bif e18 != e22 then
 some (.inr (false))
 else
 some (.inl (IntKind.i64.wrap (y13 + 1)))
 else
 some (.inr (true))
def Zgq (s0 s1 : List Int) : Option Bool :=
 bif ((s0.length : Int) : Int) != (s1.length : Int) then
 some (false)
 else
 loop (Zga s0 s1) (0)
def Zgy (a0 b1 : List (List Int)) : Option Bool :=
 (Zhb a0 b1 (fun y0 y1 => Zgq y0 y1)).bind fun r7 =>
 some (r7)
def ZhY (c0 : ZaL) : Option (Bool) :=
 (ZeI (Zc.mk c0.Field.Prime c0.Field.Degree c0.Field.Poly)).bind fun r31 =>
 (Zgs r31 c0.Rows).bind fun r34 =>
 (Zgy r34.1 c0.Rows).bind fun r41 =>
 some (r41)
def Zeb (c0 : ZaL) : Option Bool :=
 (Ze9 (Zc.mk c0.Field.Prime c0.Field.Degree c0.Field.Poly) c0.Rows).bind fun r10 =>
 bif !r10 then
 some (false)
 else
 bif decide (((c0.Rows.length : Int) : Int) > 8) then
 some (false)
 else
 (Zbl (Zc.mk c0.Field.Prime c0.Field.Degree c0.Field.Poly)).bind fun r21 =>
 (Z2 c0.Rows).bind fun r24 =>
 (Zbt r21 r24 4096).bind fun r25 =>
 bif decide (r25 > 4096) then
 some (false)
 else
 ZhY c0
def Za0 (r8 : List Int) : Int → Option ((Int) ⊕ (Int × Int))
 | y11 =>
 bif decide (y11 < (r8.length : Int)) then
 (gIdx r8 y11).bind fun e13 =>
 (gIdx r8 0).bind fun e17 =>
 bif e13 != e17 then
 some (.inr ((0, 0)))
 else
 some (.inl (IntKind.i64.wrap (y11 + 1)))
 else
 bif ((r8.length : Int) : Int) == 0 then
 some (.inr ((0, 0)))
 else
 (ZJ r8).bind fun r28 =>
 (gIdx r8 0).bind fun e25 =>
 some (.inr ((e25, r28)))
def Zbn (n0 : Int) : Option (Int × Int) :=
 (ZbB n0).bind fun r8 =>
 loop (Za0 r8) (0)
def ZgV (r9 : Int × Int) : Int → Option ((Int) ⊕ (Zc × Int))
 | n6 =>
 (Zau n6 r9.1 r9.2).bind fun r22 =>
 (gApp 8 r22 [1]).bind fun l24 =>
 (ZdC l24 r9.1).bind fun r26 =>
 bif !r26 then
 some (.inl (IntKind.i64.wrap (n6 + 1)))
 else
 (Zau n6 r9.1 r9.2).bind fun r35 =>
 (gApp 8 r35 [1]).bind fun l37 =>
 some (.inr (((Zc.mk r9.1 r9.2 l37), 0)))
def ZeL (r9 : Int × Int) : Option (Zc × Int) :=
 loop (ZgV r9) (0)
def Za7 (q0 : Int) : Option (Zc × Int) :=
 (Zbn q0).bind fun r9 =>
 bif r9.1 == 0 then
 some (((Zc.mk 0 0 ([] : List Int)), 2))
 else
 bif decide (q0 > 64) then
 some (((Zc.mk 0 0 ([] : List Int)), 2))
 else
 ZeL r9
def Zft (o0 : Zz) : Option ZaL :=
 (Za7 o0.Size).bind fun r8 =>
 (Zbe o0.Rows).bind fun r14 =>
 some ((ZaL.mk (Zc.mk r8.1.Prime r8.1.Degree r8.1.Poly) r14))
def Zcq (vals0 : List Int) : Int → Option ((Int) ⊕ (Int))
 | y8 =>
 bif decide (y8 < (vals0.length : Int)) then
 (gIdx vals0 y8).bind fun e10 =>
 bif e10 != 0 then
 some (.inr (e10))
 else
 some (.inl (IntKind.i64.wrap (y8 + 1)))
 else
 some (.inr (0))
def Zgv (vals0 : List Int) : Option Int :=
 loop (Zcq vals0) (0)
def Zez (a0 b1 : ZH) : Option Int :=
 (ZaM a0.A b1.A).bind fun r9 =>
 (ZaM a0.B b1.B).bind fun r14 =>
 (Zgv ([r9, r14] : List Int)).bind fun r16 =>
 some (r16)
def ZgU (n0 : Int) : Option Bool :=
 (ZL n0 0 63).bind fun r4 =>
 some (r4)
def Zhr (n0 : Int) : Option Bool :=
 (ZgU n0).bind fun r4 =>
 some (!r4)
def ZeP (colors0 : List Int) : Option Bool :=
 bif decide (((colors0.length : Int) : Int) ≤ 64) then
 (Zap colors0 (fun y0 => Zhr y0)).bind fun r8 =>
 some (!r8)
 else
 some (false)
def ZaT (g0 : ZY) : Int → Option ((Int) ⊕ (Bool))
 | y8 =>
 bif decide (y8 < (g0.Edges.length : Int)) then
 (gIdx g0.Edges y8).bind fun e11 =>
 bif decide (e11.A < 0) then
 some (.inr (false))
 else
 bif decide (e11.A ≥ e11.B) then
 some (.inr (false))
 else
 (ZJ g0.Colors).bind fun r28 =>
 bif decide (e11.B ≥ r28) then
 some (.inr (false))
 else
 bif decide (y8 > 0) then
 (gIdx g0.Edges (IntKind.i64.wrap (y8 - 1))).bind fun e39 =>
 (Zez e39 (ZH.mk e11.A e11.B)).bind fun r42 =>
 bif decide (r42 ≥ 0) then
 some (.inr (false))
 else
 some (.inl (IntKind.i64.wrap (y8 + 1)))
 else
 some (.inl (IntKind.i64.wrap (y8 + 1)))
 else
 (ZeP g0.Colors).bind fun r49 =>
 bif r49 then
 some (.inr (decide (((g0.Edges.length : Int) : Int) ≤ 512)))
 else
 some (.inr (false))
def Zge (g0 : ZY) : Option Bool :=
 loop (ZaT g0) (0)
def Zby (o0 : Zz) (l14 : List Int) : Int × List ZH → Option ((Int × List ZH) ⊕ (ZY × Bool))
 | (y19, xs) =>
 bif decide (y19 < (o0.Rows.length : Int)) then
 (gIdx o0.Rows y19).bind fun e21 =>
 bif ((e21.length : Int) : Int) != 2 then
 some (.inr (((ZY.mk ([] : List Int) ([] : List ZH)), false)))
 else
 (gIdx e21 0).bind fun e30 =>
 (gIdx e21 1).bind fun e33 =>
 (gApp 16 xs [(ZH.mk e30 e33)]).bind fun l37 =>
 some (.inl (IntKind.i64.wrap (y19 + 1), l37))
 else
 (Zge (ZY.mk l14 xs)).bind fun r42 =>
 some (.inr (((ZY.mk l14 xs), r42)))
def Ze0 (o0 : Zz) : Option (ZY × Bool) :=
 (ZL o0.Size 0 64).bind fun r9 =>
 bif !r9 then
 some (((ZY.mk ([] : List Int) ([] : List ZH)), false))
 else
 (gMake 8 (0 : Int) o0.Size o0.Size).bind fun l14 =>
 loop (Zby o0 l14) (0, ([] : List ZH))
def ZdE (l6 : List Int) : Int × List Int → Option ((Int × List Int) ⊕ (List Int))
 | (y9, xs) =>
 bif decide (y9 < (l6.length : Int)) then
 (gIdx xs y9).bind fun e15 =>
 some (.inl (IntKind.i64.wrap (y9 + 1), (xs.set y9.toNat y9)))
 else
 some (.inr (xs))
def Ze8 (n0 : Int) : Option (List Int) :=
 (gMake 8 (0 : Int) n0 n0).bind fun l6 =>
 loop (ZdE l6) (0, l6)
def ZdD (p0 : List Int) : Int × List Int → Option ((Int × List Int) ⊕ (ByteArray))
 | (y11, xs) =>
 bif decide (y11 < (p0.length : Int)) then
 (gIdx p0 y11).bind fun e14 =>
 (gIdx xs y11).bind fun e20 =>
 some (.inl (IntKind.i64.wrap (y11 + 1), (xs.set y11.toNat (IntKind.u8.wrap e14))))
 else
 (gByt xs).bind fun s23 =>
 some (.inr (s23))
def Zdt (p0 : List Int) : Option ByteArray :=
 (gMake 1 (0 : Int) (p0.length : Int) (p0.length : Int)).bind fun l8 =>
 loop (ZdD p0) (0, l8)
def Zdw (p0 q1 l9 : List Int) : Int × List Int → Option ((Int × List Int) ⊕ (List Int))
 | (y12, xs) =>
 bif decide (y12 < (l9.length : Int)) then
 (gIdx p0 y12).bind fun e20 =>
 (gIdx q1 e20).bind fun e22 =>
 (gIdx xs y12).bind fun e24 =>
 some (.inl (IntKind.i64.wrap (y12 + 1), (xs.set y12.toNat e22)))
 else
 some (.inr (xs))
def ZeY (p0 q1 : List Int) : Option (List Int) :=
 (gMake 8 (0 : Int) (p0.length : Int) (p0.length : Int)).bind fun l9 =>
 loop (Zdw p0 q1 l9) (0, l9)
open Classical in
def Zfs (x0 : List (List Int)) (fn1 : (List Int) → (List Int) → Option Int) : Option (List (List Int)) := if (∀ a ∈ x0, ∀ c ∈ x0, fn1 a c = some (lexC a c)) ∧ x0.length < 4611686018427387904 then some (sortRows x0) else none
def Zbb (genera1 : List (List Int)) (k8 : Int) : List (List Int) × Int × List (ByteArray × Bool) → Option ((List (List Int) × Int × List (ByteArray × Bool)) ⊕ ((List (List Int) × Int × List (ByteArray × Bool)) ⊕ ((List (List Int)) × Bool)))
 | (elemen6_2, y30, mp_2) =>
 bif decide (y30 < (genera1.length : Int)) then
 (gIdx genera1 y30).bind fun e32 =>
 (gIdx elemen6_2 k8).bind fun e36 =>
 (ZeY e36 e32).bind fun r39 =>
 (Zdt r39).bind fun r41 =>
 bif !(mpGet mp_2 r41 false) then
 (gApp 24 elemen6_2 [r39]).bind fun l51 =>
 some (.inl (l51, IntKind.i64.wrap (y30 + 1), (mpSet mp_2 r41 true)))
 else
 some (.inl (elemen6_2, IntKind.i64.wrap (y30 + 1), mp_2))
 else
 bif decide (((elemen6_2.length : Int) : Int) > 720) then
 some (.inr (.inr ((([] : List (List Int)), false))))
 else
 some (.inr (.inl (elemen6_2, IntKind.i64.wrap (k8 + 1), mp_2)))
def Zbm (genera1 : List (List Int)) : List (List Int) × Int × List (ByteArray × Bool) → Option ((List (List Int) × Int × List (ByteArray × Bool)) ⊕ ((List (List Int)) × Bool))
 | (elemen6, k8, mp) =>
 bif decide (k8 < (elemen6.length : Int)) then
 loop (Zbb genera1 k8) (elemen6, 0, mp)
 else
 (Zfs elemen6 (fun y0 y1 => Zag y0 y1)).bind fun r57 =>
 some (.inr ((r57, true)))
def Zcu (degree0 : Int) (genera1 : List (List Int)) : Option ((List (List Int)) × Bool) :=
 (Ze8 degree0).bind fun r14 =>
 (gIdx ([r14]) 0).bind fun e18 =>
 (Zdt e18).bind fun r20 =>
 loop (Zbm genera1) ([r14], 0, (mpSet ([] : List (ByteArray × Bool)) r20 true))
def ZcP (x0 : List (List Int)) (target1 : List Int) (fn2 : (List Int) → (List Int) → Option Int) : Int × Int → Option ((Int × Int) ⊕ (Int × Bool))
 | (i9, j10) =>
 bif decide (i9 < j10) then
 (gNn 1).bind fun _ =>
 (gIdx x0 (IntKind.i64.wrap (Int.fdiv (IntKind.u64.wrap (IntKind.i64.wrap (i9 + j10))) (2 ^ min (1 : Int).toNat IntKind.u64.bits)))).bind fun e27 =>
 (fn2 e27 target1).bind fun r30 =>
 bif decide (r30 < 0) then
 some (.inl (IntKind.i64.wrap ((IntKind.i64.wrap (Int.fdiv (IntKind.u64.wrap (IntKind.i64.wrap (i9 + j10))) (2 ^ min (1 : Int).toNat IntKind.u64.bits))) + 1), j10))
 else
 some (.inl (i9, IntKind.i64.wrap (Int.fdiv (IntKind.u64.wrap (IntKind.i64.wrap (i9 + j10))) (2 ^ min (1 : Int).toNat IntKind.u64.bits))))
 else
 bif decide (i9 < (x0.length : Int)) then
 (gIdx x0 i9).bind fun e43 =>
 (fn2 e43 target1).bind fun r46 =>
 some (.inr ((i9, r46 == 0)))
 else
 some (.inr ((i9, false)))
def ZfF (x0 : List (List Int)) (target1 : List Int) (fn2 : (List Int) → (List Int) → Option Int) : Option (Int × Bool) :=
 loop (ZcP x0 target1 fn2) (0, (x0.length : Int))
def ZeX (degree0 : Int) (genera7 : List (List Int)) (y21 : Int) (e23 : List Int) : Option ((List (List Int) × List (List Int) × Bool × Int) ⊕ ((List (List Int)) × (List (List Int)) × Bool)) :=
 (gApp 24 genera7 [e23]).bind fun l39 =>
 (Zcu degree0 l39).bind fun r43 =>
 some (.inl (l39, r43.1, r43.2, IntKind.i64.wrap (y21 + 1)))
def Zaj (degree0 : Int) (elemen1 : List (List Int)) : List (List Int) × List (List Int) × Bool × Int → Option ((List (List Int) × List (List Int) × Bool × Int) ⊕ ((List (List Int)) × (List (List Int)) × Bool))
 | (genera7, all8, ok9, y21) =>
 bif decide (y21 < (elemen1.length : Int)) then
 (gIdx elemen1 y21).bind fun e23 =>
 (ZfF all8 e23 (fun y0 y1 => Zag y0 y1)).bind fun r28 =>
 bif r28.2 then
 some (.inl (genera7, all8, ok9, IntKind.i64.wrap (y21 + 1)))
 else
 bif !ok9 then
 some (.inl (genera7, all8, ok9, IntKind.i64.wrap (y21 + 1)))
 else
 ZeX degree0 genera7 y21 e23
 else
 some (.inr ((genera7, all8, ok9)))
def Ze2 (degree0 : Int) (elemen1 : List (List Int)) : Option ((List (List Int)) × (List (List Int)) × Bool) :=
 (Zcu degree0 ([] : List (List Int))).bind fun r16 =>
 loop (Zaj degree0 elemen1) (([] : List (List Int)), r16.1, r16.2, 0)
def ZcQ (y0 : ZaD) : Int → Option ((Int) ⊕ (Bool))
 | y3 =>
 bif decide (y3 < (y0.Elements.length : Int)) then
 (gIdx y0.Elements (IntKind.i64.wrap (y3 - 1))).bind fun e42 =>
 (gIdx y0.Elements y3).bind fun e47 =>
 (Zag e42 e47).bind fun r49 =>
 bif decide (r49 ≥ 0) then
 some (.inr (false))
 else
 some (.inl (IntKind.i64.wrap (y3 + 1)))
 else
 (Ze2 y0.Degree y0.Elements).bind fun r56 =>
 bif r56.2.2 then
 some (.inr (((r56.2.1.length : Int) : Int) == (y0.Elements.length : Int)))
 else
 some (.inr (false))
def ZgH (y0 : ZaD) : Option (Bool) :=
 loop (ZcQ y0) (1)
def ZeE (y0 : ZaD) : Option Bool :=
 (ZL y0.Degree 1 32).bind fun r9 =>
 bif !r9 then
 some (false)
 else
 bif decide (((y0.Elements.length : Int) : Int) < 1) then
 some (false)
 else
 bif decide (((y0.Elements.length : Int) : Int) > 720) then
 some (false)
 else
 (Zem y0.Degree y0.Elements).bind fun r28 =>
 bif !r28 then
 some (false)
 else
 ZgH y0
def Zg1 (o0 : Zz) : Option ZaD :=
 (Zbe o0.Rows).bind fun r7 =>
 some ((ZaD.mk o0.Size r7))
def Zbi (y0 : Zz) : Option Bool :=
 bif y0.Kind == 1 then
 (Z2 y0.Rows).bind fun r11 =>
 bif r11 == y0.Size then
 (Zff y0.Rows).bind fun r18 =>
 some (r18)
 else
 some (false)
 else
 bif y0.Kind == 2 then
 (ZhH (Zz.mk y0.Kind y0.Size y0.Rows)).bind fun r23 =>
 (Zf6 r23).bind fun r24 =>
 some (r24)
 else
 bif y0.Kind == 3 then
 (Z2 y0.Rows).bind fun r29 =>
 bif r29 == y0.Size then
 (ZfI y0.Rows).bind fun r36 =>
 some (r36)
 else
 some (false)
 else
 bif y0.Kind == 4 then
 bif decide (((y0.Rows.length : Int) : Int) > 0) then
 (ZgE (Zz.mk y0.Kind y0.Size y0.Rows)).bind fun r46 =>
 (Zfl r46).bind fun r47 =>
 some (r47)
 else
 some (false)
 else
 bif y0.Kind == 5 then
 (Zft (Zz.mk y0.Kind y0.Size y0.Rows)).bind fun r52 =>
 (Zeb r52).bind fun r53 =>
 some (r53)
 else
 bif y0.Kind == 6 then
 (Ze0 (Zz.mk y0.Kind y0.Size y0.Rows)).bind fun r58 =>
 some (r58.2)
 else
 bif y0.Kind == 7 then
 (Zg1 (Zz.mk y0.Kind y0.Size y0.Rows)).bind fun r65 =>
 (ZeE r65).bind fun r66 =>
 some (r66)
 else
 some (false)
def Zek (x0 : List ByteArray) (s1 : ByteArray) : Option ByteArray := if x0.length ≤ 140737488355328 ∧ (joinB x0 s1).size ≤ 140737488355328 then some (joinB x0 s1) else none
def Zcg (n0 : Int) : Option Bool :=
 (ZL n0 (-999999999) 999999999).bind fun r4 =>
 some (!r4)
def Zc6 (list0 : List Int) : List ByteArray × Int → Option ((List ByteArray × Int) ⊕ (ByteArray))
 | (words3, y18) =>
 bif decide (y18 < (list0.length : Int)) then
 (gIdx list0 y18).bind fun e20 =>
 (Zde e20).bind fun r24 =>
 (gApp 16 words3 [r24]).bind fun l26 =>
 some (.inl (l26, IntKind.i64.wrap (y18 + 1)))
 else
 (Zek words3 ⟨#[44]⟩).bind fun r29 =>
 some (.inr (r29))
def Zf1 (list0 : List Int) : Option (ByteArray) :=
 bif ((list0.length : Int) : Int) == 0 then
 some (⟨#[45]⟩)
 else
 loop (Zc6 list0) (([] : List ByteArray), 0)
def ZfY (list0 : List Int) : Option ByteArray :=
 bif decide (((list0.length : Int) : Int) > 100) then
 some (⟨#[]⟩)
 else
 (Zap list0 (fun y0 => Zcg y0)).bind fun r11 =>
 bif r11 then
 some (⟨#[]⟩)
 else
 Zf1 list0
def ZfQ (kind0 : Int) : Option Bool :=
 (ZL kind0 1 7).bind fun r4 =>
 some (r4)
def Zhu : Option (List ByteArray) :=
 some (([⟨#[115, 113, 117, 97, 114, 101]⟩, ⟨#[100, 101, 115, 105, 103, 110]⟩, ⟨#[104, 97, 100, 97, 109, 97, 114, 100]⟩, ⟨#[97, 114, 114, 97, 121]⟩, ⟨#[99, 111, 100, 101]⟩, ⟨#[103, 114, 97, 112, 104]⟩, ⟨#[103, 114, 111, 117, 112]⟩] : List ByteArray))
def Ze6 (kind0 : Int) : Option ByteArray :=
 (ZfQ kind0).bind fun r4 =>
 bif !r4 then
 some (⟨#[]⟩)
 else
 (Zhu).bind fun r6 =>
 (gIdx r6 (IntKind.i64.wrap (kind0 - 1))).bind fun e9 =>
 some (e9)
def Zeo (o0 : Zz) (rows3 : ByteArray) : Option (ByteArray) :=
 (Ze6 o0.Kind).bind fun r31 =>
 (Zde o0.Size).bind fun r35 =>
 (gFit r31 (⟨#[32]⟩ : ByteArray)).bind fun _ =>
 (gFit (r31 ++ (⟨#[32]⟩ : ByteArray) : ByteArray) r35).bind fun _ =>
 (gFit ((r31 ++ (⟨#[32]⟩ : ByteArray) : ByteArray) ++ r35 : ByteArray) (⟨#[32]⟩ : ByteArray)).bind fun _ =>
 (gFit (((r31 ++ (⟨#[32]⟩ : ByteArray) : ByteArray) ++ r35 : ByteArray) ++ (⟨#[32]⟩ : ByteArray) : ByteArray) rows3).bind fun _ =>
 some ((((r31 ++ (⟨#[32]⟩ : ByteArray) : ByteArray) ++ r35 : ByteArray) ++ (⟨#[32]⟩ : ByteArray) : ByteArray) ++ rows3)
def Zcz (o0 : Zz) : List ByteArray × Int → Option ((List ByteArray × Int) ⊕ (ByteArray))
 | (words4, y17) =>
 bif decide (y17 < (o0.Rows.length : Int)) then
 (gIdx o0.Rows y17).bind fun e19 =>
 (ZfY e19).bind fun r23 =>
 (gApp 16 words4 [r23]).bind fun l25 =>
 some (.inl (l25, IntKind.i64.wrap (y17 + 1)))
 else
 (Zek words4 ⟨#[47]⟩).bind fun r28 =>
 (Zeo o0 r28).map fun x => .inr (x)
def Zce (o0 : Zz) : Option ByteArray :=
 (Zbi (Zz.mk o0.Kind o0.Size o0.Rows)).bind fun r8 =>
 bif !r8 then
 some (⟨#[]⟩)
 else
 bif decide (((o0.Rows.length : Int) : Int) > 0) then
 loop (Zcz o0) (([] : List ByteArray), 0)
 else
 Zeo o0 ⟨#[110, 111, 110, 101]⟩
def Zxo (y15 : Int) : Int × Int → Option ((Int × Int) ⊕ ((Int × Int) ⊕ (Int)))
 | (sum5_2, y24) =>
 bif decide (y24 < 8) then
 (gNn 1).bind fun _ =>
 bif decide ((IntKind.i64.wrap (sum5_2 * 2 ^ min (1 : Int).toNat IntKind.i64.bits) : Int) ≥ 65536) then
 some (.inl (IntKind.i64.wrap ((BitVec.ofInt IntKind.i64.bits (IntKind.i64.wrap ((BitVec.ofInt IntKind.i64.bits (IntKind.i64.wrap (sum5_2 * 2 ^ min (1 : Int).toNat IntKind.i64.bits)) ^^^ BitVec.ofInt IntKind.i64.bits 4129).toNat : Int)) &&& BitVec.ofInt IntKind.i64.bits 65535).toNat : Int), IntKind.i64.wrap (y24 + 1)))
 else
 some (.inl (IntKind.i64.wrap (sum5_2 * 2 ^ min (1 : Int).toNat IntKind.i64.bits), IntKind.i64.wrap (y24 + 1)))
 else
 some (.inr (.inl (sum5_2, IntKind.i64.wrap (y15 + 1))))
def Zxy (s0 : ByteArray) : Int × Int → Option ((Int × Int) ⊕ (Int))
 | (sum5, y15) =>
 bif decide (y15 < ((byts s0).length : Int)) then
 (gIdx (byts s0) y15).bind fun e17 =>
 (gNn 8).bind fun _ =>
 loop (Zxo y15) (IntKind.i64.wrap ((BitVec.ofInt IntKind.i64.bits sum5 ^^^ BitVec.ofInt IntKind.i64.bits (IntKind.i64.wrap ((IntKind.i64.wrap e17) * 2 ^ min (8 : Int).toNat IntKind.i64.bits))).toNat : Int), 0)
 else
 some (.inr (sum5))
def ZxA (s0 : ByteArray) (start1 : Int) : Option Int :=
 (ZL start1 0 65535).bind fun r9 =>
 bif !r9 then
 some (0)
 else
 loop (Zxy s0) (start1, 0)
def ZxG (name0 : ByteArray) (o1 : Zz) : Option ByteArray :=
 (gFit name0 (⟨#[32]⟩ : ByteArray)).bind fun _ =>
 (Zce (Zz.mk o1.Kind o1.Size o1.Rows)).bind fun r9 =>
 (gFit (name0 ++ (⟨#[32]⟩ : ByteArray) : ByteArray) r9).bind fun _ =>
 (gFit ((name0 ++ (⟨#[32]⟩ : ByteArray) : ByteArray) ++ r9 : ByteArray) (⟨#[32]⟩ : ByteArray)).bind fun _ =>
 (ZxA ((name0 ++ (⟨#[32]⟩ : ByteArray) : ByteArray) ++ r9) 65535).bind fun r14 =>
 (Zde r14).bind fun r15 =>
 (gFit (((name0 ++ (⟨#[32]⟩ : ByteArray) : ByteArray) ++ r9 : ByteArray) ++ (⟨#[32]⟩ : ByteArray) : ByteArray) r15).bind fun _ =>
 some ((((name0 ++ (⟨#[32]⟩ : ByteArray) : ByteArray) ++ r9 : ByteArray) ++ (⟨#[32]⟩ : ByteArray) : ByteArray) ++ r15)
def Zxl (y18 : Int) (letter5 digit6 : Bool) : Option ((Int) ⊕ (Bool)) :=
 bif !letter5 then
 bif y18 == 0 then
 some (.inr (false))
 else
 bif !digit6 then
 some (.inr (false))
 else
 some (.inl (IntKind.i64.wrap (y18 + 1)))
 else
 some (.inl (IntKind.i64.wrap (y18 + 1)))
def Zxj (y18 e21 : Int) (letter5 : Bool) : Option ((Int) ⊕ (Bool)) :=
 bif decide (e21 ≥ 48) then
 Zxl y18 letter5 (decide (e21 ≤ 57))
 else
 Zxl y18 letter5 false
def Zxm (s0 : ByteArray) : Int → Option ((Int) ⊕ (Bool))
 | y18 =>
 bif decide (y18 < ((byts s0).length : Int)) then
 (gIdx (byts s0) y18).bind fun e21 =>
 bif decide (e21 ≥ 97) then
 Zxj y18 e21 (decide (e21 ≤ 122))
 else
 Zxj y18 e21 false
 else
 some (.inr (true))
def ZxK (s0 : ByteArray) : Option (Bool) :=
 loop (Zxm s0) (0)
def Zxz (s0 : ByteArray) : Option Bool :=
 bif decide (((s0.size : Int) : Int) < 1) then
 some (false)
 else
 bif decide (((s0.size : Int) : Int) > 10) then
 some (false)
 else
 ZxK s0
def ZxH (x0 : Zxh) : Option Bool :=
 (Zxz x0.Name).bind fun r5 =>
 bif r5 then
 (Zbi (Zz.mk x0.Object.Kind x0.Object.Size x0.Object.Rows)).bind fun r9 =>
 bif r9 then
 bif decide (((x0.Key.size : Int) : Int) ≥ 1) then
 some (decide (((x0.Key.size : Int) : Int) ≤ 4000))
 else
 some (false)
 else
 some (false)
 else
 some (false)
def Zzx (s0 : List Zxh) (fn1 : Zxh → Option Bool) : Int → Option ((Int) ⊕ (Int))
 | y8 =>
 bif decide (y8 < (s0.length : Int)) then
 (gIdx s0 y8).bind fun e14 =>
 (fn1 e14).bind fun r16 =>
 bif r16 then
 some (.inr (y8))
 else
 some (.inl (IntKind.i64.wrap (y8 + 1)))
 else
 some (.inr ((-1)))
def ZzT (s0 : List Zxh) (fn1 : Zxh → Option Bool) : Option Int :=
 loop (Zzx s0 fn1) (0)
def ZzP (x0 y1 : Zxh) : Option Bool :=
 bif x0.Object.Kind == y1.Object.Kind then
 some (x0.Key.toList == y1.Key.toList)
 else
 some (false)
def Zzn (y0 y1 : Zxh) : Option Bool :=
 (ZzP y1 (Zxh.mk y0.Name (Zz.mk y0.Object.Kind y0.Object.Size y0.Object.Rows) y0.Key)).bind fun r6 =>
 some (r6)
def Zzz (items0 : List Zxh) (x1 : Zxh) : Option Int :=
 (ZzT items0 (fun y0 => Zzn y0 (Zxh.mk x1.Name (Zz.mk x1.Object.Kind x1.Object.Size x1.Object.Rows) x1.Key))).bind fun r7 =>
 some (r7)
def Zzk (c0 : Zzg) : Int → Option ((Int) ⊕ (Bool))
 | y8 =>
 bif decide (y8 < (c0.Items.length : Int)) then
 (gIdx c0.Items y8).bind fun e11 =>
 (ZxH (Zxh.mk e11.Name (Zz.mk e11.Object.Kind e11.Object.Size e11.Object.Rows) e11.Key)).bind fun r14 =>
 bif !r14 then
 some (.inr (false))
 else
 bif decide (y8 > 0) then
 (gIdx c0.Items (IntKind.i64.wrap (y8 - 1))).bind fun e26 =>
 bif Op.bytesLess (e11.Name.toList) (e26.Name.toList) || e11.Name.toList == e26.Name.toList then
 some (.inr (false))
 else
 (gSl c0.Items 0 y8).bind fun l36 =>
 (Zzz l36 (Zxh.mk e11.Name (Zz.mk e11.Object.Kind e11.Object.Size e11.Object.Rows) e11.Key)).bind fun r38 =>
 bif decide (r38 ≥ 0) then
 some (.inr (false))
 else
 some (.inl (IntKind.i64.wrap (y8 + 1)))
 else
 (gSl c0.Items 0 y8).bind fun l36_2 =>
 (Zzz l36_2 (Zxh.mk e11.Name (Zz.mk e11.Object.Kind e11.Object.Size e11.Object.Rows) e11.Key)).bind fun r38_2 =>
 bif decide (r38_2 ≥ 0) then
 some (.inr (false))
 else
 some (.inl (IntKind.i64.wrap (y8 + 1)))
 else
 some (.inr (decide (((c0.Items.length : Int) : Int) ≤ 24)))
def ZzK (c0 : Zzg) : Option Bool :=
 loop (Zzk c0) (0)
def ZzN (list0 : List Zxh) : Option Int :=
 some ((list0.length : Int))
def Zzp (c0 : Zzg) : ByteArray × Int → Option ((ByteArray × Int) ⊕ (ByteArray × Int))
 | (out, i) =>
 bif decide (i < (c0.Items.length : Int)) then
 (gIdx c0.Items i).bind fun e23 =>
 (ZxG e23.Name (Zz.mk e23.Object.Kind e23.Object.Size e23.Object.Rows)).bind fun r28 =>
 (gFit r28 (⟨#[10]⟩ : ByteArray)).bind fun _ =>
 (gBld out (r28 ++ (⟨#[10]⟩ : ByteArray))).bind fun o2 =>
 some (.inl (o2, IntKind.i64.wrap (i + 1)))
 else
 some (.inr (out, 0))
def Zzq (c0 : Zzg) : Option (ByteArray × Int) :=
 (ZzK c0).bind fun r8 =>
 bif !r8 then
 some (⟨#[]⟩, 1)
 else
 (ZzN c0.Items).bind fun r12 =>
 (Zde r12).bind fun r13 =>
 (gFit (⟨#[99, 97, 116, 97, 108, 111, 103, 32]⟩ : ByteArray) r13).bind fun _ =>
 (gFit ((⟨#[99, 97, 116, 97, 108, 111, 103, 32]⟩ : ByteArray) ++ r13) (⟨#[10]⟩ : ByteArray)).bind fun _ =>
 (gBld ⟨#[]⟩ (((⟨#[99, 97, 116, 97, 108, 111, 103, 32]⟩ : ByteArray) ++ r13) ++ (⟨#[10]⟩ : ByteArray))).bind fun o1 =>
 loop (Zzp c0) (o1, 0)
def Zgp (a0 b1 : List Int) : Int → Option ((Int) ⊕ (Bool))
 | i5 =>
 bif decide (i5 < (a0.length : Int)) then
 (gIdx a0 i5).bind fun e19 =>
 (gIdx b1 i5).bind fun e23 =>
 bif e19 != e23 then
 some (.inr (false))
 else
 some (.inl (IntKind.i64.wrap (i5 + 1)))
 else
 some (.inr (true))
def Zdz (a0 b1 : List Int) : Option Bool :=
 bif ((a0.length : Int) : Int) != (b1.length : Int) then
 some (false)
 else
 loop (Zgp a0 b1) (0)
def ZfC (a0 b1 : List (List Int)) : Int → Option ((Int) ⊕ (Bool))
 | i5 =>
 bif decide (i5 < (a0.length : Int)) then
 (gIdx a0 i5).bind fun e19 =>
 (gIdx b1 i5).bind fun e23 =>
 (Zdz e19 e23).bind fun r25 =>
 bif !r25 then
 some (.inr (false))
 else
 some (.inl (IntKind.i64.wrap (i5 + 1)))
 else
 some (.inr (true))
def ZfP (a0 b1 : List (List Int)) : Option Bool :=
 bif ((a0.length : Int) : Int) != (b1.length : Int) then
 some (false)
 else
 loop (ZfC a0 b1) (0)
def Zfk (a0 b1 : Zz) : Option Bool :=
 bif a0.Kind != b1.Kind then
 some (false)
 else
 bif a0.Size != b1.Size then
 some (false)
 else
 (ZfP a0.Rows b1.Rows).bind fun r19 =>
 bif !r19 then
 some (false)
 else
 some (true)
def ZxB (a0 b1 : Zxh) : Option Bool :=
 bif !(a0.Name.toList == b1.Name.toList) then
 some (false)
 else
 (Zfk (Zz.mk a0.Object.Kind a0.Object.Size a0.Object.Rows) (Zz.mk b1.Object.Kind b1.Object.Size b1.Object.Rows)).bind fun r14 =>
 bif !r14 then
 some (false)
 else
 bif !(a0.Key.toList == b1.Key.toList) then
 some (false)
 else
 some (true)
def ZzD (a0 b1 : List Zxh) : Int → Option ((Int) ⊕ (Bool))
 | i5 =>
 bif decide (i5 < (a0.length : Int)) then
 (gIdx a0 i5).bind fun e19 =>
 (gIdx b1 i5).bind fun e23 =>
 (ZxB e19 e23).bind fun r25 =>
 bif !r25 then
 some (.inr (false))
 else
 some (.inl (IntKind.i64.wrap (i5 + 1)))
 else
 some (.inr (true))
def ZzF (a0 b1 : List Zxh) : Option Bool :=
 bif ((a0.length : Int) : Int) != (b1.length : Int) then
 some (false)
 else
 loop (ZzD a0 b1) (0)
def ZzL (a0 b1 : Zzg) : Option Bool :=
 (ZzF a0.Items b1.Items).bind fun r9 =>
 bif !r9 then
 some (false)
 else
 some (true)
def ZzQ (aC0 : Zzh) (r21 : Zzg) : Option (Bool) :=
 (Zzr (Zzh.mk aC0.Items)).bind fun r37 =>
 (ZzL (Zzg.mk r21.Items) r37).bind fun r38 =>
 bif !r38 then
 some (false)
 else
 some (true)
def ZzO (aC0 : Zzh) : Option Bool :=
 (ZzJ (Zzh.mk aC0.Items) 1048576).bind fun r11 =>
 bif decide (r11 < 0) then
 some (true)
 else
 (Zzr (Zzh.mk aC0.Items)).bind fun r16 =>
 (Zzy r16).bind fun r17 =>
 (Zzr (Zzh.mk aC0.Items)).bind fun r21 =>
 (Zzq (Zzg.mk r21.Items)).bind fun r24 =>
 bif !(r24.1.toList == r17.1.toList) then
 some (false)
 else
 bif r24.2 != r17.2 then
 some (false)
 else
 ZzQ aC0 r21
end
end Go.Proofs.YtocnokjekoglnaaGreatDoor
