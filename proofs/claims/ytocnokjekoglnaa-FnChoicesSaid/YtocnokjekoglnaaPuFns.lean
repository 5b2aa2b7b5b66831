import Derived.Test.YtocnokjekoglnaaPuBase
namespace Go.Proofs.Ytocnokjekoglnaa
set_option linter.unusedSimpArgs false
open Go Go.Vc
set_option linter.unusedVariables false
structure Za where
 qcode : List Int
 qat : Int
 qseed : Int
structure Zo where
 Degree : Int
 Elements : List (List Int)
structure Zs where
 qleft : Int
 qspent : Bool
structure Zb where
 qcounter : Zs
 qmatrix : List (List Int)
 qlambda : Int
 qlimit : Int
 qsums : List Int
 qlater : List Int
 qchosen : List Int
 qcount : Int
 qfirst : List Int
noncomputable section
def Zcm (code0 : List Int) : Option Bool :=
 some (decide (((code0.length : Int) : Int) > 1048576))
def Zcd (code0 : List Int) : Option Za :=
 some ((Za.mk code0 0 0))
def ZaK (s0 : Za) (b3 : Int) : Option (Int × Za) :=
 bif decide ((IntKind.i64.wrap (s0.qat + 1) : Int) ≤ (s0.qcode.length : Int)) then
 some ((b3, (Za.mk s0.qcode (IntKind.i64.wrap (s0.qat + 1)) (IntKind.u64.wrap ((IntKind.u64.wrap ((IntKind.u64.wrap (s0.qseed * 6364136223846793005)) + (IntKind.u64.wrap b3))) + 1442695040888963407)))))
 else
 (gNn 40).bind fun _ =>
 some ((IntKind.i64.wrap (IntKind.u64.wrap ((BitVec.ofInt IntKind.u64.bits (Int.fdiv (IntKind.u64.wrap ((IntKind.u64.wrap ((IntKind.u64.wrap (s0.qseed * 6364136223846793005)) + (IntKind.u64.wrap b3))) + 1442695040888963407)) (2 ^ min (40 : Int).toNat IntKind.u64.bits)) &&& BitVec.ofInt IntKind.u64.bits 255).toNat : Int)), (Za.mk s0.qcode (IntKind.i64.wrap (s0.qat + 1)) (IntKind.u64.wrap ((IntKind.u64.wrap ((IntKind.u64.wrap (s0.qseed * 6364136223846793005)) + (IntKind.u64.wrap b3))) + 1442695040888963407)))))
def Zai (s0 : Za) : Option (Int × Za) :=
 bif decide ((s0.qat : Int) < (s0.qcode.length : Int)) then
 (gIdx s0.qcode s0.qat).bind fun e22 =>
 ZaK s0 (IntKind.i64.wrap e22)
 else
 ZaK s0 0
def Zy (s0 : Za) (n1 : Int) : Option (Int × Za) :=
 bif decide (n1 ≤ 1) then
 some ((0, (Za.mk s0.qcode s0.qat s0.qseed)))
 else
 (Zai (Za.mk s0.qcode s0.qat s0.qseed)).bind fun r9 =>
 bif decide (n1 > 200) then
 (Zai (Za.mk s0.qcode r9.2.qat r9.2.qseed)).bind fun r15 =>
 (gNz n1).bind fun _ =>
 some ((Int.tmod (IntKind.i64.wrap ((IntKind.i64.wrap (r9.1 * 256)) + r15.1)) n1, (Za.mk s0.qcode r15.2.qat r15.2.qseed)))
 else
 (gNz n1).bind fun _ =>
 some ((Int.tmod r9.1 n1, (Za.mk s0.qcode r9.2.qat r9.2.qseed)))
def Z8 (s0 : Za) (n1 : Int) : Option (Bool × Za) :=
 (Zy (Za.mk s0.qcode s0.qat s0.qseed) n1).bind fun r7 =>
 some ((r7.1 == 0, (Za.mk s0.qcode r7.2.qat r7.2.qseed)))
def ZaJ (a0 b1 : List Int) : Option (Int) :=
 bif decide (((a0.length : Int) : Int) < (b1.length : Int)) then
 some ((-1))
 else
 bif decide (((a0.length : Int) : Int) > (b1.length : Int)) then
 some (1)
 else
 some (0)
def Za0 (a0 b1 : List Int) (i5 : Int) : Option ((Int) ⊕ (Int)) :=
 (gIdx a0 i5).bind fun e20 =>
 (gIdx b1 i5).bind fun e24 =>
 bif decide (e20 < e24) then
 some (.inr ((-1)))
 else
 (gIdx a0 i5).bind fun e29 =>
 (gIdx b1 i5).bind fun e33 =>
 bif decide (e29 > e33) then
 some (.inr (1))
 else
 some (.inl (IntKind.i64.wrap (i5 + 1)))
def ZbV (a0 b1 : List Int) : Int → Option ((Int) ⊕ (Int))
 | i5 =>
 bif decide (i5 < (a0.length : Int)) then
 bif decide (i5 < (b1.length : Int)) then
 Za0 a0 b1 i5
 else
 (ZaJ a0 b1).map fun x => .inr (x)
 else
 (ZaJ a0 b1).map fun x => .inr (x)
def ZbM (a0 b1 : List Int) : Option Int :=
 loop (ZbV a0 b1) (0)
def Zah (lists0 : List (List Int)) (i7 : Int) (out5_2 : List (List Int)) (done6_2 : Bool) : Option ((List (List Int) × Bool × Int) ⊕ (List (List Int))) :=
 (gIdx lists0 i7).bind fun e37 =>
 (gApp 24 out5_2 [e37]).bind fun l40 =>
 some (.inl (l40, done6_2, IntKind.i64.wrap (i7 + 1)))
def ZaE (lists0 : List (List Int)) (x1 : List Int) (out5 : List (List Int)) (done6 : Bool) (i7 r21 : Int) (y27 : Bool) : Option ((List (List Int) × Bool × Int) ⊕ (List (List Int))) :=
 bif y27 then
 bif decide (r21 > 0) then
 (gApp 24 out5 [x1]).bind fun l33 =>
 Zah lists0 i7 l33 true
 else
 Zah lists0 i7 out5 true
 else
 Zah lists0 i7 out5 done6
def Za2 (lists0 : List (List Int)) (x1 : List Int) : List (List Int) × Bool × Int → Option ((List (List Int) × Bool × Int) ⊕ (List (List Int)))
 | (out5, done6, i7) =>
 bif decide (i7 < (lists0.length : Int)) then
 (gIdx lists0 i7).bind fun e18 =>
 (ZbM e18 x1).bind fun r21 =>
 bif !done6 then
 ZaE lists0 x1 out5 done6 i7 r21 (decide (r21 ≥ 0))
 else
 ZaE lists0 x1 out5 done6 i7 r21 false
 else
 bif !done6 then
 (gApp 24 out5 [x1]).bind fun l46 =>
 some (.inr (l46))
 else
 some (.inr (out5))
def ZaS (lists0 : List (List Int)) (x1 : List Int) : Option (List (List Int)) :=
 loop (Za2 lists0 x1) (([] : List (List Int)), false, 0)
def ZbB (degree0 : Int) (list1 : List (List Int)) : List (List Int) × Int → Option ((List (List Int) × Int) ⊕ (Zo))
 | (out5, i6) =>
 bif decide (i6 < (list1.length : Int)) then
 (gIdx list1 i6).bind fun e17 =>
 (ZaS out5 e17).bind fun r19 =>
 some (.inl (r19, IntKind.i64.wrap (i6 + 1)))
 else
 some (.inr ((Zo.mk degree0 out5)))
def ZbG (degree0 : Int) (list1 : List (List Int)) : Option Zo :=
 loop (ZbB degree0 list1) (([] : List (List Int)), 0)
def Zbq (n0 : Int) (factor1 : List Int) (i6 : Int) (list5_2 : List (List Int)) (b7 : Int) : List Int × Int → Option ((List Int × Int) ⊕ ((List (List Int) × Int) ⊕ ((List (List Int) × Int) ⊕ (Zo))))
 | (p8, x9) =>
 bif decide (x9 < n0) then
 (gIdx factor1 i6).bind fun e31 =>
 (gNz n0).bind fun _ =>
 (gApp 8 p8 [Int.tmod (IntKind.i64.wrap ((IntKind.i64.wrap (e31 * x9)) + b7)) n0]).bind fun l40 =>
 some (.inl (l40, IntKind.i64.wrap (x9 + 1)))
 else
 (gApp 24 list5_2 [p8]).bind fun l44 =>
 some (.inr (.inl (l44, IntKind.i64.wrap (b7 + 1))))
def Zby (n0 : Int) (factor1 : List Int) (i6 : Int) : List (List Int) × Int → Option ((List (List Int) × Int) ⊕ ((List (List Int) × Int) ⊕ (Zo)))
 | (list5_2, b7) =>
 bif decide (b7 < n0) then
 loop (Zbq n0 factor1 i6 list5_2 b7) (([] : List Int), 0)
 else
 some (.inr (.inl (list5_2, IntKind.i64.wrap (i6 + 1))))
def ZbR (n0 : Int) (factor1 : List Int) : List (List Int) × Int → Option ((List (List Int) × Int) ⊕ (Zo))
 | (list5, i6) =>
 bif decide (i6 < (factor1.length : Int)) then
 loop (Zby n0 factor1 i6) (list5, 0)
 else
 (ZbG n0 list5).bind fun r47 =>
 some (.inr ((Zo.mk r47.Degree r47.Elements)))
def ZaO (n0 : Int) (factor1 : List Int) : Option Zo :=
 loop (ZbR n0 factor1) (([] : List (List Int)), 0)
def ZV (s0 : Za) (list1 : List Int) : Option (Int × Za) :=
 (Zy (Za.mk s0.qcode s0.qat s0.qseed) (list1.length : Int)).bind fun r9 =>
 (gIdx list1 r9.1).bind fun e10 =>
 some ((e10, (Za.mk s0.qcode r9.2.qat r9.2.qseed)))
def Z5 (n0 low1 high2 : Int) : Option Bool :=
 bif decide (n0 ≥ low1) then
 some (decide (n0 ≤ high2))
 else
 some (false)
def Zct (n0 k1 : Int) : Int × Int → Option ((Int × Int) ⊕ (Int))
 | (out5, i6) =>
 bif decide (i6 ≤ k1) then
 (gNz i6).bind fun _ =>
 some (.inl (IntKind.i64.wrap (Int.tdiv (IntKind.i64.wrap (out5 * (IntKind.i64.wrap ((IntKind.i64.wrap (n0 - k1)) + i6)))) i6), IntKind.i64.wrap (i6 + 1)))
 else
 some (.inr (out5))
def Zbe (n0 k1 : Int) : Option (Int) :=
 loop (Zct n0 k1) (1, 1)
def Zam (n0 k1 : Int) : Option Int :=
 (Z5 n0 0 32).bind fun r8 =>
 bif !r8 then
 some (0)
 else
 (Z5 k1 0 n0).bind fun r13 =>
 bif !r13 then
 some (0)
 else
 Zbe n0 k1
def Zas (list0 : List Int) (i7 : Int) (out5_2 : List Int) (done6_2 : Bool) : Option ((List Int × Bool × Int) ⊕ (List Int)) :=
 (gIdx list0 i7).bind fun e38 =>
 (gApp 8 out5_2 [e38]).bind fun l41 =>
 some (.inl (l41, done6_2, IntKind.i64.wrap (i7 + 1)))
def ZaC (list0 : List Int) (n1 : Int) (out5 : List Int) (done6 : Bool) (i7 : Int) (y24 : Bool) : Option ((List Int × Bool × Int) ⊕ (List Int)) :=
 bif y24 then
 (gIdx list0 i7).bind fun e27 =>
 bif decide (e27 > n1) then
 (gApp 8 out5 [n1]).bind fun l34 =>
 Zas list0 i7 l34 true
 else
 Zas list0 i7 out5 true
 else
 Zas list0 i7 out5 done6
def ZbE (list0 : List Int) (n1 : Int) : List Int × Bool × Int → Option ((List Int × Bool × Int) ⊕ (List Int))
 | (out5, done6, i7) =>
 bif decide (i7 < (list0.length : Int)) then
 bif !done6 then
 (gIdx list0 i7).bind fun e20 =>
 ZaC list0 n1 out5 done6 i7 (decide (e20 ≥ n1))
 else
 ZaC list0 n1 out5 done6 i7 false
 else
 bif !done6 then
 (gApp 8 out5 [n1]).bind fun l47 =>
 some (.inr (l47))
 else
 some (.inr (out5))
def Zbg (list0 : List Int) (n1 : Int) : Option (List Int) :=
 loop (ZbE list0 n1) (([] : List Int), false, 0)
def Zbw (p0 set1 : List Int) : List Int × Int → Option ((List Int × Int) ⊕ (List Int))
 | (out5, i6) =>
 bif decide (i6 < (set1.length : Int)) then
 (gIdx set1 i6).bind fun e18 =>
 (gIdx p0 e18).bind fun e20 =>
 (Zbg out5 e20).bind fun r22 =>
 some (.inl (r22, IntKind.i64.wrap (i6 + 1)))
 else
 some (.inr (out5))
def ZbD (p0 set1 : List Int) : Option (List Int) :=
 loop (Zbw p0 set1) (([] : List Int), 0)
def Zbu (g0 : Zo) (set1 : List Int) : List (List Int) × Int → Option ((List (List Int) × Int) ⊕ (List (List Int)))
 | (out5, i6) =>
 bif decide (i6 < (g0.Elements.length : Int)) then
 (gIdx g0.Elements i6).bind fun e23 =>
 (ZbD e23 set1).bind fun r26 =>
 (ZaS out5 r26).bind fun r27 =>
 some (.inl (r27, IntKind.i64.wrap (i6 + 1)))
 else
 some (.inr (out5))
def ZbS (g0 : Zo) (set1 : List Int) : Option (List (List Int)) :=
 loop (Zbu g0 set1) (([] : List (List Int)), 0)
def ZbO (n0 k1 rank2_2 : Int) (out7 : List Int) (x8 : Int) : Option ((Int × List Int × Int) ⊕ (List Int)) :=
 (Zam (IntKind.i64.wrap ((IntKind.i64.wrap (n0 - 1)) - x8)) (IntKind.i64.wrap ((IntKind.i64.wrap (k1 - 1)) - (out7.length : Int)))).bind fun r29 =>
 bif decide (rank2_2 < r29) then
 (gApp 8 out7 [x8]).bind fun l36 =>
 some (.inl (rank2_2, l36, IntKind.i64.wrap (x8 + 1)))
 else
 some (.inl (IntKind.i64.wrap (rank2_2 - r29), out7, IntKind.i64.wrap (x8 + 1)))
def ZaZ (n0 k1 : Int) : Int × List Int × Int → Option ((Int × List Int × Int) ⊕ (List Int))
 | (rank2_2, out7, x8) =>
 bif decide (((out7.length : Int) : Int) < k1) then
 bif decide (x8 < n0) then
 ZbO n0 k1 rank2_2 out7 x8
 else
 some (.inr (out7))
 else
 some (.inr (out7))
def Zbj (n0 k1 rank2 : Int) : Option (List Int) :=
 loop (ZaZ n0 k1) (rank2, ([] : List Int), 0)
def Zb8 (n0 : Int) (set1 : List Int) (i8 : Int) : Int × Int → Option ((Int × Int) ⊕ ((Int × Int × Int) ⊕ (Int)))
 | (rank5_2, x9) =>
 (gIdx set1 i8).bind fun e21 =>
 bif decide (x9 < e21) then
 (Zam (IntKind.i64.wrap ((IntKind.i64.wrap (n0 - 1)) - x9)) (IntKind.i64.wrap ((IntKind.i64.wrap ((set1.length : Int) - 1)) - i8))).bind fun r35 =>
 some (.inl (IntKind.i64.wrap (rank5_2 + r35), IntKind.i64.wrap (x9 + 1)))
 else
 (gIdx set1 i8).bind fun e39 =>
 some (.inr (.inl (rank5_2, IntKind.i64.wrap (e39 + 1), IntKind.i64.wrap (i8 + 1))))
def Zcv (n0 : Int) (set1 : List Int) : Int × Int × Int → Option ((Int × Int × Int) ⊕ (Int))
 | (rank5, low6, i8) =>
 bif decide (i8 < (set1.length : Int)) then
 loop (Zb8 n0 set1 i8) (rank5, low6)
 else
 some (.inr (rank5))
def Za5 (n0 : Int) (set1 : List Int) : Option Int :=
 loop (Zcv n0 set1) (0, 0, 0)
def Zbi (g0 : Zo) (out7 : List (List (List Int))) (rank8 : Int) (r37 : List (List Int)) : Int × List Bool → Option ((Int × List Bool) ⊕ ((List (List (List Int)) × Int × List Bool) ⊕ (List (List (List Int)))))
 | (i10, xs_2) =>
 bif decide (i10 < (r37.length : Int)) then
 (gIdx r37 i10).bind fun e51 =>
 (Za5 g0.Degree e51).bind fun r53 =>
 (gIdx xs_2 r53).bind fun e54 =>
 some (.inl (IntKind.i64.wrap (i10 + 1), (xs_2.set r53.toNat true)))
 else
 (gApp 24 out7 [r37]).bind fun l58 =>
 some (.inr (.inl (l58, IntKind.i64.wrap (rank8 + 1), xs_2)))
def Za8 (g0 : Zo) (k1 r16 : Int) : List (List (List Int)) × Int × List Bool → Option ((List (List (List Int)) × Int × List Bool) ⊕ (List (List (List Int))))
 | (out7, rank8, xs) =>
 bif decide (rank8 < r16) then
 (gIdx xs rank8).bind fun e27 =>
 bif e27 then
 some (.inl (out7, IntKind.i64.wrap (rank8 + 1), xs))
 else
 (Zbj g0.Degree k1 rank8).bind fun r36 =>
 (ZbS g0 r36).bind fun r37 =>
 loop (Zbi g0 out7 rank8 r37) (0, xs)
 else
 some (.inr (out7))
def ZaI (g0 : Zo) (k1 : Int) : Option (List (List (List Int))) :=
 (Zam g0.Degree k1).bind fun r16 =>
 (gMake 1 false r16 r16).bind fun l18 =>
 loop (Za8 g0 k1 r16) (([] : List (List (List Int))), 0, l18)
def ZbZ (list0 : List Int) (n1 : Int) : Int → Option ((Int) ⊕ (Bool))
 | i5 =>
 bif decide (i5 < (list0.length : Int)) then
 (gIdx list0 i5).bind fun e14 =>
 bif e14 == n1 then
 some (.inr (true))
 else
 some (.inl (IntKind.i64.wrap (i5 + 1)))
 else
 some (.inr (false))
def ZbH (list0 : List Int) (n1 : Int) : Option Bool :=
 loop (ZbZ list0 n1) (0)
def Zcs (a0 b1 : List Int) : Int → Option ((Int) ⊕ (Bool))
 | i5 =>
 bif decide (i5 < (a0.length : Int)) then
 (gIdx a0 i5).bind fun e15 =>
 (ZbH b1 e15).bind fun r17 =>
 bif !r17 then
 some (.inr (false))
 else
 some (.inl (IntKind.i64.wrap (i5 + 1)))
 else
 some (.inr (true))
def ZbF (a0 b1 : List Int) : Option Bool :=
 loop (Zcs a0 b1) (0)
def Zck (r17 r20 : List (List (List Int))) (y10 : Int) (y11 : List Int) (y12 : Int) : Int × Int → Option ((Int × Int) ⊕ ((List Int × Int) ⊕ ((List (List Int) × Int) ⊕ (List (List Int)))))
 | (y13, y14) =>
 (gIdx r20 y12).bind fun e38 =>
 bif decide (y14 < (e38.length : Int)) then
 (gIdx r17 y10).bind fun e46 =>
 (gIdx e46 0).bind fun e48 =>
 (gIdx r20 y12).bind fun e52 =>
 (gIdx e52 y14).bind fun e55 =>
 (ZbF e48 e55).bind fun r57 =>
 bif r57 then
 some (.inl (IntKind.i64.wrap (y13 + 1), IntKind.i64.wrap (y14 + 1)))
 else
 some (.inl (y13, IntKind.i64.wrap (y14 + 1)))
 else
 (gApp 8 y11 [y13]).bind fun l63 =>
 some (.inr (.inl (l63, IntKind.i64.wrap (y12 + 1))))
def Zbf (r17 r20 : List (List (List Int))) (y9 : List (List Int)) (y10 : Int) : List Int × Int → Option ((List Int × Int) ⊕ ((List (List Int) × Int) ⊕ (List (List Int))))
 | (y11, y12) =>
 bif decide (y12 < (r20.length : Int)) then
 loop (Zck r17 r20 y10 y11 y12) (0, 0)
 else
 (gApp 24 y9 [y11]).bind fun l67 =>
 some (.inr (.inl (l67, IntKind.i64.wrap (y10 + 1))))
def Zbd (r17 r20 : List (List (List Int))) : List (List Int) × Int → Option ((List (List Int) × Int) ⊕ (List (List Int)))
 | (y9, y10) =>
 bif decide (y10 < (r17.length : Int)) then
 loop (Zbf r17 r20 y9 y10) (([] : List Int), 0)
 else
 some (.inr (y9))
def Zat (y0 : Zo) (y1 y2 : Int) : Option (List (List Int)) :=
 (ZaI y0 y1).bind fun r17 =>
 (ZaI y0 y2).bind fun r20 =>
 loop (Zbd r17 r20) (([] : List (List Int)), 0)
def ZaR (y0 : Za) (r27 : Int × Za) (y7 : List (List Int)) (y8 : Int) : List Int × Int × Int × Int → Option ((List Int × Int × Int × Int) ⊕ ((List (List Int) × Int × Int × Int) ⊕ ((List (List Int)) × Za)))
 | (y9, y10, q_3, q_4) =>
 bif decide (y10 < r27.1) then
 (Zy (Za.mk y0.qcode q_3 q_4) 3).bind fun r42 =>
 (gApp 8 y9 [r42.1]).bind fun l44 =>
 some (.inl (l44, IntKind.i64.wrap (y10 + 1), r42.2.qat, r42.2.qseed))
 else
 (gApp 24 y7 [y9]).bind fun l48 =>
 some (.inr (.inl (l48, IntKind.i64.wrap (y8 + 1), q_3, q_4)))
def ZaD (y0 : Za) (r24 r27 : Int × Za) : List (List Int) × Int × Int × Int → Option ((List (List Int) × Int × Int × Int) ⊕ ((List (List Int)) × Za))
 | (y7, y8, q, q_2) =>
 bif decide (y8 < (IntKind.i64.wrap (r24.1 + 1))) then
 loop (ZaR y0 r27 y7 y8) (([] : List Int), 0, q, q_2)
 else
 (Zy (Za.mk y0.qcode q q_2) 12).bind fun r50 =>
 bif r50.1 == 0 then
 some (.inr ((([] : List (List Int)), (Za.mk y0.qcode r50.2.qat r50.2.qseed))))
 else
 bif r50.1 == 1 then
 (gIdx y7 0).bind fun e58 =>
 (gApp 8 e58 [1]).bind fun l61 =>
 (gIdx y7 0).bind fun e62 =>
 some (.inr (((y7.set (0 : Int).toNat l61), (Za.mk y0.qcode r50.2.qat r50.2.qseed))))
 else
 bif r50.1 == 2 then
 bif decide (r27.1 > 0) then
 (gIdx y7 0).bind fun e68 =>
 (ZV (Za.mk y0.qcode r50.2.qat r50.2.qseed) ([(-1), 2000, 2001] : List Int)).bind fun r72 =>
 (gIdx e68 0).bind fun e73 =>
 some (.inr (((y7.set (0 : Int).toNat (e68.set (0 : Int).toNat r72.1)), (Za.mk y0.qcode r72.2.qat r72.2.qseed))))
 else
 some (.inr ((y7, (Za.mk y0.qcode r50.2.qat r50.2.qseed))))
 else
 some (.inr ((y7, (Za.mk y0.qcode r50.2.qat r50.2.qseed))))
def ZaT (y0 : Za) : Option ((List (List Int)) × Za) :=
 (Z8 (Za.mk y0.qcode y0.qat y0.qseed) 3).bind fun r12 =>
 bif r12.1 then
 (ZV (Za.mk y0.qcode r12.2.qat r12.2.qseed) ([5, 6, 7, 8, 9] : List Int)).bind fun r15 =>
 (ZaO r15.1 ([1] : List Int)).bind fun r17 =>
 (Zy (Za.mk y0.qcode r15.2.qat r15.2.qseed) 2).bind fun r19 =>
 (Zat (Zo.mk r17.Degree r17.Elements) 2 (IntKind.i64.wrap (r19.1 + 3))).bind fun r22 =>
 some ((r22, (Za.mk y0.qcode r19.2.qat r19.2.qseed)))
 else
 (Zy (Za.mk y0.qcode r12.2.qat r12.2.qseed) 4).bind fun r24 =>
 (Zy (Za.mk y0.qcode r24.2.qat r24.2.qseed) 9).bind fun r27 =>
 loop (ZaD y0 r24 r27) (([] : List (List Int)), 0, r27.2.qat, r27.2.qseed)
def Zbz (s0 : Za) : Option (Int × Za) :=
 (Z8 (Za.mk s0.qcode s0.qat s0.qseed) 8).bind fun r4 =>
 bif r4.1 then
 (ZV (Za.mk s0.qcode r4.2.qat r4.2.qseed) ([0, (-1), 2000, 2001] : List Int)).bind fun r7 =>
 some ((r7.1, (Za.mk s0.qcode r7.2.qat r7.2.qseed)))
 else
 (Zy (Za.mk s0.qcode r4.2.qat r4.2.qseed) 5).bind fun r9 =>
 some ((IntKind.i64.wrap (r9.1 + 1), (Za.mk s0.qcode r9.2.qat r9.2.qseed)))
def ZbQ (s0 : Za) : Option (Int × Za) :=
 (Zy (Za.mk s0.qcode s0.qat s0.qseed) 8).bind fun r4 =>
 bif r4.1 == 0 then
 (ZV (Za.mk s0.qcode r4.2.qat r4.2.qseed) ([0, 1, (-1), 20000, 20001] : List Int)).bind fun r9 =>
 some ((r9.1, (Za.mk s0.qcode r9.2.qat r9.2.qseed)))
 else
 bif r4.1 == 1 then
 (Zy (Za.mk s0.qcode r4.2.qat r4.2.qseed) 30).bind fun r13 =>
 some ((IntKind.i64.wrap (r13.1 + 1), (Za.mk s0.qcode r13.2.qat r13.2.qseed)))
 else
 (Zy (Za.mk s0.qcode r4.2.qat r4.2.qseed) 1000).bind fun r16 =>
 some ((IntKind.i64.wrap (300 + r16.1), (Za.mk s0.qcode r16.2.qat r16.2.qseed)))
def Zbo (code0 : List Int) : Option ((List (List Int)) × Int × Int) :=
 (Zcd code0).bind fun r9 =>
 (ZaT (Za.mk r9.qcode r9.qat r9.qseed)).bind fun r11 =>
 (Zbz (Za.mk r9.qcode r11.2.qat r11.2.qseed)).bind fun r13 =>
 (ZbQ (Za.mk r9.qcode r13.2.qat r13.2.qseed)).bind fun r17 =>
 some ((r11.1, r13.1, r17.1))
def ZP (n0 low1 high2 : Int) : Option Bool :=
 bif decide (n0 ≥ low1) then
 some (decide (n0 ≤ high2))
 else
 some (false)
def Z6 (s0 : List (List Int)) (fn1 : (List Int) → Option Bool) : Int → Option ((Int) ⊕ (Int))
 | y8 =>
 bif decide (y8 < (s0.length : Int)) then
 (gIdx s0 y8).bind fun e14 =>
 (fn1 e14).bind fun r16 =>
 bif r16 then
 some (.inr (y8))
 else
 some (.inl (IntKind.i64.wrap (y8 + 1)))
 else
 some (.inr ((-1)))
def Zb9 (s0 : List (List Int)) (fn1 : (List Int) → Option Bool) : Option Int :=
 loop (Z6 s0 fn1) (0)
def ZaN (s0 : List (List Int)) (fn1 : (List Int) → Option Bool) : Option Bool :=
 (Zb9 s0 fn1).bind fun r7 =>
 some (decide (r7 ≥ 0))
def Zcn (list0 : List (List Int)) : Option Int :=
 some ((list0.length : Int))
def Za3 (s0 : List Int) (fn1 : Int → Option Bool) : Int → Option ((Int) ⊕ (Int))
 | y8 =>
 bif decide (y8 < (s0.length : Int)) then
 (gIdx s0 y8).bind fun e14 =>
 (fn1 e14).bind fun r16 =>
 bif r16 then
 some (.inr (y8))
 else
 some (.inl (IntKind.i64.wrap (y8 + 1)))
 else
 some (.inr ((-1)))
def ZbU (s0 : List Int) (fn1 : Int → Option Bool) : Option Int :=
 loop (Za3 s0 fn1) (0)
def ZbW (s0 : List Int) (fn1 : Int → Option Bool) : Option Bool :=
 (ZbU s0 fn1).bind fun r7 =>
 some (decide (r7 ≥ 0))
def ZaG (x0 y1 : Int) : Option Bool :=
 (ZP x0 0 (IntKind.i64.wrap (y1 - 1))).bind fun r7 =>
 some (!r7)
def Zbc (q0 : Int) (list1 : List Int) : Option Bool :=
 (ZbW list1 (fun y0 => ZaG y0 q0)).bind fun r7 =>
 some (!r7)
def ZaQ (row0 : List Int) (y1 : List (List Int)) : Option Bool :=
 (gIdx y1 0).bind fun e7 =>
 bif ((row0.length : Int) : Int) != (e7.length : Int) then
 some (true)
 else
 (Zbc 2001 row0).bind fun r13 =>
 some (!r13)
def Zb0 (m0 : List (List Int)) : Option (Bool) :=
 (ZaN m0 (fun y0 => ZaQ y0 m0)).bind fun r16 =>
 some (!r16)
def Zan (m0 : List (List Int)) : Option Bool :=
 (Zcn m0).bind fun r4 =>
 (ZP r4 1 2000).bind fun r5 =>
 bif !r5 then
 some (false)
 else
 (gIdx m0 0).bind fun e9 =>
 bif decide (((e9.length : Int) : Int) > 2000) then
 some (false)
 else
 Zb0 m0
def ZaU (n0 : Int) : Option Bool :=
 (ZP n0 1 20000).bind fun r4 =>
 some (r4)
def Zar (lambda0 : Int) : Option Bool :=
 (ZP lambda0 1 2000).bind fun r4 =>
 some (r4)
def Zbt (c0 : Zb) (column2 factor3 : Int) : Int × List Int → Option ((Int × List Int) ⊕ (List Int))
 | (y15, xs) =>
 bif decide (y15 < (c0.qmatrix.length : Int)) then
 (gIdx c0.qmatrix y15).bind fun e18 =>
 (gIdx xs y15).bind fun e22 =>
 (gIdx e18 column2).bind fun e27 =>
 (gIdx xs y15).bind fun e31 =>
 some (.inl (IntKind.i64.wrap (y15 + 1), (xs.set y15.toNat (IntKind.i64.wrap (e22 + (IntKind.i64.wrap (factor3 * e27)))))))
 else
 some (.inr (xs))
def Z1 (c0 : Zb) (sums1 : List Int) (column2 factor3 : Int) : Option (List Int) :=
 loop (Zbt c0 column2 factor3) (0, sums1)
def Zao (c0 : Zb) : Int → Option ((Int) ⊕ (Bool))
 | y10 =>
 bif decide (y10 < (c0.qsums.length : Int)) then
 (gIdx c0.qsums y10).bind fun e13 =>
 bif decide (e13 > c0.qlambda) then
 some (.inr (false))
 else
 (gIdx c0.qlater y10).bind fun e28 =>
 bif decide ((IntKind.i64.wrap (e13 + e28) : Int) < c0.qlambda) then
 some (.inr (false))
 else
 some (.inl (IntKind.i64.wrap (y10 + 1)))
 else
 some (.inr (true))
def Zax (c0 : Zb) : Option Bool :=
 loop (Zao c0) (0)
def Zbl (a0 : List Int) : Option (List Int) := gApp 8 [] a0
def ZcE (c0 : Zs) : Option (Bool × Zs) :=
 bif (c0.qleft : Int) == 0 then
 some ((false, (Zs.mk c0.qleft true)))
 else
 some ((true, (Zs.mk (IntKind.i64.wrap (c0.qleft - 1)) c0.qspent)))
def Zaw (y0 : Zb) (xs : List Int) : Option (Zb) :=
 some ((Zb.mk (Zs.mk y0.qcounter.qleft y0.qcounter.qspent) y0.qmatrix y0.qlambda y0.qlimit y0.qsums y0.qlater y0.qchosen (IntKind.i64.wrap (y0.qcount + 1)) xs))
def ZR (y0 : Zb) (y1 y46 : Int) (e48 : Bool) (q_6 : Int) (q_7 : Bool) (q_8 q_9 q_10 : Int) (xs_8 xs_9 xs_10 xs_11 : List Int) : Option ((Int × Int × Bool × Int × Int × Int × List Int × List Int × List Int × List Int) ⊕ (Zb)) :=
 bif e48 then
 (Z1 (Zb.mk (Zs.mk q_6 q_7) y0.qmatrix q_8 q_9 xs_9 xs_8 xs_10 q_10 xs_11) xs_9 y1 (-1)).bind fun r106 =>
 (gSl xs_10 0 (IntKind.i64.wrap ((xs_10.length : Int) - 1))).bind fun l118 =>
 some (.inl (IntKind.i64.wrap (y46 + 1), q_6, q_7, q_8, q_9, q_10, xs_8, r106, l118, xs_11))
 else
 some (.inl (IntKind.i64.wrap (y46 + 1), q_6, q_7, q_8, q_9, q_10, xs_8, xs_9, xs_10, xs_11))
def ZaV (rf_impl_chooser_search : Zb → Int → Option Zb) (y0 : Zb) (y1 y46 q : Int) (q_2 : Bool) (q_3 q_4 q_5 : Int) (xs_2 xs_5 : List Int) (e48 : Bool) (xs_6 xs_7 : List Int) : Option ((Int × Int × Bool × Int × Int × Int × List Int × List Int × List Int × List Int) ⊕ (Zb)) :=
 (Zax (Zb.mk (Zs.mk q q_2) y0.qmatrix q_3 q_4 xs_6 xs_2 xs_7 q_5 xs_5)).bind fun r69 =>
 bif r69 then
 bif decide (q_5 < q_4) then
 bif !q_2 then
 (ZcE (Zs.mk q q_2)).bind fun r93 =>
 bif r93.1 then
 (rf_impl_chooser_search (Zb.mk (Zs.mk r93.2.qleft r93.2.qspent) y0.qmatrix q_3 q_4 xs_6 xs_2 xs_7 q_5 xs_5) (IntKind.i64.wrap (y1 + 1))).bind fun r98 =>
 ZR y0 y1 y46 e48 r98.qcounter.qleft r98.qcounter.qspent r98.qlambda r98.qlimit r98.qcount r98.qlater r98.qsums r98.qchosen r98.qfirst
 else
 ZR y0 y1 y46 e48 r93.2.qleft r93.2.qspent q_3 q_4 q_5 xs_2 xs_6 xs_7 xs_5
 else
 ZR y0 y1 y46 e48 q q_2 q_3 q_4 q_5 xs_2 xs_6 xs_7 xs_5
 else
 ZR y0 y1 y46 e48 q q_2 q_3 q_4 q_5 xs_2 xs_6 xs_7 xs_5
 else
 ZR y0 y1 y46 e48 q q_2 q_3 q_4 q_5 xs_2 xs_6 xs_7 xs_5
def ZZ (rf_impl_chooser_search : Zb → Int → Option Zb) (y0 : Zb) (y1 : Int) : Int × Int × Bool × Int × Int × Int × List Int × List Int × List Int × List Int → Option ((Int × Int × Bool × Int × Int × Int × List Int × List Int × List Int × List Int) ⊕ (Zb))
 | (y46, q, q_2, q_3, q_4, q_5, xs_2, xs_3, xs_4, xs_5) =>
 bif decide (y46 < (([true, false] : List Bool).length : Int)) then
 (gIdx ([true, false] : List Bool) y46).bind fun e48 =>
 bif e48 then
 (Z1 (Zb.mk (Zs.mk q q_2) y0.qmatrix q_3 q_4 xs_3 xs_2 xs_4 q_5 xs_5) xs_3 y1 1).bind fun r57 =>
 (gApp 8 xs_4 [y1]).bind fun l65 =>
 ZaV rf_impl_chooser_search y0 y1 y46 q q_2 q_3 q_4 q_5 xs_2 xs_5 e48 r57 l65
 else
 ZaV rf_impl_chooser_search y0 y1 y46 q q_2 q_3 q_4 q_5 xs_2 xs_5 e48 xs_3 xs_4
 else
 (Z1 (Zb.mk (Zs.mk q q_2) y0.qmatrix q_3 q_4 xs_3 xs_2 xs_4 q_5 xs_5) xs_2 y1 1).bind fun r128 =>
 some (.inr ((Zb.mk (Zs.mk q q_2) y0.qmatrix q_3 q_4 xs_3 r128 xs_4 q_5 xs_5)))
def q_impl_chooser_search (rf_impl_chooser_search : Zb → Int → Option Zb) (y0 : Zb) (y1 : Int) : Option Zb :=
 (gIdx y0.qmatrix 0).bind fun e11 =>
 bif y1 == (e11.length : Int) then
 (Zax (Zb.mk (Zs.mk y0.qcounter.qleft y0.qcounter.qspent) y0.qmatrix y0.qlambda y0.qlimit y0.qsums y0.qlater y0.qchosen y0.qcount y0.qfirst)).bind fun r16 =>
 bif r16 then
 bif (y0.qcount : Int) == 0 then
 (Zbl y0.qchosen).bind fun r27 =>
 Zaw y0 r27
 else
 Zaw y0 y0.qfirst
 else
 some ((Zb.mk (Zs.mk y0.qcounter.qleft y0.qcounter.qspent) y0.qmatrix y0.qlambda y0.qlimit y0.qsums y0.qlater y0.qchosen y0.qcount y0.qfirst))
 else
 (Z1 (Zb.mk (Zs.mk y0.qcounter.qleft y0.qcounter.qspent) y0.qmatrix y0.qlambda y0.qlimit y0.qsums y0.qlater y0.qchosen y0.qcount y0.qfirst) y0.qlater y1 (-1)).bind fun r43 =>
 loop (ZZ rf_impl_chooser_search y0 y1) (0, y0.qcounter.qleft, y0.qcounter.qspent, y0.qlambda, y0.qlimit, y0.qcount, r43, y0.qsums, y0.qchosen, y0.qfirst)
def pn_impl_chooser_search : Nat → (Zb → Int → Option Zb)
 | 0 => (fun _ _ => none)
 | n + 1 => q_impl_chooser_search (pn_impl_chooser_search n)
def ZbL : Zb → Int → Option Zb := (pn_impl_chooser_search fuel)
def Zaq (m0 : List (List Int)) (lambda1 limit2 budget3 : Int) (l18 e25 : List Int) : Int × List Int → Option ((Int × List Int) ⊕ (Zb))
 | (y28, xs) =>
 bif decide (y28 < (e25.length : Int)) then
 (Z1 (Zb.mk (Zs.mk budget3 false) m0 lambda1 limit2 l18 xs ([] : List Int) 0 ([] : List Int)) xs y28 1).bind fun r37 =>
 some (.inl (IntKind.i64.wrap (y28 + 1), r37))
 else
 (ZbL (Zb.mk (Zs.mk budget3 false) m0 lambda1 limit2 l18 xs ([] : List Int) 0 ([] : List Int)) 0).bind fun r40 =>
 some (.inr ((Zb.mk (Zs.mk r40.qcounter.qleft r40.qcounter.qspent) m0 r40.qlambda r40.qlimit r40.qsums r40.qlater r40.qchosen r40.qcount r40.qfirst)))
def ZaH (m0 : List (List Int)) (lambda1 limit2 budget3 : Int) : Option Zb :=
 (gMake 8 (0 : Int) (m0.length : Int) (m0.length : Int)).bind fun l18 =>
 (gMake 8 (0 : Int) (m0.length : Int) (m0.length : Int)).bind fun l21 =>
 (gIdx m0 0).bind fun e25 =>
 loop (Zaq m0 lambda1 limit2 budget3 l18 e25) (0, l21)
def Zcp (m0 : List (List Int)) (lambda1 budget2 : Int) : Option ((List Int) × Int) :=
 (ZaH m0 lambda1 1 budget2).bind fun r23 =>
 bif r23.qcounter.qspent then
 some ((([] : List Int), 5))
 else
 bif (r23.qcount : Int) == 0 then
 some ((([] : List Int), 3))
 else
 some ((r23.qfirst, 0))
def Zbv (m0 : List (List Int)) (lambda1 budget2 : Int) : Option ((List Int) × Int) :=
 (Zan m0).bind fun r10 =>
 bif !r10 then
 some ((([] : List Int), 1))
 else
 (ZaU budget2).bind fun r13 =>
 bif !r13 then
 some ((([] : List Int), 2))
 else
 (Zar lambda1).bind fun r17 =>
 bif !r17 then
 some ((([] : List Int), 2))
 else
 Zcp m0 lambda1 budget2
def Zcr (m0 : List (List Int)) (lambda1 limit2 budget3 : Int) : Option (Int × Int) :=
 (ZaH m0 lambda1 limit2 budget3).bind fun r31 =>
 bif r31.qcounter.qspent then
 some ((0, 5))
 else
 some ((r31.qcount, 0))
def Zbk (m0 : List (List Int)) (lambda1 limit2 budget3 : Int) : Option (Int × Int) :=
 (Zan m0).bind fun r12 =>
 bif !r12 then
 some ((0, 1))
 else
 (ZaU budget3).bind fun r15 =>
 bif !r15 then
 some ((0, 2))
 else
 (Zar lambda1).bind fun r19 =>
 bif !r19 then
 some ((0, 2))
 else
 (ZP limit2 1 1000).bind fun r24 =>
 bif !r24 then
 some ((0, 2))
 else
 Zcr m0 lambda1 limit2 budget3
def ZX (list0 : List Int) (n1 : Int) : Int × Int → Option ((Int × Int) ⊕ (Bool))
 | (last5, y10) =>
 bif decide (y10 < (list0.length : Int)) then
 (gIdx list0 y10).bind fun e12 =>
 (ZP e12 (IntKind.i64.wrap (last5 + 1)) (IntKind.i64.wrap (n1 - 1))).bind fun r19 =>
 bif !r19 then
 some (.inr (false))
 else
 some (.inl (e12, IntKind.i64.wrap (y10 + 1)))
 else
 some (.inr (true))
def ZbK (list0 : List Int) (n1 : Int) : Option Bool :=
 loop (ZX list0 n1) ((-1), 0)
def ZcD (list0 : List Int) : Option Int :=
 some ((list0.length : Int))
def ZaP (row0 y1 : List Int) (y2 : Int) : Int × Int → Option ((Int × Int) ⊕ (Bool))
 | (sum5, y10) =>
 bif decide (y10 < (y1.length : Int)) then
 (gIdx y1 y10).bind fun e12 =>
 (gIdx row0 e12).bind fun e17 =>
 some (.inl (IntKind.i64.wrap (sum5 + e17), IntKind.i64.wrap (y10 + 1)))
 else
 some (.inr (sum5 != y2))
def ZaM (row0 y1 : List Int) (y2 : Int) : Option Bool :=
 loop (ZaP row0 y1 y2) (0, 0)
def ZbC (m0 : List (List Int)) (lambda1 : Int) (column2 : List Int) : Option (Bool × Int) :=
 (Zan m0).bind fun r9 =>
 bif !r9 then
 some ((false, 1))
 else
 (Zar lambda1).bind fun r12 =>
 bif !r12 then
 some ((false, 2))
 else
 (gIdx m0 0).bind fun e16 =>
 (ZcD e16).bind fun r18 =>
 (ZbK column2 r18).bind fun r19 =>
 bif !r19 then
 some ((false, 0))
 else
 (ZaN m0 (fun y0 => ZaM y0 column2 lambda1)).bind fun r23 =>
 some ((!r23, 0))
def ZcF (y0 : List Int) : Option Bool :=
 (Zcm y0).bind fun r13 =>
 bif r13 then
 some (true)
 else
 (Zbo y0).bind fun r16 =>
 (Zbv r16.1 r16.2.1 r16.2.2).bind fun r24 =>
 (Zbk r16.1 r16.2.1 1 r16.2.2).bind fun r31 =>
 bif r24.2 != 0 then
 bif r24.2 == 3 then
 bif r31.2 == 0 then
 bif r31.1 == 0 then
 some (((r24.1.length : Int) : Int) == 0)
 else
 some (false)
 else
 some (false)
 else
 bif r31.2 == r24.2 then
 some (((r24.1.length : Int) : Int) == 0)
 else
 some (false)
 else
 (ZbC r16.1 r16.2.1 r24.1).bind fun r61 =>
 bif r31.2 == 0 then
 bif r31.1 == 1 then
 bif r61.2 == 0 then
 some (r61.1)
 else
 some (false)
 else
 some (false)
 else
 some (false)
end
end Go.Proofs.Ytocnokjekoglnaa
