import Derived.Test.YtocnokjekoglnaaGreatPuCmp
namespace Go.Proofs.YtocnokjekoglnaaGreat
set_option linter.unusedSimpArgs false
open Go Go.Vc
set_option linter.unusedVariables false
structure Za where
 qcode : List Int
 qat : Int
 qseed : Int
structure Zb where
 Degree : Int
 Elements : List (List Int)
structure ZI where
 qleft : Int
 qspent : Bool
structure Zg where
 qcounter : ZI
 qmatrix : List (List Int)
 qlambda : Int
 qlimit : Int
 qsums : List Int
 qlater : List Int
 qchosen : List Int
 qcount : Int
 qfirst : List Int
structure Zj where
 Points : Int
 Blocks : List (List Int)
noncomputable section
def Ze8 (code0 : List Int) : Option Bool :=
 some (decide (((code0.length : Int) : Int) > 1048576))
def ZeD (code0 : List Int) : Option Za :=
 some ((Za.mk code0 0 0))
def ZaO (a0 b1 : List Int) : Option (Int) :=
 bif decide (((a0.length : Int) : Int) < (b1.length : Int)) then
 some ((-1))
 else
 bif decide (((a0.length : Int) : Int) > (b1.length : Int)) then
 some (1)
 else
 some (0)
def Za3 (a0 b1 : List Int) (i5 : Int) : Option ((Int) ⊕ (Int)) :=
 (gIdx a0 i5).bind fun e20 =>
 (gIdx b1 i5).bind fun e24 =>
 bif decide (e20 < e24) then
 some (.inr ((-1)))
 else
 (gIdx a0 i5).bind fun e29 =>
 (gIdx b1 i5).bind fun e33 =>
 bif decide (e29 > e33) then
 some (.inr (1))
 else
 some (.inl (IntKind.i64.wrap (i5 + 1)))
def Zak (a0 b1 : List Int) : Int → Option ((Int) ⊕ (Int))
 | i5 =>
 bif decide (i5 < (a0.length : Int)) then
 bif decide (i5 < (b1.length : Int)) then
 Za3 a0 b1 i5
 else
 (ZaO a0 b1).map fun x => .inr (x)
 else
 (ZaO a0 b1).map fun x => .inr (x)
def ZaL (a0 b1 : List Int) : Option Int :=
 loop (Zak a0 b1) (0)
def Zbt (lists0 : List (List Int)) (i7 : Int) (out5_2 : List (List Int)) (done6_2 : Bool) : Option ((List (List Int) × Bool × Int) ⊕ (List (List Int))) :=
 (gIdx lists0 i7).bind fun e37 =>
 (gApp 24 out5_2 [e37]).bind fun l40 =>
 some (.inl (l40, done6_2, IntKind.i64.wrap (i7 + 1)))
def ZcE (lists0 : List (List Int)) (x1 : List Int) (out5 : List (List Int)) (done6 : Bool) (i7 r21 : Int) (y27 : Bool) : Option ((List (List Int) × Bool × Int) ⊕ (List (List Int))) :=
 bif y27 then
 bif decide (r21 > 0) then
 (gApp 24 out5 [x1]).bind fun l33 =>
 Zbt lists0 i7 l33 true
 else
 Zbt lists0 i7 out5 true
 else
 Zbt lists0 i7 out5 done6
def Zdi (lists0 : List (List Int)) (x1 : List Int) : List (List Int) × Bool × Int → Option ((List (List Int) × Bool × Int) ⊕ (List (List Int)))
 | (out5, done6, i7) =>
 bif decide (i7 < (lists0.length : Int)) then
 (gIdx lists0 i7).bind fun e18 =>
 (ZaL e18 x1).bind fun r21 =>
 bif !done6 then
 ZcE lists0 x1 out5 done6 i7 r21 (decide (r21 ≥ 0))
 else
 ZcE lists0 x1 out5 done6 i7 r21 false
 else
 bif !done6 then
 (gApp 24 out5 [x1]).bind fun l46 =>
 some (.inr (l46))
 else
 some (.inr (out5))
def ZdY (lists0 : List (List Int)) (x1 : List Int) : Option (List (List Int)) :=
 loop (Zdi lists0 x1) (([] : List (List Int)), false, 0)
def Zc4 (degree0 : Int) (list1 : List (List Int)) : List (List Int) × Int → Option ((List (List Int) × Int) ⊕ (Zb))
 | (out5, i6) =>
 bif decide (i6 < (list1.length : Int)) then
 (gIdx list1 i6).bind fun e17 =>
 (ZdY out5 e17).bind fun r19 =>
 some (.inl (r19, IntKind.i64.wrap (i6 + 1)))
 else
 some (.inr ((Zb.mk degree0 out5)))
def ZdV (degree0 : Int) (list1 : List (List Int)) : Option Zb :=
 loop (Zc4 degree0 list1) (([] : List (List Int)), 0)
def Zd8 (n0 : Int) (factor1 : List Int) (i6 : Int) (list5_2 : List (List Int)) (b7 : Int) : List Int × Int → Option ((List Int × Int) ⊕ ((List (List Int) × Int) ⊕ ((List (List Int) × Int) ⊕ (Zb))))
 | (p8, x9) =>
 bif decide (x9 < n0) then
 (gIdx factor1 i6).bind fun e31 =>
 (gNz n0).bind fun _ =>
 (gApp 8 p8 [Int.tmod (IntKind.i64.wrap ((IntKind.i64.wrap (e31 * x9)) + b7)) n0]).bind fun l40 =>
 some (.inl (l40, IntKind.i64.wrap (x9 + 1)))
 else
 (gApp 24 list5_2 [p8]).bind fun l44 =>
 some (.inr (.inl (l44, IntKind.i64.wrap (b7 + 1))))
def Zdu (n0 : Int) (factor1 : List Int) (i6 : Int) : List (List Int) × Int → Option ((List (List Int) × Int) ⊕ ((List (List Int) × Int) ⊕ (Zb)))
 | (list5_2, b7) =>
 bif decide (b7 < n0) then
 loop (Zd8 n0 factor1 i6 list5_2 b7) (([] : List Int), 0)
 else
 some (.inr (.inl (list5_2, IntKind.i64.wrap (i6 + 1))))
def Zdl (n0 : Int) (factor1 : List Int) : List (List Int) × Int → Option ((List (List Int) × Int) ⊕ (Zb))
 | (list5, i6) =>
 bif decide (i6 < (factor1.length : Int)) then
 loop (Zdu n0 factor1 i6) (list5, 0)
 else
 (ZdV n0 list5).bind fun r47 =>
 some (.inr ((Zb.mk r47.Degree r47.Elements)))
def ZaR (n0 : Int) (factor1 : List Int) : Option Zb :=
 loop (Zdl n0 factor1) (([] : List (List Int)), 0)
def Zco (s0 : Za) (b3 : Int) : Option (Int × Za) :=
 bif decide ((IntKind.i64.wrap (s0.qat + 1) : Int) ≤ (s0.qcode.length : Int)) then
 some ((b3, (Za.mk s0.qcode (IntKind.i64.wrap (s0.qat + 1)) (IntKind.u64.wrap ((IntKind.u64.wrap ((IntKind.u64.wrap (s0.qseed * 6364136223846793005)) + (IntKind.u64.wrap b3))) + 1442695040888963407)))))
 else
 (gNn 40).bind fun _ =>
 some ((IntKind.i64.wrap (IntKind.u64.wrap ((BitVec.ofInt IntKind.u64.bits (Int.fdiv (IntKind.u64.wrap ((IntKind.u64.wrap ((IntKind.u64.wrap (s0.qseed * 6364136223846793005)) + (IntKind.u64.wrap b3))) + 1442695040888963407)) (2 ^ min (40 : Int).toNat IntKind.u64.bits)) &&& BitVec.ofInt IntKind.u64.bits 255).toNat : Int)), (Za.mk s0.qcode (IntKind.i64.wrap (s0.qat + 1)) (IntKind.u64.wrap ((IntKind.u64.wrap ((IntKind.u64.wrap (s0.qseed * 6364136223846793005)) + (IntKind.u64.wrap b3))) + 1442695040888963407)))))
def ZbO (s0 : Za) : Option (Int × Za) :=
 bif decide ((s0.qat : Int) < (s0.qcode.length : Int)) then
 (gIdx s0.qcode s0.qat).bind fun e22 =>
 Zco s0 (IntKind.i64.wrap e22)
 else
 Zco s0 0
def ZG (s0 : Za) (n1 : Int) : Option (Int × Za) :=
 bif decide (n1 ≤ 1) then
 some ((0, (Za.mk s0.qcode s0.qat s0.qseed)))
 else
 (ZbO (Za.mk s0.qcode s0.qat s0.qseed)).bind fun r9 =>
 bif decide (n1 > 200) then
 (ZbO (Za.mk s0.qcode r9.2.qat r9.2.qseed)).bind fun r15 =>
 (gNz n1).bind fun _ =>
 some ((Int.tmod (IntKind.i64.wrap ((IntKind.i64.wrap (r9.1 * 256)) + r15.1)) n1, (Za.mk s0.qcode r15.2.qat r15.2.qseed)))
 else
 (gNz n1).bind fun _ =>
 some ((Int.tmod r9.1 n1, (Za.mk s0.qcode r9.2.qat r9.2.qseed)))
def ZQ (s0 : Za) (list1 : List Int) : Option (Int × Za) :=
 (ZG (Za.mk s0.qcode s0.qat s0.qseed) (list1.length : Int)).bind fun r9 =>
 (gIdx list1 r9.1).bind fun e10 =>
 some ((e10, (Za.mk s0.qcode r9.2.qat r9.2.qseed)))
def Za6 (n0 low1 high2 : Int) : Option Bool :=
 bif decide (n0 ≥ low1) then
 some (decide (n0 ≤ high2))
 else
 some (false)
def ZeY (n0 : Int) : Int → Option ((Int) ⊕ (Bool))
 | d3 =>
 bif decide ((IntKind.i64.wrap (d3 * d3) : Int) ≤ n0) then
 (gNz d3).bind fun _ =>
 bif (Int.tmod n0 d3 : Int) == 0 then
 some (.inr (false))
 else
 some (.inl (IntKind.i64.wrap (d3 + 1)))
 else
 some (.inr (true))
def Zdc (n0 : Int) : Option Bool :=
 (Za6 n0 2 1000000).bind fun r5 =>
 bif !r5 then
 some (false)
 else
 loop (ZeY n0) (2)
def ZbU (m2 a0_2 e1_2 out7_2 : Int) : Option ((Int × Int × Int) ⊕ (Int)) :=
 (gNz m2).bind fun _ =>
 (gNz 2).bind fun _ =>
 some (.inl (Int.tmod (IntKind.i64.wrap (a0_2 * a0_2)) m2, IntKind.i64.wrap (Int.tdiv e1_2 2), out7_2))
def ZeZ (m2 : Int) : Int × Int × Int → Option ((Int × Int × Int) ⊕ (Int))
 | (a0_2, e1_2, out7) =>
 bif decide (e1_2 > 0) then
 (gNz 2).bind fun _ =>
 bif (Int.tmod e1_2 2 : Int) == 1 then
 (gNz m2).bind fun _ =>
 ZbU m2 a0_2 e1_2 (Int.tmod (IntKind.i64.wrap (out7 * a0_2)) m2)
 else
 ZbU m2 a0_2 e1_2 out7
 else
 some (.inr (out7))
def Zer (a0 e1 m2 : Int) : Option Int :=
 (gNz m2).bind fun _ =>
 loop (ZeZ m2) (a0, e1, Int.tmod 1 m2)
def Zd2 (p0 e1 : Int) : List Int × Int → Option ((List Int × Int) ⊕ (Zb × Int))
 | (factor6, a7) =>
 bif decide (a7 < p0) then
 (Zer a7 e1 p0).bind fun r44 =>
 bif r44 == 1 then
 (gApp 8 factor6 [a7]).bind fun l49 =>
 some (.inl (l49, IntKind.i64.wrap (a7 + 1)))
 else
 some (.inl (factor6, IntKind.i64.wrap (a7 + 1)))
 else
 (ZaR p0 factor6).bind fun r52 =>
 some (.inr (((Zb.mk r52.Degree r52.Elements), 0)))
def ZdW (p0 e1 : Int) : Option (Zb × Int) :=
 bif decide ((IntKind.i64.wrap (p0 * e1) : Int) > 720) then
 some (((Zb.mk 0 ([] : List (List Int))), 5))
 else
 loop (Zd2 p0 e1) (([] : List Int), 1)
def Zbp (p0 e1 : Int) : Option (Zb × Int) :=
 (Zdc p0).bind fun r9 =>
 bif !r9 then
 some (((Zb.mk 0 ([] : List (List Int))), 2))
 else
 bif decide (p0 > 32) then
 some (((Zb.mk 0 ([] : List (List Int))), 2))
 else
 (Za6 e1 1 (IntKind.i64.wrap (p0 - 1))).bind fun r19 =>
 bif !r19 then
 some (((Zb.mk 0 ([] : List (List Int))), 2))
 else
 (gNz e1).bind fun _ =>
 bif (Int.tmod (IntKind.i64.wrap (p0 - 1)) e1 : Int) != 0 then
 some (((Zb.mk 0 ([] : List (List Int))), 2))
 else
 ZdW p0 e1
def Zdy (n0 a1 b2 : Int) : List Int × Int → Option ((List Int × Int) ⊕ (List Int))
 | (out7, x8) =>
 bif decide (x8 < n0) then
 (gNz n0).bind fun _ =>
 (gApp 8 out7 [Int.tmod (IntKind.i64.wrap ((IntKind.i64.wrap (a1 * x8)) + b2)) n0]).bind fun l24 =>
 some (.inl (l24, IntKind.i64.wrap (x8 + 1)))
 else
 some (.inr (out7))
def Zaw (n0 a1 b2 : Int) : Option (List Int) :=
 loop (Zdy n0 a1 b2) (([] : List Int), 0)
def ZcC (n0 : Int) : List Int × Int → Option ((List Int × Int) ⊕ (List Int))
 | (out3, i4) =>
 bif decide (i4 < n0) then
 (gApp 8 out3 [i4]).bind fun l14 =>
 some (.inl (l14, IntKind.i64.wrap (i4 + 1)))
 else
 some (.inr (out3))
def Zbu (n0 : Int) : Option (List Int) :=
 loop (ZcC n0) (([] : List Int), 0)
def Zca (s0 : Za) : Int × Int × Int × List Int → Option ((Int × Int × Int × List Int) ⊕ ((List Int) × Za))
 | (i6, q, q_2, xs) =>
 bif decide (i6 > 0) then
 (ZG (Za.mk s0.qcode q q_2) (IntKind.i64.wrap (i6 + 1))).bind fun r20 =>
 (gIdx xs i6).bind fun e23 =>
 (gIdx xs r20.1).bind fun e29 =>
 (gIdx xs i6).bind fun e31 =>
 (gIdx (xs.set i6.toNat e29) r20.1).bind fun e35 =>
 some (.inl (IntKind.i64.wrap (i6 - 1), r20.2.qat, r20.2.qseed, ((xs.set i6.toNat e29).set r20.1.toNat e23)))
 else
 some (.inr ((xs, (Za.mk s0.qcode q q_2))))
def ZdI (s0 : Za) (n1 : Int) : Option ((List Int) × Za) :=
 (Zbu n1).bind fun r10 =>
 loop (Zca s0) (IntKind.i64.wrap (n1 - 1), s0.qat, s0.qseed, r10)
def Zb3 (s0 : Za) (r43 : Int × Za) : List (List Int) × Int × Int × Int → Option ((List (List Int) × Int × Int × Int) ⊕ (Int × (List (List Int)) × Za))
 | (list5, k6, q, q_2) =>
 bif decide (k6 > 0) then
 (ZdI (Za.mk s0.qcode q q_2) (IntKind.i64.wrap (1 + r43.1))).bind fun r55 =>
 (gApp 24 list5 [r55.1]).bind fun l57 =>
 some (.inl (l57, IntKind.i64.wrap (k6 - 1), r55.2.qat, r55.2.qseed))
 else
 some (.inr ((IntKind.i64.wrap (1 + r43.1), list5, (Za.mk s0.qcode q q_2))))
def Zcj (s0 : Za) : Option (Int × (List (List Int)) × Za) :=
 (ZG (Za.mk s0.qcode s0.qat s0.qseed) 8).bind fun r8 =>
 (ZG (Za.mk s0.qcode r8.2.qat r8.2.qseed) 4).bind fun r11 =>
 bif r11.1 == 0 then
 (Zaw (IntKind.i64.wrap (1 + r8.1)) 1 1).bind fun r16 =>
 some ((IntKind.i64.wrap (1 + r8.1), [r16], (Za.mk s0.qcode r11.2.qat r11.2.qseed)))
 else
 bif r11.1 == 1 then
 (Zaw (IntKind.i64.wrap (1 + r8.1)) 1 1).bind fun r22 =>
 (Zaw (IntKind.i64.wrap (1 + r8.1)) (IntKind.i64.wrap ((IntKind.i64.wrap (1 + r8.1)) - 1)) 0).bind fun r26 =>
 some ((IntKind.i64.wrap (1 + r8.1), [r22, r26], (Za.mk s0.qcode r11.2.qat r11.2.qseed)))
 else
 bif r11.1 == 2 then
 (ZQ (Za.mk s0.qcode r11.2.qat r11.2.qseed) ([5, 7, 11, 13] : List Int)).bind fun r32 =>
 (Zaw r32.1 1 1).bind fun r35 =>
 (ZQ (Za.mk s0.qcode r32.2.qat r32.2.qseed) ([2, 3, 4] : List Int)).bind fun r39 =>
 (Zaw r32.1 r39.1 0).bind fun r40 =>
 some ((r32.1, [r35, r40], (Za.mk s0.qcode r39.2.qat r39.2.qseed)))
 else
 (ZG (Za.mk s0.qcode r11.2.qat r11.2.qseed) 5).bind fun r43 =>
 (ZG (Za.mk s0.qcode r43.2.qat r43.2.qseed) 3).bind fun r47 =>
 loop (Zb3 s0 r43) (([] : List (List Int)), r47.1, r47.2.qat, r47.2.qseed)
def ZcL (p0 q1 : List Int) : List Int × Int → Option ((List Int × Int) ⊕ (List Int))
 | (out5, i6) =>
 bif decide (i6 < (p0.length : Int)) then
 (gIdx p0 i6).bind fun e18 =>
 (gIdx q1 e18).bind fun e20 =>
 (gApp 8 out5 [e20]).bind fun l23 =>
 some (.inl (l23, IntKind.i64.wrap (i6 + 1)))
 else
 some (.inr (out5))
def Zdg (p0 q1 : List Int) : Option (List Int) :=
 loop (ZcL p0 q1) (([] : List Int), 0)
def Zai (list0 : List (List Int)) (p1 : List Int) : Int × Int → Option ((Int × Int) ⊕ (Int × Bool))
 | (low6, high7) =>
 bif decide (low6 < high7) then
 (gNz 2).bind fun _ =>
 (gIdx list0 (IntKind.i64.wrap (Int.tdiv (IntKind.i64.wrap (low6 + high7)) 2))).bind fun e21 =>
 (ZaL e21 p1).bind fun r24 =>
 bif r24 == 0 then
 some (.inr ((IntKind.i64.wrap (Int.tdiv (IntKind.i64.wrap (low6 + high7)) 2), true)))
 else
 bif decide (r24 < 0) then
 some (.inl (IntKind.i64.wrap ((IntKind.i64.wrap (Int.tdiv (IntKind.i64.wrap (low6 + high7)) 2)) + 1), high7))
 else
 some (.inl (low6, IntKind.i64.wrap (Int.tdiv (IntKind.i64.wrap (low6 + high7)) 2)))
 else
 some (.inr ((low6, false)))
def ZcK (list0 : List (List Int)) (p1 : List Int) : Option (Int × Bool) :=
 loop (Zai list0 p1) (0, (list0.length : Int))
def Zc6 (list0 : List (List Int)) (at1 : Int) (p2 : List Int) : Option (List (List Int)) :=
 (gSl list0 0 at1).bind fun l11 =>
 (gApp 24 ([] : List (List Int)) l11).bind fun l12 =>
 (gApp 24 l12 [p2]).bind fun l16 =>
 (gSl list0 at1 (list0.length : Int)).bind fun l20 =>
 (gApp 24 l16 l20).bind fun l21 =>
 some (l21)
def Z6 (genera1 : List (List Int)) (most2 i11 : Int) : List (List Int) × List (List Int) × Int → Option ((List (List Int) × List (List Int) × Int) ⊕ ((List (List Int) × List (List Int) × Int) ⊕ ((List (List Int)) × Bool)))
 | (list9_2, queue10_2, k12) =>
 bif decide (k12 < (genera1.length : Int)) then
 (gIdx queue10_2 i11).bind fun e36 =>
 (gIdx genera1 k12).bind fun e40 =>
 (Zdg e36 e40).bind fun r42 =>
 (ZcK list9_2 r42).bind fun r46 =>
 bif r46.2 then
 some (.inl (list9_2, queue10_2, IntKind.i64.wrap (k12 + 1)))
 else
 bif ((list9_2.length : Int) : Int) == most2 then
 some (.inr (.inr ((([] : List (List Int)), false))))
 else
 (Zc6 list9_2 r46.1 r42).bind fun r57 =>
 (gApp 24 queue10_2 [r42]).bind fun l61 =>
 some (.inl (r57, l61, IntKind.i64.wrap (k12 + 1)))
 else
 some (.inr (.inl (list9_2, queue10_2, IntKind.i64.wrap (i11 + 1))))
def ZaP (genera1 : List (List Int)) (most2 : Int) : List (List Int) × List (List Int) × Int → Option ((List (List Int) × List (List Int) × Int) ⊕ ((List (List Int)) × Bool))
 | (list9, queue10, i11) =>
 bif decide (i11 < (queue10.length : Int)) then
 loop (Z6 genera1 most2 i11) (list9, queue10, 0)
 else
 some (.inr ((list9, true)))
def Zcx (degree0 : Int) (genera1 : List (List Int)) (most2 : Int) : Option ((List (List Int)) × Bool) :=
 (Zbu degree0).bind fun r17 =>
 loop (ZaP genera1 most2) ([r17], [r17], 0)
def ZdD (list0 : List Int) : Option (List Int) :=
 (gApp 8 ([] : List Int) list0).bind fun l5 =>
 some (l5)
def ZcO (list0 out3 : List (List Int)) (i4 k5 : Int) : Option ((List (List Int) × Int) ⊕ (List (List Int))) :=
 (gSl out3 0 k5).bind fun l36 =>
 (gApp 24 ([] : List (List Int)) l36).bind fun l37 =>
 (gIdx list0 i4).bind fun e41 =>
 (ZdD e41).bind fun r43 =>
 (gApp 24 l37 [r43]).bind fun l45 =>
 (gSl out3 k5 (out3.length : Int)).bind fun l49 =>
 (gApp 24 l45 l49).bind fun l50 =>
 some (.inl (l50, IntKind.i64.wrap (i4 + 1)))
def Zb6 (list0 out3 : List (List Int)) (i4 : Int) : Int → Option ((Int) ⊕ ((List (List Int) × Int) ⊕ (List (List Int))))
 | k5_2 =>
 bif decide (k5_2 > 0) then
 (gIdx out3 (IntKind.i64.wrap (k5_2 - 1))).bind fun e22 =>
 (gIdx list0 i4).bind fun e26 =>
 (ZaL e22 e26).bind fun r28 =>
 bif decide (r28 > 0) then
 some (.inl (IntKind.i64.wrap (k5_2 - 1)))
 else
 (ZcO list0 out3 i4 k5_2).map fun x => .inr (x)
 else
 (ZcO list0 out3 i4 k5_2).map fun x => .inr (x)
def Zbl (list0 : List (List Int)) : List (List Int) × Int → Option ((List (List Int) × Int) ⊕ (List (List Int)))
 | (out3, i4) =>
 bif decide (i4 < (list0.length : Int)) then
 loop (Zb6 list0 out3 i4) ((out3.length : Int))
 else
 some (.inr (out3))
def Zeb (list0 : List (List Int)) : Option (List (List Int)) :=
 loop (Zbl list0) (([] : List (List Int)), 0)
def Zcl (s0 : Za) (r9 : Int × (List (List Int)) × Za) (all5 : List (List Int)) : Option (Zb × Za) :=
 (Zeb all5).bind fun r25 =>
 some (((Zb.mk r9.1 r25), (Za.mk s0.qcode r9.2.2.qat r9.2.2.qseed)))
def Zbw (s0 : Za) : Option (Zb × Za) :=
 (Zcj (Za.mk s0.qcode s0.qat s0.qseed)).bind fun r9 =>
 (Zcx r9.1 r9.2.1 720).bind fun r15 =>
 bif !r15.2 then
 (Zbu r9.1).bind fun r21 =>
 Zcl s0 r9 ([r21])
 else
 Zcl s0 r9 r15.1
def Zd9 (s0 : Za) : Option (Zb × Za) :=
 (Zbw (Za.mk s0.qcode s0.qat s0.qseed)).bind fun r5 =>
 (ZG (Za.mk s0.qcode r5.2.qat r5.2.qseed) 20).bind fun r7 =>
 bif r7.1 == 0 then
 (ZQ (Za.mk s0.qcode r7.2.qat r7.2.qseed) ([0, 1, 33] : List Int)).bind fun r12 =>
 some (((Zb.mk r12.1 r5.1.Elements), (Za.mk s0.qcode r12.2.qat r12.2.qseed)))
 else
 bif r7.1 == 1 then
 (gSl r5.1.Elements 1 (r5.1.Elements.length : Int)).bind fun l18 =>
 some (((Zb.mk r5.1.Degree l18), (Za.mk s0.qcode r7.2.qat r7.2.qseed)))
 else
 bif r7.1 == 2 then
 (gIdx r5.1.Elements 0).bind fun e26 =>
 (gApp 24 r5.1.Elements [e26]).bind fun l29 =>
 some (((Zb.mk r5.1.Degree l29), (Za.mk s0.qcode r7.2.qat r7.2.qseed)))
 else
 bif r7.1 == 3 then
 bif decide (((r5.1.Elements.length : Int) : Int) > 2) then
 (gSl r5.1.Elements 0 (IntKind.i64.wrap ((r5.1.Elements.length : Int) - 1))).bind fun l44 =>
 (gApp 24 ([] : List (List Int)) l44).bind fun l45 =>
 some (((Zb.mk r5.1.Degree l45), (Za.mk s0.qcode r7.2.qat r7.2.qseed)))
 else
 some (((Zb.mk r5.1.Degree r5.1.Elements), (Za.mk s0.qcode r7.2.qat r7.2.qseed)))
 else
 some (((Zb.mk r5.1.Degree r5.1.Elements), (Za.mk s0.qcode r7.2.qat r7.2.qseed)))
def ZcA (s0 : Za) : Option (Zb × Za) :=
 (ZG (Za.mk s0.qcode s0.qat s0.qseed) 6).bind fun r9 =>
 bif r9.1 == 0 then
 (ZG (Za.mk s0.qcode r9.2.qat r9.2.qseed) 11).bind fun r13 =>
 (ZaR (IntKind.i64.wrap (r13.1 + 1)) ([1] : List Int)).bind fun r16 =>
 some (((Zb.mk r16.Degree r16.Elements), (Za.mk s0.qcode r13.2.qat r13.2.qseed)))
 else
 bif r9.1 == 1 then
 (ZQ (Za.mk s0.qcode r9.2.qat r9.2.qseed) ([1, 2, 3, 6] : List Int)).bind fun r22 =>
 (Zbp 7 r22.1).bind fun r23 =>
 some (((Zb.mk r23.1.Degree r23.1.Elements), (Za.mk s0.qcode r22.2.qat r22.2.qseed)))
 else
 bif r9.1 == 2 then
 (ZQ (Za.mk s0.qcode r9.2.qat r9.2.qseed) ([5, 11, 13] : List Int)).bind fun r31 =>
 (ZQ (Za.mk s0.qcode r31.2.qat r31.2.qseed) ([1, 2, 4] : List Int)).bind fun r36 =>
 (Zbp r31.1 r36.1).bind fun r37 =>
 bif r37.1.Degree == 0 then
 (ZaR r31.1 ([1] : List Int)).bind fun r45 =>
 some (((Zb.mk r45.Degree r45.Elements), (Za.mk s0.qcode r36.2.qat r36.2.qseed)))
 else
 some (((Zb.mk r37.1.Degree r37.1.Elements), (Za.mk s0.qcode r36.2.qat r36.2.qseed)))
 else
 bif r9.1 == 3 then
 (Zd9 (Za.mk s0.qcode r9.2.qat r9.2.qseed)).bind fun r50 =>
 some (((Zb.mk r50.1.Degree r50.1.Elements), (Za.mk s0.qcode r50.2.qat r50.2.qseed)))
 else
 (Zbw (Za.mk s0.qcode r9.2.qat r9.2.qseed)).bind fun r52 =>
 some (((Zb.mk r52.1.Degree r52.1.Elements), (Za.mk s0.qcode r52.2.qat r52.2.qseed)))
def ZbQ (s0 : Za) (n1 : Int) : Option (Bool × Za) :=
 (ZG (Za.mk s0.qcode s0.qat s0.qseed) n1).bind fun r7 =>
 some ((r7.1 == 0, (Za.mk s0.qcode r7.2.qat r7.2.qseed)))
def ZbW (s0 : Za) : Option (Int × Za) :=
 (ZbQ (Za.mk s0.qcode s0.qat s0.qseed) 8).bind fun r4 =>
 bif r4.1 then
 (ZQ (Za.mk s0.qcode r4.2.qat r4.2.qseed) ([0, (-1), 2000, 2001] : List Int)).bind fun r7 =>
 some ((r7.1, (Za.mk s0.qcode r7.2.qat r7.2.qseed)))
 else
 (ZG (Za.mk s0.qcode r4.2.qat r4.2.qseed) 5).bind fun r9 =>
 some ((IntKind.i64.wrap (r9.1 + 1), (Za.mk s0.qcode r9.2.qat r9.2.qseed)))
def ZcI (s0 : Za) : Option (Int × Za) :=
 (ZG (Za.mk s0.qcode s0.qat s0.qseed) 8).bind fun r4 =>
 bif r4.1 == 0 then
 (ZQ (Za.mk s0.qcode r4.2.qat r4.2.qseed) ([0, 1, (-1), 20000, 20001] : List Int)).bind fun r9 =>
 some ((r9.1, (Za.mk s0.qcode r9.2.qat r9.2.qseed)))
 else
 bif r4.1 == 1 then
 (ZG (Za.mk s0.qcode r4.2.qat r4.2.qseed) 30).bind fun r13 =>
 some ((IntKind.i64.wrap (r13.1 + 1), (Za.mk s0.qcode r13.2.qat r13.2.qseed)))
 else
 (ZG (Za.mk s0.qcode r4.2.qat r4.2.qseed) 1000).bind fun r16 =>
 some ((IntKind.i64.wrap (300 + r16.1), (Za.mk s0.qcode r16.2.qat r16.2.qseed)))
def Zck (r13 : Za) (q : Int) (xs : List (List Int)) (q_2 q_3 : Int) : Option (Zb × Int × Int × Int × Int) :=
 (ZQ (Za.mk r13.qcode q_2 q_3) ([2, 2, 2, 1, 3, 0, (-1)] : List Int)).bind fun r25 =>
 (ZQ (Za.mk r13.qcode r25.2.qat r25.2.qseed) ([3, 3, 4, 2, 1, 0, 5] : List Int)).bind fun r28 =>
 (ZbW (Za.mk r13.qcode r28.2.qat r28.2.qseed)).bind fun r30 =>
 (ZcI (Za.mk r13.qcode r30.2.qat r30.2.qseed)).bind fun r36 =>
 some (((Zb.mk q xs), r25.1, r28.1, r30.1, r36.1))
def Zd0 (code0 : List Int) : Option (Zb × Int × Int × Int × Int) :=
 (ZeD code0).bind fun r13 =>
 (ZcA (Za.mk r13.qcode r13.qat r13.qseed)).bind fun r15 =>
 (ZbQ (Za.mk r13.qcode r15.2.qat r15.2.qseed) 2).bind fun r17 =>
 bif r17.1 then
 (ZQ (Za.mk r13.qcode r17.2.qat r17.2.qseed) ([5, 6, 7, 9, 11, 13] : List Int)).bind fun r20 =>
 (ZaR r20.1 ([1] : List Int)).bind fun r22 =>
 Zck r13 r22.Degree r22.Elements r20.2.qat r20.2.qseed
 else
 Zck r13 r15.1.Degree r15.1.Elements r17.2.qat r17.2.qseed
def ZL (n0 low1 high2 : Int) : Option Bool :=
 bif decide (n0 ≥ low1) then
 some (decide (n0 ≤ high2))
 else
 some (false)
def ZcT (x0 : Int) : Option Bool :=
 some (x0 != x0)
def Zc5 (x0 y1 : Int) : Option Int :=
 (ZcT x0).bind fun r8 =>
 (ZcT y1).bind fun r10 =>
 bif r8 then
 bif r10 then
 some (0)
 else
 some ((-1))
 else
 bif r10 then
 some (1)
 else
 bif decide (x0 < y1) then
 some ((-1))
 else
 bif decide (x0 > y1) then
 some (1)
 else
 some (0)
def ZaE (s0 s1 : List Int) : Int → Option ((Int) ⊕ (Int))
 | y11 =>
 bif decide (y11 < (s0.length : Int)) then
 (gIdx s0 y11).bind fun e14 =>
 bif decide (y11 ≥ (s1.length : Int)) then
 some (.inr (1))
 else
 (gIdx s1 y11).bind fun e22 =>
 (Zc5 e14 e22).bind fun r26 =>
 bif r26 != 0 then
 some (.inr (r26))
 else
 some (.inl (IntKind.i64.wrap (y11 + 1)))
 else
 bif decide (((s0.length : Int) : Int) < (s1.length : Int)) then
 some (.inr ((-1)))
 else
 some (.inr (0))
def ZR (s0 s1 : List Int) : Option Int :=
 loop (ZaE s0 s1) (0)
def Za1 (s0 : List (List Int)) (fn1 : (List Int) → Option Bool) : Int → Option ((Int) ⊕ (Int))
 | y8 =>
 bif decide (y8 < (s0.length : Int)) then
 (gIdx s0 y8).bind fun e14 =>
 (fn1 e14).bind fun r16 =>
 bif r16 then
 some (.inr (y8))
 else
 some (.inl (IntKind.i64.wrap (y8 + 1)))
 else
 some (.inr ((-1)))
def Zfe (s0 : List (List Int)) (fn1 : (List Int) → Option Bool) : Option Int :=
 loop (Za1 s0 fn1) (0)
def Za8 (s0 : List (List Int)) (fn1 : (List Int) → Option Bool) : Option Bool :=
 (Zfe s0 fn1).bind fun r7 =>
 some (decide (r7 ≥ 0))
def ZaI (list0 : List Int) : Option Int :=
 some ((list0.length : Int))
def Zcd (x0 : List Int) : Option (List Int) := if x0.length < 4611686018427387904 then some (sortI x0) else none
def Zae (a0 : List Int) : Option (List Int) := gApp 8 [] a0
def Zcq (p0 r9 : List Int) : Int → Option ((Int) ⊕ (Bool))
 | y12 =>
 bif decide (y12 < (r9.length : Int)) then
 (gIdx r9 y12).bind fun e15 =>
 bif e15 != y12 then
 some (.inr (false))
 else
 some (.inl (IntKind.i64.wrap (y12 + 1)))
 else
 some (.inr (decide (((p0.length : Int) : Int) ≤ 32)))
def Zc9 (p0 : List Int) : Option Bool :=
 (Zae p0).bind fun r7 =>
 (Zcd r7).bind fun r9 =>
 loop (Zcq p0 r9) (0)
def Zfc (p0 : List Int) (y1 : Int) : Option Bool :=
 (ZaI p0).bind fun r5 =>
 bif r5 != y1 then
 some (true)
 else
 (Zc9 p0).bind fun r10 =>
 some (!r10)
def ZdU (degree0 : Int) (list1 : List (List Int)) : Option Bool :=
 (Za8 list1 (fun y0 => Zfc y0 degree0)).bind fun r7 =>
 some (!r7)
def ZaA (l6 : List Int) : Int × List Int → Option ((Int × List Int) ⊕ (List Int))
 | (y9, xs) =>
 bif decide (y9 < (l6.length : Int)) then
 (gIdx xs y9).bind fun e15 =>
 some (.inl (IntKind.i64.wrap (y9 + 1), (xs.set y9.toNat y9)))
 else
 some (.inr (xs))
def Zbd (n0 : Int) : Option (List Int) :=
 (gMake 8 (0 : Int) n0 n0).bind fun l6 =>
 loop (ZaA l6) (0, l6)
open Classical in
def ZaM (x0 : List (List Int)) (fn1 : (List Int) → (List Int) → Option Int) : Option (List (List Int)) := if (∀ a ∈ x0, ∀ c ∈ x0, fn1 a c = some (lexC a c)) ∧ x0.length < 4611686018427387904 then some (sortRows x0) else none
def ZcU (p0 : List Int) : Int × List Int → Option ((Int × List Int) ⊕ (ByteArray))
 | (y11, xs) =>
 bif decide (y11 < (p0.length : Int)) then
 (gIdx p0 y11).bind fun e14 =>
 (gIdx xs y11).bind fun e20 =>
 some (.inl (IntKind.i64.wrap (y11 + 1), (xs.set y11.toNat (IntKind.u8.wrap e14))))
 else
 (gByt xs).bind fun s23 =>
 some (.inr (s23))
def ZcF (p0 : List Int) : Option ByteArray :=
 (gMake 1 (0 : Int) (p0.length : Int) (p0.length : Int)).bind fun l8 =>
 loop (ZcU p0) (0, l8)
def Zce (p0 q1 l9 : List Int) : Int × List Int → Option ((Int × List Int) ⊕ (List Int))
 | (y12, xs) =>
 bif decide (y12 < (l9.length : Int)) then
 (gIdx p0 y12).bind fun e20 =>
 (gIdx q1 e20).bind fun e22 =>
 (gIdx xs y12).bind fun e24 =>
 some (.inl (IntKind.i64.wrap (y12 + 1), (xs.set y12.toNat e22)))
 else
 some (.inr (xs))
def ZdO (p0 q1 : List Int) : Option (List Int) :=
 (gMake 8 (0 : Int) (p0.length : Int) (p0.length : Int)).bind fun l9 =>
 loop (Zce p0 q1 l9) (0, l9)
def Zau (genera1 : List (List Int)) (k8 : Int) : List (List Int) × Int × List (ByteArray × Bool) → Option ((List (List Int) × Int × List (ByteArray × Bool)) ⊕ ((List (List Int) × Int × List (ByteArray × Bool)) ⊕ ((List (List Int)) × Bool)))
 | (elemen6_2, y30, mp_2) =>
 bif decide (y30 < (genera1.length : Int)) then
 (gIdx genera1 y30).bind fun e32 =>
 (gIdx elemen6_2 k8).bind fun e36 =>
 (ZdO e36 e32).bind fun r39 =>
 (ZcF r39).bind fun r41 =>
 bif !(mpGet mp_2 r41 false) then
 (gApp 24 elemen6_2 [r39]).bind fun l51 =>
 some (.inl (l51, IntKind.i64.wrap (y30 + 1), (mpSet mp_2 r41 true)))
 else
 some (.inl (elemen6_2, IntKind.i64.wrap (y30 + 1), mp_2))
 else
 bif decide (((elemen6_2.length : Int) : Int) > 720) then
 some (.inr (.inr ((([] : List (List Int)), false))))
 else
 some (.inr (.inl (elemen6_2, IntKind.i64.wrap (k8 + 1), mp_2)))
def ZaD (genera1 : List (List Int)) : List (List Int) × Int × List (ByteArray × Bool) → Option ((List (List Int) × Int × List (ByteArray × Bool)) ⊕ ((List (List Int)) × Bool))
 | (elemen6, k8, mp) =>
 bif decide (k8 < (elemen6.length : Int)) then
 loop (Zau genera1 k8) (elemen6, 0, mp)
 else
 (ZaM elemen6 (fun y0 y1 => ZR y0 y1)).bind fun r57 =>
 some (.inr ((r57, true)))
def Zbv (degree0 : Int) (genera1 : List (List Int)) : Option ((List (List Int)) × Bool) :=
 (Zbd degree0).bind fun r14 =>
 (gIdx ([r14]) 0).bind fun e18 =>
 (ZcF e18).bind fun r20 =>
 loop (ZaD genera1) ([r14], 0, (mpSet ([] : List (ByteArray × Bool)) r20 true))
def ZbH (x0 : List (List Int)) (target1 : List Int) (fn2 : (List Int) → (List Int) → Option Int) : Int × Int → Option ((Int × Int) ⊕ (Int × Bool))
 | (i9, j10) =>
 bif decide (i9 < j10) then
 (gNn 1).bind fun _ =>
 (gIdx x0 (IntKind.i64.wrap (Int.fdiv (IntKind.u64.wrap (IntKind.i64.wrap (i9 + j10))) (2 ^ min (1 : Int).toNat IntKind.u64.bits)))).bind fun e27 =>
 (fn2 e27 target1).bind fun r30 =>
 bif decide (r30 < 0) then
 some (.inl (IntKind.i64.wrap ((IntKind.i64.wrap (Int.fdiv (IntKind.u64.wrap (IntKind.i64.wrap (i9 + j10))) (2 ^ min (1 : Int).toNat IntKind.u64.bits))) + 1), j10))
 else
 some (.inl (i9, IntKind.i64.wrap (Int.fdiv (IntKind.u64.wrap (IntKind.i64.wrap (i9 + j10))) (2 ^ min (1 : Int).toNat IntKind.u64.bits))))
 else
 bif decide (i9 < (x0.length : Int)) then
 (gIdx x0 i9).bind fun e43 =>
 (fn2 e43 target1).bind fun r46 =>
 some (.inr ((i9, r46 == 0)))
 else
 some (.inr ((i9, false)))
def Zdr (x0 : List (List Int)) (target1 : List Int) (fn2 : (List Int) → (List Int) → Option Int) : Option (Int × Bool) :=
 loop (ZbH x0 target1 fn2) (0, (x0.length : Int))
def Zc8 (degree0 : Int) (genera7 : List (List Int)) (y21 : Int) (e23 : List Int) : Option ((List (List Int) × List (List Int) × Bool × Int) ⊕ ((List (List Int)) × (List (List Int)) × Bool)) :=
 (gApp 24 genera7 [e23]).bind fun l39 =>
 (Zbv degree0 l39).bind fun r43 =>
 some (.inl (l39, r43.1, r43.2, IntKind.i64.wrap (y21 + 1)))
def ZW (degree0 : Int) (elemen1 : List (List Int)) : List (List Int) × List (List Int) × Bool × Int → Option ((List (List Int) × List (List Int) × Bool × Int) ⊕ ((List (List Int)) × (List (List Int)) × Bool))
 | (genera7, all8, ok9, y21) =>
 bif decide (y21 < (elemen1.length : Int)) then
 (gIdx elemen1 y21).bind fun e23 =>
 (Zdr all8 e23 (fun y0 y1 => ZR y0 y1)).bind fun r28 =>
 bif r28.2 then
 some (.inl (genera7, all8, ok9, IntKind.i64.wrap (y21 + 1)))
 else
 bif !ok9 then
 some (.inl (genera7, all8, ok9, IntKind.i64.wrap (y21 + 1)))
 else
 Zc8 degree0 genera7 y21 e23
 else
 some (.inr ((genera7, all8, ok9)))
def Zep (degree0 : Int) (elemen1 : List (List Int)) : Option ((List (List Int)) × (List (List Int)) × Bool) :=
 (Zbv degree0 ([] : List (List Int))).bind fun r16 =>
 loop (ZW degree0 elemen1) (([] : List (List Int)), r16.1, r16.2, 0)
def ZbK (y0 : Zb) : Int → Option ((Int) ⊕ (Bool))
 | y3 =>
 bif decide (y3 < (y0.Elements.length : Int)) then
 (gIdx y0.Elements (IntKind.i64.wrap (y3 - 1))).bind fun e42 =>
 (gIdx y0.Elements y3).bind fun e47 =>
 (ZR e42 e47).bind fun r49 =>
 bif decide (r49 ≥ 0) then
 some (.inr (false))
 else
 some (.inl (IntKind.i64.wrap (y3 + 1)))
 else
 (Zep y0.Degree y0.Elements).bind fun r56 =>
 bif r56.2.2 then
 some (.inr (((r56.2.1.length : Int) : Int) == (y0.Elements.length : Int)))
 else
 some (.inr (false))
def ZeF (y0 : Zb) : Option (Bool) :=
 loop (ZbK y0) (1)
def ZaF (y0 : Zb) : Option Bool :=
 (ZL y0.Degree 1 32).bind fun r9 =>
 bif !r9 then
 some (false)
 else
 bif decide (((y0.Elements.length : Int) : Int) < 1) then
 some (false)
 else
 bif decide (((y0.Elements.length : Int) : Int) > 720) then
 some (false)
 else
 (ZdU y0.Degree y0.Elements).bind fun r28 =>
 bif !r28 then
 some (false)
 else
 ZeF y0
def Zcw (n0 : Int) : Option Bool :=
 (ZL n0 1 20000).bind fun r4 =>
 some (r4)
def Zfp (n0 k1 : Int) : Int × Int → Option ((Int × Int) ⊕ (Int))
 | (count5, i6) =>
 bif decide (i6 ≤ k1) then
 (gNz i6).bind fun _ =>
 some (.inl (IntKind.i64.wrap (Int.tdiv (IntKind.i64.wrap (count5 * (IntKind.i64.wrap ((IntKind.i64.wrap (n0 - k1)) + i6)))) i6), IntKind.i64.wrap (i6 + 1)))
 else
 some (.inr (count5))
def Zdx (n0 k1 : Int) : Option (Int) :=
 loop (Zfp n0 k1) (1, 1)
def Zat (n0 k1 : Int) : Option Int :=
 (ZL n0 0 32).bind fun r8 =>
 bif !r8 then
 some (0)
 else
 (ZL k1 0 n0).bind fun r13 =>
 bif !r13 then
 some (0)
 else
 Zdx n0 k1
def Zbx (g0 : Zb) (sizes1 : List Int) : Int → Option ((Int) ⊕ ((Int) ⊕ (Int)))
 | y26 =>
 bif decide (y26 < (sizes1.length : Int)) then
 (gIdx sizes1 y26).bind fun e28 =>
 (Zat g0.Degree e28).bind fun r33 =>
 bif decide (r33 > 2000) then
 some (.inr (.inr (5)))
 else
 some (.inl (IntKind.i64.wrap (y26 + 1)))
 else
 some (.inr (.inr (0)))
def Zdb (g0 : Zb) (sizes1 : List Int) : Int → Option ((Int) ⊕ (Int))
 | y14 =>
 bif decide (y14 < (sizes1.length : Int)) then
 (gIdx sizes1 y14).bind fun e16 =>
 (ZL e16 0 g0.Degree).bind fun r21 =>
 bif !r21 then
 some (.inr (2))
 else
 some (.inl (IntKind.i64.wrap (y14 + 1)))
 else
 loop (Zbx g0 sizes1) (0)
def ZbV (g0 : Zb) (sizes1 : List Int) : Option Int :=
 (ZaF (Zb.mk g0.Degree g0.Elements)).bind fun r10 =>
 bif !r10 then
 some (1)
 else
 loop (Zdb g0 sizes1) (0)
def ZaU (set0 : List Int) (n1 : Int) : Int × Int → Option ((Int × Int) ⊕ (Bool))
 | (last5, y10) =>
 bif decide (y10 < (set0.length : Int)) then
 (gIdx set0 y10).bind fun e12 =>
 bif decide (e12 ≤ last5) then
 some (.inr (false))
 else
 bif decide (e12 ≥ n1) then
 some (.inr (false))
 else
 some (.inl (e12, IntKind.i64.wrap (y10 + 1)))
 else
 (ZL n1 0 32).bind fun r25 =>
 some (.inr (r25))
def ZaZ (set0 : List Int) (n1 : Int) : Option Bool :=
 loop (ZaU set0 n1) ((-1), 0)
def Zb9 (n0 : Int) (set1 : List Int) (y17 e20 : Int) : Int × Int → Option ((Int × Int) ⊕ ((Int × Int × Int) ⊕ (Int × Int)))
 | (rank6_2, y10) =>
 bif decide (y10 < e20) then
 (ZaI set1).bind fun r34 =>
 (Zat (IntKind.i64.wrap ((IntKind.i64.wrap (n0 - 1)) - y10)) (IntKind.i64.wrap ((IntKind.i64.wrap (r34 - 1)) - y17))).bind fun r38 =>
 some (.inl (IntKind.i64.wrap (rank6_2 + r38), IntKind.i64.wrap (y10 + 1)))
 else
 some (.inr (.inl (rank6_2, IntKind.i64.wrap (e20 + 1), IntKind.i64.wrap (y17 + 1))))
def Zds (n0 : Int) (set1 : List Int) : Int × Int × Int → Option ((Int × Int × Int) ⊕ (Int × Int))
 | (rank6, from7, y17) =>
 bif decide (y17 < (set1.length : Int)) then
 (gIdx set1 y17).bind fun e20 =>
 loop (Zb9 n0 set1 y17 e20) (rank6, from7)
 else
 some (.inr ((rank6, 0)))
def Zei (n0 : Int) (set1 : List Int) : Option (Int × Int) :=
 (ZaZ set1 n0).bind fun r13 =>
 bif !r13 then
 some ((0, 1))
 else
 loop (Zds n0 set1) (0, 0, 0)
def Zbz (set1 : List Int) (r15 i7 : Int) : Int × List Int → Option ((Int × List Int) ⊕ ((Int) ⊕ ((List Int) × Bool)))
 | (j9, xs) =>
 bif decide (j9 < r15) then
 (gIdx set1 i7).bind fun e44 =>
 (gIdx xs j9).bind fun e51 =>
 some (.inl (IntKind.i64.wrap (j9 + 1), (xs.set j9.toNat (IntKind.i64.wrap ((IntKind.i64.wrap ((IntKind.i64.wrap (e44 + 1)) + j9)) - i7)))))
 else
 some (.inr (.inr ((xs, true))))
def Zb4 (n0 : Int) (set1 : List Int) (r15 : Int) : Int → Option ((Int) ⊕ ((List Int) × Bool))
 | i7 =>
 bif decide (i7 ≥ 0) then
 (gIdx set1 i7).bind fun e24 =>
 bif e24 == (IntKind.i64.wrap ((IntKind.i64.wrap (n0 - r15)) + i7)) then
 some (.inl (IntKind.i64.wrap (i7 - 1)))
 else
 (Zae set1).bind fun r33 =>
 loop (Zbz set1 r15 i7) (i7, r33)
 else
 some (.inr ((([] : List Int), false)))
def ZdR (n0 : Int) (set1 : List Int) : Option ((List Int) × Bool) :=
 (ZaZ set1 n0).bind fun r12 =>
 bif !r12 then
 some ((([] : List Int), false))
 else
 (ZaI set1).bind fun r15 =>
 loop (Zb4 n0 set1 r15) (IntKind.i64.wrap (r15 - 1))
def ZbL (n0 : Int) : List (List Int) × List Int × Bool → Option ((List (List Int) × List Int × Bool) ⊕ (List (List Int)))
 | (list5, set6, more7) =>
 bif more7 then
 (gApp 24 list5 [set6]).bind fun l17 =>
 (ZdR n0 set6).bind fun r21 =>
 some (.inl (l17, r21.1, r21.2))
 else
 some (.inr (list5))
def ZcD (n0 k1 : Int) : Option (List (List Int)) :=
 (Zbd k1).bind fun r9 =>
 loop (ZbL n0) (([] : List (List Int)), r9, decide (k1 ≤ n0))
def ZbY (p0 set1 : List Int) : List Int × Int → Option ((List Int × Int) ⊕ (List Int))
 | (out5, y10) =>
 bif decide (y10 < (set1.length : Int)) then
 (gIdx set1 y10).bind fun e12 =>
 (gIdx p0 e12).bind fun e17 =>
 (gApp 8 out5 [e17]).bind fun l20 =>
 some (.inl (l20, IntKind.i64.wrap (y10 + 1)))
 else
 (Zcd out5).bind fun r23 =>
 some (.inr (r23))
def Zch (p0 set1 : List Int) : Option (List Int) :=
 loop (ZbY p0 set1) (([] : List Int), 0)
def ZdT (s0 s1 : List Int) : Int → Option ((Int) ⊕ (Bool))
 | y13 =>
 bif decide (y13 < (s0.length : Int)) then
 (gIdx s0 y13).bind fun e18 =>
 (gIdx s1 y13).bind fun e22 =>
 bif e18 != e22 then
 some (.inr (false))
 else
 some (.inl (IntKind.i64.wrap (y13 + 1)))
 else
 some (.inr (true))
def Za7 (s0 s1 : List Int) : Option Bool :=
 bif ((s0.length : Int) : Int) != (s1.length : Int) then
 some (false)
 else
 loop (ZdT s0 s1) (0)
def Zdo (x0 : List (List Int)) (fn1 : (List Int) → (List Int) → Option Bool) : Option (List (List Int)) := if x0.length < 4611686018427387904 then cptL fn1 x0 else none
def Zb1 (g0 : Zb) (set1 : List Int) : List (List Int) × Int → Option ((List (List Int) × Int) ⊕ (List (List Int)))
 | (images5, y11) =>
 bif decide (y11 < (g0.Elements.length : Int)) then
 (gIdx g0.Elements y11).bind fun e13 =>
 (Zch e13 set1).bind fun r18 =>
 (gApp 24 images5 [r18]).bind fun l20 =>
 some (.inl (l20, IntKind.i64.wrap (y11 + 1)))
 else
 (ZaM images5 (fun y0 y1 => ZR y0 y1)).bind fun r23 =>
 (Zdo r23 (fun y0 y1 => Za7 y0 y1)).bind fun r25 =>
 some (.inr (r25))
def Zda (g0 : Zb) (set1 : List Int) : Option (List (List Int)) :=
 loop (Zb1 g0 set1) (([] : List (List Int)), 0)
def ZbM (g0 : Zb) (orbits6 : List (List (List Int))) (y24 : Int) (r35 : List (List Int)) : Int × List Bool → Option ((Int × List Bool) ⊕ ((List (List (List Int)) × Int × List Bool) ⊕ (List (List (List Int)))))
 | (y38, xs_2) =>
 bif decide (y38 < (r35.length : Int)) then
 (gIdx r35 y38).bind fun e40 =>
 (Zei g0.Degree e40).bind fun r46 =>
 (gIdx xs_2 r46.1).bind fun e51 =>
 some (.inl (IntKind.i64.wrap (y38 + 1), (xs_2.set r46.1.toNat true)))
 else
 (gApp 24 orbits6 [r35]).bind fun l56 =>
 some (.inr (.inl (l56, IntKind.i64.wrap (y24 + 1), xs_2)))
def ZbC (g0 : Zb) (r22 : List (List Int)) : List (List (List Int)) × Int × List Bool → Option ((List (List (List Int)) × Int × List Bool) ⊕ (List (List (List Int))))
 | (orbits6, y24, xs) =>
 bif decide (y24 < (r22.length : Int)) then
 (gIdx r22 y24).bind fun e27 =>
 (gIdx xs y24).bind fun e31 =>
 bif e31 then
 some (.inl (orbits6, IntKind.i64.wrap (y24 + 1), xs))
 else
 (Zda (Zb.mk g0.Degree g0.Elements) e27).bind fun r35 =>
 loop (ZbM g0 orbits6 y24 r35) (0, xs)
 else
 some (.inr (orbits6))
def Za5 (g0 : Zb) (k1 : Int) : Option (List (List (List Int))) :=
 (Zat g0.Degree k1).bind fun r17 =>
 (gMake 1 false r17 r17).bind fun l18 =>
 (ZcD g0.Degree k1).bind fun r22 =>
 loop (ZbC g0 r22) (([] : List (List (List Int))), 0, l18)
def ZaY (s0 : List Int) (fn1 : Int → Option Bool) : Int → Option ((Int) ⊕ (Int))
 | y8 =>
 bif decide (y8 < (s0.length : Int)) then
 (gIdx s0 y8).bind fun e14 =>
 (fn1 e14).bind fun r16 =>
 bif r16 then
 some (.inr (y8))
 else
 some (.inl (IntKind.i64.wrap (y8 + 1)))
 else
 some (.inr ((-1)))
def ZeV (s0 : List Int) (fn1 : Int → Option Bool) : Option Int :=
 loop (ZaY s0 fn1) (0)
def ZcV (s0 : List Int) (fn1 : Int → Option Bool) : Option Bool :=
 (ZeV s0 fn1).bind fun r7 =>
 some (decide (r7 ≥ 0))
def Zcz (s0 : List Int) (v1 : Int) : Int → Option ((Int) ⊕ (Int))
 | y8 =>
 bif decide (y8 < (s0.length : Int)) then
 (gIdx s0 y8).bind fun e14 =>
 bif v1 == e14 then
 some (.inr (y8))
 else
 some (.inl (IntKind.i64.wrap (y8 + 1)))
 else
 some (.inr ((-1)))
def Zhh (s0 : List Int) (v1 : Int) : Option Int :=
 loop (Zcz s0 v1) (0)
def ZeE (s0 : List Int) (v1 : Int) : Option Bool :=
 (Zhh s0 v1).bind fun r7 =>
 some (decide (r7 ≥ 0))
def ZeR (x0 : Int) (y1 : List Int) : Option Bool :=
 (ZeE y1 x0).bind fun r6 =>
 some (!r6)
def Zb5 (set0 part1 : List Int) : Option Bool :=
 (ZcV part1 (fun y0 => ZeR y0 set0)).bind fun r7 =>
 some (!r7)
def ZbP (e51 : List (List Int)) (y13 : List Int) (y55 : Int) (e57 : List (List Int)) : Int × Int → Option ((Int × Int) ⊕ ((List Int × Int) ⊕ ((List (List Int) × Int) ⊕ ((List (List Int)) × Int))))
 | (y16, y61) =>
 bif decide (y61 < (e57.length : Int)) then
 (gIdx e57 y61).bind fun e63 =>
 (gIdx e51 0).bind fun e67 =>
 (Zb5 e63 e67).bind fun r69 =>
 bif r69 then
 some (.inl (IntKind.i64.wrap (y16 + 1), IntKind.i64.wrap (y61 + 1)))
 else
 some (.inl (y16, IntKind.i64.wrap (y61 + 1)))
 else
 (gApp 8 y13 [y16]).bind fun l76 =>
 some (.inr (.inl (l76, IntKind.i64.wrap (y55 + 1))))
def ZbI (r44 : List (List (List Int))) (y10 : List (List Int)) (y49 : Int) (e51 : List (List Int)) : List Int × Int → Option ((List Int × Int) ⊕ ((List (List Int) × Int) ⊕ ((List (List Int)) × Int)))
 | (y13, y55) =>
 bif decide (y55 < (r44.length : Int)) then
 (gIdx r44 y55).bind fun e57 =>
 loop (ZbP e51 y13 y55 e57) (0, 0)
 else
 (gApp 24 y10 [y13]).bind fun l81 =>
 some (.inr (.inl (l81, IntKind.i64.wrap (y49 + 1))))
def ZbF (r44 r47 : List (List (List Int))) : List (List Int) × Int → Option ((List (List Int) × Int) ⊕ ((List (List Int)) × Int))
 | (y10, y49) =>
 bif decide (y49 < (r47.length : Int)) then
 (gIdx r47 y49).bind fun e51 =>
 loop (ZbI r44 y10 y49 e51) (([] : List Int), 0)
 else
 some (.inr ((y10, 0)))
def Zem (y0 : Zb) (y1 y2 : Int) : Option ((List (List Int)) × Int) :=
 (ZbV (Zb.mk y0.Degree y0.Elements) ([y1, y2] : List Int)).bind fun r38 =>
 bif r38 != 0 then
 some ((([] : List (List Int)), r38))
 else
 (Za5 (Zb.mk y0.Degree y0.Elements) y2).bind fun r44 =>
 (Za5 (Zb.mk y0.Degree y0.Elements) y1).bind fun r47 =>
 loop (ZbF r44 r47) (([] : List (List Int)), 0)
def Zbs (y0 : Zb) (y1 y2 : Int) : Option ((List (List Int)) × Int) :=
 (ZaF (Zb.mk y0.Degree y0.Elements)).bind fun r21 =>
 bif !r21 then
 some ((([] : List (List Int)), 1))
 else
 (ZL y1 0 y2).bind fun r26 =>
 bif !r26 then
 some ((([] : List (List Int)), 2))
 else
 bif decide (y2 > y0.Degree) then
 some ((([] : List (List Int)), 2))
 else
 Zem y0 y1 y2
def ZeI (list0 : List (List Int)) : Option Int :=
 some ((list0.length : Int))
def ZcG (x0 y1 : Int) : Option Bool :=
 (ZL x0 0 (IntKind.i64.wrap (y1 - 1))).bind fun r7 =>
 some (!r7)
def Zc7 (q0 : Int) (list1 : List Int) : Option Bool :=
 (ZcV list1 (fun y0 => ZcG y0 q0)).bind fun r7 =>
 some (!r7)
def Zct (row0 : List Int) (y1 : List (List Int)) : Option Bool :=
 (gIdx y1 0).bind fun e7 =>
 bif ((row0.length : Int) : Int) != (e7.length : Int) then
 some (true)
 else
 (Zc7 2001 row0).bind fun r13 =>
 some (!r13)
def Zew (m0 : List (List Int)) : Option (Bool) :=
 (Za8 m0 (fun y0 => Zct y0 m0)).bind fun r16 =>
 some (!r16)
def Zel (m0 : List (List Int)) : Option Bool :=
 (ZeI m0).bind fun r4 =>
 (ZL r4 1 2000).bind fun r5 =>
 bif !r5 then
 some (false)
 else
 (gIdx m0 0).bind fun e9 =>
 bif decide (((e9.length : Int) : Int) > 2000) then
 some (false)
 else
 Zew m0
def Zed (lambda0 : Int) : Option Bool :=
 (ZL lambda0 1 2000).bind fun r4 =>
 some (r4)
def Zdp (c0 : Zg) (column2 factor3 : Int) : Int × List Int → Option ((Int × List Int) ⊕ (List Int))
 | (y15, xs) =>
 bif decide (y15 < (c0.qmatrix.length : Int)) then
 (gIdx c0.qmatrix y15).bind fun e18 =>
 (gIdx xs y15).bind fun e22 =>
 (gIdx e18 column2).bind fun e27 =>
 (gIdx xs y15).bind fun e31 =>
 some (.inl (IntKind.i64.wrap (y15 + 1), (xs.set y15.toNat (IntKind.i64.wrap (e22 + (IntKind.i64.wrap (factor3 * e27)))))))
 else
 some (.inr (xs))
def ZaV (c0 : Zg) (sums1 : List Int) (column2 factor3 : Int) : Option (List Int) :=
 loop (Zdp c0 column2 factor3) (0, sums1)
def ZeK (c0 : ZI) : Option (Bool × ZI) :=
 bif (c0.qleft : Int) == 0 then
 some ((false, (ZI.mk c0.qleft true)))
 else
 some ((true, (ZI.mk (IntKind.i64.wrap (c0.qleft - 1)) c0.qspent)))
def Zbo (c0 : Zg) : Int → Option ((Int) ⊕ (Bool))
 | y10 =>
 bif decide (y10 < (c0.qsums.length : Int)) then
 (gIdx c0.qsums y10).bind fun e13 =>
 bif decide (e13 > c0.qlambda) then
 some (.inr (false))
 else
 (gIdx c0.qlater y10).bind fun e28 =>
 bif decide ((IntKind.i64.wrap (e13 + e28) : Int) < c0.qlambda) then
 some (.inr (false))
 else
 some (.inl (IntKind.i64.wrap (y10 + 1)))
 else
 some (.inr (true))
def Zcb (c0 : Zg) : Option Bool :=
 loop (Zbo c0) (0)
def ZcP (y0 : Zg) (xs : List Int) : Option (Zg) :=
 some ((Zg.mk (ZI.mk y0.qcounter.qleft y0.qcounter.qspent) y0.qmatrix y0.qlambda y0.qlimit y0.qsums y0.qlater y0.qchosen (IntKind.i64.wrap (y0.qcount + 1)) xs))
def Zay (y0 : Zg) (y1 y46 : Int) (e48 : Bool) (q_6 : Int) (q_7 : Bool) (q_8 q_9 q_10 : Int) (xs_8 xs_9 xs_10 xs_11 : List Int) : Option ((Int × Int × Bool × Int × Int × Int × List Int × List Int × List Int × List Int) ⊕ (Zg)) :=
 bif e48 then
 (ZaV (Zg.mk (ZI.mk q_6 q_7) y0.qmatrix q_8 q_9 xs_9 xs_8 xs_10 q_10 xs_11) xs_9 y1 (-1)).bind fun r106 =>
 (gSl xs_10 0 (IntKind.i64.wrap ((xs_10.length : Int) - 1))).bind fun l118 =>
 some (.inl (IntKind.i64.wrap (y46 + 1), q_6, q_7, q_8, q_9, q_10, xs_8, r106, l118, xs_11))
 else
 some (.inl (IntKind.i64.wrap (y46 + 1), q_6, q_7, q_8, q_9, q_10, xs_8, xs_9, xs_10, xs_11))
def ZbT (rf_impl_chooser_search : Zg → Int → Option Zg) (y0 : Zg) (y1 y46 q : Int) (q_2 : Bool) (q_3 q_4 q_5 : Int) (xs_2 xs_5 : List Int) (e48 : Bool) (xs_6 xs_7 : List Int) : Option ((Int × Int × Bool × Int × Int × Int × List Int × List Int × List Int × List Int) ⊕ (Zg)) :=
 (Zcb (Zg.mk (ZI.mk q q_2) y0.qmatrix q_3 q_4 xs_6 xs_2 xs_7 q_5 xs_5)).bind fun r69 =>
 bif r69 then
 bif decide (q_5 < q_4) then
 bif !q_2 then
 (ZeK (ZI.mk q q_2)).bind fun r93 =>
 bif r93.1 then
 (rf_impl_chooser_search (Zg.mk (ZI.mk r93.2.qleft r93.2.qspent) y0.qmatrix q_3 q_4 xs_6 xs_2 xs_7 q_5 xs_5) (IntKind.i64.wrap (y1 + 1))).bind fun r98 =>
 Zay y0 y1 y46 e48 r98.qcounter.qleft r98.qcounter.qspent r98.qlambda r98.qlimit r98.qcount r98.qlater r98.qsums r98.qchosen r98.qfirst
 else
 Zay y0 y1 y46 e48 r93.2.qleft r93.2.qspent q_3 q_4 q_5 xs_2 xs_6 xs_7 xs_5
 else
 Zay y0 y1 y46 e48 q q_2 q_3 q_4 q_5 xs_2 xs_6 xs_7 xs_5
 else
 Zay y0 y1 y46 e48 q q_2 q_3 q_4 q_5 xs_2 xs_6 xs_7 xs_5
 else
 Zay y0 y1 y46 e48 q q_2 q_3 q_4 q_5 xs_2 xs_6 xs_7 xs_5
def ZaT (rf_impl_chooser_search : Zg → Int → Option Zg) (y0 : Zg) (y1 : Int) : Int × Int × Bool × Int × Int × Int × List Int × List Int × List Int × List Int → Option ((Int × Int × Bool × Int × Int × Int × List Int × List Int × List Int × List Int) ⊕ (Zg))
 | (y46, q, q_2, q_3, q_4, q_5, xs_2, xs_3, xs_4, xs_5) =>
 bif decide (y46 < (([true, false] : List Bool).length : Int)) then
 (gIdx ([true, false] : List Bool) y46).bind fun e48 =>
 bif e48 then
 (ZaV (Zg.mk (ZI.mk q q_2) y0.qmatrix q_3 q_4 xs_3 xs_2 xs_4 q_5 xs_5) xs_3 y1 1).bind fun r57 =>
 (gApp 8 xs_4 [y1]).bind fun l65 =>
 ZbT rf_impl_chooser_search y0 y1 y46 q q_2 q_3 q_4 q_5 xs_2 xs_5 e48 r57 l65
 else
 ZbT rf_impl_chooser_search y0 y1 y46 q q_2 q_3 q_4 q_5 xs_2 xs_5 e48 xs_3 xs_4
 else
 (ZaV (Zg.mk (ZI.mk q q_2) y0.qmatrix q_3 q_4 xs_3 xs_2 xs_4 q_5 xs_5) xs_2 y1 1).bind fun r128 =>
 some (.inr ((Zg.mk (ZI.mk q q_2) y0.qmatrix q_3 q_4 xs_3 r128 xs_4 q_5 xs_5)))
def q_impl_chooser_search (rf_impl_chooser_search : Zg → Int → Option Zg) (y0 : Zg) (y1 : Int) : Option Zg :=
 (gIdx y0.qmatrix 0).bind fun e11 =>
 bif y1 == (e11.length : Int) then
 (Zcb (Zg.mk (ZI.mk y0.qcounter.qleft y0.qcounter.qspent) y0.qmatrix y0.qlambda y0.qlimit y0.qsums y0.qlater y0.qchosen y0.qcount y0.qfirst)).bind fun r16 =>
 bif r16 then
 bif (y0.qcount : Int) == 0 then
 (Zae y0.qchosen).bind fun r27 =>
 ZcP y0 r27
 else
 ZcP y0 y0.qfirst
 else
 some ((Zg.mk (ZI.mk y0.qcounter.qleft y0.qcounter.qspent) y0.qmatrix y0.qlambda y0.qlimit y0.qsums y0.qlater y0.qchosen y0.qcount y0.qfirst))
 else
 (ZaV (Zg.mk (ZI.mk y0.qcounter.qleft y0.qcounter.qspent) y0.qmatrix y0.qlambda y0.qlimit y0.qsums y0.qlater y0.qchosen y0.qcount y0.qfirst) y0.qlater y1 (-1)).bind fun r43 =>
 loop (ZaT rf_impl_chooser_search y0 y1) (0, y0.qcounter.qleft, y0.qcounter.qspent, y0.qlambda, y0.qlimit, y0.qcount, r43, y0.qsums, y0.qchosen, y0.qfirst)
def pn_impl_chooser_search : Nat → (Zg → Int → Option Zg)
 | 0 => (fun _ _ => none)
 | n + 1 => q_impl_chooser_search (pn_impl_chooser_search n)
def Zc2 : Zg → Int → Option Zg := (pn_impl_chooser_search fuel)
def ZbN (m0 : List (List Int)) (lambda1 limit2 budget3 : Int) (l18 e25 : List Int) : Int × List Int → Option ((Int × List Int) ⊕ (Zg))
 | (y28, xs) =>
 bif decide (y28 < (e25.length : Int)) then
 (ZaV (Zg.mk (ZI.mk budget3 false) m0 lambda1 limit2 l18 xs ([] : List Int) 0 ([] : List Int)) xs y28 1).bind fun r37 =>
 some (.inl (IntKind.i64.wrap (y28 + 1), r37))
 else
 (Zc2 (Zg.mk (ZI.mk budget3 false) m0 lambda1 limit2 l18 xs ([] : List Int) 0 ([] : List Int)) 0).bind fun r40 =>
 some (.inr ((Zg.mk (ZI.mk r40.qcounter.qleft r40.qcounter.qspent) m0 r40.qlambda r40.qlimit r40.qsums r40.qlater r40.qchosen r40.qcount r40.qfirst)))
def Zdf (m0 : List (List Int)) (lambda1 limit2 budget3 : Int) : Option Zg :=
 (gMake 8 (0 : Int) (m0.length : Int) (m0.length : Int)).bind fun l18 =>
 (gMake 8 (0 : Int) (m0.length : Int) (m0.length : Int)).bind fun l21 =>
 (gIdx m0 0).bind fun e25 =>
 loop (ZbN m0 lambda1 limit2 budget3 l18 e25) (0, l21)
def Ze0 (m0 : List (List Int)) (lambda1 budget2 : Int) : Option ((List Int) × Int) :=
 (Zdf m0 lambda1 1 budget2).bind fun r23 =>
 bif r23.qcounter.qspent then
 some ((([] : List Int), 5))
 else
 bif (r23.qcount : Int) == 0 then
 some ((([] : List Int), 3))
 else
 some ((r23.qfirst, 0))
def ZdF (m0 : List (List Int)) (lambda1 budget2 : Int) : Option ((List Int) × Int) :=
 (Zel m0).bind fun r10 =>
 bif !r10 then
 some ((([] : List Int), 1))
 else
 (Zcw budget2).bind fun r13 =>
 bif !r13 then
 some ((([] : List Int), 2))
 else
 (Zed lambda1).bind fun r17 =>
 bif !r17 then
 some ((([] : List Int), 2))
 else
 Ze0 m0 lambda1 budget2
def Zci (lists0 : List (List Int)) : List (List Int) × Int → Option ((List (List Int) × Int) ⊕ (List (List Int)))
 | (out3, y8) =>
 bif decide (y8 < (lists0.length : Int)) then
 (gIdx lists0 y8).bind fun e10 =>
 (Zae e10).bind fun r14 =>
 (gApp 24 out3 [r14]).bind fun l16 =>
 some (.inl (l16, IntKind.i64.wrap (y8 + 1)))
 else
 some (.inr (out3))
def ZcS (lists0 : List (List Int)) : Option (List (List Int)) :=
 loop (Zci lists0) (([] : List (List Int)), 0)
def Zcv (points0 : Int) (blocks1 : List (List Int)) : Option (Zj × Int) :=
 bif decide (((blocks1.length : Int) : Int) > 128) then
 some (((Zj.mk 0 ([] : List (List Int))), 5))
 else
 (ZcS blocks1).bind fun r13 =>
 (ZaM r13 (fun y0 y1 => ZR y0 y1)).bind fun r17 =>
 some (((Zj.mk points0 r17), 0))
def ZaN (list0 : List Int) (n1 : Int) : Int × Int → Option ((Int × Int) ⊕ (Bool))
 | (last5, y10) =>
 bif decide (y10 < (list0.length : Int)) then
 (gIdx list0 y10).bind fun e12 =>
 (ZL e12 (IntKind.i64.wrap (last5 + 1)) (IntKind.i64.wrap (n1 - 1))).bind fun r19 =>
 bif !r19 then
 some (.inr (false))
 else
 some (.inl (e12, IntKind.i64.wrap (y10 + 1)))
 else
 some (.inr (true))
def Zen (list0 : List Int) (n1 : Int) : Option Bool :=
 loop (ZaN list0 n1) ((-1), 0)
def Ze7 (list0 : List (List (List Int))) : Option Int :=
 some ((list0.length : Int))
def Zcp (g0 : Zb) (orbits2 : List Int) (r32 : List (List (List Int))) : List (List Int) × Int → Option ((List (List Int) × Int) ⊕ (Zj × Int))
 | (blocks10, y41) =>
 bif decide (y41 < (orbits2.length : Int)) then
 (gIdx orbits2 y41).bind fun e43 =>
 (gIdx r32 e43).bind fun e48 =>
 (gApp 24 blocks10 e48).bind fun l50 =>
 some (.inl (l50, IntKind.i64.wrap (y41 + 1)))
 else
 (Zcv g0.Degree blocks10).bind fun r55 =>
 some (.inr (((Zj.mk r55.1.Points r55.1.Blocks), r55.2)))
def Zc1 (g0 : Zb) (k1 : Int) (orbits2 : List Int) : Option (Zj × Int) :=
 (ZaF (Zb.mk g0.Degree g0.Elements)).bind fun r15 =>
 bif !r15 then
 some (((Zj.mk 0 ([] : List (List Int))), 1))
 else
 bif k1 == 0 then
 some (((Zj.mk 0 ([] : List (List Int))), 2))
 else
 (ZbV (Zb.mk g0.Degree g0.Elements) ([k1] : List Int)).bind fun r25 =>
 bif r25 != 0 then
 some (((Zj.mk 0 ([] : List (List Int))), r25))
 else
 (Za5 (Zb.mk g0.Degree g0.Elements) k1).bind fun r32 =>
 (Ze7 r32).bind fun r35 =>
 (Zen orbits2 r35).bind fun r36 =>
 bif !r36 then
 some (((Zj.mk 0 ([] : List (List Int))), 2))
 else
 loop (Zcp g0 orbits2 r32) (([] : List (List Int)), 0)
def Zb8 (g0 : Zb) (t1 k2 lambda3 budget4 : Int) : Option (Zj × Int) :=
 (ZaF (Zb.mk g0.Degree g0.Elements)).bind fun r16 =>
 bif !r16 then
 some (((Zj.mk 0 ([] : List (List Int))), 1))
 else
 (Zcw budget4).bind fun r20 =>
 bif !r20 then
 some (((Zj.mk 0 ([] : List (List Int))), 2))
 else
 (Zbs (Zb.mk g0.Degree g0.Elements) t1 k2).bind fun r27 =>
 bif r27.2 != 0 then
 some (((Zj.mk 0 ([] : List (List Int))), r27.2))
 else
 bif k2 == 0 then
 some (((Zj.mk 0 ([] : List (List Int))), 2))
 else
 (ZdF r27.1 lambda3 budget4).bind fun r41 =>
 bif r41.2 != 0 then
 some (((Zj.mk 0 ([] : List (List Int))), r41.2))
 else
 (Zc1 (Zb.mk g0.Degree g0.Elements) k2 r41.1).bind fun r51 =>
 some (((Zj.mk r51.1.Points r51.1.Blocks), r51.2))
def ZdZ (block0 : List Int) (points1 : Int) : Option Bool :=
 bif decide (((block0.length : Int) : Int) > 0) then
 (ZaZ block0 points1).bind fun r11 =>
 some (r11)
 else
 some (false)
def ZdA (b0 : List Int) (y1 : Int) : Option Bool :=
 (ZdZ b0 y1).bind fun r6 =>
 some (!r6)
def ZeS (blocks0 : List (List Int)) (points1 : Int) : Option Bool :=
 (ZL points1 1 32).bind fun r6 =>
 bif r6 then
 (Za8 blocks0 (fun y0 => ZdA y0 points1)).bind fun r10 =>
 some (!r10)
 else
 some (false)
def Zbk (x0 : List (List Int)) (fn1 : (List Int) → (List Int) → Option Int) : Int → Option ((Int) ⊕ (Bool))
 | i5 =>
 bif decide (i5 > 0) then
 (gIdx x0 i5).bind fun e16 =>
 (gIdx x0 (IntKind.i64.wrap (i5 - 1))).bind fun e21 =>
 (fn1 e16 e21).bind fun r23 =>
 bif decide (r23 < 0) then
 some (.inr (false))
 else
 some (.inl (IntKind.i64.wrap (i5 - 1)))
 else
 some (.inr (true))
def Zea (x0 : List (List Int)) (fn1 : (List Int) → (List Int) → Option Int) : Option Bool :=
 loop (Zbk x0 fn1) (IntKind.i64.wrap ((x0.length : Int) - 1))
def Zcc (d0 : Zj) : Option Bool :=
 (ZeS d0.Blocks d0.Points).bind fun r7 =>
 bif r7 then
 bif decide (((d0.Blocks.length : Int) : Int) ≤ 128) then
 (Zea d0.Blocks (fun y0 y1 => ZR y0 y1)).bind fun r17 =>
 some (r17)
 else
 some (false)
 else
 some (false)
def Za4 (d0 : Zj) (index5 y16 : Int) (e18 : List Int) : Int × Int → Option ((Int × Int) ⊕ ((Int × Int) ⊕ (Int)))
 | (count8, y23) =>
 bif decide (y23 < (d0.Blocks.length : Int)) then
 (gIdx d0.Blocks y23).bind fun e25 =>
 (Zb5 e25 e18).bind fun r29 =>
 bif r29 then
 some (.inl (IntKind.i64.wrap (count8 + 1), IntKind.i64.wrap (y23 + 1)))
 else
 some (.inl (count8, IntKind.i64.wrap (y23 + 1)))
 else
 bif decide (index5 ≥ 0) then
 bif count8 != index5 then
 some (.inr (.inr (0)))
 else
 some (.inr (.inl (count8, IntKind.i64.wrap (y16 + 1))))
 else
 some (.inr (.inl (count8, IntKind.i64.wrap (y16 + 1))))
def ZdL (d0 : Zj) (r14 : List (List Int)) : Int × Int → Option ((Int × Int) ⊕ (Int))
 | (index5, y16) =>
 bif decide (y16 < (r14.length : Int)) then
 (gIdx r14 y16).bind fun e18 =>
 loop (Za4 d0 index5 y16 e18) (0, 0)
 else
 some (.inr (if (0 : Int) > index5 then 0 else index5))
def Zdt (d0 : Zj) (t1 : Int) : Option Int :=
 (ZcD d0.Points t1).bind fun r14 =>
 loop (ZdL d0 r14) ((-1), 0)
def ZcH (d0 : Zj) (t1 : Int) : Option (Int × Int) :=
 (Zcc (Zj.mk d0.Points d0.Blocks)).bind fun r7 =>
 bif !r7 then
 some ((0, 1))
 else
 (ZL t1 0 3).bind fun r10 =>
 bif !r10 then
 some ((0, 2))
 else
 (Zdt (Zj.mk d0.Points d0.Blocks) t1).bind fun r14 =>
 some ((r14, 0))
def Zeh (s0 s1 : List (List Int)) (fn2 : (List Int) → (List Int) → Option Bool) : Int → Option ((Int) ⊕ (Bool))
 | y17 =>
 bif decide (y17 < (s0.length : Int)) then
 (gIdx s0 y17).bind fun e20 =>
 (gIdx s1 y17).bind fun e24 =>
 (fn2 e20 e24).bind fun r29 =>
 bif !r29 then
 some (.inr (false))
 else
 some (.inl (IntKind.i64.wrap (y17 + 1)))
 else
 some (.inr (true))
def Zet (s0 s1 : List (List Int)) (fn2 : (List Int) → (List Int) → Option Bool) : Option Bool :=
 bif ((s0.length : Int) : Int) != (s1.length : Int) then
 some (false)
 else
 loop (Zeh s0 s1 fn2) (0)
def Zd5 (a0 b1 : List (List Int)) : Option Bool :=
 (Zet a0 b1 (fun y0 y1 => Za7 y0 y1)).bind fun r7 =>
 some (r7)
def ZdN (a0 b1 : Zj) : Option Bool :=
 bif a0.Points == b1.Points then
 (Zd5 a0.Blocks b1.Blocks).bind fun r15 =>
 some (r15)
 else
 some (false)
def ZcM (d0 : Zj) (p1 : List Int) : List (List Int) × Int → Option ((List (List Int) × Int) ⊕ (Zj))
 | (blocks5, y13) =>
 bif decide (y13 < (d0.Blocks.length : Int)) then
 (gIdx d0.Blocks y13).bind fun e15 =>
 (Zch p1 e15).bind fun r20 =>
 (gApp 24 blocks5 [r20]).bind fun l22 =>
 some (.inl (l22, IntKind.i64.wrap (y13 + 1)))
 else
 (Zcv d0.Points blocks5).bind fun r28 =>
 some (.inr ((Zj.mk r28.1.Points r28.1.Blocks)))
def Zef (d0 : Zj) (p1 : List Int) : Option Zj :=
 loop (ZcM d0 p1) (([] : List (List Int)), 0)
def Zb7 (p0 : List Int) (y1 : Zj) : Option Bool :=
 (Zef y1 p0).bind fun r6 =>
 (ZdN r6 y1).bind fun r8 =>
 some (!r8)
def ZeC (d0 : Zj) (g1 : Zb) : Option (Bool × Int) :=
 bif g1.Degree != d0.Points then
 some ((false, 6))
 else
 (Za8 g1.Elements (fun y0 => Zb7 y0 (Zj.mk d0.Points d0.Blocks))).bind fun r22 =>
 some ((!r22, 0))
def ZcN (d0 : Zj) (g1 : Zb) : Option (Bool × Int) :=
 (Zcc (Zj.mk d0.Points d0.Blocks)).bind fun r7 =>
 bif !r7 then
 some ((false, 1))
 else
 (ZaF (Zb.mk g1.Degree g1.Elements)).bind fun r11 =>
 bif !r11 then
 some ((false, 1))
 else
 ZeC d0 g1
def Zd6 (a0 b1 : List Int) : Option Int :=
 (ZR a0 b1).bind fun r7 =>
 some (r7)
def ZdH (r19 : Zb × Int × Int × Int × Int) (r31 : Zj × Int) : Int → Option ((Int) ⊕ (Bool))
 | y14 =>
 bif decide (y14 < (r31.1.Blocks.length : Int)) then
 (gIdx r31.1.Blocks y14).bind fun e86 =>
 bif ((e86.length : Int) : Int) != r19.2.2.1 then
 some (.inr (false))
 else
 bif decide (y14 > 0) then
 (gIdx r31.1.Blocks (IntKind.i64.wrap (y14 - 1))).bind fun e99 =>
 (gIdx r31.1.Blocks y14).bind fun e104 =>
 (Zd6 e99 e104).bind fun r106 =>
 bif r106 != (-1) then
 some (.inr (false))
 else
 some (.inl (IntKind.i64.wrap (y14 + 1)))
 else
 some (.inl (IntKind.i64.wrap (y14 + 1)))
 else
 some (.inr (true))
def Zcy (r19 : Zb × Int × Int × Int × Int) (r31 : Zj × Int) : Option (Bool) :=
 loop (ZdH r19 r31) (0)
def Zfh (y0 : List Int) : Option Bool :=
 (Ze8 y0).bind fun r16 =>
 bif r16 then
 some (true)
 else
 (Zd0 y0).bind fun r19 =>
 (Zb8 (Zb.mk r19.1.Degree r19.1.Elements) r19.2.1 r19.2.2.1 r19.2.2.2.1 r19.2.2.2.2).bind fun r31 =>
 bif r31.2 != 0 then
 bif ((r31.1.Blocks.length : Int) : Int) == 0 then
 some (r31.1.Points == 0)
 else
 some (false)
 else
 (ZcH (Zj.mk r31.1.Points r31.1.Blocks) r19.2.1).bind fun r48 =>
 (ZcN (Zj.mk r31.1.Points r31.1.Blocks) (Zb.mk r19.1.Degree r19.1.Elements)).bind fun r54 =>
 bif decide (r19.2.1 ≤ 3) then
 bif r48.2 != 0 then
 some (false)
 else
 bif r48.1 != r19.2.2.2.1 then
 some (false)
 else
 bif r54.2 != 0 then
 some (false)
 else
 bif !r54.1 then
 some (false)
 else
 Zcy r19 r31
 else
 bif r54.2 != 0 then
 some (false)
 else
 bif !r54.1 then
 some (false)
 else
 Zcy r19 r31
end
end Go.Proofs.YtocnokjekoglnaaGreat
