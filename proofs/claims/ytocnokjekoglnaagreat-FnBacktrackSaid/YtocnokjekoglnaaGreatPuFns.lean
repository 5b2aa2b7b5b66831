import Derived.Test.YtocnokjekoglnaaGreatPuCmp
namespace Go.Proofs.YtocnokjekoglnaaGreat
set_option linter.unusedSimpArgs false
open Go Go.Vc
set_option linter.unusedVariables false
structure Zr where
 Items : Int
 Options : List (List Int)
structure Zs where
 qleft : Int
 qspent : Bool
structure Zo where
 qcounter : Zs
 qproblem : Zr
 qwith : List (List Int)
 qfirst : Bool
 qcovered : List Bool
 qchosen : List Int
 qnodes : Int
 qfound : List (List Int)
structure Za where
 Points : Int
 Blocks : List (List Int)
structure Zn where
 qcounter : Zs
 qlambda : Int
 qfirst : Bool
 qload : List (List Int)
 qsets : List (List Int)
 qused : List Bool
 qblocks : List (List Int)
 qnodes : Int
 qcount : Int
 qfound : List (List Int)
structure Zz where
 V : Int
 B : Int
 R : Int
 K : Int
 Lambda : Int
noncomputable section
def Zdx (code0 more1 : List Int) : Option Bool :=
 bif decide (((code0.length : Int) : Int) > 1048576) then
 some (true)
 else
 some (decide (((more1.length : Int) : Int) > 1048576))
def ZV (code0 : List Int) (k1 n2 : Int) : Option (Int) :=
 (gIdx code0 k1).bind fun e17 =>
 (gNz n2).bind fun _ =>
 some (Int.tmod (IntKind.i64.wrap e17) n2)
def ZN (code0 : List Int) (k1 n2 : Int) : Option Int :=
 bif decide (n2 ≤ 1) then
 some (0)
 else
 bif decide (k1 ≥ (code0.length : Int)) then
 some (0)
 else
 ZV code0 k1 n2
def ZF (n0 low1 high2 : Int) : Option Bool :=
 bif decide (n0 ≥ low1) then
 some (decide (n0 ≤ high2))
 else
 some (false)
def Zd0 (n0 k1 : Int) : Int × Int → Option ((Int × Int) ⊕ (Int))
 | (count5, i6) =>
 bif decide (i6 ≤ k1) then
 (gNz i6).bind fun _ =>
 some (.inl (IntKind.i64.wrap (Int.tdiv (IntKind.i64.wrap (count5 * (IntKind.i64.wrap ((IntKind.i64.wrap (n0 - k1)) + i6)))) i6), IntKind.i64.wrap (i6 + 1)))
 else
 some (.inr (count5))
def Zb7 (n0 k1 : Int) : Option (Int) :=
 loop (Zd0 n0 k1) (1, 1)
def Z6 (n0 k1 : Int) : Option Int :=
 (ZF n0 0 32).bind fun r8 =>
 bif !r8 then
 some (0)
 else
 (ZF k1 0 n0).bind fun r13 =>
 bif !r13 then
 some (0)
 else
 Zb7 n0 k1
def Zc5 (set0 : List Int) (n1 : Int) : Int × Int → Option ((Int × Int) ⊕ (Bool))
 | (last5, y10) =>
 bif decide (y10 < (set0.length : Int)) then
 (gIdx set0 y10).bind fun e12 =>
 bif decide (e12 ≤ last5) then
 some (.inr (false))
 else
 bif decide (e12 ≥ n1) then
 some (.inr (false))
 else
 some (.inl (e12, IntKind.i64.wrap (y10 + 1)))
 else
 (ZF n1 0 32).bind fun r25 =>
 some (.inr (r25))
def Zan (set0 : List Int) (n1 : Int) : Option Bool :=
 loop (Zc5 set0 n1) ((-1), 0)
def Zag (list0 : List Int) : Option Int :=
 some ((list0.length : Int))
def Zc2 (n0 : Int) (set1 : List Int) (y17 e20 : Int) : Int × Int → Option ((Int × Int) ⊕ ((Int × Int × Int) ⊕ (Int × Int)))
 | (rank6_2, y10) =>
 bif decide (y10 < e20) then
 (Zag set1).bind fun r34 =>
 (Z6 (IntKind.i64.wrap ((IntKind.i64.wrap (n0 - 1)) - y10)) (IntKind.i64.wrap ((IntKind.i64.wrap (r34 - 1)) - y17))).bind fun r38 =>
 some (.inl (IntKind.i64.wrap (rank6_2 + r38), IntKind.i64.wrap (y10 + 1)))
 else
 some (.inr (.inl (rank6_2, IntKind.i64.wrap (e20 + 1), IntKind.i64.wrap (y17 + 1))))
def Zc7 (n0 : Int) (set1 : List Int) : Int × Int × Int → Option ((Int × Int × Int) ⊕ (Int × Int))
 | (rank6, from7, y17) =>
 bif decide (y17 < (set1.length : Int)) then
 (gIdx set1 y17).bind fun e20 =>
 loop (Zc2 n0 set1 y17 e20) (rank6, from7)
 else
 some (.inr ((rank6, 0)))
def Zcc (n0 : Int) (set1 : List Int) : Option (Int × Int) :=
 (Zan set1 n0).bind fun r13 =>
 bif !r13 then
 some ((0, 1))
 else
 loop (Zc7 n0 set1) (0, 0, 0)
def Zaf (a0 b1 y2 : Int) : Option Int :=
 (Zcc y2 ([a0, b1] : List Int)).bind fun r13 =>
 some (r13.1)
def Zbu (l6 : List Int) : Int × List Int → Option ((Int × List Int) ⊕ (List Int))
 | (y9, xs) =>
 bif decide (y9 < (l6.length : Int)) then
 (gIdx xs y9).bind fun e15 =>
 some (.inl (IntKind.i64.wrap (y9 + 1), (xs.set y9.toNat y9)))
 else
 some (.inr (xs))
def Zbw (n0 : Int) : Option (List Int) :=
 (gMake 8 (0 : Int) n0 n0).bind fun l6 =>
 loop (Zbu l6) (0, l6)
def Zac (a0 : List Int) : Option (List Int) := gApp 8 [] a0
def ZcC (set1 : List Int) (r15 i7 : Int) : Int × List Int → Option ((Int × List Int) ⊕ ((Int) ⊕ ((List Int) × Bool)))
 | (j9, xs) =>
 bif decide (j9 < r15) then
 (gIdx set1 i7).bind fun e44 =>
 (gIdx xs j9).bind fun e51 =>
 some (.inl (IntKind.i64.wrap (j9 + 1), (xs.set j9.toNat (IntKind.i64.wrap ((IntKind.i64.wrap ((IntKind.i64.wrap (e44 + 1)) + j9)) - i7)))))
 else
 some (.inr (.inr ((xs, true))))
def Zc3 (n0 : Int) (set1 : List Int) (r15 : Int) : Int → Option ((Int) ⊕ ((List Int) × Bool))
 | i7 =>
 bif decide (i7 ≥ 0) then
 (gIdx set1 i7).bind fun e24 =>
 bif e24 == (IntKind.i64.wrap ((IntKind.i64.wrap (n0 - r15)) + i7)) then
 some (.inl (IntKind.i64.wrap (i7 - 1)))
 else
 (Zac set1).bind fun r33 =>
 loop (ZcC set1 r15 i7) (i7, r33)
 else
 some (.inr ((([] : List Int), false)))
def Zcd (n0 : Int) (set1 : List Int) : Option ((List Int) × Bool) :=
 (Zan set1 n0).bind fun r12 =>
 bif !r12 then
 some ((([] : List Int), false))
 else
 (Zag set1).bind fun r15 =>
 loop (Zc3 n0 set1 r15) (IntKind.i64.wrap (r15 - 1))
def Zbb (n0 : Int) : List (List Int) × List Int × Bool → Option ((List (List Int) × List Int × Bool) ⊕ (List (List Int)))
 | (list5, set6, more7) =>
 bif more7 then
 (gApp 24 list5 [set6]).bind fun l17 =>
 (Zcd n0 set6).bind fun r21 =>
 some (.inl (l17, r21.1, r21.2))
 else
 some (.inr (list5))
def Zaq (n0 k1 : Int) : Option (List (List Int)) :=
 (Zbw k1).bind fun r9 =>
 loop (Zbb n0) (([] : List (List Int)), r9, decide (k1 ≤ n0))
def ZbH (points0 r14 : Int) (r17 : List (List Int)) : Int × List (List Int) → Option ((Int × List (List Int)) ⊕ (Zr × Int))
 | (y19, xs) =>
 bif decide (y19 < (r17.length : Int)) then
 (gIdx r17 y19).bind fun e21 =>
 (gIdx e21 0).bind fun e27 =>
 (gIdx e21 1).bind fun e30 =>
 (Zaf e27 e30 points0).bind fun r32 =>
 (gIdx e21 0).bind fun e35 =>
 (gIdx e21 2).bind fun e38 =>
 (Zaf e35 e38 points0).bind fun r40 =>
 (gIdx e21 1).bind fun e43 =>
 (gIdx e21 2).bind fun e46 =>
 (Zaf e43 e46 points0).bind fun r48 =>
 (gApp 24 xs [([r32, r40, r48] : List Int)]).bind fun l51 =>
 some (.inl (IntKind.i64.wrap (y19 + 1), l51))
 else
 some (.inr (((Zr.mk r14 xs), 0)))
def Zam (points0 : Int) : Option (Zr × Int) :=
 (ZF points0 3 11).bind fun r9 =>
 bif !r9 then
 some (((Zr.mk 0 ([] : List (List Int))), 2))
 else
 (Z6 points0 2).bind fun r14 =>
 (Zaq points0 3).bind fun r17 =>
 loop (ZbH points0 r14 r17) (0, ([] : List (List Int)))
def ZaW (n0 : Int) : Option Bool :=
 (ZF n0 1 20000).bind fun r4 =>
 some (r4)
def ZdX (s0 : List (List Int)) (fn1 : (List Int) → Option Bool) : Int → Option ((Int) ⊕ (Int))
 | y8 =>
 bif decide (y8 < (s0.length : Int)) then
 (gIdx s0 y8).bind fun e14 =>
 (fn1 e14).bind fun r16 =>
 bif r16 then
 some (.inr (y8))
 else
 some (.inl (IntKind.i64.wrap (y8 + 1)))
 else
 some (.inr ((-1)))
def Zcg (s0 : List (List Int)) (fn1 : (List Int) → Option Bool) : Option Int :=
 loop (ZdX s0 fn1) (0)
def Zao (s0 : List (List Int)) (fn1 : (List Int) → Option Bool) : Option Bool :=
 (Zcg s0 fn1).bind fun r7 =>
 some (decide (r7 ≥ 0))
def Zd7 (list0 : List Int) (n1 : Int) : Int × Int → Option ((Int × Int) ⊕ (Bool))
 | (last5, y10) =>
 bif decide (y10 < (list0.length : Int)) then
 (gIdx list0 y10).bind fun e12 =>
 (ZF e12 (IntKind.i64.wrap (last5 + 1)) (IntKind.i64.wrap (n1 - 1))).bind fun r19 =>
 bif !r19 then
 some (.inr (false))
 else
 some (.inl (e12, IntKind.i64.wrap (y10 + 1)))
 else
 some (.inr (true))
def Zbe (list0 : List Int) (n1 : Int) : Option Bool :=
 loop (Zd7 list0 n1) ((-1), 0)
def ZbJ (o0 : List Int) (y1 : Zr) : Option Bool :=
 bif ((o0.length : Int) : Int) == 0 then
 some (true)
 else
 (Zbe o0 y1.Items).bind fun r11 =>
 some (!r11)
def ZbQ (c0 : Zr) : Option (Bool) :=
 (Zao c0.Options (fun y0 => ZbJ y0 (Zr.mk c0.Items c0.Options))).bind fun r16 =>
 some (!r16)
def ZaS (c0 : Zr) : Option Bool :=
 (ZF c0.Items 1 64).bind fun r5 =>
 bif !r5 then
 some (false)
 else
 bif decide (((c0.Options.length : Int) : Int) > 256) then
 some (false)
 else
 ZbQ c0
def Zd1 (s0 : List Int) (v1 : Int) : Int → Option ((Int) ⊕ (Int))
 | y8 =>
 bif decide (y8 < (s0.length : Int)) then
 (gIdx s0 y8).bind fun e14 =>
 bif v1 == e14 then
 some (.inr (y8))
 else
 some (.inl (IntKind.i64.wrap (y8 + 1)))
 else
 some (.inr ((-1)))
def Zbr (s0 : List Int) (v1 : Int) : Option Int :=
 loop (Zd1 s0 v1) (0)
def Zad (s0 : List Int) (v1 : Int) : Option Bool :=
 (Zbr s0 v1).bind fun r7 =>
 some (decide (r7 ≥ 0))
def Za7 (c0 : Zr) (item1 : Int) : List Int × Int → Option ((List Int × Int) ⊕ ((List Int) × Int))
 | (list6, y21) =>
 bif decide (y21 < (c0.Options.length : Int)) then
 (gIdx c0.Options y21).bind fun e24 =>
 (Zad e24 item1).bind fun r28 =>
 bif r28 then
 (gApp 8 list6 [y21]).bind fun l32 =>
 some (.inl (l32, IntKind.i64.wrap (y21 + 1)))
 else
 some (.inl (list6, IntKind.i64.wrap (y21 + 1)))
 else
 some (.inr ((list6, 0)))
def Zbp (c0 : Zr) (item1 : Int) : Option ((List Int) × Int) :=
 (ZaS (Zr.mk c0.Items c0.Options)).bind fun r10 =>
 bif !r10 then
 some ((([] : List Int), 1))
 else
 (ZF item1 0 (IntKind.i64.wrap (c0.Items - 1))).bind fun r16 =>
 bif !r16 then
 some ((([] : List Int), 2))
 else
 loop (Za7 c0 item1) (([] : List Int), 0)
def Zbj (x0 : List Int) : Option (List Int) := if x0.length < 4611686018427387904 then some (sortI x0) else none
def ZY (c0 : Zs) : Option (Bool × Zs) :=
 bif (c0.qleft : Int) == 0 then
 some ((false, (Zs.mk c0.qleft true)))
 else
 some ((true, (Zs.mk (IntKind.i64.wrap (c0.qleft - 1)) c0.qspent)))
def Zd9 (s0 : List Bool) (v1 : Bool) : Int → Option ((Int) ⊕ (Int))
 | y8 =>
 bif decide (y8 < (s0.length : Int)) then
 (gIdx s0 y8).bind fun e14 =>
 bif v1 == e14 then
 some (.inr (y8))
 else
 some (.inl (IntKind.i64.wrap (y8 + 1)))
 else
 some (.inr ((-1)))
def ZcK (s0 : List Bool) (v1 : Bool) : Option Int :=
 loop (Zd9 s0 v1) (0)
def ZcB (s0 : List Bool) (v1 : Bool) : Option Bool :=
 (ZcK s0 v1).bind fun r7 =>
 some (decide (r7 ≥ 0))
def Zew (s0 : List Int) (fn1 : Int → Option Bool) : Int → Option ((Int) ⊕ (Int))
 | y8 =>
 bif decide (y8 < (s0.length : Int)) then
 (gIdx s0 y8).bind fun e14 =>
 (fn1 e14).bind fun r16 =>
 bif r16 then
 some (.inr (y8))
 else
 some (.inl (IntKind.i64.wrap (y8 + 1)))
 else
 some (.inr ((-1)))
def Zb4 (s0 : List Int) (fn1 : Int → Option Bool) : Option Int :=
 loop (Zew s0 fn1) (0)
def Za1 (s0 : List Int) (fn1 : Int → Option Bool) : Option Bool :=
 (Zb4 s0 fn1).bind fun r7 =>
 some (decide (r7 ≥ 0))
def Zba (x0 : Int) (y1 : Zo) : Option Bool :=
 (gIdx y1.qcovered x0).bind fun e9 =>
 some (e9)
def ZbL (c0 : Zo) (option1 : Int) : Option Bool :=
 (gIdx c0.qproblem.Options option1).bind fun e11 =>
 (Za1 e11 (fun y0 => Zba y0 c0)).bind fun r14 =>
 some (!r14)
def Zby (c0 : Zo) (best3 : List Int) (found4 : Bool) (y15 : Int) (e26 : List Int) : List Int × Int → Option ((List Int × Int) ⊕ ((List Int × Bool × Int) ⊕ (List Int)))
 | (list7, y29) =>
 bif decide (y29 < (e26.length : Int)) then
 (gIdx e26 y29).bind fun e31 =>
 (ZbL c0 e31).bind fun r35 =>
 bif r35 then
 (gApp 8 list7 [e31]).bind fun l39 =>
 some (.inl (l39, IntKind.i64.wrap (y29 + 1)))
 else
 some (.inl (list7, IntKind.i64.wrap (y29 + 1)))
 else
 bif !found4 then
 some (.inr (.inl (list7, true, IntKind.i64.wrap (y15 + 1))))
 else
 bif decide (((list7.length : Int) : Int) < (best3.length : Int)) then
 some (.inr (.inl (list7, true, IntKind.i64.wrap (y15 + 1))))
 else
 some (.inr (.inl (best3, found4, IntKind.i64.wrap (y15 + 1))))
def ZbM (c0 : Zo) : List Int × Bool × Int → Option ((List Int × Bool × Int) ⊕ (List Int))
 | (best3, found4, y15) =>
 bif decide (y15 < (c0.qcovered.length : Int)) then
 (gIdx c0.qcovered y15).bind fun e18 =>
 bif e18 then
 some (.inl (best3, found4, IntKind.i64.wrap (y15 + 1)))
 else
 (gIdx c0.qwith y15).bind fun e26 =>
 loop (Zby c0 best3 found4 y15 e26) (([] : List Int), 0)
 else
 some (.inr (best3))
def Zck (c0 : Zo) : Option (List Int) :=
 loop (ZbM c0) (([] : List Int), false, 0)
def ZbA (c0 : Zo) (in2 : Bool) (e14 : List Int) : Int × List Bool → Option ((Int × List Bool) ⊕ (Zo))
 | (y17, xs) =>
 bif decide (y17 < (e14.length : Int)) then
 (gIdx e14 y17).bind fun e19 =>
 (gIdx xs e19).bind fun e27 =>
 some (.inl (IntKind.i64.wrap (y17 + 1), (xs.set e19.toNat in2)))
 else
 some (.inr ((Zo.mk (Zs.mk c0.qcounter.qleft c0.qcounter.qspent) (Zr.mk c0.qproblem.Items c0.qproblem.Options) c0.qwith c0.qfirst xs c0.qchosen c0.qnodes c0.qfound)))
def ZaJ (c0 : Zo) (option1 : Int) (in2 : Bool) : Option Zo :=
 (gIdx c0.qproblem.Options option1).bind fun e14 =>
 loop (ZbA c0 in2 e14) (0, c0.qcovered)
def ZcJ (rf_impl_coverer_search : Zo → Option Zo) (y0 : Zo) (r62 : List Int) : Int × Int × Bool × Int × Bool × Int × List (List Int) × List Bool × List Int × List (List Int) → Option ((Int × Int × Bool × Int × Bool × Int × List (List Int) × List Bool × List Int × List (List Int)) ⊕ (Zo))
 | (y64, q_3, q_4, q_5, q_6, q_7, xs, xs_2, xs_3, xs_4) =>
 bif decide (y64 < (r62.length : Int)) then
 (gIdx r62 y64).bind fun e66 =>
 (ZaJ (Zo.mk (Zs.mk q_3 q_4) (Zr.mk q_5 y0.qproblem.Options) xs q_6 xs_2 xs_3 q_7 xs_4) e66 true).bind fun r70 =>
 (gApp 8 r70.qchosen [e66]).bind fun l78 =>
 (rf_impl_coverer_search (Zo.mk (Zs.mk r70.qcounter.qleft r70.qcounter.qspent) (Zr.mk r70.qproblem.Items y0.qproblem.Options) r70.qwith r70.qfirst r70.qcovered l78 r70.qnodes r70.qfound)).bind fun r82 =>
 (gSl r82.qchosen 0 (IntKind.i64.wrap ((r82.qchosen.length : Int) - 1))).bind fun l94 =>
 (ZaJ (Zo.mk (Zs.mk r82.qcounter.qleft r82.qcounter.qspent) (Zr.mk r82.qproblem.Items y0.qproblem.Options) r82.qwith r82.qfirst r82.qcovered l94 r82.qnodes r82.qfound) e66 false).bind fun r99 =>
 some (.inl (IntKind.i64.wrap (y64 + 1), r99.qcounter.qleft, r99.qcounter.qspent, r99.qproblem.Items, r99.qfirst, r99.qnodes, r99.qwith, r99.qcovered, r99.qchosen, r99.qfound))
 else
 some (.inr ((Zo.mk (Zs.mk q_3 q_4) (Zr.mk q_5 y0.qproblem.Options) xs q_6 xs_2 xs_3 q_7 xs_4)))
def Zay (rf_impl_coverer_search : Zo → Option Zo) (y0 : Zo) (q : Int) (q_2 : Bool) : Option (Zo) :=
 (ZcB y0.qcovered false).bind fun r42 =>
 bif !r42 then
 (Zac y0.qchosen).bind fun r48 =>
 (Zbj r48).bind fun r50 =>
 (gApp 24 y0.qfound [r50]).bind fun l58 =>
 some ((Zo.mk (Zs.mk q q_2) (Zr.mk y0.qproblem.Items y0.qproblem.Options) y0.qwith y0.qfirst y0.qcovered y0.qchosen (IntKind.i64.wrap (y0.qnodes + 1)) l58))
 else
 (Zck (Zo.mk (Zs.mk q q_2) (Zr.mk y0.qproblem.Items y0.qproblem.Options) y0.qwith y0.qfirst y0.qcovered y0.qchosen (IntKind.i64.wrap (y0.qnodes + 1)) y0.qfound)).bind fun r62 =>
 loop (ZcJ rf_impl_coverer_search y0 r62) (0, q, q_2, y0.qproblem.Items, y0.qfirst, IntKind.i64.wrap (y0.qnodes + 1), y0.qwith, y0.qcovered, y0.qchosen, y0.qfound)
def q_impl_coverer_search (rf_impl_coverer_search : Zo → Option Zo) (y0 : Zo) : Option Zo :=
 bif y0.qcounter.qspent then
 some ((Zo.mk (Zs.mk y0.qcounter.qleft y0.qcounter.qspent) (Zr.mk y0.qproblem.Items y0.qproblem.Options) y0.qwith y0.qfirst y0.qcovered y0.qchosen y0.qnodes y0.qfound))
 else
 bif y0.qfirst then
 bif decide (((y0.qfound.length : Int) : Int) > 0) then
 some ((Zo.mk (Zs.mk y0.qcounter.qleft y0.qcounter.qspent) (Zr.mk y0.qproblem.Items y0.qproblem.Options) y0.qwith y0.qfirst y0.qcovered y0.qchosen y0.qnodes y0.qfound))
 else
 (ZY (Zs.mk y0.qcounter.qleft y0.qcounter.qspent)).bind fun r28 =>
 bif !r28.1 then
 some ((Zo.mk (Zs.mk r28.2.qleft r28.2.qspent) (Zr.mk y0.qproblem.Items y0.qproblem.Options) y0.qwith y0.qfirst y0.qcovered y0.qchosen y0.qnodes y0.qfound))
 else
 Zay rf_impl_coverer_search y0 r28.2.qleft r28.2.qspent
 else
 (ZY (Zs.mk y0.qcounter.qleft y0.qcounter.qspent)).bind fun r28_2 =>
 bif !r28_2.1 then
 some ((Zo.mk (Zs.mk r28_2.2.qleft r28_2.2.qspent) (Zr.mk y0.qproblem.Items y0.qproblem.Options) y0.qwith y0.qfirst y0.qcovered y0.qchosen y0.qnodes y0.qfound))
 else
 Zay rf_impl_coverer_search y0 r28_2.2.qleft r28_2.2.qspent
def pn_impl_coverer_search : Nat → (Zo → Option Zo)
 | 0 => (fun _ => none)
 | n + 1 => q_impl_coverer_search (pn_impl_coverer_search n)
def ZfB : Zo → Option Zo := (pn_impl_coverer_search fuel)
def Zb3 (c0 : Zr) (budget1 : Int) (first2 : Bool) (l24 : List Bool) : Int × List (List Int) → Option ((Int × List (List Int)) ⊕ ((Option Zo) × Int))
 | (y29, xs) =>
 bif decide (y29 < c0.Items) then
 (Zbp (Zr.mk c0.Items c0.Options) y29).bind fun r35 =>
 (gApp 24 xs [r35.1]).bind fun l45 =>
 some (.inl (IntKind.i64.wrap (y29 + 1), l45))
 else
 (ZfB (Zo.mk (Zs.mk budget1 false) (Zr.mk c0.Items c0.Options) xs first2 l24 ([] : List Int) 0 ([] : List (List Int)))).bind fun r50 =>
 bif r50.qcounter.qspent then
 some (.inr ((none, 5)))
 else
 some (.inr (((some (Zo.mk (Zs.mk r50.qcounter.qleft r50.qcounter.qspent) (Zr.mk r50.qproblem.Items c0.Options) r50.qwith r50.qfirst r50.qcovered r50.qchosen r50.qnodes r50.qfound)), 0)))
def Zbn (c0 : Zr) (budget1 : Int) (first2 : Bool) : Option ((Option Zo) × Int) :=
 (ZaS (Zr.mk c0.Items c0.Options)).bind fun r13 =>
 bif !r13 then
 some ((none, 1))
 else
 (ZaW budget1).bind fun r16 =>
 bif !r16 then
 some ((none, 2))
 else
 (gMake 1 false c0.Items c0.Items).bind fun l24 =>
 loop (Zb3 c0 budget1 first2 l24) (0, ([] : List (List Int)))
def ZbK (c0 : Zr) (budget1 : Int) : Option ((List (List Int)) × Int) :=
 (Zbn (Zr.mk c0.Items c0.Options) budget1 false).bind fun r11 =>
 (match r11 with
 | (none, c11) =>
 bif c11 != 0 then
 some ((([] : List (List Int)), c11))
 else
 none
 | (some d11, c11) =>
 bif c11 != 0 then
 some ((([] : List (List Int)), c11))
 else
 some ((d11.qfound, 0))
 )
def ZcF (list0 : List (List Int)) : Option Int :=
 some ((list0.length : Int))
def Z1 (c0 : Zr) (budget1 : Int) : Option (Int × Int) :=
 (ZbK (Zr.mk c0.Items c0.Options) budget1).bind fun r11 =>
 (ZcF r11.1).bind fun r15 =>
 some ((r15, r11.2))
def Za0 (x0 : Int) : Option Bool :=
 some (x0 != x0)
def Za5 (x0 y1 : Int) : Option Int :=
 (Za0 x0).bind fun r8 =>
 (Za0 y1).bind fun r10 =>
 bif r8 then
 bif r10 then
 some (0)
 else
 some ((-1))
 else
 bif r10 then
 some (1)
 else
 bif decide (x0 < y1) then
 some ((-1))
 else
 bif decide (x0 > y1) then
 some (1)
 else
 some (0)
def ZdY (s0 s1 : List Int) : Int → Option ((Int) ⊕ (Int))
 | y11 =>
 bif decide (y11 < (s0.length : Int)) then
 (gIdx s0 y11).bind fun e14 =>
 bif decide (y11 ≥ (s1.length : Int)) then
 some (.inr (1))
 else
 (gIdx s1 y11).bind fun e22 =>
 (Za5 e14 e22).bind fun r26 =>
 bif r26 != 0 then
 some (.inr (r26))
 else
 some (.inl (IntKind.i64.wrap (y11 + 1)))
 else
 bif decide (((s0.length : Int) : Int) < (s1.length : Int)) then
 some (.inr ((-1)))
 else
 some (.inr (0))
def ZaL (s0 s1 : List Int) : Option Int :=
 loop (ZdY s0 s1) (0)
def ZbS (block0 : List Int) (points1 : Int) : Option Bool :=
 bif decide (((block0.length : Int) : Int) > 0) then
 (Zan block0 points1).bind fun r11 =>
 some (r11)
 else
 some (false)
def ZbO (b0 : List Int) (y1 : Int) : Option Bool :=
 (ZbS b0 y1).bind fun r6 =>
 some (!r6)
def Zct (blocks0 : List (List Int)) (points1 : Int) : Option Bool :=
 (ZF points1 1 32).bind fun r6 =>
 bif r6 then
 (Zao blocks0 (fun y0 => ZbO y0 points1)).bind fun r10 =>
 some (!r10)
 else
 some (false)
def Zdj (x0 : List (List Int)) (fn1 : (List Int) → (List Int) → Option Int) : Int → Option ((Int) ⊕ (Bool))
 | i5 =>
 bif decide (i5 > 0) then
 (gIdx x0 i5).bind fun e16 =>
 (gIdx x0 (IntKind.i64.wrap (i5 - 1))).bind fun e21 =>
 (fn1 e16 e21).bind fun r23 =>
 bif decide (r23 < 0) then
 some (.inr (false))
 else
 some (.inl (IntKind.i64.wrap (i5 - 1)))
 else
 some (.inr (true))
def Zbf (x0 : List (List Int)) (fn1 : (List Int) → (List Int) → Option Int) : Option Bool :=
 loop (Zdj x0 fn1) (IntKind.i64.wrap ((x0.length : Int) - 1))
def Zar (d0 : Za) : Option Bool :=
 (Zct d0.Blocks d0.Points).bind fun r7 =>
 bif r7 then
 bif decide (((d0.Blocks.length : Int) : Int) ≤ 128) then
 (Zbf d0.Blocks (fun y0 y1 => ZaL y0 y1)).bind fun r17 =>
 some (r17)
 else
 some (false)
 else
 some (false)
def Zci (n0 : Int) (fn1 : Int → Int → Option Int) (a5 : List (List Int)) (x6 : Int) : List Int × Int → Option ((List Int × Int) ⊕ ((List (List Int) × Int) ⊕ (List (List Int))))
 | (row7, y8) =>
 bif decide (y8 < n0) then
 (fn1 x6 y8).bind fun r23 =>
 (gApp 8 row7 [r23]).bind fun l25 =>
 some (.inl (l25, IntKind.i64.wrap (y8 + 1)))
 else
 (gApp 24 a5 [row7]).bind fun l29 =>
 some (.inr (.inl (l29, IntKind.i64.wrap (x6 + 1))))
def Zbs (n0 : Int) (fn1 : Int → Int → Option Int) : List (List Int) × Int → Option ((List (List Int) × Int) ⊕ (List (List Int)))
 | (a5, x6) =>
 bif decide (x6 < n0) then
 loop (Zci n0 fn1 a5 x6) (([] : List Int), 0)
 else
 some (.inr (a5))
def Zcx (n0 : Int) (fn1 : Int → Int → Option Int) : Option (List (List Int)) :=
 loop (Zbs n0 fn1) (([] : List (List Int)), 0)
def ZbI (x0 y1 : Int) : Option Int :=
 some (0)
def ZaC (n0 : Int) : Option (List (List Int)) :=
 (Zcx n0 (fun y0 y1 => ZbI y0 y1)).bind fun r4 =>
 some (r4)
def ZcD (y25 e28 : Int) (l33 : List Int) : Int × List (List Int) → Option ((Int × List (List Int)) ⊕ ((Int × List (List Int)) ⊕ ((Int × List (List Int)) ⊕ (List Int))))
 | (y35, xs_3) =>
 bif decide (y35 < (l33.length : Int)) then
 (gIdx l33 y35).bind fun e37 =>
 (gIdx xs_3 e28).bind fun e41 =>
 (gIdx e41 e37).bind fun e44 =>
 (gIdx e41 e37).bind fun e47 =>
 some (.inl (IntKind.i64.wrap (y35 + 1), (xs_3.set e28.toNat (e41.set e37.toNat (IntKind.i64.wrap (e44 + 1))))))
 else
 some (.inr (.inl (IntKind.i64.wrap (y25 + 1), xs_3)))
def Zbz (y19 : Int) (e21 : List Int) : Int × List (List Int) → Option ((Int × List (List Int)) ⊕ ((Int × List (List Int)) ⊕ (List Int)))
 | (y25, xs_2) =>
 bif decide (y25 < (e21.length : Int)) then
 (gIdx e21 y25).bind fun e28 =>
 (gSl e21 (IntKind.i64.wrap (y25 + 1)) (e21.length : Int)).bind fun l33 =>
 loop (ZcD y25 e28 l33) (0, xs_2)
 else
 some (.inr (.inl (IntKind.i64.wrap (y19 + 1), xs_2)))
def ZcH (xs : List (List Int)) : List Int × Int → Option ((List Int × Int) ⊕ ((Int × List (List Int)) ⊕ (List Int)))
 | (y10, y53) =>
 bif decide (y53 < (xs.length : Int)) then
 (gIdx xs y53).bind fun e56 =>
 (gSl e56 (IntKind.i64.wrap (y53 + 1)) (e56.length : Int)).bind fun l62 =>
 (gApp 8 y10 l62).bind fun l63 =>
 some (.inl (l63, IntKind.i64.wrap (y53 + 1)))
 else
 some (.inr (.inr (y10)))
def Zb0 (y0 : Za) : Int × List (List Int) → Option ((Int × List (List Int)) ⊕ (List Int))
 | (y19, xs) =>
 bif decide (y19 < (y0.Blocks.length : Int)) then
 (gIdx y0.Blocks y19).bind fun e21 =>
 loop (Zbz y19 e21) (0, xs)
 else
 loop (ZcH xs) (([] : List Int), 0)
def Zaw (y0 : Za) : Option (List Int) :=
 (ZaC y0.Points).bind fun r15 =>
 loop (Zb0 y0) (0, r15)
def Zej (s0 s1 : List Int) : Int → Option ((Int) ⊕ (Bool))
 | y13 =>
 bif decide (y13 < (s0.length : Int)) then
 (gIdx s0 y13).bind fun e18 =>
 (gIdx s1 y13).bind fun e22 =>
 bif e18 != e22 then
 some (.inr (false))
 else
 some (.inl (IntKind.i64.wrap (y13 + 1)))
 else
 some (.inr (true))
def Zat (s0 s1 : List Int) : Option Bool :=
 bif ((s0.length : Int) : Int) != (s1.length : Int) then
 some (false)
 else
 loop (Zej s0 s1) (0)
def Zbq (c0 y1 : Int) : Option Bool :=
 some (decide (c0 > y1))
def Zdk (d0 : Za) (k1 lambda2 : Int) : Int → Option ((Int) ⊕ (Bool))
 | y12 =>
 bif decide (y12 < (d0.Blocks.length : Int)) then
 (gIdx d0.Blocks y12).bind fun e15 =>
 (Zag e15).bind fun r18 =>
 bif r18 != k1 then
 some (.inr (false))
 else
 bif decide (y12 > 0) then
 (gIdx d0.Blocks (IntKind.i64.wrap (y12 - 1))).bind fun e29 =>
 (Zat e29 e15).bind fun r32 =>
 bif r32 then
 some (.inr (false))
 else
 some (.inl (IntKind.i64.wrap (y12 + 1)))
 else
 some (.inl (IntKind.i64.wrap (y12 + 1)))
 else
 bif decide (lambda2 > 0) then
 (Zaw (Za.mk d0.Points d0.Blocks)).bind fun r40 =>
 (Za1 r40 (fun y0 => Zbq y0 lambda2)).bind fun r42 =>
 some (.inr (!r42))
 else
 some (.inr (false))
def Zau (d0 : Za) (k1 lambda2 : Int) : Option Bool :=
 loop (Zdk d0 k1 lambda2) (0)
def ZaZ (v0 k1 lambda2 : Int) : Option Bool :=
 (ZF v0 2 32).bind fun r8 =>
 bif r8 then
 (ZF k1 2 v0).bind fun r12 =>
 bif r12 then
 (ZF lambda2 1 128).bind fun r16 =>
 some (r16)
 else
 some (false)
 else
 some (false)
def Zbl (by2 y12 e15 : Int) (l20 : List Int) : Int × List (List Int) → Option ((Int × List (List Int)) ⊕ ((Int × List (List Int)) ⊕ (List (List Int))))
 | (y22, xs_2) =>
 bif decide (y22 < (l20.length : Int)) then
 (gIdx l20 y22).bind fun e24 =>
 (gIdx xs_2 e15).bind fun e28 =>
 (gIdx e28 e24).bind fun e31 =>
 (gIdx e28 e24).bind fun e35 =>
 some (.inl (IntKind.i64.wrap (y22 + 1), (xs_2.set e15.toNat (e28.set e24.toNat (IntKind.i64.wrap (e31 + by2))))))
 else
 some (.inr (.inl (IntKind.i64.wrap (y12 + 1), xs_2)))
def ZbC (block1 : List Int) (by2 : Int) : Int × List (List Int) → Option ((Int × List (List Int)) ⊕ (List (List Int)))
 | (y12, xs) =>
 bif decide (y12 < (block1.length : Int)) then
 (gIdx block1 y12).bind fun e15 =>
 (gSl block1 (IntKind.i64.wrap (y12 + 1)) (block1.length : Int)).bind fun l20 =>
 loop (Zbl by2 y12 e15 l20) (0, xs)
 else
 some (.inr (xs))
def ZX (l0 : List (List Int)) (block1 : List Int) (by2 : Int) : Option (List (List Int)) :=
 loop (ZbC block1 by2) (0, l0)
def Zcb (d0 : Za) : Int × List (List Int) → Option ((Int × List (List Int)) ⊕ (List (List Int)))
 | (y12, xs) =>
 bif decide (y12 < (d0.Blocks.length : Int)) then
 (gIdx d0.Blocks y12).bind fun e14 =>
 (ZX xs e14 1).bind fun r18 =>
 some (.inl (IntKind.i64.wrap (y12 + 1), r18))
 else
 some (.inr (xs))
def ZaG (d0 : Za) : Option (List (List Int)) :=
 (ZaC d0.Points).bind fun r8 =>
 loop (Zcb d0) (0, r8)
def Zbo (lists0 : List (List Int)) : List (List Int) × Int → Option ((List (List Int) × Int) ⊕ (List (List Int)))
 | (out3, y8) =>
 bif decide (y8 < (lists0.length : Int)) then
 (gIdx lists0 y8).bind fun e10 =>
 (Zac e10).bind fun r14 =>
 (gApp 24 out3 [r14]).bind fun l16 =>
 some (.inl (l16, IntKind.i64.wrap (y8 + 1)))
 else
 some (.inr (out3))
def Zae (lists0 : List (List Int)) : Option (List (List Int)) :=
 loop (Zbo lists0) (([] : List (List Int)), 0)
def ZcM (l0 y1 : List Int) : Option Bool :=
 (Zat l0 y1).bind fun r6 =>
 some (r6)
def ZbW (lists0 : List (List Int)) (list1 : List Int) : Option Bool :=
 (Zao lists0 (fun y0 => ZcM y0 list1)).bind fun r7 =>
 some (r7)
def Zd6 (l0 : List (List Int)) (y12 e15 : Int) (l20 : List Int) : Int × Int → Option ((Int × Int) ⊕ ((Int × Int) ⊕ (Int)))
 | (most5_2, y22) =>
 bif decide (y22 < (l20.length : Int)) then
 (gIdx l20 y22).bind fun e24 =>
 (gIdx l0 e15).bind fun e29 =>
 (gIdx e29 e24).bind fun e32 =>
 some (.inl (if e32 > most5_2 then e32 else most5_2, IntKind.i64.wrap (y22 + 1)))
 else
 some (.inr (.inl (most5_2, IntKind.i64.wrap (y12 + 1))))
def ZcZ (l0 : List (List Int)) (block1 : List Int) : Int × Int → Option ((Int × Int) ⊕ (Int))
 | (most5, y12) =>
 bif decide (y12 < (block1.length : Int)) then
 (gIdx block1 y12).bind fun e15 =>
 (gSl block1 (IntKind.i64.wrap (y12 + 1)) (block1.length : Int)).bind fun l20 =>
 loop (Zd6 l0 y12 e15 l20) (most5, 0)
 else
 some (.inr (most5))
def Za2 (l0 : List (List Int)) (block1 : List Int) : Option Int :=
 loop (ZcZ l0 block1) (0, 0)
def Zc4 (s0 : Zn) (y13 : Int) (e16 : List Int) : Int → Option ((Int) ⊕ ((Int) ⊕ (Int × Int × Bool)))
 | b7 =>
 bif decide (b7 < (e16.length : Int)) then
 (gIdx e16 b7).bind fun e28 =>
 bif decide (e28 < s0.qlambda) then
 some (.inr (.inr ((y13, b7, true))))
 else
 some (.inl (IntKind.i64.wrap (b7 + 1)))
 else
 some (.inr (.inl (IntKind.i64.wrap (y13 + 1))))
def ZdA (s0 : Zn) : Int → Option ((Int) ⊕ (Int × Int × Bool))
 | y13 =>
 bif decide (y13 < (s0.qload.length : Int)) then
 (gIdx s0.qload y13).bind fun e16 =>
 loop (Zc4 s0 y13 e16) (IntKind.i64.wrap (y13 + 1))
 else
 some (.inr ((0, 0, false)))
def Za8 (s0 : Zn) : Option (Int × Int × Bool) :=
 loop (ZdA s0) (0)
def ZcO (rf_impl_blocker_search : Zn → Int → Int → Int → Option Zn) (y0 : Zn) (r48 : Int × Int × Bool) (y12 q_3 : Int) (q_4 : Bool) (q_5 : Int) (q_6 : Bool) (q_7 q_8 : Int) (xs : List (List Int)) (xs_2 : List Bool) (xs_3 xs_4 : List (List Int)) (e99 : List Int) : Option ((Int × Int × Bool × Int × Bool × Int × Int × List (List Int) × List Bool × List (List Int) × List (List Int)) ⊕ (Zn)) :=
 (gIdx xs_2 y12).bind fun e138 =>
 (ZX xs e99 1).bind fun r144 =>
 (gApp 24 xs_3 [e99]).bind fun l152 =>
 (rf_impl_blocker_search (Zn.mk (Zs.mk q_3 q_4) q_5 q_6 r144 y0.qsets (xs_2.set y12.toNat true) l152 q_7 q_8 xs_4) y12 r48.1 r48.2.1).bind fun r159 =>
 (gSl r159.qblocks 0 (IntKind.i64.wrap ((r159.qblocks.length : Int) - 1))).bind fun l171 =>
 (ZX r159.qload e99 (-1)).bind fun r179 =>
 (gIdx r159.qused y12).bind fun e185 =>
 some (.inl (IntKind.i64.wrap (y12 + 1), r159.qcounter.qleft, r159.qcounter.qspent, r159.qlambda, r159.qfirst, r159.qnodes, r159.qcount, r179, (r159.qused.set y12.toNat false), l171, r159.qfound))
def Za9 (rf_impl_blocker_search : Zn → Int → Int → Int → Option Zn) (y0 : Zn) (r48 : Int × Int × Bool) : Int × Int × Bool × Int × Bool × Int × Int × List (List Int) × List Bool × List (List Int) × List (List Int) → Option ((Int × Int × Bool × Int × Bool × Int × Int × List (List Int) × List Bool × List (List Int) × List (List Int)) ⊕ (Zn))
 | (y12, q_3, q_4, q_5, q_6, q_7, q_8, xs, xs_2, xs_3, xs_4) =>
 bif decide (y12 < (y0.qsets.length : Int)) then
 (gIdx y0.qsets y12).bind fun e99 =>
 (gIdx xs_2 y12).bind fun e106 =>
 bif e106 then
 some (.inl (IntKind.i64.wrap (y12 + 1), q_3, q_4, q_5, q_6, q_7, q_8, xs, xs_2, xs_3, xs_4))
 else
 (Zad e99 r48.1).bind fun r111 =>
 bif !r111 then
 some (.inl (IntKind.i64.wrap (y12 + 1), q_3, q_4, q_5, q_6, q_7, q_8, xs, xs_2, xs_3, xs_4))
 else
 (Zad e99 r48.2.1).bind fun r117 =>
 bif !r117 then
 some (.inl (IntKind.i64.wrap (y12 + 1), q_3, q_4, q_5, q_6, q_7, q_8, xs, xs_2, xs_3, xs_4))
 else
 (Za2 xs e99).bind fun r126 =>
 bif decide (r126 ≥ q_5) then
 some (.inl (IntKind.i64.wrap (y12 + 1), q_3, q_4, q_5, q_6, q_7, q_8, xs, xs_2, xs_3, xs_4))
 else
 ZcO rf_impl_blocker_search y0 r48 y12 q_3 q_4 q_5 q_6 q_7 q_8 xs xs_2 xs_3 xs_4 e99
 else
 some (.inr ((Zn.mk (Zs.mk q_3 q_4) q_5 q_6 xs y0.qsets xs_2 xs_3 q_7 q_8 xs_4)))
def Zak (rf_impl_blocker_search : Zn → Int → Int → Int → Option Zn) (y0 : Zn) (q : Int) (q_2 : Bool) (r48 : Int × Int × Bool) (y11 : Int) : Option (Zn) :=
 loop (Za9 rf_impl_blocker_search y0 r48) (y11, q, q_2, y0.qlambda, y0.qfirst, IntKind.i64.wrap (y0.qnodes + 1), y0.qcount, y0.qload, y0.qused, y0.qblocks, y0.qfound)
def Zax (rf_impl_blocker_search : Zn → Int → Int → Int → Option Zn) (y0 : Zn) (y1 y2 y3 q : Int) (q_2 : Bool) : Option (Zn) :=
 (Za8 (Zn.mk (Zs.mk q q_2) y0.qlambda y0.qfirst y0.qload y0.qsets y0.qused y0.qblocks (IntKind.i64.wrap (y0.qnodes + 1)) y0.qcount y0.qfound)).bind fun r48 =>
 bif !r48.2.2 then
 bif (IntKind.i64.wrap (y0.qcount + 1) : Int) == 1 then
 (Zae y0.qblocks).bind fun r71 =>
 some ((Zn.mk (Zs.mk q q_2) y0.qlambda y0.qfirst y0.qload y0.qsets y0.qused y0.qblocks (IntKind.i64.wrap (y0.qnodes + 1)) (IntKind.i64.wrap (y0.qcount + 1)) r71))
 else
 some ((Zn.mk (Zs.mk q q_2) y0.qlambda y0.qfirst y0.qload y0.qsets y0.qused y0.qblocks (IntKind.i64.wrap (y0.qnodes + 1)) (IntKind.i64.wrap (y0.qcount + 1)) y0.qfound))
 else
 bif r48.1 == y2 then
 bif r48.2.1 == y3 then
 Zak rf_impl_blocker_search y0 q q_2 r48 (IntKind.i64.wrap (y1 + 1))
 else
 Zak rf_impl_blocker_search y0 q q_2 r48 0
 else
 Zak rf_impl_blocker_search y0 q q_2 r48 0
def q_impl_blocker_search (rf_impl_blocker_search : Zn → Int → Int → Int → Option Zn) (y0 : Zn) (y1 y2 y3 : Int) : Option Zn :=
 bif y0.qcounter.qspent then
 some ((Zn.mk (Zs.mk y0.qcounter.qleft y0.qcounter.qspent) y0.qlambda y0.qfirst y0.qload y0.qsets y0.qused y0.qblocks y0.qnodes y0.qcount y0.qfound))
 else
 bif y0.qfirst then
 bif decide ((y0.qcount : Int) > 0) then
 some ((Zn.mk (Zs.mk y0.qcounter.qleft y0.qcounter.qspent) y0.qlambda y0.qfirst y0.qload y0.qsets y0.qused y0.qblocks y0.qnodes y0.qcount y0.qfound))
 else
 (ZY (Zs.mk y0.qcounter.qleft y0.qcounter.qspent)).bind fun r36 =>
 bif !r36.1 then
 some ((Zn.mk (Zs.mk r36.2.qleft r36.2.qspent) y0.qlambda y0.qfirst y0.qload y0.qsets y0.qused y0.qblocks y0.qnodes y0.qcount y0.qfound))
 else
 Zax rf_impl_blocker_search y0 y1 y2 y3 r36.2.qleft r36.2.qspent
 else
 (ZY (Zs.mk y0.qcounter.qleft y0.qcounter.qspent)).bind fun r36_2 =>
 bif !r36_2.1 then
 some ((Zn.mk (Zs.mk r36_2.2.qleft r36_2.2.qspent) y0.qlambda y0.qfirst y0.qload y0.qsets y0.qused y0.qblocks y0.qnodes y0.qcount y0.qfound))
 else
 Zax rf_impl_blocker_search y0 y1 y2 y3 r36_2.2.qleft r36_2.2.qspent
def pn_impl_blocker_search : Nat → (Zn → Int → Int → Int → Option Zn)
 | 0 => (fun _ _ _ _ => none)
 | n + 1 => q_impl_blocker_search (pn_impl_blocker_search n)
def Zhh : Zn → Int → Int → Int → Option Zn := (pn_impl_blocker_search fuel)
def Zcz (y0 : Za) (y2 y3 : Int) (y4 : Bool) (r44 r48 r51 : List (List Int)) : Int × List Bool → Option ((Int × List Bool) ⊕ ((Option Zn) × Int))
 | (y59, xs) =>
 bif decide (y59 < (r48.length : Int)) then
 (gIdx r48 y59).bind fun e61 =>
 (ZbW y0.Blocks e61).bind fun r71 =>
 (gApp 1 xs [r71]).bind fun l73 =>
 some (.inl (IntKind.i64.wrap (y59 + 1), l73))
 else
 (Zhh (Zn.mk (Zs.mk y3 false) y2 y4 r44 r48 xs r51 0 0 ([] : List (List Int))) (-1) (-1) (-1)).bind fun r78 =>
 bif r78.qcounter.qspent then
 some (.inr ((none, 5)))
 else
 some (.inr (((some (Zn.mk (Zs.mk r78.qcounter.qleft r78.qcounter.qspent) r78.qlambda r78.qfirst r78.qload r48 r78.qused r78.qblocks r78.qnodes r78.qcount r78.qfound)), 0)))
def Zbi (y0 : Za) (y1 y2 y3 : Int) (y4 : Bool) : Option ((Option Zn) × Int) :=
 (ZaG (Za.mk y0.Points y0.Blocks)).bind fun r44 =>
 (Zaq y0.Points y1).bind fun r48 =>
 (Zae y0.Blocks).bind fun r51 =>
 loop (Zcz y0 y2 y3 y4 r44 r48 r51) (0, ([] : List Bool))
def Zas (y0 : Za) (y1 y2 y3 : Int) (y4 y15 : Bool) : Option ((Option Zn) × Int) :=
 bif y15 then
 some ((none, 2))
 else
 (Z6 y0.Points y1).bind fun r31 =>
 bif decide (r31 > 1500) then
 some ((none, 5))
 else
 (Zau (Za.mk y0.Points y0.Blocks) y1 y2).bind fun r37 =>
 bif !r37 then
 some ((none, 6))
 else
 Zbi y0 y1 y2 y3 y4
def ZaP (y0 : Za) (y1 y2 y3 : Int) (y4 : Bool) : Option ((Option Zn) × Int) :=
 (ZaW y3).bind fun r17 =>
 bif !r17 then
 Zas y0 y1 y2 y3 y4 true
 else
 (ZaZ y0.Points y1 y2).bind fun r24 =>
 Zas y0 y1 y2 y3 y4 (!r24)
def Zaj (d0 : Za) (k1 lambda2 budget3 : Int) : Option (Int × Int) :=
 (Zar (Za.mk d0.Points d0.Blocks)).bind fun r13 =>
 bif !r13 then
 some ((0, 1))
 else
 (ZaP (Za.mk d0.Points d0.Blocks) k1 lambda2 budget3 false).bind fun r20 =>
 (match r20 with
 | (none, c20) =>
 bif c20 != 0 then
 some ((0, c20))
 else
 none
 | (some d20, c20) =>
 bif c20 != 0 then
 some ((0, c20))
 else
 some ((d20.qcount, 0))
 )
open Classical in
def Zcf (x0 : List (List Int)) (fn1 : (List Int) → (List Int) → Option Int) : Option (List (List Int)) := if (∀ a ∈ x0, ∀ c ∈ x0, fn1 a c = some (lexC a c)) ∧ x0.length < 4611686018427387904 then some (sortRows x0) else none
def ZaM (points0 : Int) (blocks1 : List (List Int)) : Option (Za × Int) :=
 bif decide (((blocks1.length : Int) : Int) > 128) then
 some (((Za.mk 0 ([] : List (List Int))), 5))
 else
 (Zae blocks1).bind fun r13 =>
 (Zcf r13 (fun y0 y1 => ZaL y0 y1)).bind fun r17 =>
 some (((Za.mk points0 r17), 0))
def ZaD (d0 : Za) (k1 lambda2 budget3 : Int) : Option (Za × Int) :=
 (ZaP (Za.mk d0.Points d0.Blocks) k1 lambda2 budget3 true).bind fun r17 =>
 (match r17 with
 | (none, c17) =>
 bif c17 != 0 then
 some (((Za.mk 0 ([] : List (List Int))), c17))
 else
 none
 | (some d17, c17) =>
 bif c17 != 0 then
 some (((Za.mk 0 ([] : List (List Int))), c17))
 else
 bif (d17.qcount : Int) == 0 then
 some (((Za.mk 0 ([] : List (List Int))), 3))
 else
 (ZaM d0.Points d17.qfound).bind fun r36 =>
 some (((Za.mk r36.1.Points r36.1.Blocks), r36.2))
 )
def ZW (v0 k1 lambda2 budget3 : Int) : Option (Za × Int) :=
 (ZaD (Za.mk v0 ([] : List (List Int))) k1 lambda2 budget3).bind fun r15 =>
 some (((Za.mk r15.1.Points r15.1.Blocks), r15.2))
def ZaU (n0 low1 high2 : Int) : Option Bool :=
 bif decide (n0 ≥ low1) then
 some (decide (n0 ≤ high2))
 else
 some (false)
def Zc8 (list0 : List Int) (low1 high2 : Int) : Int → Option ((Int) ⊕ (Bool))
 | i7 =>
 bif decide (i7 < (list0.length : Int)) then
 (gIdx list0 i7).bind fun e16 =>
 (ZaU e16 low1 high2).bind fun r20 =>
 bif !r20 then
 some (.inr (false))
 else
 bif decide (i7 > 0) then
 (gIdx list0 (IntKind.i64.wrap (i7 - 1))).bind fun e29 =>
 (gIdx list0 i7).bind fun e33 =>
 bif decide (e29 ≥ e33) then
 some (.inr (false))
 else
 some (.inl (IntKind.i64.wrap (i7 + 1)))
 else
 some (.inl (IntKind.i64.wrap (i7 + 1)))
 else
 some (.inr (true))
def Zb1 (list0 : List Int) (low1 high2 : Int) : Option Bool :=
 loop (Zc8 list0 low1 high2) (0)
def Za6 (set0 : List Int) (points1 : Int) : Option Bool :=
 bif decide (((set0.length : Int) : Int) > 0) then
 (Zb1 set0 0 (IntKind.i64.wrap (points1 - 1))).bind fun r12 =>
 some (r12)
 else
 some (false)
def ZaX (a0 b1 : List Int) : Option (Int) :=
 bif decide (((a0.length : Int) : Int) < (b1.length : Int)) then
 some ((-1))
 else
 bif decide (((a0.length : Int) : Int) > (b1.length : Int)) then
 some (1)
 else
 some (0)
def ZbF (a0 b1 : List Int) (i5 : Int) : Option ((Int) ⊕ (Int)) :=
 (gIdx a0 i5).bind fun e20 =>
 (gIdx b1 i5).bind fun e24 =>
 bif decide (e20 < e24) then
 some (.inr ((-1)))
 else
 (gIdx a0 i5).bind fun e29 =>
 (gIdx b1 i5).bind fun e33 =>
 bif decide (e29 > e33) then
 some (.inr (1))
 else
 some (.inl (IntKind.i64.wrap (i5 + 1)))
def Zef (a0 b1 : List Int) : Int → Option ((Int) ⊕ (Int))
 | i5 =>
 bif decide (i5 < (a0.length : Int)) then
 bif decide (i5 < (b1.length : Int)) then
 ZbF a0 b1 i5
 else
 (ZaX a0 b1).map fun x => .inr (x)
 else
 (ZaX a0 b1).map fun x => .inr (x)
def Zb5 (a0 b1 : List Int) : Option Int :=
 loop (Zef a0 b1) (0)
def Zdf (d0 : Za) : Int → Option ((Int) ⊕ (Bool))
 | i3 =>
 bif decide (i3 < (d0.Blocks.length : Int)) then
 (gIdx d0.Blocks i3).bind fun e32 =>
 (Za6 e32 d0.Points).bind fun r38 =>
 bif !r38 then
 some (.inr (false))
 else
 bif decide (i3 > 0) then
 (gIdx d0.Blocks (IntKind.i64.wrap (i3 - 1))).bind fun e50 =>
 (gIdx d0.Blocks i3).bind fun e57 =>
 (Zb5 e50 e57).bind fun r59 =>
 bif decide (r59 > 0) then
 some (.inr (false))
 else
 some (.inl (IntKind.i64.wrap (i3 + 1)))
 else
 some (.inl (IntKind.i64.wrap (i3 + 1)))
 else
 some (.inr (true))
def Zca (d0 : Za) : Option (Bool) :=
 loop (Zdf d0) (0)
def ZaQ (d0 : Za) : Option Bool :=
 (ZaU d0.Points 1 32).bind fun r8 =>
 bif !r8 then
 some (false)
 else
 bif decide (((d0.Blocks.length : Int) : Int) > 128) then
 some (false)
 else
 Zca d0
def ZdD (list0 : List Int) (n1 : Int) : Int → Option ((Int) ⊕ (Bool))
 | i5 =>
 bif decide (i5 < (list0.length : Int)) then
 (gIdx list0 i5).bind fun e14 =>
 bif e14 == n1 then
 some (.inr (true))
 else
 some (.inl (IntKind.i64.wrap (i5 + 1)))
 else
 some (.inr (false))
def ZaV (list0 : List Int) (n1 : Int) : Option Bool :=
 loop (ZdD list0 n1) (0)
def Zd4 (d0 : Za) (a4 : Int) (out3_2 : List Int) (b5 : Int) : Int × Int → Option ((Int × Int) ⊕ ((List Int × Int) ⊕ ((List Int × Int) ⊕ (List Int))))
 | (n6, i7) =>
 bif decide (i7 < (d0.Blocks.length : Int)) then
 (gIdx d0.Blocks i7).bind fun e41 =>
 (ZaV e41 a4).bind fun r44 =>
 bif r44 then
 (gIdx d0.Blocks i7).bind fun e51 =>
 (ZaV e51 b5).bind fun r54 =>
 bif r54 then
 some (.inl (IntKind.i64.wrap (n6 + 1), IntKind.i64.wrap (i7 + 1)))
 else
 some (.inl (n6, IntKind.i64.wrap (i7 + 1)))
 else
 some (.inl (n6, IntKind.i64.wrap (i7 + 1)))
 else
 (gApp 8 out3_2 [n6]).bind fun l61 =>
 some (.inr (.inl (l61, IntKind.i64.wrap (b5 + 1))))
def ZcS (d0 : Za) (a4 : Int) : List Int × Int → Option ((List Int × Int) ⊕ ((List Int × Int) ⊕ (List Int)))
 | (out3_2, b5) =>
 bif decide (b5 < d0.Points) then
 loop (Zd4 d0 a4 out3_2 b5) (0, 0)
 else
 some (.inr (.inl (out3_2, IntKind.i64.wrap (a4 + 1))))
def Zcp (d0 : Za) : List Int × Int → Option ((List Int × Int) ⊕ (List Int))
 | (out3, a4) =>
 bif decide (a4 < d0.Points) then
 loop (ZcS d0 a4) (out3, IntKind.i64.wrap (a4 + 1))
 else
 some (.inr (out3))
def Zav (d0 : Za) : Option (List Int) :=
 loop (Zcp d0) (([] : List Int), 0)
def ZcN (d0 : Za) (i4 : Int) : Int × List Int → Option ((Int × List Int) ⊕ ((Int × List Int) ⊕ (List Int)))
 | (k5, xs_2) =>
 (gIdx d0.Blocks i4).bind fun e26 =>
 bif decide (k5 < (e26.length : Int)) then
 (gIdx d0.Blocks i4).bind fun e38 =>
 (gIdx e38 k5).bind fun e41 =>
 (gIdx xs_2 e41).bind fun e43 =>
 (gIdx xs_2 e41).bind fun e46 =>
 some (.inl (IntKind.i64.wrap (k5 + 1), (xs_2.set e41.toNat (IntKind.i64.wrap (e43 + 1)))))
 else
 some (.inr (.inl (IntKind.i64.wrap (i4 + 1), xs_2)))
def ZbZ (d0 : Za) : Int × List Int → Option ((Int × List Int) ⊕ (List Int))
 | (i4, xs) =>
 bif decide (i4 < (d0.Blocks.length : Int)) then
 loop (ZcN d0 i4) (0, xs)
 else
 some (.inr (xs))
def ZbD (d0 : Za) : Option (List Int) :=
 (gMake 8 (0 : Int) d0.Points d0.Points).bind fun l10 =>
 loop (ZbZ d0) (0, l10)
def Zc6 (y0 : Za) (e26 r54 : List Int) : Int → Option ((Int) ⊕ ((Int) ⊕ (Zz × Bool)))
 | y7 =>
 bif decide (y7 < (r54.length : Int)) then
 (gIdx r54 y7).bind fun e63 =>
 (gIdx r54 0).bind fun e66 =>
 bif e63 != e66 then
 some (.inr (.inr (((Zz.mk 0 0 0 0 0), false))))
 else
 some (.inl (IntKind.i64.wrap (y7 + 1)))
 else
 (ZbD y0).bind fun r80 =>
 (gIdx r80 0).bind fun e81 =>
 (gIdx r54 0).bind fun e85 =>
 some (.inr (.inr (((Zz.mk y0.Points (y0.Blocks.length : Int) e81 (e26.length : Int) e85), true))))
def ZdB (y0 : Za) (e26 : List Int) : Int → Option ((Int) ⊕ (Zz × Bool))
 | y5 =>
 bif decide (y5 < (y0.Blocks.length : Int)) then
 (gIdx y0.Blocks y5).bind fun e43 =>
 bif ((e43.length : Int) : Int) != (e26.length : Int) then
 some (.inr (((Zz.mk 0 0 0 0 0), false)))
 else
 bif decide (((e26.length : Int) : Int) < 2) then
 some (.inr (((Zz.mk 0 0 0 0 0), false)))
 else
 some (.inl (IntKind.i64.wrap (y5 + 1)))
 else
 (Zav y0).bind fun r54 =>
 loop (Zc6 y0 e26 r54) (0)
def Zcv (y0 : Za) : Option (Zz × Bool) :=
 (gIdx y0.Blocks 0).bind fun e26 =>
 loop (ZdB y0 e26) (0)
def Zcl (y0 : Za) : Option (Zz × Bool) :=
 bif decide (y0.Points < 2) then
 some (((Zz.mk 0 0 0 0 0), false))
 else
 bif ((y0.Blocks.length : Int) : Int) == 0 then
 some (((Zz.mk 0 0 0 0 0), false))
 else
 Zcv y0
def Zcw (d0 : Za) : Option Bool :=
 (ZaQ d0).bind fun r6 =>
 bif !r6 then
 some (false)
 else
 (Zcl d0).bind fun r10 =>
 bif r10.2 then
 bif r10.1.K == 3 then
 some (r10.1.Lambda == 1)
 else
 some (false)
 else
 some (false)
def Z0 (d0 : Za) : Option Bool :=
 (Zcw (Za.mk d0.Points d0.Blocks)).bind fun r3 =>
 some (r3)
def Zb2 (d0 : Za) (k1 lambda2 budget3 : Int) : Option (Za × Int) :=
 (Zar (Za.mk d0.Points d0.Blocks)).bind fun r11 =>
 bif !r11 then
 some (((Za.mk 0 ([] : List (List Int))), 1))
 else
 (ZaD (Za.mk d0.Points d0.Blocks) k1 lambda2 budget3).bind fun r18 =>
 some (((Za.mk r18.1.Points r18.1.Blocks), r18.2))
def Zbm (lambda2 : Int) (r19 : List Int) : Int × List Int → Option ((Int × List Int) ⊕ ((List Int) × Int))
 | (y22, xs) =>
 bif decide (y22 < (r19.length : Int)) then
 (gIdx xs y22).bind fun e30 =>
 (gIdx xs y22).bind fun e33 =>
 some (.inl (IntKind.i64.wrap (y22 + 1), (xs.set y22.toNat (IntKind.i64.wrap (lambda2 - e30)))))
 else
 some (.inr ((xs, 0)))
def Zb8 (d0 : Za) (k1 lambda2 : Int) : Option ((List Int) × Int) :=
 (Zar (Za.mk d0.Points d0.Blocks)).bind fun r11 =>
 bif !r11 then
 some ((([] : List Int), 1))
 else
 (Zau (Za.mk d0.Points d0.Blocks) k1 lambda2).bind fun r16 =>
 bif !r16 then
 some ((([] : List Int), 6))
 else
 (Zaw (Za.mk d0.Points d0.Blocks)).bind fun r19 =>
 loop (Zbm lambda2 r19) (0, r19)
def Zds (a0 b1 : List Int) : Int → Option ((Int) ⊕ (Bool))
 | i5 =>
 bif decide (i5 < (a0.length : Int)) then
 (gIdx a0 i5).bind fun e19 =>
 (gIdx b1 i5).bind fun e23 =>
 bif e19 != e23 then
 some (.inr (false))
 else
 some (.inl (IntKind.i64.wrap (i5 + 1)))
 else
 some (.inr (true))
def Zcs (a0 b1 : List Int) : Option Bool :=
 bif ((a0.length : Int) : Int) != (b1.length : Int) then
 some (false)
 else
 loop (Zds a0 b1) (0)
def Zdp (y2 : Int) (r59 : List Int) : Int → Option ((Int) ⊕ ((Int) ⊕ (Bool)))
 | y9 =>
 bif decide (y9 < (r59.length : Int)) then
 (gIdx r59 y9).bind fun e68 =>
 bif decide (e68 > y2) then
 some (.inr (.inr (false)))
 else
 some (.inl (IntKind.i64.wrap (y9 + 1)))
 else
 some (.inr (.inr (true)))
def Zd5 (y0 : Za) (y1 y2 : Int) : Int → Option ((Int) ⊕ (Bool))
 | y7 =>
 bif decide (y7 < (y0.Blocks.length : Int)) then
 (gIdx y0.Blocks y7).bind fun e31 =>
 bif ((e31.length : Int) : Int) != y1 then
 some (.inr (false))
 else
 bif decide (y7 > 0) then
 (gIdx y0.Blocks y7).bind fun e45 =>
 (gIdx y0.Blocks (IntKind.i64.wrap (y7 - 1))).bind fun e53 =>
 (Zcs e45 e53).bind fun r55 =>
 bif r55 then
 some (.inr (false))
 else
 some (.inl (IntKind.i64.wrap (y7 + 1)))
 else
 some (.inl (IntKind.i64.wrap (y7 + 1)))
 else
 (Zav y0).bind fun r59 =>
 loop (Zdp y2 r59) (0)
def ZcE (y0 : Za) (y1 y2 : Int) : Option (Bool) :=
 loop (Zd5 y0 y1 y2) (0)
def ZbY (y0 : Za) (y1 y2 : Int) : Option Bool :=
 (ZaQ y0).bind fun r11 =>
 bif !r11 then
 some (false)
 else
 bif decide (y2 < 1) then
 some (false)
 else
 ZcE y0 y1 y2
def Zaz (d0 : Za) (k1 lambda2 : Int) : Option Bool :=
 (ZbY (Za.mk d0.Points d0.Blocks) k1 lambda2).bind fun r9 =>
 some (r9)
def ZdN (a0 b1 : List Int) : Int → Option ((Int) ⊕ (Bool))
 | i5 =>
 bif decide (i5 < (a0.length : Int)) then
 (gIdx a0 i5).bind fun e19 =>
 (gIdx b1 i5).bind fun e23 =>
 bif e19 != e23 then
 some (.inr (false))
 else
 some (.inl (IntKind.i64.wrap (i5 + 1)))
 else
 some (.inr (true))
def ZcR (a0 b1 : List Int) : Option Bool :=
 bif ((a0.length : Int) : Int) != (b1.length : Int) then
 some (false)
 else
 loop (ZdN a0 b1) (0)
def Zbd (v0 lambda2 : Int) (r29 : List (List Int)) : Int × List (List Int) × List (List Int) → Option ((Int × List (List Int) × List (List Int)) ⊕ (Za × Int))
 | (y31, xs, xs_2) =>
 bif decide (y31 < (r29.length : Int)) then
 (gIdx r29 y31).bind fun e33 =>
 (Za2 xs_2 e33).bind fun r37 =>
 bif decide (r37 < lambda2) then
 (ZX xs_2 e33 1).bind fun r42 =>
 (gApp 24 xs [e33]).bind fun l47 =>
 some (.inl (IntKind.i64.wrap (y31 + 1), l47, r42))
 else
 some (.inl (IntKind.i64.wrap (y31 + 1), xs, xs_2))
 else
 (ZaM v0 xs).bind fun r53 =>
 some (.inr (((Za.mk r53.1.Points r53.1.Blocks), r53.2)))
def Zcu (v0 k1 lambda2 : Int) : Option (Za × Int) :=
 (ZaZ v0 k1 lambda2).bind fun r15 =>
 bif !r15 then
 some (((Za.mk 0 ([] : List (List Int))), 2))
 else
 (Z6 v0 k1).bind fun r20 =>
 bif decide (r20 > 1500) then
 some (((Za.mk 0 ([] : List (List Int))), 5))
 else
 (ZaG (Za.mk v0 ([] : List (List Int)))).bind fun r26 =>
 (Zaq v0 k1).bind fun r29 =>
 loop (Zbd v0 lambda2 r29) (0, ([] : List (List Int)), r26)
def Zeo (l101 : List (List Int)) (r105 : Za × Int) (y23 : Int) : Bool × Int → Option ((Bool × Int) ⊕ ((Int) ⊕ ((Int × Int) ⊕ (Bool))))
 | (y24, y25) =>
 bif decide (y25 < (r105.1.Blocks.length : Int)) then
 bif y24 then
 some (.inl (true, IntKind.i64.wrap (y25 + 1)))
 else
 (gIdx l101 y23).bind fun e160 =>
 (gIdx r105.1.Blocks y25).bind fun e165 =>
 (ZcR e160 e165).bind fun r167 =>
 some (.inl (r167, IntKind.i64.wrap (y25 + 1)))
 else
 bif !y24 then
 some (.inr (.inr (.inr (false))))
 else
 some (.inr (.inl (IntKind.i64.wrap (y23 + 1))))
def Zee (r32 r94 : Int) (l101 : List (List Int)) (r105 : Za × Int) (y21 : Int) : Int → Option ((Int) ⊕ ((Int × Int) ⊕ (Bool)))
 | y23 =>
 bif decide (y23 < (l101.length : Int)) then
 loop (Zeo l101 r105 y23) (false, 0)
 else
 (Zcu (IntKind.i64.wrap (3 + r32)) 3 1).bind fun r173 =>
 (gNz 2).bind fun _ =>
 bif y21 == (IntKind.i64.wrap ((IntKind.i64.wrap (Int.tdiv (IntKind.i64.wrap ((IntKind.i64.wrap (3 + r32)) * (IntKind.i64.wrap ((IntKind.i64.wrap (3 + r32)) - 1)))) 2)) - (IntKind.i64.wrap (3 * r94)))) then
 bif r173.2 == 0 then
 (Zaz (Za.mk r173.1.Points r173.1.Blocks) 3 1).bind fun r192 =>
 some (.inr (.inr (r192)))
 else
 some (.inr (.inr (false)))
 else
 some (.inr (.inr (false)))
def ZdL (r32 r94 : Int) (l101 : List (List Int)) (r105 : Za × Int) (r110 : (List Int) × Int) : Int × Int → Option ((Int × Int) ⊕ (Bool))
 | (y21, y22) =>
 bif decide (y22 < (r110.1.length : Int)) then
 (gIdx r110.1 y22).bind fun e138 =>
 some (.inl (IntKind.i64.wrap (y21 + e138), IntKind.i64.wrap (y22 + 1)))
 else
 loop (Zee r32 r94 l101 r105 y21) (0)
def ZbV (r32 r94 : Int) (l101 : List (List Int)) (r105 : Za × Int) (r110 : (List Int) × Int) : Option (Bool) :=
 loop (ZdL r32 r94 l101 r105 r110) (0, 0)
def ZP (y1 : List Int) (r32 : Int) (r68 : Za × Int) : Option (Bool) :=
 bif r68.2 != 0 then
 some (r68.2 == 3)
 else
 (ZN y1 0 (IntKind.i64.wrap ((r68.1.Blocks.length : Int) + 1))).bind fun r94 =>
 (gSl r68.1.Blocks 0 r94).bind fun l100 =>
 (gApp 24 ([] : List (List Int)) l100).bind fun l101 =>
 (Zb2 (Za.mk (IntKind.i64.wrap (3 + r32)) l101) 3 1 20000).bind fun r105 =>
 (Zb8 (Za.mk (IntKind.i64.wrap (3 + r32)) l101) 3 1).bind fun r110 =>
 bif r105.2 != 0 then
 some (false)
 else
 bif r110.2 != 0 then
 some (false)
 else
 (Z0 (Za.mk r105.1.Points r105.1.Blocks)).bind fun r121 =>
 bif !r121 then
 some (false)
 else
 (Zaz (Za.mk (IntKind.i64.wrap (3 + r32)) l101) 3 1).bind fun r126 =>
 bif !r126 then
 some (false)
 else
 ZbV r32 r94 l101 r105 r110
def Zcy (y1 : List Int) (r32 : Int) (r41 : Int × Int) : Option (Bool) :=
 (ZW (IntKind.i64.wrap (3 + r32)) 3 1 20000).bind fun r68 =>
 bif !((r68.2 == 0) == (decide (r41.1 > 0))) then
 some (false)
 else
 bif r68.2 == 0 then
 (Z0 (Za.mk r68.1.Points r68.1.Blocks)).bind fun r81 =>
 bif !r81 then
 some (false)
 else
 ZP y1 r32 r68
 else
 ZP y1 r32 r68
def ZdJ (y0 y1 : List Int) : Option Bool :=
 (Zdx y0 y1).bind fun r30 =>
 bif r30 then
 some (true)
 else
 (ZN y0 0 5).bind fun r32 =>
 (Zam (IntKind.i64.wrap (3 + r32))).bind fun r36 =>
 (Z1 (Zr.mk r36.1.Items r36.1.Options) 20000).bind fun r41 =>
 (Zaj (Za.mk (IntKind.i64.wrap (3 + r32)) ([] : List (List Int))) 3 1 20000).bind fun r48 =>
 bif r36.2 != 0 then
 some (false)
 else
 bif r41.2 != 0 then
 some (false)
 else
 bif r48.2 != 0 then
 some (false)
 else
 bif r41.1 != r48.1 then
 some (false)
 else
 Zcy y1 r32 r41
end
end Go.Proofs.YtocnokjekoglnaaGreat
