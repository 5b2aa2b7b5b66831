/- Plain functions of the functions of this seat, printed by pgen.py. -/
import Derived.Test.YtapkemdomnkccaaGreatPuCmp
namespace Go.Proofs.YtapkemdomnkccaaGreat
set_option linter.unusedSimpArgs false
open Go Go.Vc
set_option linter.unusedVariables false
structure ZDj where
 Degree : Int
 Elements : List (List Int)
structure ZaB where
 Degree : Int
 Elements : List (List Int)
structure ZDg where
 qm : List (List Int)
 qlater : List (List Int)
 qlambda : Int
 qchosen : List Int
 qfirst : List Int
 qcount : Int
 qlimit : Int
 qnodes : Int
 qbudget : Int
 qfull : Bool
structure ZaT where
 Points : Int
 Blocks : List (List Int)
structure ZDi where
 qleft : Int
 qspent : Bool
structure ZDh where
 qcounter : ZDi
 qmatrix : List (List Int)
 qlambda : Int
 qlimit : Int
 qsums : List Int
 qlater : List Int
 qchosen : List Int
 qcount : Int
 qfirst : List Int
noncomputable section
def Zb7 (a0 : List Int) (left1 : Int) : Option Int :=
 bif decide ((IntKind.i64.wrap (left1 - (a0.length : Int)) : Int) < 0) then
  some ((-1))
 else
  some (IntKind.i64.wrap (left1 - (a0.length : Int)))
def Zge (a0 : List (List Int)) : Int × Int → Option ((Int × Int) ⊕ (Int))
 | (left1_2, i5) =>
  bif decide ((i5 : Int) < (a0.length : Int)) then
   (gIdx a0 i5).bind fun e20 =>
   (Zb7 e20 left1_2).bind fun r23 =>
   bif decide ((r23 : Int) < 0) then
    some (.inr ((-1)))
   else
    some (.inl (r23, IntKind.i64.wrap (i5 + 1)))
  else
   some (.inr (left1_2))
def Zfv (a0 : List (List Int)) (left1 : Int) : Option Int :=
 bif decide ((IntKind.i64.wrap (left1 - (a0.length : Int)) : Int) < 0) then
  some ((-1))
 else
  loop (Zge a0) (IntKind.i64.wrap (left1 - (a0.length : Int)), 0)
def ZEN (a0 : ZDj) (left1 : Int) : Option Int :=
 (Zfv a0.Elements left1).bind fun r8 =>
 bif decide ((r8 : Int) < 0) then
  some ((-1))
 else
  some (r8)
def ZY (n0 : Int) (low1 : Int) (high2 : Int) : Option Bool :=
 bif decide ((n0 : Int) ≥ low1) then
  some (decide ((n0 : Int) ≤ high2))
 else
  some (false)
def Zc4 (list0 : List Int) (n1 : Int) : Int → Option ((Int) ⊕ (Bool))
 | i5 =>
  bif decide ((i5 : Int) < (list0.length : Int)) then
   (gIdx list0 i5).bind fun e14 =>
   bif (e14 : Int) == n1 then
    some (.inr (true))
   else
    some (.inl (IntKind.i64.wrap (i5 + 1)))
  else
   some (.inr (false))
def Ze1 (list0 : List Int) (n1 : Int) : Option Bool :=
 loop (Zc4 list0 n1) (0)
def ZcV (p0 : List Int) : Int → Option ((Int) ⊕ (Bool))
 | i3 =>
  bif decide ((i3 : Int) < (p0.length : Int)) then
   (gIdx p0 i3).bind fun e15 =>
   (ZY e15 0 (IntKind.i64.wrap ((p0.length : Int) - 1))).bind fun r20 =>
   bif !r20 then
    some (.inr (false))
   else
    (gSl p0 0 i3).bind fun l25 =>
    (gIdx p0 i3).bind fun e28 =>
    (Ze1 l25 e28).bind fun r30 =>
    bif r30 then
     some (.inr (false))
    else
     some (.inl (IntKind.i64.wrap (i3 + 1)))
  else
   some (.inr (true))
def Zcv (p0 : List Int) : Option Bool :=
 bif decide (((p0.length : Int) : Int) > 32) then
  some (false)
 else
  loop (ZcV p0) (0)
def Zb2 (a0 : List Int) (b1 : List Int) : Option (Int) :=
 bif decide (((a0.length : Int) : Int) < (b1.length : Int)) then
  some ((-1))
 else
  bif decide (((a0.length : Int) : Int) > (b1.length : Int)) then
   some (1)
  else
   some (0)
def ZdD (a0 : List Int) (b1 : List Int) (i5 : Int) : Option ((Int) ⊕ (Int)) :=
 (gIdx a0 i5).bind fun e20 =>
 (gIdx b1 i5).bind fun e24 =>
 bif decide ((e20 : Int) < e24) then
  some (.inr ((-1)))
 else
  (gIdx a0 i5).bind fun e29 =>
  (gIdx b1 i5).bind fun e33 =>
  bif decide ((e29 : Int) > e33) then
   some (.inr (1))
  else
   some (.inl (IntKind.i64.wrap (i5 + 1)))
def Za8 (a0 : List Int) (b1 : List Int) : Int → Option ((Int) ⊕ (Int))
 | i5 =>
  bif decide ((i5 : Int) < (a0.length : Int)) then
   bif decide ((i5 : Int) < (b1.length : Int)) then
    ZdD a0 b1 i5
   else
    (Zb2 a0 b1).map fun x => .inr (x)
  else
   (Zb2 a0 b1).map fun x => .inr (x)
def Zce (a0 : List Int) (b1 : List Int) : Option Int :=
 loop (Za8 a0 b1) (0)
def ZaN (list0 : List (List Int)) (p1 : List Int) : Int × Int → Option ((Int × Int) ⊕ (Int × Bool))
 | (low6, high7) =>
  bif decide ((low6 : Int) < high7) then
   (gNz 2).bind fun _ =>
   (gIdx list0 (IntKind.i64.wrap (Int.tdiv (IntKind.i64.wrap (low6 + high7)) 2))).bind fun e21 =>
   (Zce e21 p1).bind fun r24 =>
   bif (r24 : Int) == 0 then
    some (.inr ((IntKind.i64.wrap (Int.tdiv (IntKind.i64.wrap (low6 + high7)) 2), true)))
   else
    bif decide ((r24 : Int) < 0) then
     some (.inl (IntKind.i64.wrap ((IntKind.i64.wrap (Int.tdiv (IntKind.i64.wrap (low6 + high7)) 2)) + 1), high7))
    else
     some (.inl (low6, IntKind.i64.wrap (Int.tdiv (IntKind.i64.wrap (low6 + high7)) 2)))
  else
   some (.inr ((low6, false)))
def Zcs (list0 : List (List Int)) (p1 : List Int) : Option (Int × Bool) :=
 loop (ZaN list0 p1) (0, (list0.length : Int))
def ZdG (n0 : Int) : List Int × Int → Option ((List Int × Int) ⊕ (List Int))
 | (out3, i4) =>
  bif decide ((i4 : Int) < n0) then
   (gApp 8 out3 [i4]).bind fun l14 =>
   some (.inl (l14, IntKind.i64.wrap (i4 + 1)))
  else
   some (.inr (out3))
def Zet (n0 : Int) : Option (List Int) :=
 loop (ZdG n0) (([] : List Int), 0)
def ZdB (p0 : List Int) (q1 : List Int) : List Int × Int → Option ((List Int × Int) ⊕ (List Int))
 | (out5, i6) =>
  bif decide ((i6 : Int) < (p0.length : Int)) then
   (gIdx p0 i6).bind fun e18 =>
   (gIdx q1 e18).bind fun e20 =>
   (gApp 8 out5 [e20]).bind fun l23 =>
   some (.inl (l23, IntKind.i64.wrap (i6 + 1)))
  else
   some (.inr (out5))
def Zfc (p0 : List Int) (q1 : List Int) : Option (List Int) :=
 loop (ZdB p0 q1) (([] : List Int), 0)
def ZfA (list0 : List (List Int)) (at1 : Int) (p2 : List Int) : Option (List (List Int)) :=
 (gSl list0 0 at1).bind fun l11 =>
 (gApp 24 ([] : List (List Int)) l11).bind fun l12 =>
 (gApp 24 l12 [p2]).bind fun l16 =>
 (gSl list0 at1 (list0.length : Int)).bind fun l20 =>
 (gApp 24 l16 l20).bind fun l21 =>
 some (l21)
def Zas (genera1 : List (List Int)) (most2 : Int) (i11 : Int) : List (List Int) × List (List Int) × Int → Option ((List (List Int) × List (List Int) × Int) ⊕ ((List (List Int) × List (List Int) × Int) ⊕ ((List (List Int)) × Bool)))
 | (list9_2, queue10_2, k12) =>
  bif decide ((k12 : Int) < (genera1.length : Int)) then
   (gIdx queue10_2 i11).bind fun e36 =>
   (gIdx genera1 k12).bind fun e40 =>
   (Zfc e36 e40).bind fun r42 =>
   (Zcs list9_2 r42).bind fun r46 =>
   bif r46.2 then
    some (.inl (list9_2, queue10_2, IntKind.i64.wrap (k12 + 1)))
   else
    bif ((list9_2.length : Int) : Int) == most2 then
     some (.inr (.inr ((([] : List (List Int)), false))))
    else
     (ZfA list9_2 r46.1 r42).bind fun r57 =>
     (gApp 24 queue10_2 [r42]).bind fun l61 =>
     some (.inl (r57, l61, IntKind.i64.wrap (k12 + 1)))
  else
   some (.inr (.inl (list9_2, queue10_2, IntKind.i64.wrap (i11 + 1))))
def Zbg (genera1 : List (List Int)) (most2 : Int) : List (List Int) × List (List Int) × Int → Option ((List (List Int) × List (List Int) × Int) ⊕ ((List (List Int)) × Bool))
 | (list9, queue10, i11) =>
  bif decide ((i11 : Int) < (queue10.length : Int)) then
   loop (Zas genera1 most2 i11) (list9, queue10, 0)
  else
   some (.inr ((list9, true)))
def ZbQ (degree0 : Int) (genera1 : List (List Int)) (most2 : Int) : Option ((List (List Int)) × Bool) :=
 (Zet degree0).bind fun r17 =>
 loop (Zbg genera1 most2) ([r17], [r17], 0)
def ZaO (list0 : List Int) : Option (List Int) :=
 (gApp 8 ([] : List Int) list0).bind fun l5 =>
 some (l5)
def ZeE (a0 : List Int) (b1 : List Int) : Int → Option ((Int) ⊕ (Bool))
 | i5 =>
  bif decide ((i5 : Int) < (a0.length : Int)) then
   (gIdx a0 i5).bind fun e19 =>
   (gIdx b1 i5).bind fun e23 =>
   bif (e19 : Int) != e23 then
    some (.inr (false))
   else
    some (.inl (IntKind.i64.wrap (i5 + 1)))
  else
   some (.inr (true))
def Zeu (a0 : List Int) (b1 : List Int) : Option Bool :=
 bif ((a0.length : Int) : Int) != (b1.length : Int) then
  some (false)
 else
  loop (ZeE a0 b1) (0)
def Zf2 (a0 : List (List Int)) (b1 : List (List Int)) : Int → Option ((Int) ⊕ (Bool))
 | i5 =>
  bif decide ((i5 : Int) < (a0.length : Int)) then
   (gIdx a0 i5).bind fun e19 =>
   (gIdx b1 i5).bind fun e23 =>
   (Zeu e19 e23).bind fun r25 =>
   bif !r25 then
    some (.inr (false))
   else
    some (.inl (IntKind.i64.wrap (i5 + 1)))
  else
   some (.inr (true))
def Zdg (a0 : List (List Int)) (b1 : List (List Int)) : Option Bool :=
 bif ((a0.length : Int) : Int) != (b1.length : Int) then
  some (false)
 else
  loop (Zf2 a0 b1) (0)
def ZaV (degree0 : Int) (list1 : List (List Int)) : List (List Int) × List (List Int) × Int → Option ((List (List Int) × List (List Int) × Int) ⊕ ((List (List Int)) × Bool))
 | (out6, have7, i9) =>
  bif decide ((i9 : Int) < (list1.length : Int)) then
   (gIdx list1 i9).bind fun e31 =>
   (Zcs have7 e31).bind fun r33 =>
   bif r33.2 then
    some (.inl (out6, have7, IntKind.i64.wrap (i9 + 1)))
   else
    (gIdx list1 i9).bind fun e40 =>
    (ZaO e40).bind fun r42 =>
    (gApp 24 out6 [r42]).bind fun l44 =>
    (ZbQ degree0 l44 (list1.length : Int)).bind fun r50 =>
    bif !r50.2 then
     some (.inr ((([] : List (List Int)), false)))
    else
     some (.inl (l44, r50.1, IntKind.i64.wrap (i9 + 1)))
  else
   (Zdg have7 list1).bind fun r59 =>
   some (.inr ((out6, r59)))
def ZeY (degree0 : Int) (list1 : List (List Int)) : Option ((List (List Int)) × Bool) :=
 (ZbQ degree0 ([] : List (List Int)) 1).bind fun r18 =>
 loop (ZaV degree0 list1) (([] : List (List Int)), r18.1, 0)
def ZbB (y0 : ZaB) : Int → Option ((Int) ⊕ (Bool))
 | y3 =>
  bif decide ((y3 : Int) < (y0.Elements.length : Int)) then
   (gIdx y0.Elements y3).bind fun e42 =>
   (Zcv e42).bind fun r44 =>
   bif !r44 then
    some (.inr (false))
   else
    (gIdx y0.Elements y3).bind fun e52 =>
    bif ((e52.length : Int) : Int) != y0.Degree then
     some (.inr (false))
    else
     bif decide ((y3 : Int) > 0) then
      (gIdx y0.Elements (IntKind.i64.wrap (y3 - 1))).bind fun e71 =>
      (gIdx y0.Elements y3).bind fun e78 =>
      (Zce e71 e78).bind fun r80 =>
      bif decide ((r80 : Int) ≥ 0) then
       some (.inr (false))
      else
       some (.inl (IntKind.i64.wrap (y3 + 1)))
     else
      some (.inl (IntKind.i64.wrap (y3 + 1)))
  else
   (ZeY y0.Degree y0.Elements).bind fun r93 =>
   some (.inr (r93.2))
def Zhg (y0 : ZaB) : Option (Bool) :=
 loop (ZbB y0) (0)
def Zeh (y0 : ZaB) : Option Bool :=
 (ZY y0.Degree 1 32).bind fun r10 =>
 bif !r10 then
  some (false)
 else
  bif ((y0.Elements.length : Int) : Int) == 0 then
   some (false)
  else
   bif decide (((y0.Elements.length : Int) : Int) > 720) then
    some (false)
   else
    Zhg y0
def ZEL (budget0 : Int) : Option Bool :=
 (ZY budget0 1 20000).bind fun r4 =>
 some (r4)
def ZFZ (n0 : Int) (k1 : Int) : Int × Int → Option ((Int × Int) ⊕ (Int))
 | (out5, i6) =>
  bif decide ((i6 : Int) ≤ k1) then
   (gNz i6).bind fun _ =>
   some (.inl (IntKind.i64.wrap (Int.tdiv (IntKind.i64.wrap (out5 * (IntKind.i64.wrap ((IntKind.i64.wrap (n0 - k1)) + i6)))) i6), IntKind.i64.wrap (i6 + 1)))
  else
   some (.inr (out5))
def ZE8 (n0 : Int) (k1 : Int) : Option (Int) :=
 loop (ZFZ n0 k1) (1, 1)
def ZDq (n0 : Int) (k1 : Int) : Option Int :=
 (ZY n0 0 32).bind fun r8 =>
 bif !r8 then
  some (0)
 else
  (ZY k1 0 n0).bind fun r13 =>
  bif !r13 then
   some (0)
  else
   ZE8 n0 k1
def ZDA (lists0 : List (List Int)) (i7 : Int) (out5_2 : List (List Int)) (done6_2 : Bool) : Option ((List (List Int) × Bool × Int) ⊕ (List (List Int))) :=
 (gIdx lists0 i7).bind fun e37 =>
 (gApp 24 out5_2 [e37]).bind fun l40 =>
 some (.inl (l40, done6_2, IntKind.i64.wrap (i7 + 1)))
def ZDM (lists0 : List (List Int)) (x1 : List Int) (out5 : List (List Int)) (done6 : Bool) (i7 : Int) (r21 : Int) (y27 : Bool) : Option ((List (List Int) × Bool × Int) ⊕ (List (List Int))) :=
 bif y27 then
  bif decide ((r21 : Int) > 0) then
   (gApp 24 out5 [x1]).bind fun l33 =>
   ZDA lists0 i7 l33 true
  else
   ZDA lists0 i7 out5 true
 else
  ZDA lists0 i7 out5 done6
def ZDk (lists0 : List (List Int)) (x1 : List Int) : List (List Int) × Bool × Int → Option ((List (List Int) × Bool × Int) ⊕ (List (List Int)))
 | (out5, done6, i7) =>
  bif decide ((i7 : Int) < (lists0.length : Int)) then
   (gIdx lists0 i7).bind fun e18 =>
   (Zce e18 x1).bind fun r21 =>
   bif !done6 then
    ZDM lists0 x1 out5 done6 i7 r21 (decide ((r21 : Int) ≥ 0))
   else
    ZDM lists0 x1 out5 done6 i7 r21 false
  else
   bif !done6 then
    (gApp 24 out5 [x1]).bind fun l46 =>
    some (.inr (l46))
   else
    some (.inr (out5))
def ZFJ (lists0 : List (List Int)) (x1 : List Int) : Option (List (List Int)) :=
 loop (ZDk lists0 x1) (([] : List (List Int)), false, 0)
def ZDC (list0 : List Int) (i7 : Int) (out5_2 : List Int) (done6_2 : Bool) : Option ((List Int × Bool × Int) ⊕ (List Int)) :=
 (gIdx list0 i7).bind fun e38 =>
 (gApp 8 out5_2 [e38]).bind fun l41 =>
 some (.inl (l41, done6_2, IntKind.i64.wrap (i7 + 1)))
def ZDI (list0 : List Int) (n1 : Int) (out5 : List Int) (done6 : Bool) (i7 : Int) (y24 : Bool) : Option ((List Int × Bool × Int) ⊕ (List Int)) :=
 bif y24 then
  (gIdx list0 i7).bind fun e27 =>
  bif decide ((e27 : Int) > n1) then
   (gApp 8 out5 [n1]).bind fun l34 =>
   ZDC list0 i7 l34 true
  else
   ZDC list0 i7 out5 true
 else
  ZDC list0 i7 out5 done6
def ZDl (list0 : List Int) (n1 : Int) : List Int × Bool × Int → Option ((List Int × Bool × Int) ⊕ (List Int))
 | (out5, done6, i7) =>
  bif decide ((i7 : Int) < (list0.length : Int)) then
   bif !done6 then
    (gIdx list0 i7).bind fun e20 =>
    ZDI list0 n1 out5 done6 i7 (decide ((e20 : Int) ≥ n1))
   else
    ZDI list0 n1 out5 done6 i7 false
  else
   bif !done6 then
    (gApp 8 out5 [n1]).bind fun l47 =>
    some (.inr (l47))
   else
    some (.inr (out5))
def ZFH (list0 : List Int) (n1 : Int) : Option (List Int) :=
 loop (ZDl list0 n1) (([] : List Int), false, 0)
def ZEn (p0 : List Int) (set1 : List Int) : List Int × Int → Option ((List Int × Int) ⊕ (List Int))
 | (out5, i6) =>
  bif decide ((i6 : Int) < (set1.length : Int)) then
   (gIdx set1 i6).bind fun e18 =>
   (gIdx p0 e18).bind fun e20 =>
   (ZFH out5 e20).bind fun r22 =>
   some (.inl (r22, IntKind.i64.wrap (i6 + 1)))
  else
   some (.inr (out5))
def ZE0 (p0 : List Int) (set1 : List Int) : Option (List Int) :=
 loop (ZEn p0 set1) (([] : List Int), 0)
def ZEC (g0 : ZaB) (set1 : List Int) : List (List Int) × Int → Option ((List (List Int) × Int) ⊕ (List (List Int)))
 | (out5, i6) =>
  bif decide ((i6 : Int) < (g0.Elements.length : Int)) then
   (gIdx g0.Elements i6).bind fun e23 =>
   (ZE0 e23 set1).bind fun r26 =>
   (ZFJ out5 r26).bind fun r27 =>
   some (.inl (r27, IntKind.i64.wrap (i6 + 1)))
  else
   some (.inr (out5))
def ZFi (g0 : ZaB) (set1 : List Int) : Option (List (List Int)) :=
 loop (ZEC g0 set1) (([] : List (List Int)), 0)
def ZFb (n0 : Int) (k1 : Int) (rank2_2 : Int) (out7 : List Int) (x8 : Int) : Option ((Int × List Int × Int) ⊕ (List Int)) :=
 (ZDq (IntKind.i64.wrap ((IntKind.i64.wrap (n0 - 1)) - x8)) (IntKind.i64.wrap ((IntKind.i64.wrap (k1 - 1)) - (out7.length : Int)))).bind fun r29 =>
 bif decide ((rank2_2 : Int) < r29) then
  (gApp 8 out7 [x8]).bind fun l36 =>
  some (.inl (rank2_2, l36, IntKind.i64.wrap (x8 + 1)))
 else
  some (.inl (IntKind.i64.wrap (rank2_2 - r29), out7, IntKind.i64.wrap (x8 + 1)))
def ZDx (n0 : Int) (k1 : Int) : Int × List Int × Int → Option ((Int × List Int × Int) ⊕ (List Int))
 | (rank2_2, out7, x8) =>
  bif decide (((out7.length : Int) : Int) < k1) then
   bif decide ((x8 : Int) < n0) then
    ZFb n0 k1 rank2_2 out7 x8
   else
    some (.inr (out7))
  else
   some (.inr (out7))
def ZFD (n0 : Int) (k1 : Int) (rank2 : Int) : Option (List Int) :=
 loop (ZDx n0 k1) (rank2, ([] : List Int), 0)
def ZEH (n0 : Int) (set1 : List Int) (i8 : Int) : Int × Int → Option ((Int × Int) ⊕ ((Int × Int × Int) ⊕ (Int)))
 | (rank5_2, x9) =>
  (gIdx set1 i8).bind fun e21 =>
  bif decide ((x9 : Int) < e21) then
   (ZDq (IntKind.i64.wrap ((IntKind.i64.wrap (n0 - 1)) - x9)) (IntKind.i64.wrap ((IntKind.i64.wrap ((set1.length : Int) - 1)) - i8))).bind fun r35 =>
   some (.inl (IntKind.i64.wrap (rank5_2 + r35), IntKind.i64.wrap (x9 + 1)))
  else
   (gIdx set1 i8).bind fun e39 =>
   some (.inr (.inl (rank5_2, IntKind.i64.wrap (e39 + 1), IntKind.i64.wrap (i8 + 1))))
def ZE2 (n0 : Int) (set1 : List Int) : Int × Int × Int → Option ((Int × Int × Int) ⊕ (Int))
 | (rank5, low6, i8) =>
  bif decide ((i8 : Int) < (set1.length : Int)) then
   loop (ZEH n0 set1 i8) (rank5, low6)
  else
   some (.inr (rank5))
def ZFN (n0 : Int) (set1 : List Int) : Option Int :=
 loop (ZE2 n0 set1) (0, 0, 0)
def ZDX (g0 : ZaB) (out7 : List (List (List Int))) (rank8 : Int) (r37 : List (List Int)) : Int × List Bool → Option ((Int × List Bool) ⊕ ((List (List (List Int)) × Int × List Bool) ⊕ (List (List (List Int)))))
 | (i10, xs_2) =>
  bif decide ((i10 : Int) < (r37.length : Int)) then
   (gIdx r37 i10).bind fun e51 =>
   (ZFN g0.Degree e51).bind fun r53 =>
   (gIdx xs_2 r53).bind fun e54 =>
   some (.inl (IntKind.i64.wrap (i10 + 1), (xs_2.set (r53 : Int).toNat true)))
  else
   (gApp 24 out7 [r37]).bind fun l58 =>
   some (.inr (.inl (l58, IntKind.i64.wrap (rank8 + 1), xs_2)))
def ZEd (g0 : ZaB) (k1 : Int) (r16 : Int) : List (List (List Int)) × Int × List Bool → Option ((List (List (List Int)) × Int × List Bool) ⊕ (List (List (List Int))))
 | (out7, rank8, xs) =>
  bif decide ((rank8 : Int) < r16) then
   (gIdx xs rank8).bind fun e27 =>
   bif e27 then
    some (.inl (out7, IntKind.i64.wrap (rank8 + 1), xs))
   else
    (ZFD g0.Degree k1 rank8).bind fun r36 =>
    (ZFi g0 r36).bind fun r37 =>
    loop (ZDX g0 out7 rank8 r37) (0, xs)
  else
   some (.inr (out7))
def ZEb (g0 : ZaB) (k1 : Int) : Option (List (List (List Int))) :=
 (ZDq g0.Degree k1).bind fun r16 =>
 (gMake 1 false r16 r16).bind fun l18 =>
 loop (ZEd g0 k1 r16) (([] : List (List (List Int))), 0, l18)
def ZEY (a0 : List Int) (b1 : List Int) : Int → Option ((Int) ⊕ (Bool))
 | i5 =>
  bif decide ((i5 : Int) < (a0.length : Int)) then
   (gIdx a0 i5).bind fun e15 =>
   (Ze1 b1 e15).bind fun r17 =>
   bif !r17 then
    some (.inr (false))
   else
    some (.inl (IntKind.i64.wrap (i5 + 1)))
  else
   some (.inr (true))
def ZEf (a0 : List Int) (b1 : List Int) : Option Bool :=
 loop (ZEY a0 b1) (0)
def ZDZ (r17 : List (List (List Int))) (r20 : List (List (List Int))) (y10 : Int) (y11 : List Int) (y12 : Int) : Int × Int → Option ((Int × Int) ⊕ ((List Int × Int) ⊕ ((List (List Int) × Int) ⊕ (List (List Int)))))
 | (y13, y14) =>
  (gIdx r20 y12).bind fun e38 =>
  bif decide ((y14 : Int) < (e38.length : Int)) then
   (gIdx r17 y10).bind fun e46 =>
   (gIdx e46 0).bind fun e48 =>
   (gIdx r20 y12).bind fun e52 =>
   (gIdx e52 y14).bind fun e55 =>
   (ZEf e48 e55).bind fun r57 =>
   bif r57 then
    some (.inl (IntKind.i64.wrap (y13 + 1), IntKind.i64.wrap (y14 + 1)))
   else
    some (.inl (y13, IntKind.i64.wrap (y14 + 1)))
  else
   (gApp 8 y11 [y13]).bind fun l63 =>
   some (.inr (.inl (l63, IntKind.i64.wrap (y12 + 1))))
def ZD5 (r17 : List (List (List Int))) (r20 : List (List (List Int))) (y9 : List (List Int)) (y10 : Int) : List Int × Int → Option ((List Int × Int) ⊕ ((List (List Int) × Int) ⊕ (List (List Int))))
 | (y11, y12) =>
  bif decide ((y12 : Int) < (r20.length : Int)) then
   loop (ZDZ r17 r20 y10 y11 y12) (0, 0)
  else
   (gApp 24 y9 [y11]).bind fun l67 =>
   some (.inr (.inl (l67, IntKind.i64.wrap (y10 + 1))))
def ZDU (r17 : List (List (List Int))) (r20 : List (List (List Int))) : List (List Int) × Int → Option ((List (List Int) × Int) ⊕ (List (List Int)))
 | (y9, y10) =>
  bif decide ((y10 : Int) < (r17.length : Int)) then
   loop (ZD5 r17 r20 y9 y10) (([] : List Int), 0)
  else
   some (.inr (y9))
def ZFs (y0 : ZaB) (y1 : Int) (y2 : Int) : Option (List (List Int)) :=
 (ZEb y0 y1).bind fun r17 =>
 (ZEb y0 y2).bind fun r20 =>
 loop (ZDU r17 r20) (([] : List (List Int)), 0)
def ZFI (g0 : ZaB) (t1 : Int) (k2 : Int) : Option ((List (List Int)) × Int) :=
 (ZFs (ZaB.mk g0.Degree g0.Elements) t1 k2).bind fun r35 =>
 some ((r35, 0))
def ZFf (g0 : ZaB) (t1 : Int) (k2 : Int) : Option ((List (List Int)) × Int) :=
 (ZDq g0.Degree t1).bind fun r24 =>
 bif decide ((r24 : Int) > 2000) then
  some ((([] : List (List Int)), 5))
 else
  (ZDq g0.Degree k2).bind fun r30 =>
  bif decide ((r30 : Int) > 2000) then
   some ((([] : List (List Int)), 5))
  else
   ZFI g0 t1 k2
def ZDS (g0 : ZaB) (t1 : Int) (k2 : Int) : Option ((List (List Int)) × Int) :=
 (Zeh (ZaB.mk g0.Degree g0.Elements)).bind fun r8 =>
 bif !r8 then
  some ((([] : List (List Int)), 1))
 else
  (ZY k2 0 g0.Degree).bind fun r13 =>
  bif !r13 then
   some ((([] : List (List Int)), 2))
  else
   (ZY t1 0 k2).bind fun r18 =>
   bif !r18 then
    some ((([] : List (List Int)), 2))
   else
    ZFf g0 t1 k2
def ZE5 (lambda0 : Int) : Option Bool :=
 (ZY lambda0 1 2000).bind fun r4 =>
 some (r4)
def ZF2 (rf_spec_l26Find_run : ZDg → (List Int) → Int → Option ZDg) (y0 : ZDg) (y1 : List Int) (y2 : Int) : Option ((Int) ⊕ (ZDg)) :=
 bif (y0.qnodes : Int) == y0.qbudget then
  some (.inr ((ZDg.mk y0.qm y0.qlater y0.qlambda y0.qchosen y0.qfirst y0.qcount y0.qlimit y0.qnodes y0.qbudget true)))
 else
  (rf_spec_l26Find_run (ZDg.mk y0.qm y0.qlater y0.qlambda y0.qchosen y0.qfirst y0.qcount y0.qlimit (IntKind.i64.wrap (y0.qnodes + 1)) y0.qbudget y0.qfull) y1 y2).bind fun r70 =>
  some (.inr ((ZDg.mk y0.qm r70.qlater r70.qlambda r70.qchosen r70.qfirst r70.qcount r70.qlimit r70.qnodes r70.qbudget r70.qfull)))
def ZDE (rf_spec_l26Find_run : ZDg → (List Int) → Int → Option ZDg) (y0 : ZDg) (y1 : List Int) (y2 : Int) : Int → Option ((Int) ⊕ (ZDg))
 | y6 =>
  bif decide ((y6 : Int) < (y1.length : Int)) then
   (gIdx y1 y6).bind fun e15 =>
   (gIdx y0.qlater y6).bind fun e22 =>
   (gIdx e22 y2).bind fun e25 =>
   bif decide ((IntKind.i64.wrap (e15 + e25) : Int) < y0.qlambda) then
    some (.inr ((ZDg.mk y0.qm y0.qlater y0.qlambda y0.qchosen y0.qfirst y0.qcount y0.qlimit y0.qnodes y0.qbudget y0.qfull)))
   else
    some (.inl (IntKind.i64.wrap (y6 + 1)))
  else
   bif y0.qfull then
    some (.inr ((ZDg.mk y0.qm y0.qlater y0.qlambda y0.qchosen y0.qfirst y0.qcount y0.qlimit y0.qnodes y0.qbudget y0.qfull)))
   else
    bif (y0.qcount : Int) == y0.qlimit then
     some (.inr ((ZDg.mk y0.qm y0.qlater y0.qlambda y0.qchosen y0.qfirst y0.qcount y0.qlimit y0.qnodes y0.qbudget y0.qfull)))
    else
     ZF2 rf_spec_l26Find_run y0 y1 y2
def q_spec_l26Find_on (rf_spec_l26Find_on : ZDg → (List Int) → Int → Option ZDg) (rf_spec_l26Find_run : ZDg → (List Int) → Int → Option ZDg) (y0 : ZDg) (y1 : List Int) (y2 : Int) : Option ZDg :=
 loop (ZDE rf_spec_l26Find_run y0 y1 y2) (0)
def ZEr (y0 : ZDg) (xs : List Int) : Option (ZDg) :=
 some ((ZDg.mk y0.qm y0.qlater y0.qlambda y0.qchosen xs (IntKind.i64.wrap (y0.qcount + 1)) y0.qlimit y0.qnodes y0.qbudget y0.qfull))
def ZEj (rf_spec_l26Find_on : ZDg → (List Int) → Int → Option ZDg) (y0 : ZDg) (y1 : List Int) (y2 : Int) (q : Int) (q_2 : Int) (q_3 : Int) (q_4 : Int) (q_5 : Int) (q_6 : Bool) (xs_2 : List (List Int)) (xs_3 : List Int) (xs_4 : List Int) : Option ((Bool × List Int × Int) ⊕ (ZDg)) :=
 (rf_spec_l26Find_on (ZDg.mk y0.qm xs_2 q xs_3 xs_4 q_2 q_3 q_4 q_5 q_6) y1 (IntKind.i64.wrap (y2 + 1))).bind fun r107 =>
 some (.inr ((ZDg.mk y0.qm r107.qlater r107.qlambda r107.qchosen r107.qfirst r107.qcount r107.qlimit r107.qnodes r107.qbudget r107.qfull)))
def ZD9 (rf_spec_l26Find_on : ZDg → (List Int) → Int → Option ZDg) (y0 : ZDg) (y1 : List Int) (y2 : Int) : Bool × List Int × Int → Option ((Bool × List Int × Int) ⊕ (ZDg))
 | (y6, y7, y8) =>
  bif decide ((y8 : Int) < (y1.length : Int)) then
   (gIdx y1 y8).bind fun e49 =>
   (gIdx y0.qm y8).bind fun e56 =>
   (gIdx e56 y2).bind fun e59 =>
   (gApp 8 y7 [IntKind.i64.wrap (e49 + e59)]).bind fun l63 =>
   (gIdx l63 y8).bind fun e66 =>
   bif decide ((e66 : Int) > y0.qlambda) then
    some (.inl (false, l63, IntKind.i64.wrap (y8 + 1)))
   else
    some (.inl (y6, l63, IntKind.i64.wrap (y8 + 1)))
  else
   bif y6 then
    (gApp 8 y0.qchosen [y2]).bind fun l86 =>
    (rf_spec_l26Find_on (ZDg.mk y0.qm y0.qlater y0.qlambda l86 y0.qfirst y0.qcount y0.qlimit y0.qnodes y0.qbudget y0.qfull) y7 (IntKind.i64.wrap (y2 + 1))).bind fun r93 =>
    (gSl r93.qchosen 0 (y0.qchosen.length : Int)).bind fun l100 =>
    ZEj rf_spec_l26Find_on y0 y1 y2 r93.qlambda r93.qcount r93.qlimit r93.qnodes r93.qbudget r93.qfull r93.qlater l100 r93.qfirst
   else
    ZEj rf_spec_l26Find_on y0 y1 y2 y0.qlambda y0.qcount y0.qlimit y0.qnodes y0.qbudget y0.qfull y0.qlater y0.qchosen y0.qfirst
def q_spec_l26Find_run (rf_spec_l26Find_on : ZDg → (List Int) → Int → Option ZDg) (rf_spec_l26Find_run : ZDg → (List Int) → Int → Option ZDg) (y0 : ZDg) (y1 : List Int) (y2 : Int) : Option ZDg :=
 (gIdx y0.qm 0).bind fun e15 =>
 bif (y2 : Int) == (e15.length : Int) then
  bif (y0.qcount : Int) == 0 then
   (ZaO y0.qchosen).bind fun r29 =>
   ZEr y0 r29
  else
   ZEr y0 y0.qfirst
 else
  loop (ZD9 rf_spec_l26Find_on y0 y1 y2) (true, ([] : List Int), 0)
def pn_spec_l26Find_on : Nat → (ZDg → (List Int) → Int → Option ZDg) × (ZDg → (List Int) → Int → Option ZDg)
 | 0 => ((fun _ _ _ => none), (fun _ _ _ => none))
 | n + 1 => (q_spec_l26Find_on (pn_spec_l26Find_on n).1 (pn_spec_l26Find_on n).2, q_spec_l26Find_run (pn_spec_l26Find_on n).1 (pn_spec_l26Find_on n).2)
def ZGu : ZDg → (List Int) → Int → Option ZDg := (pn_spec_l26Find_on fuel).2
def ZDP (y0 : List (List Int)) (y1 : Int) (y10 : Bool) (y11 : Int) (xs : List (List Int)) : Int × List Int → Option ((Int × List Int) ⊕ ((Bool × Int × List (List Int)) ⊕ (ZDg)))
 | (y13, xs_2) =>
  bif decide ((y13 : Int) ≥ 0) then
   (gIdx xs_2 (IntKind.i64.wrap (y13 + 1))).bind fun e48 =>
   (gIdx y0 y11).bind fun e52 =>
   (gIdx e52 y13).bind fun e55 =>
   (gIdx xs_2 y13).bind fun e58 =>
   some (.inl (IntKind.i64.wrap (y13 - 1), (xs_2.set (y13 : Int).toNat (IntKind.i64.wrap (e48 + e55)))))
  else
   (gApp 24 xs [xs_2]).bind fun l66 =>
   (gIdx xs_2 0).bind fun e70 =>
   bif decide ((e70 : Int) < y1) then
    some (.inr (.inl (false, IntKind.i64.wrap (y11 + 1), l66)))
   else
    some (.inr (.inl (y10, IntKind.i64.wrap (y11 + 1), l66)))
def ZEy (y0 : List (List Int)) (y1 : Int) (y2 : Int) (y3 : Int) : Bool × Int × List (List Int) → Option ((Bool × Int × List (List Int)) ⊕ (ZDg))
 | (y10, y11, xs) =>
  bif decide ((y11 : Int) < (y0.length : Int)) then
   (gIdx y0 y11).bind fun e28 =>
   (gMake 8 (0 : Int) (IntKind.i64.wrap ((e28.length : Int) + 1)) (IntKind.i64.wrap ((e28.length : Int) + 1))).bind fun l32 =>
   (gIdx y0 y11).bind fun e35 =>
   loop (ZDP y0 y1 y10 y11 xs) (IntKind.i64.wrap ((e35.length : Int) - 1), l32)
  else
   bif y10 then
    (gMake 8 (0 : Int) (y0.length : Int) (y0.length : Int)).bind fun l78 =>
    (ZGu (ZDg.mk y0 xs y1 ([] : List Int) ([] : List Int) 0 y2 0 y3 false) l78 0).bind fun r79 =>
    some (.inr ((ZDg.mk y0 r79.qlater r79.qlambda r79.qchosen r79.qfirst r79.qcount r79.qlimit r79.qnodes r79.qbudget r79.qfull)))
   else
    some (.inr ((ZDg.mk y0 xs y1 ([] : List Int) ([] : List Int) 0 y2 0 y3 false)))
def ZFc (y0 : List (List Int)) (y1 : Int) (y2 : Int) (y3 : Int) : Option ZDg :=
 loop (ZEy y0 y1 y2 y3) (true, 0, ([] : List (List Int)))
def ZEX (m0 : List (List Int)) (lambda1 : Int) (budget2 : Int) : Option ((List Int) × Int) :=
 (ZFc m0 lambda1 1 budget2).bind fun r12 =>
 bif decide ((r12.qcount : Int) > 0) then
  some ((r12.qfirst, 0))
 else
  bif r12.qfull then
   some ((([] : List Int), 5))
  else
   some ((([] : List Int), 3))
def ZcC (list0 : List Int) (low1 : Int) (high2 : Int) : Int → Option ((Int) ⊕ (Bool))
 | i7 =>
  bif decide ((i7 : Int) < (list0.length : Int)) then
   (gIdx list0 i7).bind fun e16 =>
   (ZY e16 low1 high2).bind fun r20 =>
   bif !r20 then
    some (.inr (false))
   else
    bif decide ((i7 : Int) > 0) then
     (gIdx list0 (IntKind.i64.wrap (i7 - 1))).bind fun e29 =>
     (gIdx list0 i7).bind fun e33 =>
     bif decide ((e29 : Int) ≥ e33) then
      some (.inr (false))
     else
      some (.inl (IntKind.i64.wrap (i7 + 1)))
    else
     some (.inl (IntKind.i64.wrap (i7 + 1)))
  else
   some (.inr (true))
def ZeV (list0 : List Int) (low1 : Int) (high2 : Int) : Option Bool :=
 loop (ZcC list0 low1 high2) (0)
def ZEh (list0 : List (List Int)) (out3 : List (List Int)) (i4 : Int) (k5 : Int) : Option ((List (List Int) × Int) ⊕ (List (List Int))) :=
 (gSl out3 0 k5).bind fun l36 =>
 (gApp 24 ([] : List (List Int)) l36).bind fun l37 =>
 (gIdx list0 i4).bind fun e41 =>
 (ZaO e41).bind fun r43 =>
 (gApp 24 l37 [r43]).bind fun l45 =>
 (gSl out3 k5 (out3.length : Int)).bind fun l49 =>
 (gApp 24 l45 l49).bind fun l50 =>
 some (.inl (l50, IntKind.i64.wrap (i4 + 1)))
def ZEl (list0 : List (List Int)) (out3 : List (List Int)) (i4 : Int) : Int → Option ((Int) ⊕ ((List (List Int) × Int) ⊕ (List (List Int))))
 | k5_2 =>
  bif decide ((k5_2 : Int) > 0) then
   (gIdx out3 (IntKind.i64.wrap (k5_2 - 1))).bind fun e22 =>
   (gIdx list0 i4).bind fun e26 =>
   (Zce e22 e26).bind fun r28 =>
   bif decide ((r28 : Int) > 0) then
    some (.inl (IntKind.i64.wrap (k5_2 - 1)))
   else
    (ZEh list0 out3 i4 k5_2).map fun x => .inr (x)
  else
   (ZEh list0 out3 i4 k5_2).map fun x => .inr (x)
def ZDT (list0 : List (List Int)) : List (List Int) × Int → Option ((List (List Int) × Int) ⊕ (List (List Int)))
 | (out3, i4) =>
  bif decide ((i4 : Int) < (list0.length : Int)) then
   loop (ZEl list0 out3 i4) ((out3.length : Int))
  else
   some (.inr (out3))
def ZFd (list0 : List (List Int)) : Option (List (List Int)) :=
 loop (ZDT list0) (([] : List (List Int)), 0)
def ZD0 (g0 : ZaB) (orbits2 : List Int) (r27 : List (List (List Int))) : List (List Int) × Int → Option ((List (List Int) × Int) ⊕ (ZaT × Int))
 | (blocks9, i10) =>
  bif decide ((i10 : Int) < (orbits2.length : Int)) then
   (gIdx orbits2 i10).bind fun e46 =>
   (gIdx r27 e46).bind fun e48 =>
   (gApp 24 blocks9 e48).bind fun l50 =>
   some (.inl (l50, IntKind.i64.wrap (i10 + 1)))
  else
   bif decide (((blocks9.length : Int) : Int) > 128) then
    some (.inr (((ZaT.mk 0 ([] : List (List Int))), 5)))
   else
    (ZFd blocks9).bind fun r58 =>
    some (.inr (((ZaT.mk g0.Degree r58), 0)))
def ZD2 (g0 : ZaB) (k1 : Int) (orbits2 : List Int) : Option (ZaT × Int) :=
 (Zeh (ZaB.mk g0.Degree g0.Elements)).bind fun r11 =>
 bif !r11 then
  some (((ZaT.mk 0 ([] : List (List Int))), 1))
 else
  (ZY k1 1 g0.Degree).bind fun r17 =>
  bif !r17 then
   some (((ZaT.mk 0 ([] : List (List Int))), 2))
  else
   (ZDq g0.Degree k1).bind fun r23 =>
   bif decide ((r23 : Int) > 2000) then
    some (((ZaT.mk 0 ([] : List (List Int))), 5))
   else
    (ZEb (ZaB.mk g0.Degree g0.Elements) k1).bind fun r27 =>
    (ZeV orbits2 0 (IntKind.i64.wrap ((r27.length : Int) - 1))).bind fun r32 =>
    bif !r32 then
     some (((ZaT.mk 0 ([] : List (List Int))), 2))
    else
     loop (ZD0 g0 orbits2 r27) (([] : List (List Int)), 0)
def ZFa (g0 : ZaB) (k2 : Int) (lambda3 : Int) (budget4 : Int) (r27 : (List (List Int)) × Int) : Option (ZaT × Int) :=
 (ZEX r27.1 lambda3 budget4).bind fun r46 =>
 bif (r46.2 : Int) != 0 then
  some (((ZaT.mk 0 ([] : List (List Int))), r46.2))
 else
  (ZD2 (ZaB.mk g0.Degree g0.Elements) k2 r46.1).bind fun r56 =>
  some (((ZaT.mk r56.1.Points r56.1.Blocks), r56.2))
def ZFu (g0 : ZaB) (t1 : Int) (k2 : Int) (lambda3 : Int) (budget4 : Int) : Option (ZaT × Int) :=
 (Zeh (ZaB.mk g0.Degree g0.Elements)).bind fun r16 =>
 bif !r16 then
  some (((ZaT.mk 0 ([] : List (List Int))), 1))
 else
  (ZEL budget4).bind fun r20 =>
  bif !r20 then
   some (((ZaT.mk 0 ([] : List (List Int))), 2))
  else
   (ZDS (ZaB.mk g0.Degree g0.Elements) t1 k2).bind fun r27 =>
   bif (r27.2 : Int) != 0 then
    some (((ZaT.mk 0 ([] : List (List Int))), r27.2))
   else
    bif (k2 : Int) == 0 then
     some (((ZaT.mk 0 ([] : List (List Int))), 2))
    else
     (ZE5 lambda3).bind fun r38 =>
     bif !r38 then
      some (((ZaT.mk 0 ([] : List (List Int))), 2))
     else
      ZFa g0 k2 lambda3 budget4 r27
def Zf5 (a0 : List Int) : Int × List Int → Option ((Int × List Int) ⊕ (List Int))
 | (i4, xs) =>
  bif decide ((i4 : Int) < (a0.length : Int)) then
   (gIdx a0 i4).bind fun e18 =>
   (gIdx xs i4).bind fun e20 =>
   some (.inl (IntKind.i64.wrap (i4 + 1), (xs.set (i4 : Int).toNat e18)))
  else
   some (.inr (xs))
def Zc2 (a0 : List Int) : Option (List Int) :=
 (gMake 8 (0 : Int) (a0.length : Int) (a0.length : Int)).bind fun l7 =>
 loop (Zf5 a0) (0, l7)
def ZfD (a0 : List (List Int)) : Int × List (List Int) → Option ((Int × List (List Int)) ⊕ (List (List Int)))
 | (i4, xs) =>
  bif decide ((i4 : Int) < (a0.length : Int)) then
   (gIdx a0 i4).bind fun e18 =>
   (Zc2 e18).bind fun r20 =>
   (gIdx xs i4).bind fun e21 =>
   some (.inl (IntKind.i64.wrap (i4 + 1), (xs.set (i4 : Int).toNat r20)))
  else
   some (.inr (xs))
def Zdz (a0 : List (List Int)) : Option (List (List Int)) :=
 (gMake 24 ([] : List Int) (a0.length : Int) (a0.length : Int)).bind fun l7 =>
 loop (ZfD a0) (0, l7)
def ZDL (a0 : ZDj) : Option ZaB :=
 (Zdz a0.Elements).bind fun r9 =>
 some ((ZaB.mk a0.Degree r9))
def Z0 (n0 : Int) (low1 : Int) (high2 : Int) : Option Bool :=
 bif decide ((n0 : Int) ≥ low1) then
  some (decide ((n0 : Int) ≤ high2))
 else
  some (false)
def Zbh (s0 : List (List Int)) (fn1 : (List Int) → Option Bool) : Int → Option ((Int) ⊕ (Int))
 | y8 =>
  bif decide ((y8 : Int) < (s0.length : Int)) then
   (gIdx s0 y8).bind fun e14 =>
   (fn1 e14).bind fun r16 =>
   bif r16 then
    some (.inr (y8))
   else
    some (.inl (IntKind.i64.wrap (y8 + 1)))
  else
   some (.inr ((-1)))
def ZdU (s0 : List (List Int)) (fn1 : (List Int) → Option Bool) : Option Int :=
 loop (Zbh s0 fn1) (0)
def Zdi (s0 : List (List Int)) (fn1 : (List Int) → Option Bool) : Option Bool :=
 (ZdU s0 fn1).bind fun r7 =>
 some (decide ((r7 : Int) ≥ 0))
def ZI (list0 : List Int) : Option Int :=
 some ((list0.length : Int))
def Zbu (a0 : List Int) : Option (List Int) := gApp 8 [] a0
def ZeD (x0 : List Int) : Option (List Int) := if x0.length < 4611686018427387904 then some (sortI x0) else none
def Zdf (p0 : List Int) (r9 : List Int) : Int → Option ((Int) ⊕ (Bool))
 | y12 =>
  bif decide ((y12 : Int) < (r9.length : Int)) then
   (gIdx r9 y12).bind fun e15 =>
   bif (e15 : Int) != y12 then
    some (.inr (false))
   else
    some (.inl (IntKind.i64.wrap (y12 + 1)))
  else
   some (.inr (decide (((p0.length : Int) : Int) ≤ 32)))
def Zdy (p0 : List Int) : Option Bool :=
 (Zbu p0).bind fun r7 =>
 (ZeD r7).bind fun r9 =>
 loop (Zdf p0 r9) (0)
def ZhW (p0 : List Int) (y1 : Int) : Option Bool :=
 (ZI p0).bind fun r5 =>
 bif (r5 : Int) != y1 then
  some (true)
 else
  (Zdy p0).bind fun r10 =>
  some (!r10)
def ZdM (degree0 : Int) (list1 : List (List Int)) : Option Bool :=
 (Zdi list1 (fun y0 => ZhW y0 degree0)).bind fun r7 =>
 some (!r7)
def ZcO (x0 : Int) : Option Bool :=
 some ((x0 : Int) != x0)
def Za6 (x0 : Int) (y1 : Int) : Option Int :=
 (ZcO x0).bind fun r8 =>
 (ZcO y1).bind fun r10 =>
 bif r8 then
  bif r10 then
   some (0)
  else
   some ((-1))
 else
  bif r10 then
   some (1)
  else
   bif decide ((x0 : Int) < y1) then
    some ((-1))
   else
    bif decide ((x0 : Int) > y1) then
     some (1)
    else
     some (0)
def Zbq (s0 : List Int) (s1 : List Int) : Int → Option ((Int) ⊕ (Int))
 | y11 =>
  bif decide ((y11 : Int) < (s0.length : Int)) then
   (gIdx s0 y11).bind fun e14 =>
   bif decide ((y11 : Int) ≥ (s1.length : Int)) then
    some (.inr (1))
   else
    (gIdx s1 y11).bind fun e22 =>
    (Za6 e14 e22).bind fun r26 =>
    bif (r26 : Int) != 0 then
     some (.inr (r26))
    else
     some (.inl (IntKind.i64.wrap (y11 + 1)))
  else
   bif decide (((s0.length : Int) : Int) < (s1.length : Int)) then
    some (.inr ((-1)))
   else
    some (.inr (0))
def Zam (s0 : List Int) (s1 : List Int) : Option Int :=
 loop (Zbq s0 s1) (0)
open Classical in
def Zen (x0 : List (List Int)) (fn1 : (List Int) → (List Int) → Option Int) : Option (List (List Int)) := if (∀ a ∈ x0, ∀ c ∈ x0, fn1 a c = some (lexC a c)) ∧ x0.length < 4611686018427387904 then some (sortRows x0) else none
def ZcX (l6 : List Int) : Int × List Int → Option ((Int × List Int) ⊕ (List Int))
 | (y9, xs) =>
  bif decide ((y9 : Int) < (l6.length : Int)) then
   (gIdx xs y9).bind fun e15 =>
   some (.inl (IntKind.i64.wrap (y9 + 1), (xs.set (y9 : Int).toNat y9)))
  else
   some (.inr (xs))
def ZeN (n0 : Int) : Option (List Int) :=
 (gMake 8 (0 : Int) n0 n0).bind fun l6 =>
 loop (ZcX l6) (0, l6)
def ZdT (p0 : List Int) : Int × List Int → Option ((Int × List Int) ⊕ (ByteArray))
 | (y11, xs) =>
  bif decide ((y11 : Int) < (p0.length : Int)) then
   (gIdx p0 y11).bind fun e14 =>
   (gIdx xs y11).bind fun e20 =>
   some (.inl (IntKind.i64.wrap (y11 + 1), (xs.set (y11 : Int).toNat (IntKind.u8.wrap e14))))
  else
   (gByt xs).bind fun s23 =>
   some (.inr (s23))
def ZcR (p0 : List Int) : Option ByteArray :=
 (gMake 1 (0 : Int) (p0.length : Int) (p0.length : Int)).bind fun l8 =>
 loop (ZdT p0) (0, l8)
def Zdw (p0 : List Int) (q1 : List Int) (l9 : List Int) : Int × List Int → Option ((Int × List Int) ⊕ (List Int))
 | (y12, xs) =>
  bif decide ((y12 : Int) < (l9.length : Int)) then
   (gIdx p0 y12).bind fun e20 =>
   (gIdx q1 e20).bind fun e22 =>
   (gIdx xs y12).bind fun e24 =>
   some (.inl (IntKind.i64.wrap (y12 + 1), (xs.set (y12 : Int).toNat e22)))
  else
   some (.inr (xs))
def ZfO (p0 : List Int) (q1 : List Int) : Option (List Int) :=
 (gMake 8 (0 : Int) (p0.length : Int) (p0.length : Int)).bind fun l9 =>
 loop (Zdw p0 q1 l9) (0, l9)
def ZaW (genera1 : List (List Int)) (k8 : Int) : List (List Int) × Int × List (ByteArray × Bool) → Option ((List (List Int) × Int × List (ByteArray × Bool)) ⊕ ((List (List Int) × Int × List (ByteArray × Bool)) ⊕ ((List (List Int)) × Bool)))
 | (elemen6_2, y30, mp_2) =>
  bif decide ((y30 : Int) < (genera1.length : Int)) then
   (gIdx genera1 y30).bind fun e32 =>
   (gIdx elemen6_2 k8).bind fun e36 =>
   (ZfO e36 e32).bind fun r39 =>
   (ZcR r39).bind fun r41 =>
   bif !(mpGet mp_2 r41 false) then
    (gApp 24 elemen6_2 [r39]).bind fun l51 =>
    some (.inl (l51, IntKind.i64.wrap (y30 + 1), (mpSet mp_2 r41 true)))
   else
    some (.inl (elemen6_2, IntKind.i64.wrap (y30 + 1), mp_2))
  else
   bif decide (((elemen6_2.length : Int) : Int) > 720) then
    some (.inr (.inr ((([] : List (List Int)), false))))
   else
    some (.inr (.inl (elemen6_2, IntKind.i64.wrap (k8 + 1), mp_2)))
def Za7 (genera1 : List (List Int)) : List (List Int) × Int × List (ByteArray × Bool) → Option ((List (List Int) × Int × List (ByteArray × Bool)) ⊕ ((List (List Int)) × Bool))
 | (elemen6, k8, mp) =>
  bif decide ((k8 : Int) < (elemen6.length : Int)) then
   loop (ZaW genera1 k8) (elemen6, 0, mp)
  else
   (Zen elemen6 (fun y0 y1 => Zam y0 y1)).bind fun r57 =>
   some (.inr ((r57, true)))
def ZcN (degree0 : Int) (genera1 : List (List Int)) : Option ((List (List Int)) × Bool) :=
 (ZeN degree0).bind fun r14 =>
 (gIdx ([r14]) 0).bind fun e18 =>
 (ZcR e18).bind fun r20 =>
 loop (Za7 genera1) ([r14], 0, (mpSet ([] : List (ByteArray × Bool)) r20 true))
def Zcw (x0 : List (List Int)) (target1 : List Int) (fn2 : (List Int) → (List Int) → Option Int) : Int × Int → Option ((Int × Int) ⊕ (Int × Bool))
 | (i9, j10) =>
  bif decide ((i9 : Int) < j10) then
   (gNn 1).bind fun _ =>
   (gIdx x0 (IntKind.i64.wrap (Int.fdiv (IntKind.u64.wrap (IntKind.i64.wrap (i9 + j10))) (2 ^ min (1 : Int).toNat IntKind.u64.bits)))).bind fun e27 =>
   (fn2 e27 target1).bind fun r30 =>
   bif decide ((r30 : Int) < 0) then
    some (.inl (IntKind.i64.wrap ((IntKind.i64.wrap (Int.fdiv (IntKind.u64.wrap (IntKind.i64.wrap (i9 + j10))) (2 ^ min (1 : Int).toNat IntKind.u64.bits))) + 1), j10))
   else
    some (.inl (i9, IntKind.i64.wrap (Int.fdiv (IntKind.u64.wrap (IntKind.i64.wrap (i9 + j10))) (2 ^ min (1 : Int).toNat IntKind.u64.bits))))
  else
   bif decide ((i9 : Int) < (x0.length : Int)) then
    (gIdx x0 i9).bind fun e43 =>
    (fn2 e43 target1).bind fun r46 =>
    some (.inr ((i9, (r46 : Int) == 0)))
   else
    some (.inr ((i9, false)))
def Ze4 (x0 : List (List Int)) (target1 : List Int) (fn2 : (List Int) → (List Int) → Option Int) : Option (Int × Bool) :=
 loop (Zcw x0 target1 fn2) (0, (x0.length : Int))
def Zfy (degree0 : Int) (genera7 : List (List Int)) (y21 : Int) (e23 : List Int) : Option ((List (List Int) × List (List Int) × Bool × Int) ⊕ ((List (List Int)) × (List (List Int)) × Bool)) :=
 (gApp 24 genera7 [e23]).bind fun l39 =>
 (ZcN degree0 l39).bind fun r43 =>
 some (.inl (l39, r43.1, r43.2, IntKind.i64.wrap (y21 + 1)))
def Zaf (degree0 : Int) (elemen1 : List (List Int)) : List (List Int) × List (List Int) × Bool × Int → Option ((List (List Int) × List (List Int) × Bool × Int) ⊕ ((List (List Int)) × (List (List Int)) × Bool))
 | (genera7, all8, ok9, y21) =>
  bif decide ((y21 : Int) < (elemen1.length : Int)) then
   (gIdx elemen1 y21).bind fun e23 =>
   (Ze4 all8 e23 (fun y0 y1 => Zam y0 y1)).bind fun r28 =>
   bif r28.2 then
    some (.inl (genera7, all8, ok9, IntKind.i64.wrap (y21 + 1)))
   else
    bif !ok9 then
     some (.inl (genera7, all8, ok9, IntKind.i64.wrap (y21 + 1)))
    else
     Zfy degree0 genera7 y21 e23
  else
   some (.inr ((genera7, all8, ok9)))
def Zgg (degree0 : Int) (elemen1 : List (List Int)) : Option ((List (List Int)) × (List (List Int)) × Bool) :=
 (ZcN degree0 ([] : List (List Int))).bind fun r16 =>
 loop (Zaf degree0 elemen1) (([] : List (List Int)), r16.1, r16.2, 0)
def ZcI (y0 : ZaB) : Int → Option ((Int) ⊕ (Bool))
 | y3 =>
  bif decide ((y3 : Int) < (y0.Elements.length : Int)) then
   (gIdx y0.Elements (IntKind.i64.wrap (y3 - 1))).bind fun e42 =>
   (gIdx y0.Elements y3).bind fun e47 =>
   (Zam e42 e47).bind fun r49 =>
   bif decide ((r49 : Int) ≥ 0) then
    some (.inr (false))
   else
    some (.inl (IntKind.i64.wrap (y3 + 1)))
  else
   (Zgg y0.Degree y0.Elements).bind fun r56 =>
   bif r56.2.2 then
    some (.inr (((r56.2.1.length : Int) : Int) == (y0.Elements.length : Int)))
   else
    some (.inr (false))
def ZgB (y0 : ZaB) : Option (Bool) :=
 loop (ZcI y0) (1)
def ZeF (y0 : ZaB) : Option Bool :=
 (Z0 y0.Degree 1 32).bind fun r9 =>
 bif !r9 then
  some (false)
 else
  bif decide (((y0.Elements.length : Int) : Int) < 1) then
   some (false)
  else
   bif decide (((y0.Elements.length : Int) : Int) > 720) then
    some (false)
   else
    (ZdM y0.Degree y0.Elements).bind fun r28 =>
    bif !r28 then
     some (false)
    else
     ZgB y0
def ZEs (n0 : Int) : Option Bool :=
 (Z0 n0 1 20000).bind fun r4 =>
 some (r4)
def ZFL (n0 : Int) (k1 : Int) : Int × Int → Option ((Int × Int) ⊕ (Int))
 | (count5, i6) =>
  bif decide ((i6 : Int) ≤ k1) then
   (gNz i6).bind fun _ =>
   some (.inl (IntKind.i64.wrap (Int.tdiv (IntKind.i64.wrap (count5 * (IntKind.i64.wrap ((IntKind.i64.wrap (n0 - k1)) + i6)))) i6), IntKind.i64.wrap (i6 + 1)))
  else
   some (.inr (count5))
def ZFp (n0 : Int) (k1 : Int) : Option (Int) :=
 loop (ZFL n0 k1) (1, 1)
def ZDu (n0 : Int) (k1 : Int) : Option Int :=
 (Z0 n0 0 32).bind fun r8 =>
 bif !r8 then
  some (0)
 else
  (Z0 k1 0 n0).bind fun r13 =>
  bif !r13 then
   some (0)
  else
   ZFp n0 k1
def ZDV (g0 : ZaB) (sizes1 : List Int) : Int → Option ((Int) ⊕ ((Int) ⊕ (Int)))
 | y26 =>
  bif decide ((y26 : Int) < (sizes1.length : Int)) then
   (gIdx sizes1 y26).bind fun e28 =>
   (ZDu g0.Degree e28).bind fun r33 =>
   bif decide ((r33 : Int) > 2000) then
    some (.inr (.inr (5)))
   else
    some (.inl (IntKind.i64.wrap (y26 + 1)))
  else
   some (.inr (.inr (0)))
def ZFj (g0 : ZaB) (sizes1 : List Int) : Int → Option ((Int) ⊕ (Int))
 | y14 =>
  bif decide ((y14 : Int) < (sizes1.length : Int)) then
   (gIdx sizes1 y14).bind fun e16 =>
   (Z0 e16 0 g0.Degree).bind fun r21 =>
   bif !r21 then
    some (.inr (2))
   else
    some (.inl (IntKind.i64.wrap (y14 + 1)))
  else
   loop (ZDV g0 sizes1) (0)
def ZEw (g0 : ZaB) (sizes1 : List Int) : Option Int :=
 (ZeF (ZaB.mk g0.Degree g0.Elements)).bind fun r10 =>
 bif !r10 then
  some (1)
 else
  loop (ZFj g0 sizes1) (0)
def Zbk (set0 : List Int) (n1 : Int) : Int × Int → Option ((Int × Int) ⊕ (Bool))
 | (last5, y10) =>
  bif decide ((y10 : Int) < (set0.length : Int)) then
   (gIdx set0 y10).bind fun e12 =>
   bif decide ((e12 : Int) ≤ last5) then
    some (.inr (false))
   else
    bif decide ((e12 : Int) ≥ n1) then
     some (.inr (false))
    else
     some (.inl (e12, IntKind.i64.wrap (y10 + 1)))
  else
   (Z0 n1 0 32).bind fun r25 =>
   some (.inr (r25))
def ZeX (set0 : List Int) (n1 : Int) : Option Bool :=
 loop (Zbk set0 n1) ((-1), 0)
def ZD8 (set1 : List Int) (r15 : Int) (i7 : Int) : Int × List Int → Option ((Int × List Int) ⊕ ((Int) ⊕ ((List Int) × Bool)))
 | (j9, xs) =>
  bif decide ((j9 : Int) < r15) then
   (gIdx set1 i7).bind fun e44 =>
   (gIdx xs j9).bind fun e51 =>
   some (.inl (IntKind.i64.wrap (j9 + 1), (xs.set (j9 : Int).toNat (IntKind.i64.wrap ((IntKind.i64.wrap ((IntKind.i64.wrap (e44 + 1)) + j9)) - i7)))))
  else
   some (.inr (.inr ((xs, true))))
def ZEg (n0 : Int) (set1 : List Int) (r15 : Int) : Int → Option ((Int) ⊕ ((List Int) × Bool))
 | i7 =>
  bif decide ((i7 : Int) ≥ 0) then
   (gIdx set1 i7).bind fun e24 =>
   bif (e24 : Int) == (IntKind.i64.wrap ((IntKind.i64.wrap (n0 - r15)) + i7)) then
    some (.inl (IntKind.i64.wrap (i7 - 1)))
   else
    (Zbu set1).bind fun r33 =>
    loop (ZD8 set1 r15 i7) (i7, r33)
  else
   some (.inr ((([] : List Int), false)))
def ZFy (n0 : Int) (set1 : List Int) : Option ((List Int) × Bool) :=
 (ZeX set1 n0).bind fun r12 =>
 bif !r12 then
  some ((([] : List Int), false))
 else
  (ZI set1).bind fun r15 =>
  loop (ZEg n0 set1 r15) (IntKind.i64.wrap (r15 - 1))
def ZD3 (n0 : Int) : List (List Int) × List Int × Bool → Option ((List (List Int) × List Int × Bool) ⊕ (List (List Int)))
 | (list5, set6, more7) =>
  bif more7 then
   (gApp 24 list5 [set6]).bind fun l17 =>
   (ZFy n0 set6).bind fun r21 =>
   some (.inl (l17, r21.1, r21.2))
  else
   some (.inr (list5))
def ZEP (n0 : Int) (k1 : Int) : Option (List (List Int)) :=
 (ZeN k1).bind fun r9 =>
 loop (ZD3 n0) (([] : List (List Int)), r9, decide ((k1 : Int) ≤ n0))
def ZEk (p0 : List Int) (set1 : List Int) : List Int × Int → Option ((List Int × Int) ⊕ (List Int))
 | (out5, y10) =>
  bif decide ((y10 : Int) < (set1.length : Int)) then
   (gIdx set1 y10).bind fun e12 =>
   (gIdx p0 e12).bind fun e17 =>
   (gApp 8 out5 [e17]).bind fun l20 =>
   some (.inl (l20, IntKind.i64.wrap (y10 + 1)))
  else
   (ZeD out5).bind fun r23 =>
   some (.inr (r23))
def ZEO (p0 : List Int) (set1 : List Int) : Option (List Int) :=
 loop (ZEk p0 set1) (([] : List Int), 0)
def ZFn (x0 : List (List Int)) (fn1 : (List Int) → (List Int) → Option Bool) : Option (List (List Int)) := if x0.length < 4611686018427387904 then cptL fn1 x0 else none
def Zfh (s0 : List Int) (s1 : List Int) : Int → Option ((Int) ⊕ (Bool))
 | y13 =>
  bif decide ((y13 : Int) < (s0.length : Int)) then
   (gIdx s0 y13).bind fun e18 =>
   (gIdx s1 y13).bind fun e22 =>
   bif (e18 : Int) != e22 then
    some (.inr (false))
   else
    some (.inl (IntKind.i64.wrap (y13 + 1)))
  else
   some (.inr (true))
def ZfP (s0 : List Int) (s1 : List Int) : Option Bool :=
 bif ((s0.length : Int) : Int) != (s1.length : Int) then
  some (false)
 else
  loop (Zfh s0 s1) (0)
def ZEF (g0 : ZaB) (set1 : List Int) : List (List Int) × Int → Option ((List (List Int) × Int) ⊕ (List (List Int)))
 | (images5, y11) =>
  bif decide ((y11 : Int) < (g0.Elements.length : Int)) then
   (gIdx g0.Elements y11).bind fun e13 =>
   (ZEO e13 set1).bind fun r18 =>
   (gApp 24 images5 [r18]).bind fun l20 =>
   some (.inl (l20, IntKind.i64.wrap (y11 + 1)))
  else
   (Zen images5 (fun y0 y1 => Zam y0 y1)).bind fun r23 =>
   (ZFn r23 (fun y0 y1 => ZfP y0 y1)).bind fun r25 =>
   some (.inr (r25))
def ZFt (g0 : ZaB) (set1 : List Int) : Option (List (List Int)) :=
 loop (ZEF g0 set1) (([] : List (List Int)), 0)
def ZEu (n0 : Int) (set1 : List Int) (y17 : Int) (e20 : Int) : Int × Int → Option ((Int × Int) ⊕ ((Int × Int × Int) ⊕ (Int × Int)))
 | (rank6_2, y10) =>
  bif decide ((y10 : Int) < e20) then
   (ZI set1).bind fun r34 =>
   (ZDu (IntKind.i64.wrap ((IntKind.i64.wrap (n0 - 1)) - y10)) (IntKind.i64.wrap ((IntKind.i64.wrap (r34 - 1)) - y17))).bind fun r38 =>
   some (.inl (IntKind.i64.wrap (rank6_2 + r38), IntKind.i64.wrap (y10 + 1)))
  else
   some (.inr (.inl (rank6_2, IntKind.i64.wrap (e20 + 1), IntKind.i64.wrap (y17 + 1))))
def ZFq (n0 : Int) (set1 : List Int) : Int × Int × Int → Option ((Int × Int × Int) ⊕ (Int × Int))
 | (rank6, from7, y17) =>
  bif decide ((y17 : Int) < (set1.length : Int)) then
   (gIdx set1 y17).bind fun e20 =>
   loop (ZEu n0 set1 y17 e20) (rank6, from7)
  else
   some (.inr ((rank6, 0)))
def ZFe (n0 : Int) (set1 : List Int) : Option (Int × Int) :=
 (ZeX set1 n0).bind fun r13 =>
 bif !r13 then
  some ((0, 1))
 else
  loop (ZFq n0 set1) (0, 0, 0)
def ZDQ (g0 : ZaB) (orbits6 : List (List (List Int))) (y24 : Int) (r35 : List (List Int)) : Int × List Bool → Option ((Int × List Bool) ⊕ ((List (List (List Int)) × Int × List Bool) ⊕ (List (List (List Int)))))
 | (y38, xs_2) =>
  bif decide ((y38 : Int) < (r35.length : Int)) then
   (gIdx r35 y38).bind fun e40 =>
   (ZFe g0.Degree e40).bind fun r46 =>
   (gIdx xs_2 r46.1).bind fun e51 =>
   some (.inl (IntKind.i64.wrap (y38 + 1), (xs_2.set (r46.1 : Int).toNat true)))
  else
   (gApp 24 orbits6 [r35]).bind fun l56 =>
   some (.inr (.inl (l56, IntKind.i64.wrap (y24 + 1), xs_2)))
def ZEa (g0 : ZaB) (r22 : List (List Int)) : List (List (List Int)) × Int × List Bool → Option ((List (List (List Int)) × Int × List Bool) ⊕ (List (List (List Int))))
 | (orbits6, y24, xs) =>
  bif decide ((y24 : Int) < (r22.length : Int)) then
   (gIdx r22 y24).bind fun e27 =>
   (gIdx xs y24).bind fun e31 =>
   bif e31 then
    some (.inl (orbits6, IntKind.i64.wrap (y24 + 1), xs))
   else
    (ZFt (ZaB.mk g0.Degree g0.Elements) e27).bind fun r35 =>
    loop (ZDQ g0 orbits6 y24 r35) (0, xs)
  else
   some (.inr (orbits6))
def ZDW (g0 : ZaB) (k1 : Int) : Option (List (List (List Int))) :=
 (ZDu g0.Degree k1).bind fun r17 =>
 (gMake 1 false r17 r17).bind fun l18 =>
 (ZEP g0.Degree k1).bind fun r22 =>
 loop (ZEa g0 r22) (([] : List (List (List Int))), 0, l18)
def Zcr (s0 : List Int) (fn1 : Int → Option Bool) : Int → Option ((Int) ⊕ (Int))
 | y8 =>
  bif decide ((y8 : Int) < (s0.length : Int)) then
   (gIdx s0 y8).bind fun e14 =>
   (fn1 e14).bind fun r16 =>
   bif r16 then
    some (.inr (y8))
   else
    some (.inl (IntKind.i64.wrap (y8 + 1)))
  else
   some (.inr ((-1)))
def ZeW (s0 : List Int) (fn1 : Int → Option Bool) : Option Int :=
 loop (Zcr s0 fn1) (0)
def Zap (s0 : List Int) (fn1 : Int → Option Bool) : Option Bool :=
 (ZeW s0 fn1).bind fun r7 =>
 some (decide ((r7 : Int) ≥ 0))
def ZEB (s0 : List Int) (v1 : Int) : Int → Option ((Int) ⊕ (Int))
 | y8 =>
  bif decide ((y8 : Int) < (s0.length : Int)) then
   (gIdx s0 y8).bind fun e14 =>
   bif (v1 : Int) == e14 then
    some (.inr (y8))
   else
    some (.inl (IntKind.i64.wrap (y8 + 1)))
  else
   some (.inr ((-1)))
def ZG7 (s0 : List Int) (v1 : Int) : Option Int :=
 loop (ZEB s0 v1) (0)
def ZFO (s0 : List Int) (v1 : Int) : Option Bool :=
 (ZG7 s0 v1).bind fun r7 =>
 some (decide ((r7 : Int) ≥ 0))
def ZFC (x0 : Int) (y1 : List Int) : Option Bool :=
 (ZFO y1 x0).bind fun r6 =>
 some (!r6)
def ZFv (set0 : List Int) (part1 : List Int) : Option Bool :=
 (Zap part1 (fun y0 => ZFC y0 set0)).bind fun r7 =>
 some (!r7)
def ZD6 (e51 : List (List Int)) (y13 : List Int) (y55 : Int) (e57 : List (List Int)) : Int × Int → Option ((Int × Int) ⊕ ((List Int × Int) ⊕ ((List (List Int) × Int) ⊕ ((List (List Int)) × Int))))
 | (y16, y61) =>
  bif decide ((y61 : Int) < (e57.length : Int)) then
   (gIdx e57 y61).bind fun e63 =>
   (gIdx e51 0).bind fun e67 =>
   (ZFv e63 e67).bind fun r69 =>
   bif r69 then
    some (.inl (IntKind.i64.wrap (y16 + 1), IntKind.i64.wrap (y61 + 1)))
   else
    some (.inl (y16, IntKind.i64.wrap (y61 + 1)))
  else
   (gApp 8 y13 [y16]).bind fun l76 =>
   some (.inr (.inl (l76, IntKind.i64.wrap (y55 + 1))))
def ZD1 (r44 : List (List (List Int))) (y10 : List (List Int)) (y49 : Int) (e51 : List (List Int)) : List Int × Int → Option ((List Int × Int) ⊕ ((List (List Int) × Int) ⊕ ((List (List Int)) × Int)))
 | (y13, y55) =>
  bif decide ((y55 : Int) < (r44.length : Int)) then
   (gIdx r44 y55).bind fun e57 =>
   loop (ZD6 e51 y13 y55 e57) (0, 0)
  else
   (gApp 24 y10 [y13]).bind fun l81 =>
   some (.inr (.inl (l81, IntKind.i64.wrap (y49 + 1))))
def ZDR (r44 : List (List (List Int))) (r47 : List (List (List Int))) : List (List Int) × Int → Option ((List (List Int) × Int) ⊕ ((List (List Int)) × Int))
 | (y10, y49) =>
  bif decide ((y49 : Int) < (r47.length : Int)) then
   (gIdx r47 y49).bind fun e51 =>
   loop (ZD1 r44 y10 y49 e51) (([] : List Int), 0)
  else
   some (.inr ((y10, 0)))
def ZES (y0 : ZaB) (y1 : Int) (y2 : Int) : Option ((List (List Int)) × Int) :=
 (ZEw (ZaB.mk y0.Degree y0.Elements) ([y1, y2] : List Int)).bind fun r38 =>
 bif (r38 : Int) != 0 then
  some ((([] : List (List Int)), r38))
 else
  (ZDW (ZaB.mk y0.Degree y0.Elements) y2).bind fun r44 =>
  (ZDW (ZaB.mk y0.Degree y0.Elements) y1).bind fun r47 =>
  loop (ZDR r44 r47) (([] : List (List Int)), 0)
def ZDO (y0 : ZaB) (y1 : Int) (y2 : Int) : Option ((List (List Int)) × Int) :=
 (ZeF (ZaB.mk y0.Degree y0.Elements)).bind fun r21 =>
 bif !r21 then
  some ((([] : List (List Int)), 1))
 else
  (Z0 y1 0 y2).bind fun r26 =>
  bif !r26 then
   some ((([] : List (List Int)), 2))
  else
   bif decide ((y2 : Int) > y0.Degree) then
    some ((([] : List (List Int)), 2))
   else
    ZES y0 y1 y2
def Z2 (list0 : List (List Int)) : Option Int :=
 some ((list0.length : Int))
def Zcd (x0 : Int) (y1 : Int) : Option Bool :=
 (Z0 x0 0 (IntKind.i64.wrap (y1 - 1))).bind fun r7 =>
 some (!r7)
def Zg4 (q0 : Int) (list1 : List Int) : Option Bool :=
 (Zap list1 (fun y0 => Zcd y0 q0)).bind fun r7 =>
 some (!r7)
def ZEt (row0 : List Int) (y1 : List (List Int)) : Option Bool :=
 (gIdx y1 0).bind fun e7 =>
 bif ((row0.length : Int) : Int) != (e7.length : Int) then
  some (true)
 else
  (Zg4 2001 row0).bind fun r13 =>
  some (!r13)
def ZFT (m0 : List (List Int)) : Option (Bool) :=
 (Zdi m0 (fun y0 => ZEt y0 m0)).bind fun r16 =>
 some (!r16)
def ZFh (m0 : List (List Int)) : Option Bool :=
 (Z2 m0).bind fun r4 =>
 (Z0 r4 1 2000).bind fun r5 =>
 bif !r5 then
  some (false)
 else
  (gIdx m0 0).bind fun e9 =>
  bif decide (((e9.length : Int) : Int) > 2000) then
   some (false)
  else
   ZFT m0
def ZE3 (lambda0 : Int) : Option Bool :=
 (Z0 lambda0 1 2000).bind fun r4 =>
 some (r4)
def ZEJ (c0 : ZDh) (column2 : Int) (factor3 : Int) : Int × List Int → Option ((Int × List Int) ⊕ (List Int))
 | (y15, xs) =>
  bif decide ((y15 : Int) < (c0.qmatrix.length : Int)) then
   (gIdx c0.qmatrix y15).bind fun e18 =>
   (gIdx xs y15).bind fun e22 =>
   (gIdx e18 column2).bind fun e27 =>
   (gIdx xs y15).bind fun e31 =>
   some (.inl (IntKind.i64.wrap (y15 + 1), (xs.set (y15 : Int).toNat (IntKind.i64.wrap (e22 + (IntKind.i64.wrap (factor3 * e27)))))))
  else
   some (.inr (xs))
def ZDB (c0 : ZDh) (sums1 : List Int) (column2 : Int) (factor3 : Int) : Option (List Int) :=
 loop (ZEJ c0 column2 factor3) (0, sums1)
def ZEe (c0 : ZDh) : Int → Option ((Int) ⊕ (Bool))
 | y10 =>
  bif decide ((y10 : Int) < (c0.qsums.length : Int)) then
   (gIdx c0.qsums y10).bind fun e13 =>
   bif decide ((e13 : Int) > c0.qlambda) then
    some (.inr (false))
   else
    (gIdx c0.qlater y10).bind fun e28 =>
    bif decide ((IntKind.i64.wrap (e13 + e28) : Int) < c0.qlambda) then
     some (.inr (false))
    else
     some (.inl (IntKind.i64.wrap (y10 + 1)))
  else
   some (.inr (true))
def ZEI (c0 : ZDh) : Option Bool :=
 loop (ZEe c0) (0)
def ZFS (c0 : ZDi) : Option (Bool × ZDi) :=
 bif (c0.qleft : Int) == 0 then
  some ((false, (ZDi.mk c0.qleft true)))
 else
  some ((true, (ZDi.mk (IntKind.i64.wrap (c0.qleft - 1)) c0.qspent)))
def ZEm (y0 : ZDh) (xs : List Int) : Option (ZDh) :=
 some ((ZDh.mk (ZDi.mk y0.qcounter.qleft y0.qcounter.qspent) y0.qmatrix y0.qlambda y0.qlimit y0.qsums y0.qlater y0.qchosen (IntKind.i64.wrap (y0.qcount + 1)) xs))
def ZDt (y0 : ZDh) (y1 : Int) (y46 : Int) (e48 : Bool) (q_6 : Int) (q_7 : Bool) (q_8 : Int) (q_9 : Int) (q_10 : Int) (xs_8 : List Int) (xs_9 : List Int) (xs_10 : List Int) (xs_11 : List Int) : Option ((Int × Int × Bool × Int × Int × Int × List Int × List Int × List Int × List Int) ⊕ (ZDh)) :=
 bif e48 then
  (ZDB (ZDh.mk (ZDi.mk q_6 q_7) y0.qmatrix q_8 q_9 xs_9 xs_8 xs_10 q_10 xs_11) xs_9 y1 (-1)).bind fun r106 =>
  (gSl xs_10 0 (IntKind.i64.wrap ((xs_10.length : Int) - 1))).bind fun l118 =>
  some (.inl (IntKind.i64.wrap (y46 + 1), q_6, q_7, q_8, q_9, q_10, xs_8, r106, l118, xs_11))
 else
  some (.inl (IntKind.i64.wrap (y46 + 1), q_6, q_7, q_8, q_9, q_10, xs_8, xs_9, xs_10, xs_11))
def ZEG (rf_impl_chooser_search : ZDh → Int → Option ZDh) (y0 : ZDh) (y1 : Int) (y46 : Int) (q : Int) (q_2 : Bool) (q_3 : Int) (q_4 : Int) (q_5 : Int) (xs_2 : List Int) (xs_5 : List Int) (e48 : Bool) (xs_6 : List Int) (xs_7 : List Int) : Option ((Int × Int × Bool × Int × Int × Int × List Int × List Int × List Int × List Int) ⊕ (ZDh)) :=
 (ZEI (ZDh.mk (ZDi.mk q q_2) y0.qmatrix q_3 q_4 xs_6 xs_2 xs_7 q_5 xs_5)).bind fun r69 =>
 bif r69 then
  bif decide ((q_5 : Int) < q_4) then
   bif !q_2 then
    (ZFS (ZDi.mk q q_2)).bind fun r93 =>
    bif r93.1 then
     (rf_impl_chooser_search (ZDh.mk (ZDi.mk r93.2.qleft r93.2.qspent) y0.qmatrix q_3 q_4 xs_6 xs_2 xs_7 q_5 xs_5) (IntKind.i64.wrap (y1 + 1))).bind fun r98 =>
     ZDt y0 y1 y46 e48 r98.qcounter.qleft r98.qcounter.qspent r98.qlambda r98.qlimit r98.qcount r98.qlater r98.qsums r98.qchosen r98.qfirst
    else
     ZDt y0 y1 y46 e48 r93.2.qleft r93.2.qspent q_3 q_4 q_5 xs_2 xs_6 xs_7 xs_5
   else
    ZDt y0 y1 y46 e48 q q_2 q_3 q_4 q_5 xs_2 xs_6 xs_7 xs_5
  else
   ZDt y0 y1 y46 e48 q q_2 q_3 q_4 q_5 xs_2 xs_6 xs_7 xs_5
 else
  ZDt y0 y1 y46 e48 q q_2 q_3 q_4 q_5 xs_2 xs_6 xs_7 xs_5
def ZDz (rf_impl_chooser_search : ZDh → Int → Option ZDh) (y0 : ZDh) (y1 : Int) : Int × Int × Bool × Int × Int × Int × List Int × List Int × List Int × List Int → Option ((Int × Int × Bool × Int × Int × Int × List Int × List Int × List Int × List Int) ⊕ (ZDh))
 | (y46, q, q_2, q_3, q_4, q_5, xs_2, xs_3, xs_4, xs_5) =>
  bif decide ((y46 : Int) < (([true, false] : List Bool).length : Int)) then
   (gIdx ([true, false] : List Bool) y46).bind fun e48 =>
   bif e48 then
    (ZDB (ZDh.mk (ZDi.mk q q_2) y0.qmatrix q_3 q_4 xs_3 xs_2 xs_4 q_5 xs_5) xs_3 y1 1).bind fun r57 =>
    (gApp 8 xs_4 [y1]).bind fun l65 =>
    ZEG rf_impl_chooser_search y0 y1 y46 q q_2 q_3 q_4 q_5 xs_2 xs_5 e48 r57 l65
   else
    ZEG rf_impl_chooser_search y0 y1 y46 q q_2 q_3 q_4 q_5 xs_2 xs_5 e48 xs_3 xs_4
  else
   (ZDB (ZDh.mk (ZDi.mk q q_2) y0.qmatrix q_3 q_4 xs_3 xs_2 xs_4 q_5 xs_5) xs_2 y1 1).bind fun r128 =>
   some (.inr ((ZDh.mk (ZDi.mk q q_2) y0.qmatrix q_3 q_4 xs_3 r128 xs_4 q_5 xs_5)))
def q_impl_chooser_search (rf_impl_chooser_search : ZDh → Int → Option ZDh) (y0 : ZDh) (y1 : Int) : Option ZDh :=
 (gIdx y0.qmatrix 0).bind fun e11 =>
 bif (y1 : Int) == (e11.length : Int) then
  (ZEI (ZDh.mk (ZDi.mk y0.qcounter.qleft y0.qcounter.qspent) y0.qmatrix y0.qlambda y0.qlimit y0.qsums y0.qlater y0.qchosen y0.qcount y0.qfirst)).bind fun r16 =>
  bif r16 then
   bif (y0.qcount : Int) == 0 then
    (Zbu y0.qchosen).bind fun r27 =>
    ZEm y0 r27
   else
    ZEm y0 y0.qfirst
  else
   some ((ZDh.mk (ZDi.mk y0.qcounter.qleft y0.qcounter.qspent) y0.qmatrix y0.qlambda y0.qlimit y0.qsums y0.qlater y0.qchosen y0.qcount y0.qfirst))
 else
  (ZDB (ZDh.mk (ZDi.mk y0.qcounter.qleft y0.qcounter.qspent) y0.qmatrix y0.qlambda y0.qlimit y0.qsums y0.qlater y0.qchosen y0.qcount y0.qfirst) y0.qlater y1 (-1)).bind fun r43 =>
  loop (ZDz rf_impl_chooser_search y0 y1) (0, y0.qcounter.qleft, y0.qcounter.qspent, y0.qlambda, y0.qlimit, y0.qcount, r43, y0.qsums, y0.qchosen, y0.qfirst)
def pn_impl_chooser_search : Nat → (ZDh → Int → Option ZDh)
 | 0 => (fun _ _ => none)
 | n + 1 => q_impl_chooser_search (pn_impl_chooser_search n)
def ZEK : ZDh → Int → Option ZDh := (pn_impl_chooser_search fuel)
def ZEc (m0 : List (List Int)) (lambda1 : Int) (limit2 : Int) (budget3 : Int) (l18 : List Int) (e25 : List Int) : Int × List Int → Option ((Int × List Int) ⊕ (ZDh))
 | (y28, xs) =>
  bif decide ((y28 : Int) < (e25.length : Int)) then
   (ZDB (ZDh.mk (ZDi.mk budget3 false) m0 lambda1 limit2 l18 xs ([] : List Int) 0 ([] : List Int)) xs y28 1).bind fun r37 =>
   some (.inl (IntKind.i64.wrap (y28 + 1), r37))
  else
   (ZEK (ZDh.mk (ZDi.mk budget3 false) m0 lambda1 limit2 l18 xs ([] : List Int) 0 ([] : List Int)) 0).bind fun r40 =>
   some (.inr ((ZDh.mk (ZDi.mk r40.qcounter.qleft r40.qcounter.qspent) m0 r40.qlambda r40.qlimit r40.qsums r40.qlater r40.qchosen r40.qcount r40.qfirst)))
def ZE9 (m0 : List (List Int)) (lambda1 : Int) (limit2 : Int) (budget3 : Int) : Option ZDh :=
 (gMake 8 (0 : Int) (m0.length : Int) (m0.length : Int)).bind fun l18 =>
 (gMake 8 (0 : Int) (m0.length : Int) (m0.length : Int)).bind fun l21 =>
 (gIdx m0 0).bind fun e25 =>
 loop (ZEc m0 lambda1 limit2 budget3 l18 e25) (0, l21)
def ZF0 (m0 : List (List Int)) (lambda1 : Int) (budget2 : Int) : Option ((List Int) × Int) :=
 (ZE9 m0 lambda1 1 budget2).bind fun r23 =>
 bif r23.qcounter.qspent then
  some ((([] : List Int), 5))
 else
  bif (r23.qcount : Int) == 0 then
   some ((([] : List Int), 3))
  else
   some ((r23.qfirst, 0))
def ZDY (m0 : List (List Int)) (lambda1 : Int) (budget2 : Int) : Option ((List Int) × Int) :=
 (ZFh m0).bind fun r10 =>
 bif !r10 then
  some ((([] : List Int), 1))
 else
  (ZEs budget2).bind fun r13 =>
  bif !r13 then
   some ((([] : List Int), 2))
  else
   (ZE3 lambda1).bind fun r17 =>
   bif !r17 then
    some ((([] : List Int), 2))
   else
    ZF0 m0 lambda1 budget2
def ZDw (list0 : List Int) (n1 : Int) : Int × Int → Option ((Int × Int) ⊕ (Bool))
 | (last5, y10) =>
  bif decide ((y10 : Int) < (list0.length : Int)) then
   (gIdx list0 y10).bind fun e12 =>
   (Z0 e12 (IntKind.i64.wrap (last5 + 1)) (IntKind.i64.wrap (n1 - 1))).bind fun r19 =>
   bif !r19 then
    some (.inr (false))
   else
    some (.inl (e12, IntKind.i64.wrap (y10 + 1)))
  else
   some (.inr (true))
def ZFw (list0 : List Int) (n1 : Int) : Option Bool :=
 loop (ZDw list0 n1) ((-1), 0)
def ZF1 (list0 : List (List (List Int))) : Option Int :=
 some ((list0.length : Int))
def Zdh (lists0 : List (List Int)) : List (List Int) × Int → Option ((List (List Int) × Int) ⊕ (List (List Int)))
 | (out3, y8) =>
  bif decide ((y8 : Int) < (lists0.length : Int)) then
   (gIdx lists0 y8).bind fun e10 =>
   (Zbu e10).bind fun r14 =>
   (gApp 24 out3 [r14]).bind fun l16 =>
   some (.inl (l16, IntKind.i64.wrap (y8 + 1)))
  else
   some (.inr (out3))
def Zbc (lists0 : List (List Int)) : Option (List (List Int)) :=
 loop (Zdh lists0) (([] : List (List Int)), 0)
def ZEW (points0 : Int) (blocks1 : List (List Int)) : Option (ZaT × Int) :=
 bif decide (((blocks1.length : Int) : Int) > 128) then
  some (((ZaT.mk 0 ([] : List (List Int))), 5))
 else
  (Zbc blocks1).bind fun r13 =>
  (Zen r13 (fun y0 y1 => Zam y0 y1)).bind fun r17 =>
  some (((ZaT.mk points0 r17), 0))
def ZEx (g0 : ZaB) (orbits2 : List Int) (r32 : List (List (List Int))) : List (List Int) × Int → Option ((List (List Int) × Int) ⊕ (ZaT × Int))
 | (blocks10, y41) =>
  bif decide ((y41 : Int) < (orbits2.length : Int)) then
   (gIdx orbits2 y41).bind fun e43 =>
   (gIdx r32 e43).bind fun e48 =>
   (gApp 24 blocks10 e48).bind fun l50 =>
   some (.inl (l50, IntKind.i64.wrap (y41 + 1)))
  else
   (ZEW g0.Degree blocks10).bind fun r55 =>
   some (.inr (((ZaT.mk r55.1.Points r55.1.Blocks), r55.2)))
def ZFk (g0 : ZaB) (k1 : Int) (orbits2 : List Int) : Option (ZaT × Int) :=
 (ZeF (ZaB.mk g0.Degree g0.Elements)).bind fun r15 =>
 bif !r15 then
  some (((ZaT.mk 0 ([] : List (List Int))), 1))
 else
  bif (k1 : Int) == 0 then
   some (((ZaT.mk 0 ([] : List (List Int))), 2))
  else
   (ZEw (ZaB.mk g0.Degree g0.Elements) ([k1] : List Int)).bind fun r25 =>
   bif (r25 : Int) != 0 then
    some (((ZaT.mk 0 ([] : List (List Int))), r25))
   else
    (ZDW (ZaB.mk g0.Degree g0.Elements) k1).bind fun r32 =>
    (ZF1 r32).bind fun r35 =>
    (ZFw orbits2 r35).bind fun r36 =>
    bif !r36 then
     some (((ZaT.mk 0 ([] : List (List Int))), 2))
    else
     loop (ZEx g0 orbits2 r32) (([] : List (List Int)), 0)
def ZEq (g0 : ZaB) (t1 : Int) (k2 : Int) (lambda3 : Int) (budget4 : Int) : Option (ZaT × Int) :=
 (ZeF (ZaB.mk g0.Degree g0.Elements)).bind fun r16 =>
 bif !r16 then
  some (((ZaT.mk 0 ([] : List (List Int))), 1))
 else
  (ZEs budget4).bind fun r20 =>
  bif !r20 then
   some (((ZaT.mk 0 ([] : List (List Int))), 2))
  else
   (ZDO (ZaB.mk g0.Degree g0.Elements) t1 k2).bind fun r27 =>
   bif (r27.2 : Int) != 0 then
    some (((ZaT.mk 0 ([] : List (List Int))), r27.2))
   else
    bif (k2 : Int) == 0 then
     some (((ZaT.mk 0 ([] : List (List Int))), 2))
    else
     (ZDY r27.1 lambda3 budget4).bind fun r41 =>
     bif (r41.2 : Int) != 0 then
      some (((ZaT.mk 0 ([] : List (List Int))), r41.2))
     else
      (ZFk (ZaB.mk g0.Degree g0.Elements) k2 r41.1).bind fun r51 =>
      some (((ZaT.mk r51.1.Points r51.1.Blocks), r51.2))
def Zem (a0 : List Int) (b1 : List Int) : Int → Option ((Int) ⊕ (Bool))
 | i5 =>
  bif decide ((i5 : Int) < (a0.length : Int)) then
   (gIdx a0 i5).bind fun e19 =>
   (gIdx b1 i5).bind fun e23 =>
   bif (e19 : Int) != e23 then
    some (.inr (false))
   else
    some (.inl (IntKind.i64.wrap (i5 + 1)))
  else
   some (.inr (true))
def Zb1 (a0 : List Int) (b1 : List Int) : Option Bool :=
 bif ((a0.length : Int) : Int) != (b1.length : Int) then
  some (false)
 else
  loop (Zem a0 b1) (0)
def ZfW (a0 : List (List Int)) (b1 : List (List Int)) : Int → Option ((Int) ⊕ (Bool))
 | i5 =>
  bif decide ((i5 : Int) < (a0.length : Int)) then
   (gIdx a0 i5).bind fun e19 =>
   (gIdx b1 i5).bind fun e23 =>
   (Zb1 e19 e23).bind fun r25 =>
   bif !r25 then
    some (.inr (false))
   else
    some (.inl (IntKind.i64.wrap (i5 + 1)))
  else
   some (.inr (true))
def Zfp (a0 : List (List Int)) (b1 : List (List Int)) : Option Bool :=
 bif ((a0.length : Int) : Int) != (b1.length : Int) then
  some (false)
 else
  loop (ZfW a0 b1) (0)
def ZD4 (a0 : ZaT) (b1 : ZaT) : Option Bool :=
 bif (a0.Points : Int) != b1.Points then
  some (false)
 else
  (Zfp a0.Blocks b1.Blocks).bind fun r14 =>
  bif !r14 then
   some (false)
  else
   some (true)
def ZE7 (a0 : ZaB) (b1 : ZaB) : Option Bool :=
 bif (a0.Degree : Int) != b1.Degree then
  some (false)
 else
  (Zfp a0.Elements b1.Elements).bind fun r14 =>
  bif !r14 then
   some (false)
  else
   some (true)
def Zel : Int × Int × List Int → Option ((Int × Int × List Int) ⊕ (Int × (List Int)))
 | (k1_2, i5, xs) =>
  bif decide ((i5 : Int) < (xs.length : Int)) then
   (gIdx xs i5).bind fun e15 =>
   some (.inl (IntKind.i64.wrap (k1_2 + 1), IntKind.i64.wrap (i5 + 1), (xs.set (i5 : Int).toNat k1_2)))
  else
   some (.inr ((k1_2, xs)))
def ZcS (a0 : List Int) (k1 : Int) : Option (Int × (List Int)) :=
 loop (Zel) (k1, 0, a0)
def Zgr : Int × Int × List (List Int) → Option ((Int × Int × List (List Int)) ⊕ (Int × (List (List Int))))
 | (k1_2, i5, xs) =>
  bif decide ((i5 : Int) < (xs.length : Int)) then
   (gIdx xs i5).bind fun e14 =>
   (ZcS e14 k1_2).bind fun r17 =>
   some (.inl (r17.1, IntKind.i64.wrap (i5 + 1), (xs.set (i5 : Int).toNat r17.2)))
  else
   some (.inr ((k1_2, xs)))
def Zek (a0 : List (List Int)) (k1 : Int) : Option (Int × (List (List Int))) :=
 loop (Zgr) (k1, 0, a0)
def ZE6 (a0 : ZaB) (k1 : Int) : Option (Int × ZaB) :=
 (Zek a0.Elements k1).bind fun r8 =>
 some ((r8.1, (ZaB.mk a0.Degree r8.2)))
def ZE4 (a0 : ZaT) (k1 : Int) : Option (Int × ZaT) :=
 (Zek a0.Blocks k1).bind fun r8 =>
 some ((r8.1, (ZaT.mk a0.Points r8.2)))
def Zg2 (a0 : List Int) : Int × Int → Option ((Int × Int) ⊕ (Int))
 | (k1_2, i5) =>
  bif decide ((i5 : Int) < (a0.length : Int)) then
   (gIdx a0 i5).bind fun e14 =>
   bif (e14 : Int) != k1_2 then
    some (.inr ((-1)))
   else
    some (.inl (IntKind.i64.wrap (k1_2 + 1), IntKind.i64.wrap (i5 + 1)))
  else
   some (.inr (k1_2))
def Ze0 (a0 : List Int) (k1 : Int) : Option Int :=
 loop (Zg2 a0) (k1, 0)
def ZBg (a0 : List (List Int)) : Int × Int → Option ((Int × Int) ⊕ (Int))
 | (k1_2, i5) =>
  bif decide ((i5 : Int) < (a0.length : Int)) then
   (gIdx a0 i5).bind fun e14 =>
   (Ze0 e14 k1_2).bind fun r17 =>
   bif decide ((r17 : Int) < 0) then
    some (.inr ((-1)))
   else
    some (.inl (r17, IntKind.i64.wrap (i5 + 1)))
  else
   some (.inr (k1_2))
def ZA9 (a0 : List (List Int)) (k1 : Int) : Option Int :=
 loop (ZBg a0) (k1, 0)
def ZEA (a0 : ZaT) (k1 : Int) : Option Int :=
 (ZA9 a0.Blocks k1).bind fun r8 =>
 bif decide ((r8 : Int) < 0) then
  some ((-1))
 else
  some (r8)
def ZFr (r45 : ZaT × Int) (r80 : Int × ZaT) : Option (Bool) :=
 (ZEA (ZaT.mk r45.1.Points r80.2.Blocks) 1).bind fun r110 =>
 bif decide ((r110 : Int) < 0) then
  some (false)
 else
  bif (r110 : Int) != r80.1 then
   some (false)
  else
   some (true)
def ZFl (y0 : ZDj) (y1 : Int) (y2 : Int) (y3 : Int) (y4 : Int) (r34 : ZaT × Int) (r45 : ZaT × Int) : Option (Bool) :=
 (ZE4 (ZaT.mk r45.1.Points r45.1.Blocks) 1).bind fun r80 =>
 (ZEA (ZaT.mk r45.1.Points r80.2.Blocks) 1).bind fun r83 =>
 bif decide ((r83 : Int) < 0) then
  some (false)
 else
  bif (r83 : Int) != r80.1 then
   some (false)
  else
   (ZDL (ZDj.mk y0.Degree y0.Elements)).bind fun r91 =>
   (ZEq r91 y1 y2 y3 y4).bind fun r96 =>
   (ZD4 (ZaT.mk r96.1.Points r96.1.Blocks) (ZaT.mk r34.1.Points r34.1.Blocks)).bind fun r101 =>
   bif !r101 then
    some (false)
   else
    bif (r96.2 : Int) != r34.2 then
     some (false)
    else
     ZFr r45 r80
def ZEZ (y0 : ZDj) (y1 : Int) (y2 : Int) (y3 : Int) (y4 : Int) (r34 : ZaT × Int) (r38 : ZaB) (r45 : ZaT × Int) : Option (Bool) :=
 (ZDL (ZDj.mk y0.Degree y0.Elements)).bind fun r59 =>
 (ZE7 (ZaB.mk r38.Degree r38.Elements) r59).bind fun r60 =>
 bif !r60 then
  some (false)
 else
  (ZE6 (ZaB.mk r38.Degree r38.Elements) 1).bind fun r64 =>
  bif decide ((r64.1 : Int) < 0) then
   some (false)
  else
   (ZD4 (ZaT.mk r45.1.Points r45.1.Blocks) (ZaT.mk r34.1.Points r34.1.Blocks)).bind fun r70 =>
   bif !r70 then
    some (false)
   else
    bif (r45.2 : Int) != r34.2 then
     some (false)
    else
     ZFl y0 y1 y2 y3 y4 r34 r45
def ZFX (y0 : ZDj) (y1 : Int) (y2 : Int) (y3 : Int) (y4 : Int) : Option Bool :=
 (ZEN (ZDj.mk y0.Degree y0.Elements) 1048576).bind fun r24 =>
 bif decide ((r24 : Int) < 0) then
  some (true)
 else
  (ZDL (ZDj.mk y0.Degree y0.Elements)).bind fun r29 =>
  (ZFu r29 y1 y2 y3 y4).bind fun r34 =>
  (ZDL (ZDj.mk y0.Degree y0.Elements)).bind fun r38 =>
  (ZEq (ZaB.mk r38.Degree r38.Elements) y1 y2 y3 y4).bind fun r45 =>
  (ZD4 (ZaT.mk r45.1.Points r45.1.Blocks) (ZaT.mk r34.1.Points r34.1.Blocks)).bind fun r50 =>
  bif !r50 then
   some (false)
  else
   bif (r45.2 : Int) != r34.2 then
    some (false)
   else
    ZEZ y0 y1 y2 y3 y4 r34 r38 r45
end
end Go.Proofs.YtapkemdomnkccaaGreat
