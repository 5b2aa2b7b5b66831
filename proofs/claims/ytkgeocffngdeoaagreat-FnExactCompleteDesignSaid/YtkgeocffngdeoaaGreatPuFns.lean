/- Plain functions of the functions of this seat, printed by pgen.py. -/
import Derived.Test.YtkgeocffngdeoaaGreatPuCmp
namespace Go.Proofs.YtkgeocffngdeoaaGreat
open Go Go.Vc
set_option linter.unusedVariables false
structure T_laws_Design where
  Points : Int
  Blocks : List (List Int)
structure T_impl_Design where
  Points : Int
  Blocks : List (List Int)
structure T_spec_l28Search where
  qv : Int
  qlambda : Int
  qall : List (List Int)
  qused : List Bool
  qpairs : List Int
  qchosen : List Int
  qnodes : Int
  qbudget : Int
  qcount : Int
  qfirst : Bool
  qfound : List Int
structure T_impl_counter where
  qleft : Int
  qspent : Bool
structure T_impl_blocker where
  qcounter : T_impl_counter
  qlambda : Int
  qfirst : Bool
  qload : List (List Int)
  qsets : List (List Int)
  qused : List Bool
  qblocks : List (List Int)
  qnodes : Int
  qcount : Int
  qfound : List (List Int)
noncomputable def p_laws_szInt64S (a0 : List Int) (left1 : Int) : Option Int :=
  bif decide ((IntKind.i64.wrap (left1 - (a0.length : Int)) : Int) < 0) then
    some ((-1))
  else
    some (IntKind.i64.wrap (left1 - (a0.length : Int)))
noncomputable def p_laws_szInt64SS_b1 (a0 : List (List Int)) : Int × Int → Option ((Int × Int) ⊕ (Int))
  | (left1_2, i5) =>
    bif decide ((i5 : Int) < (a0.length : Int)) then
      (gIdx a0 i5).bind fun e20 =>
      (p_laws_szInt64S e20 left1_2).bind fun r23 =>
      bif decide ((r23 : Int) < 0) then
        some (.inr ((-1)))
      else
        some (.inl (r23, IntKind.i64.wrap (i5 + 1)))
    else
      some (.inr (left1_2))
noncomputable def p_laws_szInt64SS (a0 : List (List Int)) (left1 : Int) : Option Int :=
  bif decide ((IntKind.i64.wrap (left1 - (a0.length : Int)) : Int) < 0) then
    some ((-1))
  else
    loop (p_laws_szInt64SS_b1 a0) (IntKind.i64.wrap (left1 - (a0.length : Int)), 0)
noncomputable def p_laws_szDesign (a0 : T_laws_Design) (left1 : Int) : Option Int :=
  (p_laws_szInt64SS a0.Blocks left1).bind fun r8 =>
  bif decide ((r8 : Int) < 0) then
    some ((-1))
  else
    some (r8)
noncomputable def p_spec_l00In (n0 : Int) (low1 : Int) (high2 : Int) : Option Bool :=
  bif decide ((n0 : Int) ≥ low1) then
    some (decide ((n0 : Int) ≤ high2))
  else
    some (false)
noncomputable def p_spec_l00Rises_b1 (list0 : List Int) (low1 : Int) (high2 : Int) : Int → Option ((Int) ⊕ (Bool))
  | i7 =>
    bif decide ((i7 : Int) < (list0.length : Int)) then
      (gIdx list0 i7).bind fun e16 =>
      (p_spec_l00In e16 low1 high2).bind fun r20 =>
      bif !r20 then
        some (.inr (false))
      else
        bif decide ((i7 : Int) > 0) then
          (gIdx list0 (IntKind.i64.wrap (i7 - 1))).bind fun e29 =>
          (gIdx list0 i7).bind fun e33 =>
          bif decide ((e29 : Int) ≥ e33) then
            some (.inr (false))
          else
            some (.inl (IntKind.i64.wrap (i7 + 1)))
        else
          some (.inl (IntKind.i64.wrap (i7 + 1)))
    else
      some (.inr (true))
noncomputable def p_spec_l00Rises (list0 : List Int) (low1 : Int) (high2 : Int) : Option Bool :=
  loop (p_spec_l00Rises_b1 list0 low1 high2) (0)
noncomputable def p_spec_l10Block (set0 : List Int) (points1 : Int) : Option Bool :=
  bif decide (((set0.length : Int) : Int) > 0) then
    (p_spec_l00Rises set0 0 (IntKind.i64.wrap (points1 - 1))).bind fun r12 =>
    some (r12)
  else
    some (false)
noncomputable def p_spec_CompareLists_k1 (a0 : List Int) (b1 : List Int) : Option (Int) :=
  bif decide (((a0.length : Int) : Int) < (b1.length : Int)) then
    some ((-1))
  else
    bif decide (((a0.length : Int) : Int) > (b1.length : Int)) then
      some (1)
    else
      some (0)
noncomputable def p_spec_CompareLists_k2 (a0 : List Int) (b1 : List Int) (i5 : Int) : Option ((Int) ⊕ (Int)) :=
  (gIdx a0 i5).bind fun e20 =>
  (gIdx b1 i5).bind fun e24 =>
  bif decide ((e20 : Int) < e24) then
    some (.inr ((-1)))
  else
    (gIdx a0 i5).bind fun e29 =>
    (gIdx b1 i5).bind fun e33 =>
    bif decide ((e29 : Int) > e33) then
      some (.inr (1))
    else
      some (.inl (IntKind.i64.wrap (i5 + 1)))
noncomputable def p_spec_CompareLists_b1 (a0 : List Int) (b1 : List Int) : Int → Option ((Int) ⊕ (Int))
  | i5 =>
    bif decide ((i5 : Int) < (a0.length : Int)) then
      bif decide ((i5 : Int) < (b1.length : Int)) then
        p_spec_CompareLists_k2 a0 b1 i5
      else
        (p_spec_CompareLists_k1 a0 b1).map fun x => .inr (x)
    else
      (p_spec_CompareLists_k1 a0 b1).map fun x => .inr (x)
noncomputable def p_spec_CompareLists (a0 : List Int) (b1 : List Int) : Option Int :=
  loop (p_spec_CompareLists_b1 a0 b1) (0)
noncomputable def p_spec_l10Ok_b1 (d0 : T_impl_Design) : Int → Option ((Int) ⊕ (Bool))
  | i3 =>
    bif decide ((i3 : Int) < (d0.Blocks.length : Int)) then
      (gIdx d0.Blocks i3).bind fun e32 =>
      (p_spec_l10Block e32 d0.Points).bind fun r38 =>
      bif !r38 then
        some (.inr (false))
      else
        bif decide ((i3 : Int) > 0) then
          (gIdx d0.Blocks (IntKind.i64.wrap (i3 - 1))).bind fun e50 =>
          (gIdx d0.Blocks i3).bind fun e57 =>
          (p_spec_CompareLists e50 e57).bind fun r59 =>
          bif decide ((r59 : Int) > 0) then
            some (.inr (false))
          else
            some (.inl (IntKind.i64.wrap (i3 + 1)))
        else
          some (.inl (IntKind.i64.wrap (i3 + 1)))
    else
      some (.inr (true))
noncomputable def p_spec_l10Ok_k1 (d0 : T_impl_Design) : Option (Bool) :=
  loop (p_spec_l10Ok_b1 d0) (0)
noncomputable def p_spec_l10Ok (d0 : T_impl_Design) : Option Bool :=
  (p_spec_l00In d0.Points 1 32).bind fun r8 =>
  bif !r8 then
    some (false)
  else
    bif decide (((d0.Blocks.length : Int) : Int) > 128) then
      some (false)
    else
      p_spec_l10Ok_k1 d0
noncomputable def p_spec_l00Same_b1 (a0 : List Int) (b1 : List Int) : Int → Option ((Int) ⊕ (Bool))
  | i5 =>
    bif decide ((i5 : Int) < (a0.length : Int)) then
      (gIdx a0 i5).bind fun e19 =>
      (gIdx b1 i5).bind fun e23 =>
      bif (e19 : Int) != e23 then
        some (.inr (false))
      else
        some (.inl (IntKind.i64.wrap (i5 + 1)))
    else
      some (.inr (true))
noncomputable def p_spec_l00Same (a0 : List Int) (b1 : List Int) : Option Bool :=
  bif ((a0.length : Int) : Int) != (b1.length : Int) then
    some (false)
  else
    loop (p_spec_l00Same_b1 a0 b1) (0)
noncomputable def p_spec_l00Has_b1 (list0 : List Int) (n1 : Int) : Int → Option ((Int) ⊕ (Bool))
  | i5 =>
    bif decide ((i5 : Int) < (list0.length : Int)) then
      (gIdx list0 i5).bind fun e14 =>
      bif (e14 : Int) == n1 then
        some (.inr (true))
      else
        some (.inl (IntKind.i64.wrap (i5 + 1)))
    else
      some (.inr (false))
noncomputable def p_spec_l00Has (list0 : List Int) (n1 : Int) : Option Bool :=
  loop (p_spec_l00Has_b1 list0 n1) (0)
noncomputable def p_spec_l10Pairs_b3 (d0 : T_impl_Design) (a4 : Int) (out3_2 : List Int) (b5 : Int) : Int × Int → Option ((Int × Int) ⊕ ((List Int × Int) ⊕ ((List Int × Int) ⊕ (List Int))))
  | (n6, i7) =>
    bif decide ((i7 : Int) < (d0.Blocks.length : Int)) then
      (gIdx d0.Blocks i7).bind fun e41 =>
      (p_spec_l00Has e41 a4).bind fun r44 =>
      bif r44 then
        (gIdx d0.Blocks i7).bind fun e51 =>
        (p_spec_l00Has e51 b5).bind fun r54 =>
        bif r54 then
          some (.inl (IntKind.i64.wrap (n6 + 1), IntKind.i64.wrap (i7 + 1)))
        else
          some (.inl (n6, IntKind.i64.wrap (i7 + 1)))
      else
        some (.inl (n6, IntKind.i64.wrap (i7 + 1)))
    else
      (gApp 8 out3_2 [n6]).bind fun l61 =>
      some (.inr (.inl (l61, IntKind.i64.wrap (b5 + 1))))
noncomputable def p_spec_l10Pairs_b2 (d0 : T_impl_Design) (a4 : Int) : List Int × Int → Option ((List Int × Int) ⊕ ((List Int × Int) ⊕ (List Int)))
  | (out3_2, b5) =>
    bif decide ((b5 : Int) < d0.Points) then
      loop (p_spec_l10Pairs_b3 d0 a4 out3_2 b5) (0, 0)
    else
      some (.inr (.inl (out3_2, IntKind.i64.wrap (a4 + 1))))
noncomputable def p_spec_l10Pairs_b1 (d0 : T_impl_Design) : List Int × Int → Option ((List Int × Int) ⊕ (List Int))
  | (out3, a4) =>
    bif decide ((a4 : Int) < d0.Points) then
      loop (p_spec_l10Pairs_b2 d0 a4) (out3, IntKind.i64.wrap (a4 + 1))
    else
      some (.inr (out3))
noncomputable def p_spec_l10Pairs (d0 : T_impl_Design) : Option (List Int) :=
  loop (p_spec_l10Pairs_b1 d0) (([] : List Int), 0)
noncomputable def p_spec_l28Packing_b2 (y2 : Int) (r59 : List Int) : Int → Option ((Int) ⊕ ((Int) ⊕ (Bool)))
  | y9 =>
    bif decide ((y9 : Int) < (r59.length : Int)) then
      (gIdx r59 y9).bind fun e68 =>
      bif decide ((e68 : Int) > y2) then
        some (.inr (.inr (false)))
      else
        some (.inl (IntKind.i64.wrap (y9 + 1)))
    else
      some (.inr (.inr (true)))
noncomputable def p_spec_l28Packing_b1 (y0 : T_impl_Design) (y1 : Int) (y2 : Int) : Int → Option ((Int) ⊕ (Bool))
  | y7 =>
    bif decide ((y7 : Int) < (y0.Blocks.length : Int)) then
      (gIdx y0.Blocks y7).bind fun e31 =>
      bif ((e31.length : Int) : Int) != y1 then
        some (.inr (false))
      else
        bif decide ((y7 : Int) > 0) then
          (gIdx y0.Blocks y7).bind fun e45 =>
          (gIdx y0.Blocks (IntKind.i64.wrap (y7 - 1))).bind fun e53 =>
          (p_spec_l00Same e45 e53).bind fun r55 =>
          bif r55 then
            some (.inr (false))
          else
            some (.inl (IntKind.i64.wrap (y7 + 1)))
        else
          some (.inl (IntKind.i64.wrap (y7 + 1)))
    else
      (p_spec_l10Pairs y0).bind fun r59 =>
      loop (p_spec_l28Packing_b2 y2 r59) (0)
noncomputable def p_spec_l28Packing_k1 (y0 : T_impl_Design) (y1 : Int) (y2 : Int) : Option (Bool) :=
  loop (p_spec_l28Packing_b1 y0 y1 y2) (0)
noncomputable def p_spec_l28Packing (y0 : T_impl_Design) (y1 : Int) (y2 : Int) : Option Bool :=
  (p_spec_l10Ok y0).bind fun r11 =>
  bif !r11 then
    some (false)
  else
    bif decide ((y2 : Int) < 1) then
      some (false)
    else
      p_spec_l28Packing_k1 y0 y1 y2
noncomputable def p_spec_Choose_b1 (n0 : Int) (k1 : Int) : Int × Int → Option ((Int × Int) ⊕ (Int))
  | (out5, i6) =>
    bif decide ((i6 : Int) ≤ k1) then
      (gNz i6).bind fun _ =>
      some (.inl (IntKind.i64.wrap (Int.tdiv (IntKind.i64.wrap (out5 * (IntKind.i64.wrap ((IntKind.i64.wrap (n0 - k1)) + i6)))) i6), IntKind.i64.wrap (i6 + 1)))
    else
      some (.inr (out5))
noncomputable def p_spec_Choose_k1 (n0 : Int) (k1 : Int) : Option (Int) :=
  loop (p_spec_Choose_b1 n0 k1) (1, 1)
noncomputable def p_spec_Choose (n0 : Int) (k1 : Int) : Option Int :=
  (p_spec_l00In n0 0 32).bind fun r8 =>
  bif !r8 then
    some (0)
  else
    (p_spec_l00In k1 0 n0).bind fun r13 =>
    bif !r13 then
      some (0)
    else
      p_spec_Choose_k1 n0 k1
noncomputable def p_spec_l28Ask_k1 (v0 : Int) (k1 : Int) : Option (Int) :=
  (p_spec_Choose v0 k1).bind fun r23 =>
  bif decide ((r23 : Int) > 1500) then
    some (5)
  else
    some (0)
noncomputable def p_spec_l28Ask (v0 : Int) (k1 : Int) (lambda2 : Int) : Option Int :=
  (p_spec_l00In v0 2 32).bind fun r8 =>
  bif !r8 then
    some (2)
  else
    (p_spec_l00In k1 2 v0).bind fun r13 =>
    bif !r13 then
      some (2)
    else
      (p_spec_l00In lambda2 1 128).bind fun r18 =>
      bif !r18 then
        some (2)
      else
        p_spec_l28Ask_k1 v0 k1
noncomputable def p_spec_l00Own (list0 : List Int) : Option (List Int) :=
  (gApp 8 ([] : List Int) list0).bind fun l5 =>
  some (l5)
noncomputable def p_spec_l28All_b3 (y1 : Int) (l25 : List (List Int)) : Int × List Int → Option ((Int × List Int) ⊕ ((List (List Int) × List Int) ⊕ ((List Int × Int) ⊕ (List (List Int)))))
  | (y9, xs_2) =>
    bif decide ((y9 : Int) < y1) then
      (gIdx xs_2 (IntKind.i64.wrap (y9 - 1))).bind fun e65 =>
      (gIdx xs_2 y9).bind fun e68 =>
      some (.inl (IntKind.i64.wrap (y9 + 1), (xs_2.set (y9 : Int).toNat (IntKind.i64.wrap (e65 + 1)))))
    else
      some (.inr (.inl (l25, xs_2)))
noncomputable def p_spec_l28All_k1 (y1 : Int) (xs : List Int) (l25 : List (List Int)) (y8 : Int) : Option ((List (List Int) × List Int) ⊕ ((List Int × Int) ⊕ (List (List Int)))) :=
  bif decide ((y8 : Int) < 0) then
    some (.inr (.inr (l25)))
  else
    (gIdx xs y8).bind fun e49 =>
    (gIdx xs y8).bind fun e52 =>
    loop (p_spec_l28All_b3 y1 l25) (IntKind.i64.wrap (y8 + 1), (xs.set (y8 : Int).toNat (IntKind.i64.wrap (e49 + 1))))
noncomputable def p_spec_l28All_b4 (y0 : Int) (y1 : Int) (xs : List Int) (l25 : List (List Int)) : Int → Option ((Int) ⊕ ((List (List Int) × List Int) ⊕ ((List Int × Int) ⊕ (List (List Int)))))
  | y8_2 =>
    bif decide ((y8_2 : Int) ≥ 0) then
      (gIdx xs y8_2).bind fun e33 =>
      bif (e33 : Int) == (IntKind.i64.wrap ((IntKind.i64.wrap (y0 - y1)) + y8_2)) then
        some (.inl (IntKind.i64.wrap (y8_2 - 1)))
      else
        (p_spec_l28All_k1 y1 xs l25 y8_2).map fun x => .inr (x)
    else
      (p_spec_l28All_k1 y1 xs l25 y8_2).map fun x => .inr (x)
noncomputable def p_spec_l28All_b2 (y0 : Int) (y1 : Int) : List (List Int) × List Int → Option ((List (List Int) × List Int) ⊕ ((List Int × Int) ⊕ (List (List Int))))
  | (y7, xs) =>
    (p_spec_l00Own xs).bind fun r23 =>
    (gApp 24 y7 [r23]).bind fun l25 =>
    loop (p_spec_l28All_b4 y0 y1 xs l25) (IntKind.i64.wrap (y1 - 1))
noncomputable def p_spec_l28All_b1 (y0 : Int) (y1 : Int) : List Int × Int → Option ((List Int × Int) ⊕ (List (List Int)))
  | (y5, y6) =>
    bif decide ((y6 : Int) < y1) then
      (gApp 8 y5 [y6]).bind fun l19 =>
      some (.inl (l19, IntKind.i64.wrap (y6 + 1)))
    else
      loop (p_spec_l28All_b2 y0 y1) (([] : List (List Int)), y5)
noncomputable def p_spec_l28All (y0 : Int) (y1 : Int) : Option (List (List Int)) :=
  loop (p_spec_l28All_b1 y0 y1) (([] : List Int), 0)
noncomputable def p_spec_l05Find_b1 (list0 : List (List Int)) (p1 : List Int) : Int × Int → Option ((Int × Int) ⊕ (Int × Bool))
  | (low6, high7) =>
    bif decide ((low6 : Int) < high7) then
      (gNz 2).bind fun _ =>
      (gIdx list0 (IntKind.i64.wrap (Int.tdiv (IntKind.i64.wrap (low6 + high7)) 2))).bind fun e21 =>
      (p_spec_CompareLists e21 p1).bind fun r24 =>
      bif (r24 : Int) == 0 then
        some (.inr ((IntKind.i64.wrap (Int.tdiv (IntKind.i64.wrap (low6 + high7)) 2), true)))
      else
        bif decide ((r24 : Int) < 0) then
          some (.inl (IntKind.i64.wrap ((IntKind.i64.wrap (Int.tdiv (IntKind.i64.wrap (low6 + high7)) 2)) + 1), high7))
        else
          some (.inl (low6, IntKind.i64.wrap (Int.tdiv (IntKind.i64.wrap (low6 + high7)) 2)))
    else
      some (.inr ((low6, false)))
noncomputable def p_spec_l05Find (list0 : List (List Int)) (p1 : List Int) : Option (Int × Bool) :=
  loop (p_spec_l05Find_b1 list0 p1) (0, (list0.length : Int))
noncomputable def p_spec_l24Pair (points0 : Int) (a1 : Int) (b2 : Int) : Option Int :=
  (gNz 2).bind fun _ =>
  some (IntKind.i64.wrap ((IntKind.i64.wrap ((IntKind.i64.wrap ((IntKind.i64.wrap (Int.tdiv (IntKind.i64.wrap (a1 * (IntKind.i64.wrap ((IntKind.i64.wrap ((IntKind.i64.wrap (2 * points0)) - a1)) - 1)))) 2)) + b2)) - a1)) - 1))
noncomputable def p_spec_l28Search_add_b2 (x0 : T_spec_l28Search) (by2 : Int) (e14 : List Int) (i7 : Int) : Int × List Int → Option ((Int × List Int) ⊕ ((Int × List Int) ⊕ (T_spec_l28Search)))
  | (k8, xs_2) =>
    bif decide ((k8 : Int) < (e14.length : Int)) then
      (gIdx e14 i7).bind fun e48 =>
      (gIdx e14 k8).bind fun e52 =>
      (p_spec_l24Pair x0.qv e48 e52).bind fun r54 =>
      (gIdx xs_2 r54).bind fun e55 =>
      (gIdx xs_2 r54).bind fun e59 =>
      some (.inl (IntKind.i64.wrap (k8 + 1), (xs_2.set (r54 : Int).toNat (IntKind.i64.wrap (e55 + by2)))))
    else
      some (.inr (.inl (IntKind.i64.wrap (i7 + 1), xs_2)))
noncomputable def p_spec_l28Search_add_b1 (x0 : T_spec_l28Search) (block1 : Int) (by2 : Int) (e14 : List Int) : Int × List Int → Option ((Int × List Int) ⊕ (T_spec_l28Search))
  | (i7, xs) =>
    bif decide ((i7 : Int) < (e14.length : Int)) then
      loop (p_spec_l28Search_add_b2 x0 by2 e14 i7) (IntKind.i64.wrap (i7 + 1), xs)
    else
      some (.inr ((T_spec_l28Search.mk x0.qv x0.qlambda x0.qall (x0.qused.set (block1 : Int).toNat (decide ((by2 : Int) > 0))) xs x0.qchosen x0.qnodes x0.qbudget x0.qcount x0.qfirst x0.qfound)))
noncomputable def p_spec_l28Search_add (x0 : T_spec_l28Search) (block1 : Int) (by2 : Int) : Option T_spec_l28Search :=
  (gIdx x0.qall block1).bind fun e14 =>
  (gIdx x0.qused block1).bind fun e23 =>
  loop (p_spec_l28Search_add_b1 x0 block1 by2 e14) (0, x0.qpairs)
noncomputable def p_spec_l28Search_fits_b2 (x0 : T_spec_l28Search) (e13 : List Int) (i6 : Int) : Int → Option ((Int) ⊕ ((Int) ⊕ (Bool)))
  | k7 =>
    bif decide ((k7 : Int) < (e13.length : Int)) then
      (gIdx e13 i6).bind fun e39 =>
      (gIdx e13 k7).bind fun e43 =>
      (p_spec_l24Pair x0.qv e39 e43).bind fun r45 =>
      (gIdx x0.qpairs r45).bind fun e46 =>
      bif decide ((e46 : Int) ≥ x0.qlambda) then
        some (.inr (.inr (false)))
      else
        some (.inl (IntKind.i64.wrap (k7 + 1)))
    else
      some (.inr (.inl (IntKind.i64.wrap (i6 + 1))))
noncomputable def p_spec_l28Search_fits_b1 (x0 : T_spec_l28Search) (block1 : Int) (e13 : List Int) : Int → Option ((Int) ⊕ (Bool))
  | i6 =>
    bif decide ((i6 : Int) < (e13.length : Int)) then
      loop (p_spec_l28Search_fits_b2 x0 e13 i6) (IntKind.i64.wrap (i6 + 1))
    else
      (gIdx x0.qused block1).bind fun e58 =>
      some (.inr (!e58))
noncomputable def p_spec_l28Search_fits (x0 : T_spec_l28Search) (block1 : Int) : Option Bool :=
  (gIdx x0.qall block1).bind fun e13 =>
  loop (p_spec_l28Search_fits_b1 x0 block1 e13) (0)
noncomputable def p_spec_l28Search_visit_k2 (rf_spec_l28Search_visit : T_spec_l28Search → Int → Int → Option (Bool × T_spec_l28Search)) (y0 : T_spec_l28Search) (r52 : Int) (y10_2 : Int) (q : Int) (q_2 : Int) (q_3 : Int) (q_4 : Int) (q_5 : Int) (q_6 : Bool) (xs : List Bool) (xs_2 : List Int) (xs_3 : List Int) (xs_4 : List Int) : Option ((Int × Int × Int × Int × Int × Int × Bool × List Bool × List Int × List Int × List Int) ⊕ ((Int) ⊕ ((Int) ⊕ (Bool × T_spec_l28Search)))) :=
  (p_spec_l28Search_add (T_spec_l28Search.mk q q_2 y0.qall xs xs_2 xs_3 q_3 q_4 q_5 q_6 xs_4) y10_2 1).bind fun r108 =>
  (gApp 8 r108.qchosen [y10_2]).bind fun l116 =>
  (rf_spec_l28Search_visit (T_spec_l28Search.mk r108.qv r108.qlambda y0.qall r108.qused r108.qpairs l116 r108.qnodes r108.qbudget r108.qcount r108.qfirst r108.qfound) r52 (IntKind.i64.wrap (y10_2 + 1))).bind fun r123 =>
  (gSl r123.2.qchosen 0 (IntKind.i64.wrap ((r123.2.qchosen.length : Int) - 1))).bind fun l135 =>
  (p_spec_l28Search_add (T_spec_l28Search.mk r123.2.qv r123.2.qlambda y0.qall r123.2.qused r123.2.qpairs l135 r123.2.qnodes r123.2.qbudget r123.2.qcount r123.2.qfirst r123.2.qfound) y10_2 (-1)).bind fun r140 =>
  bif !r123.1 then
    some (.inr (.inr (.inr ((false, (T_spec_l28Search.mk r140.qv r140.qlambda y0.qall r140.qused r140.qpairs r140.qchosen r140.qnodes r140.qbudget r140.qcount r140.qfirst r140.qfound))))))
  else
    some (.inl (IntKind.i64.wrap (y10_2 + 1), r140.qv, r140.qlambda, r140.qnodes, r140.qbudget, r140.qcount, r140.qfirst, r140.qused, r140.qpairs, r140.qchosen, r140.qfound))
noncomputable def p_spec_l28Search_visit_b3 (rf_spec_l28Search_visit : T_spec_l28Search → Int → Int → Option (Bool × T_spec_l28Search)) (y0 : T_spec_l28Search) (y7 : Int) (y8 : Int) (r52 : Int) : Int × Int × Int × Int × Int × Int × Bool × List Bool × List Int × List Int × List Int → Option ((Int × Int × Int × Int × Int × Int × Bool × List Bool × List Int × List Int × List Int) ⊕ ((Int) ⊕ ((Int) ⊕ (Bool × T_spec_l28Search))))
  | (y10_2, q, q_2, q_3, q_4, q_5, q_6, xs, xs_2, xs_3, xs_4) =>
    bif decide ((y10_2 : Int) < (y0.qall.length : Int)) then
      (gIdx y0.qall y10_2).bind fun e83 =>
      (p_spec_l00Has e83 y7).bind fun r86 =>
      bif !r86 then
        some (.inl (IntKind.i64.wrap (y10_2 + 1), q, q_2, q_3, q_4, q_5, q_6, xs, xs_2, xs_3, xs_4))
      else
        (gIdx y0.qall y10_2).bind fun e94 =>
        (p_spec_l00Has e94 y8).bind fun r97 =>
        bif !r97 then
          some (.inl (IntKind.i64.wrap (y10_2 + 1), q, q_2, q_3, q_4, q_5, q_6, xs, xs_2, xs_3, xs_4))
        else
          (p_spec_l28Search_fits (T_spec_l28Search.mk q q_2 y0.qall xs xs_2 xs_3 q_3 q_4 q_5 q_6 xs_4) y10_2).bind fun r103 =>
          bif !r103 then
            some (.inl (IntKind.i64.wrap (y10_2 + 1), q, q_2, q_3, q_4, q_5, q_6, xs, xs_2, xs_3, xs_4))
          else
            p_spec_l28Search_visit_k2 rf_spec_l28Search_visit y0 r52 y10_2 q q_2 q_3 q_4 q_5 q_6 xs xs_2 xs_3 xs_4
    else
      some (.inr (.inr (.inr ((true, (T_spec_l28Search.mk q q_2 y0.qall xs xs_2 xs_3 q_3 q_4 q_5 q_6 xs_4))))))
noncomputable def p_spec_l28Search_visit_k1 (rf_spec_l28Search_visit : T_spec_l28Search → Int → Int → Option (Bool × T_spec_l28Search)) (y0 : T_spec_l28Search) (y7 : Int) (y8 : Int) (r52 : Int) (y10 : Int) : Option ((Int) ⊕ ((Int) ⊕ (Bool × T_spec_l28Search))) :=
  loop (p_spec_l28Search_visit_b3 rf_spec_l28Search_visit y0 y7 y8 r52) (y10, y0.qv, y0.qlambda, IntKind.i64.wrap (y0.qnodes + 1), y0.qbudget, y0.qcount, y0.qfirst, y0.qused, y0.qpairs, y0.qchosen, y0.qfound)
noncomputable def p_spec_l28Search_visit_b2 (rf_spec_l28Search_visit : T_spec_l28Search → Int → Int → Option (Bool × T_spec_l28Search)) (y0 : T_spec_l28Search) (y1 : Int) (y2 : Int) (y7 : Int) : Int → Option ((Int) ⊕ ((Int) ⊕ (Bool × T_spec_l28Search)))
  | y8 =>
    bif decide ((y8 : Int) < y0.qv) then
      (p_spec_l24Pair y0.qv y7 y8).bind fun r52 =>
      (gIdx y0.qpairs r52).bind fun e58 =>
      bif decide ((e58 : Int) ≥ y0.qlambda) then
        some (.inl (IntKind.i64.wrap (y8 + 1)))
      else
        bif (r52 : Int) == y1 then
          p_spec_l28Search_visit_k1 rf_spec_l28Search_visit y0 y7 y8 r52 y2
        else
          p_spec_l28Search_visit_k1 rf_spec_l28Search_visit y0 y7 y8 r52 0
    else
      some (.inr (.inl (IntKind.i64.wrap (y7 + 1))))
noncomputable def p_spec_l28Search_visit_b1 (rf_spec_l28Search_visit : T_spec_l28Search → Int → Int → Option (Bool × T_spec_l28Search)) (y0 : T_spec_l28Search) (y1 : Int) (y2 : Int) : Int → Option ((Int) ⊕ (Bool × T_spec_l28Search))
  | y7 =>
    bif decide ((y7 : Int) < y0.qv) then
      loop (p_spec_l28Search_visit_b2 rf_spec_l28Search_visit y0 y1 y2 y7) (IntKind.i64.wrap (y7 + 1))
    else
      (gApp 8 ([] : List Int) y0.qchosen).bind fun l156 =>
      some (.inr ((!y0.qfirst, (T_spec_l28Search.mk y0.qv y0.qlambda y0.qall y0.qused y0.qpairs y0.qchosen (IntKind.i64.wrap (y0.qnodes + 1)) y0.qbudget (IntKind.i64.wrap (y0.qcount + 1)) y0.qfirst l156))))
noncomputable def q_spec_l28Search_visit (rf_spec_l28Search_visit : T_spec_l28Search → Int → Int → Option (Bool × T_spec_l28Search)) (y0 : T_spec_l28Search) (y1 : Int) (y2 : Int) : Option (Bool × T_spec_l28Search) :=
  bif decide ((IntKind.i64.wrap (y0.qnodes + 1) : Int) > y0.qbudget) then
    some ((false, (T_spec_l28Search.mk y0.qv y0.qlambda y0.qall y0.qused y0.qpairs y0.qchosen (IntKind.i64.wrap (y0.qnodes + 1)) y0.qbudget y0.qcount y0.qfirst y0.qfound)))
  else
    loop (p_spec_l28Search_visit_b1 rf_spec_l28Search_visit y0 y1 y2) (0)
noncomputable def pn_spec_l28Search_visit : Nat → (T_spec_l28Search → Int → Int → Option (Bool × T_spec_l28Search))
  | 0 => (fun _ _ _ => none)
  | n + 1 => q_spec_l28Search_visit (pn_spec_l28Search_visit n)
noncomputable def p_spec_l28Search_visit : T_spec_l28Search → Int → Int → Option (Bool × T_spec_l28Search) := (pn_spec_l28Search_visit fuel)
noncomputable def p_spec_l28Run_b1 (y0 : T_impl_Design) (y3 : Int) (r57 : List (List Int)) : Int × Int × Int × List Int × Int × Int × Int × Bool × List Int × List Int × List Bool → Option ((Int × Int × Int × List Int × Int × Int × Int × Bool × List Int × List Int × List Bool) ⊕ (T_spec_l28Search × Int))
  | (y14, q, q_2, xs, q_3, q_4, q_5, q_6, xs_2, xs_3, xs_4) =>
    bif decide ((y14 : Int) < (y0.Blocks.length : Int)) then
      (gIdx y0.Blocks y14).bind fun e103 =>
      (p_spec_l05Find r57 e103).bind fun r105 =>
      (p_spec_l28Search_add (T_spec_l28Search.mk q q_2 r57 xs_4 xs_3 xs q_3 q_4 q_5 q_6 xs_2) r105.1 1).bind fun r110 =>
      some (.inl (IntKind.i64.wrap (y14 + 1), r110.qv, r110.qlambda, r110.qchosen, r110.qnodes, r110.qbudget, r110.qcount, r110.qfirst, r110.qfound, r110.qpairs, r110.qused))
    else
      (p_spec_l28Search_visit (T_spec_l28Search.mk q q_2 r57 xs_4 xs_3 xs q_3 q_4 q_5 q_6 xs_2) (-1) 0).bind fun r112 =>
      bif decide ((r112.2.qnodes : Int) > y3) then
        some (.inr (((T_spec_l28Search.mk r112.2.qv r112.2.qlambda r57 r112.2.qused r112.2.qpairs r112.2.qchosen r112.2.qnodes r112.2.qbudget r112.2.qcount r112.2.qfirst r112.2.qfound), 5)))
      else
        some (.inr (((T_spec_l28Search.mk r112.2.qv r112.2.qlambda r57 r112.2.qused r112.2.qpairs r112.2.qchosen r112.2.qnodes r112.2.qbudget r112.2.qcount r112.2.qfirst r112.2.qfound), 0)))
noncomputable def p_spec_l28Run (y0 : T_impl_Design) (y1 : Int) (y2 : Int) (y3 : Int) (y4 : Bool) : Option (T_spec_l28Search × Int) :=
  (p_spec_l10Ok y0).bind fun r27 =>
  bif !r27 then
    some (((T_spec_l28Search.mk y0.Points y2 ([] : List (List Int)) ([] : List Bool) ([] : List Int) ([] : List Int) 0 y3 0 y4 ([] : List Int)), 1))
  else
    (p_spec_l00In y3 1 20000).bind fun r31 =>
    bif !r31 then
      some (((T_spec_l28Search.mk y0.Points y2 ([] : List (List Int)) ([] : List Bool) ([] : List Int) ([] : List Int) 0 y3 0 y4 ([] : List Int)), 2))
    else
      (p_spec_l28Ask y0.Points y1 y2).bind fun r40 =>
      bif (r40 : Int) != 0 then
        some (((T_spec_l28Search.mk y0.Points y2 ([] : List (List Int)) ([] : List Bool) ([] : List Int) ([] : List Int) 0 y3 0 y4 ([] : List Int)), r40))
      else
        (p_spec_l28Packing y0 y1 y2).bind fun r48 =>
        bif !r48 then
          some (((T_spec_l28Search.mk y0.Points y2 ([] : List (List Int)) ([] : List Bool) ([] : List Int) ([] : List Int) 0 y3 0 y4 ([] : List Int)), 6))
        else
          (p_spec_l28All y0.Points y1).bind fun r57 =>
          (gMake 1 false (r57.length : Int) (r57.length : Int)).bind fun l66 =>
          (gNz 2).bind fun _ =>
          (gMake 8 (0 : Int) (IntKind.i64.wrap (Int.tdiv (IntKind.i64.wrap (y0.Points * (IntKind.i64.wrap (y0.Points - 1)))) 2)) (IntKind.i64.wrap (Int.tdiv (IntKind.i64.wrap (y0.Points * (IntKind.i64.wrap (y0.Points - 1)))) 2))).bind fun l81 =>
          loop (p_spec_l28Run_b1 y0 y3 r57) (0, y0.Points, y2, ([] : List Int), 0, y3, 0, y4, ([] : List Int), l81, l66)
noncomputable def p_spec_l10Sort_k1 (list0 : List (List Int)) (out3 : List (List Int)) (i4 : Int) (k5 : Int) : Option ((List (List Int) × Int) ⊕ (List (List Int))) :=
  (gSl out3 0 k5).bind fun l36 =>
  (gApp 24 ([] : List (List Int)) l36).bind fun l37 =>
  (gIdx list0 i4).bind fun e41 =>
  (p_spec_l00Own e41).bind fun r43 =>
  (gApp 24 l37 [r43]).bind fun l45 =>
  (gSl out3 k5 (out3.length : Int)).bind fun l49 =>
  (gApp 24 l45 l49).bind fun l50 =>
  some (.inl (l50, IntKind.i64.wrap (i4 + 1)))
noncomputable def p_spec_l10Sort_b2 (list0 : List (List Int)) (out3 : List (List Int)) (i4 : Int) : Int → Option ((Int) ⊕ ((List (List Int) × Int) ⊕ (List (List Int))))
  | k5_2 =>
    bif decide ((k5_2 : Int) > 0) then
      (gIdx out3 (IntKind.i64.wrap (k5_2 - 1))).bind fun e22 =>
      (gIdx list0 i4).bind fun e26 =>
      (p_spec_CompareLists e22 e26).bind fun r28 =>
      bif decide ((r28 : Int) > 0) then
        some (.inl (IntKind.i64.wrap (k5_2 - 1)))
      else
        (p_spec_l10Sort_k1 list0 out3 i4 k5_2).map fun x => .inr (x)
    else
      (p_spec_l10Sort_k1 list0 out3 i4 k5_2).map fun x => .inr (x)
noncomputable def p_spec_l10Sort_b1 (list0 : List (List Int)) : List (List Int) × Int → Option ((List (List Int) × Int) ⊕ (List (List Int)))
  | (out3, i4) =>
    bif decide ((i4 : Int) < (list0.length : Int)) then
      loop (p_spec_l10Sort_b2 list0 out3 i4) ((out3.length : Int))
    else
      some (.inr (out3))
noncomputable def p_spec_l10Sort (list0 : List (List Int)) : Option (List (List Int)) :=
  loop (p_spec_l10Sort_b1 list0) (([] : List (List Int)), 0)
noncomputable def p_spec_l10Make_b1 (points0 : Int) (blocks1 : List (List Int)) : Int → Option ((Int) ⊕ (T_impl_Design × Int))
  | i6 =>
    bif decide ((i6 : Int) < (blocks1.length : Int)) then
      (gIdx blocks1 i6).bind fun e15 =>
      (p_spec_l10Block e15 points0).bind fun r18 =>
      bif !r18 then
        some (.inr (((T_impl_Design.mk 0 ([] : List (List Int))), 1)))
      else
        some (.inl (IntKind.i64.wrap (i6 + 1)))
    else
      bif decide (((blocks1.length : Int) : Int) > 128) then
        some (.inr (((T_impl_Design.mk 0 ([] : List (List Int))), 5)))
      else
        (p_spec_l10Sort blocks1).bind fun r27 =>
        some (.inr (((T_impl_Design.mk points0 r27), 0)))
noncomputable def p_spec_l10Make (points0 : Int) (blocks1 : List (List Int)) : Option (T_impl_Design × Int) :=
  loop (p_spec_l10Make_b1 points0 blocks1) (0)
noncomputable def p_spec_l28First_b1 (y0 : T_impl_Design) (r19 : T_spec_l28Search × Int) : List (List Int) × Int → Option ((List (List Int) × Int) ⊕ (T_impl_Design × Int))
  | (y12, y13) =>
    bif decide ((y13 : Int) < (r19.1.qfound.length : Int)) then
      (gIdx r19.1.qfound y13).bind fun e57 =>
      (gIdx r19.1.qall e57).bind fun e59 =>
      (gApp 24 y12 [e59]).bind fun l62 =>
      some (.inl (l62, IntKind.i64.wrap (y13 + 1)))
    else
      (p_spec_l10Make y0.Points y12).bind fun r68 =>
      some (.inr (((T_impl_Design.mk r68.1.Points r68.1.Blocks), r68.2)))
noncomputable def p_spec_l28First (y0 : T_impl_Design) (y1 : Int) (y2 : Int) (y3 : Int) : Option (T_impl_Design × Int) :=
  (p_spec_l28Run y0 y1 y2 y3 true).bind fun r19 =>
  bif (r19.2 : Int) != 0 then
    some (((T_impl_Design.mk 0 ([] : List (List Int))), r19.2))
  else
    bif (r19.1.qcount : Int) == 0 then
      some (((T_impl_Design.mk 0 ([] : List (List Int))), 3))
    else
      (gApp 24 ([] : List (List Int)) y0.Blocks).bind fun l37 =>
      loop (p_spec_l28First_b1 y0 r19) (l37, 0)
noncomputable def p_spec_CompleteDesign (d0 : T_impl_Design) (k1 : Int) (lambda2 : Int) (budget3 : Int) : Option (T_impl_Design × Int) :=
  (p_spec_l28First (T_impl_Design.mk d0.Points d0.Blocks) k1 lambda2 budget3).bind fun r13 =>
  some (((T_impl_Design.mk r13.1.Points r13.1.Blocks), r13.2))
noncomputable def p_laws_toInt64S_b1 (a0 : List Int) : Int × List Int → Option ((Int × List Int) ⊕ (List Int))
  | (i4, xs) =>
    bif decide ((i4 : Int) < (a0.length : Int)) then
      (gIdx a0 i4).bind fun e18 =>
      (gIdx xs i4).bind fun e20 =>
      some (.inl (IntKind.i64.wrap (i4 + 1), (xs.set (i4 : Int).toNat e18)))
    else
      some (.inr (xs))
noncomputable def p_laws_toInt64S (a0 : List Int) : Option (List Int) :=
  (gMake 8 (0 : Int) (a0.length : Int) (a0.length : Int)).bind fun l7 =>
  loop (p_laws_toInt64S_b1 a0) (0, l7)
noncomputable def p_laws_toInt64SS_b1 (a0 : List (List Int)) : Int × List (List Int) → Option ((Int × List (List Int)) ⊕ (List (List Int)))
  | (i4, xs) =>
    bif decide ((i4 : Int) < (a0.length : Int)) then
      (gIdx a0 i4).bind fun e18 =>
      (p_laws_toInt64S e18).bind fun r20 =>
      (gIdx xs i4).bind fun e21 =>
      some (.inl (IntKind.i64.wrap (i4 + 1), (xs.set (i4 : Int).toNat r20)))
    else
      some (.inr (xs))
noncomputable def p_laws_toInt64SS (a0 : List (List Int)) : Option (List (List Int)) :=
  (gMake 24 ([] : List Int) (a0.length : Int) (a0.length : Int)).bind fun l7 =>
  loop (p_laws_toInt64SS_b1 a0) (0, l7)
noncomputable def p_laws_toDesign (a0 : T_laws_Design) : Option T_impl_Design :=
  (p_laws_toInt64SS a0.Blocks).bind fun r9 =>
  some ((T_impl_Design.mk a0.Points r9))
noncomputable def p_impl_within (n0 : Int) (low1 : Int) (high2 : Int) : Option Bool :=
  bif decide ((n0 : Int) ≥ low1) then
    some (decide ((n0 : Int) ≤ high2))
  else
    some (false)
noncomputable def p_slices_IndexFunc_LLint64_Lint64_b1 (s0 : List (List Int)) (fn1 : (List Int) → Option Bool) : Int → Option ((Int) ⊕ (Int))
  | y8 =>
    bif decide ((y8 : Int) < (s0.length : Int)) then
      (gIdx s0 y8).bind fun e14 =>
      (fn1 e14).bind fun r16 =>
      bif r16 then
        some (.inr (y8))
      else
        some (.inl (IntKind.i64.wrap (y8 + 1)))
    else
      some (.inr ((-1)))
noncomputable def p_slices_IndexFunc_LLint64_Lint64 (s0 : List (List Int)) (fn1 : (List Int) → Option Bool) : Option Int :=
  loop (p_slices_IndexFunc_LLint64_Lint64_b1 s0 fn1) (0)
noncomputable def p_slices_ContainsFunc_LLint64_Lint64 (s0 : List (List Int)) (fn1 : (List Int) → Option Bool) : Option Bool :=
  (p_slices_IndexFunc_LLint64_Lint64 s0 fn1).bind fun r7 =>
  some (decide ((r7 : Int) ≥ 0))
noncomputable def p_impl_ValidSet_b1 (set0 : List Int) (n1 : Int) : Int × Int → Option ((Int × Int) ⊕ (Bool))
  | (last5, y10) =>
    bif decide ((y10 : Int) < (set0.length : Int)) then
      (gIdx set0 y10).bind fun e12 =>
      bif decide ((e12 : Int) ≤ last5) then
        some (.inr (false))
      else
        bif decide ((e12 : Int) ≥ n1) then
          some (.inr (false))
        else
          some (.inl (e12, IntKind.i64.wrap (y10 + 1)))
    else
      (p_impl_within n1 0 32).bind fun r25 =>
      some (.inr (r25))
noncomputable def p_impl_ValidSet (set0 : List Int) (n1 : Int) : Option Bool :=
  loop (p_impl_ValidSet_b1 set0 n1) ((-1), 0)
noncomputable def p_impl_isBlock (block0 : List Int) (points1 : Int) : Option Bool :=
  bif decide (((block0.length : Int) : Int) > 0) then
    (p_impl_ValidSet block0 points1).bind fun r11 =>
    some (r11)
  else
    some (false)
noncomputable def p_impl_areBlocks_1 (b0 : List Int) (y1 : Int) : Option Bool :=
  (p_impl_isBlock b0 y1).bind fun r6 =>
  some (!r6)
noncomputable def p_impl_areBlocks (blocks0 : List (List Int)) (points1 : Int) : Option Bool :=
  (p_impl_within points1 1 32).bind fun r6 =>
  bif r6 then
    (p_slices_ContainsFunc_LLint64_Lint64 blocks0 (fun y0 => p_impl_areBlocks_1 y0 points1)).bind fun r10 =>
    some (!r10)
  else
    some (false)
noncomputable def p_slices_IsSortedFunc_LLint64_Lint64_b1 (x0 : List (List Int)) (fn1 : (List Int) → (List Int) → Option Int) : Int → Option ((Int) ⊕ (Bool))
  | i5 =>
    bif decide ((i5 : Int) > 0) then
      (gIdx x0 i5).bind fun e16 =>
      (gIdx x0 (IntKind.i64.wrap (i5 - 1))).bind fun e21 =>
      (fn1 e16 e21).bind fun r23 =>
      bif decide ((r23 : Int) < 0) then
        some (.inr (false))
      else
        some (.inl (IntKind.i64.wrap (i5 - 1)))
    else
      some (.inr (true))
noncomputable def p_slices_IsSortedFunc_LLint64_Lint64 (x0 : List (List Int)) (fn1 : (List Int) → (List Int) → Option Int) : Option Bool :=
  loop (p_slices_IsSortedFunc_LLint64_Lint64_b1 x0 fn1) (IntKind.i64.wrap ((x0.length : Int) - 1))
noncomputable def p_cmp_isNaN_int64 (x0 : Int) : Option Bool :=
  some ((x0 : Int) != x0)
noncomputable def p_cmp_Compare_int64 (x0 : Int) (y1 : Int) : Option Int :=
  (p_cmp_isNaN_int64 x0).bind fun r8 =>
  (p_cmp_isNaN_int64 y1).bind fun r10 =>
  bif r8 then
    bif r10 then
      some (0)
    else
      some ((-1))
  else
    bif r10 then
      some (1)
    else
      bif decide ((x0 : Int) < y1) then
        some ((-1))
      else
        bif decide ((x0 : Int) > y1) then
          some (1)
        else
          some (0)
noncomputable def p_slices_Compare_Lint64_int64_b1 (s0 : List Int) (s1 : List Int) : Int → Option ((Int) ⊕ (Int))
  | y11 =>
    bif decide ((y11 : Int) < (s0.length : Int)) then
      (gIdx s0 y11).bind fun e14 =>
      bif decide ((y11 : Int) ≥ (s1.length : Int)) then
        some (.inr (1))
      else
        (gIdx s1 y11).bind fun e22 =>
        (p_cmp_Compare_int64 e14 e22).bind fun r26 =>
        bif (r26 : Int) != 0 then
          some (.inr (r26))
        else
          some (.inl (IntKind.i64.wrap (y11 + 1)))
    else
      bif decide (((s0.length : Int) : Int) < (s1.length : Int)) then
        some (.inr ((-1)))
      else
        some (.inr (0))
noncomputable def p_slices_Compare_Lint64_int64 (s0 : List Int) (s1 : List Int) : Option Int :=
  loop (p_slices_Compare_Lint64_int64_b1 s0 s1) (0)
noncomputable def p_impl_ValidDesign (d0 : T_impl_Design) : Option Bool :=
  (p_impl_areBlocks d0.Blocks d0.Points).bind fun r7 =>
  bif r7 then
    bif decide (((d0.Blocks.length : Int) : Int) ≤ 128) then
      (p_slices_IsSortedFunc_LLint64_Lint64 d0.Blocks (fun y0 y1 => p_slices_Compare_Lint64_int64 y0 y1)).bind fun r17 =>
      some (r17)
    else
      some (false)
  else
    some (false)
noncomputable def p_impl_Choose_b1 (n0 : Int) (k1 : Int) : Int × Int → Option ((Int × Int) ⊕ (Int))
  | (count5, i6) =>
    bif decide ((i6 : Int) ≤ k1) then
      (gNz i6).bind fun _ =>
      some (.inl (IntKind.i64.wrap (Int.tdiv (IntKind.i64.wrap (count5 * (IntKind.i64.wrap ((IntKind.i64.wrap (n0 - k1)) + i6)))) i6), IntKind.i64.wrap (i6 + 1)))
    else
      some (.inr (count5))
noncomputable def p_impl_Choose_k1 (n0 : Int) (k1 : Int) : Option (Int) :=
  loop (p_impl_Choose_b1 n0 k1) (1, 1)
noncomputable def p_impl_Choose (n0 : Int) (k1 : Int) : Option Int :=
  (p_impl_within n0 0 32).bind fun r8 =>
  bif !r8 then
    some (0)
  else
    (p_impl_within k1 0 n0).bind fun r13 =>
    bif !r13 then
      some (0)
    else
      p_impl_Choose_k1 n0 k1
noncomputable def p_impl_identity_b1 (l6 : List Int) : Int × List Int → Option ((Int × List Int) ⊕ (List Int))
  | (y9, xs) =>
    bif decide ((y9 : Int) < (l6.length : Int)) then
      (gIdx xs y9).bind fun e15 =>
      some (.inl (IntKind.i64.wrap (y9 + 1), (xs.set (y9 : Int).toNat y9)))
    else
      some (.inr (xs))
noncomputable def p_impl_identity (n0 : Int) : Option (List Int) :=
  (gMake 8 (0 : Int) n0 n0).bind fun l6 =>
  loop (p_impl_identity_b1 l6) (0, l6)
noncomputable def p_impl_size_int64 (list0 : List Int) : Option Int :=
  some ((list0.length : Int))
noncomputable def p_slices_Clone_Lint64_int64 (a0 : List Int) : Option (List Int) := gApp 8 [] a0
noncomputable def p_impl_NextSubset_b2 (set1 : List Int) (r15 : Int) (i7 : Int) : Int × List Int → Option ((Int × List Int) ⊕ ((Int) ⊕ ((List Int) × Bool)))
  | (j9, xs) =>
    bif decide ((j9 : Int) < r15) then
      (gIdx set1 i7).bind fun e44 =>
      (gIdx xs j9).bind fun e51 =>
      some (.inl (IntKind.i64.wrap (j9 + 1), (xs.set (j9 : Int).toNat (IntKind.i64.wrap ((IntKind.i64.wrap ((IntKind.i64.wrap (e44 + 1)) + j9)) - i7)))))
    else
      some (.inr (.inr ((xs, true))))
noncomputable def p_impl_NextSubset_b1 (n0 : Int) (set1 : List Int) (r15 : Int) : Int → Option ((Int) ⊕ ((List Int) × Bool))
  | i7 =>
    bif decide ((i7 : Int) ≥ 0) then
      (gIdx set1 i7).bind fun e24 =>
      bif (e24 : Int) == (IntKind.i64.wrap ((IntKind.i64.wrap (n0 - r15)) + i7)) then
        some (.inl (IntKind.i64.wrap (i7 - 1)))
      else
        (p_slices_Clone_Lint64_int64 set1).bind fun r33 =>
        loop (p_impl_NextSubset_b2 set1 r15 i7) (i7, r33)
    else
      some (.inr ((([] : List Int), false)))
noncomputable def p_impl_NextSubset (n0 : Int) (set1 : List Int) : Option ((List Int) × Bool) :=
  (p_impl_ValidSet set1 n0).bind fun r12 =>
  bif !r12 then
    some ((([] : List Int), false))
  else
    (p_impl_size_int64 set1).bind fun r15 =>
    loop (p_impl_NextSubset_b1 n0 set1 r15) (IntKind.i64.wrap (r15 - 1))
noncomputable def p_impl_allSubsets_b1 (n0 : Int) : List (List Int) × List Int × Bool → Option ((List (List Int) × List Int × Bool) ⊕ (List (List Int)))
  | (list5, set6, more7) =>
    bif more7 then
      (gApp 24 list5 [set6]).bind fun l17 =>
      (p_impl_NextSubset n0 set6).bind fun r21 =>
      some (.inl (l17, r21.1, r21.2))
    else
      some (.inr (list5))
noncomputable def p_impl_allSubsets (n0 : Int) (k1 : Int) : Option (List (List Int)) :=
  (p_impl_identity k1).bind fun r9 =>
  loop (p_impl_allSubsets_b1 n0) (([] : List (List Int)), r9, decide ((k1 : Int) ≤ n0))
noncomputable def p_impl_filledSquare_b2 (n0 : Int) (fn1 : Int → Int → Option Int) (a5 : List (List Int)) (x6 : Int) : List Int × Int → Option ((List Int × Int) ⊕ ((List (List Int) × Int) ⊕ (List (List Int))))
  | (row7, y8) =>
    bif decide ((y8 : Int) < n0) then
      (fn1 x6 y8).bind fun r23 =>
      (gApp 8 row7 [r23]).bind fun l25 =>
      some (.inl (l25, IntKind.i64.wrap (y8 + 1)))
    else
      (gApp 24 a5 [row7]).bind fun l29 =>
      some (.inr (.inl (l29, IntKind.i64.wrap (x6 + 1))))
noncomputable def p_impl_filledSquare_b1 (n0 : Int) (fn1 : Int → Int → Option Int) : List (List Int) × Int → Option ((List (List Int) × Int) ⊕ (List (List Int)))
  | (a5, x6) =>
    bif decide ((x6 : Int) < n0) then
      loop (p_impl_filledSquare_b2 n0 fn1 a5 x6) (([] : List Int), 0)
    else
      some (.inr (a5))
noncomputable def p_impl_filledSquare (n0 : Int) (fn1 : Int → Int → Option Int) : Option (List (List Int)) :=
  loop (p_impl_filledSquare_b1 n0 fn1) (([] : List (List Int)), 0)
noncomputable def p_impl_emptySquare_1 (x0 : Int) (y1 : Int) : Option Int :=
  some (0)
noncomputable def p_impl_emptySquare (n0 : Int) : Option (List (List Int)) :=
  (p_impl_filledSquare n0 (fun y0 y1 => p_impl_emptySquare_1 y0 y1)).bind fun r4 =>
  some (r4)
noncomputable def p_impl_pairCounts_b3 (y25 : Int) (e28 : Int) (l33 : List Int) : Int × List (List Int) → Option ((Int × List (List Int)) ⊕ ((Int × List (List Int)) ⊕ ((Int × List (List Int)) ⊕ (List Int))))
  | (y35, xs_3) =>
    bif decide ((y35 : Int) < (l33.length : Int)) then
      (gIdx l33 y35).bind fun e37 =>
      (gIdx xs_3 e28).bind fun e41 =>
      (gIdx e41 e37).bind fun e44 =>
      (gIdx e41 e37).bind fun e47 =>
      some (.inl (IntKind.i64.wrap (y35 + 1), (xs_3.set (e28 : Int).toNat (e41.set (e37 : Int).toNat (IntKind.i64.wrap (e44 + 1))))))
    else
      some (.inr (.inl (IntKind.i64.wrap (y25 + 1), xs_3)))
noncomputable def p_impl_pairCounts_b2 (y19 : Int) (e21 : List Int) : Int × List (List Int) → Option ((Int × List (List Int)) ⊕ ((Int × List (List Int)) ⊕ (List Int)))
  | (y25, xs_2) =>
    bif decide ((y25 : Int) < (e21.length : Int)) then
      (gIdx e21 y25).bind fun e28 =>
      (gSl e21 (IntKind.i64.wrap (y25 + 1)) (e21.length : Int)).bind fun l33 =>
      loop (p_impl_pairCounts_b3 y25 e28 l33) (0, xs_2)
    else
      some (.inr (.inl (IntKind.i64.wrap (y19 + 1), xs_2)))
noncomputable def p_impl_pairCounts_b4 (xs : List (List Int)) : List Int × Int → Option ((List Int × Int) ⊕ ((Int × List (List Int)) ⊕ (List Int)))
  | (y10, y53) =>
    bif decide ((y53 : Int) < (xs.length : Int)) then
      (gIdx xs y53).bind fun e56 =>
      (gSl e56 (IntKind.i64.wrap (y53 + 1)) (e56.length : Int)).bind fun l62 =>
      (gApp 8 y10 l62).bind fun l63 =>
      some (.inl (l63, IntKind.i64.wrap (y53 + 1)))
    else
      some (.inr (.inr (y10)))
noncomputable def p_impl_pairCounts_b1 (y0 : T_impl_Design) : Int × List (List Int) → Option ((Int × List (List Int)) ⊕ (List Int))
  | (y19, xs) =>
    bif decide ((y19 : Int) < (y0.Blocks.length : Int)) then
      (gIdx y0.Blocks y19).bind fun e21 =>
      loop (p_impl_pairCounts_b2 y19 e21) (0, xs)
    else
      loop (p_impl_pairCounts_b4 xs) (([] : List Int), 0)
noncomputable def p_impl_pairCounts (y0 : T_impl_Design) : Option (List Int) :=
  (p_impl_emptySquare y0.Points).bind fun r15 =>
  loop (p_impl_pairCounts_b1 y0) (0, r15)
noncomputable def p_slices_Equal_Lint64_int64_b1 (s0 : List Int) (s1 : List Int) : Int → Option ((Int) ⊕ (Bool))
  | y13 =>
    bif decide ((y13 : Int) < (s0.length : Int)) then
      (gIdx s0 y13).bind fun e18 =>
      (gIdx s1 y13).bind fun e22 =>
      bif (e18 : Int) != e22 then
        some (.inr (false))
      else
        some (.inl (IntKind.i64.wrap (y13 + 1)))
    else
      some (.inr (true))
noncomputable def p_slices_Equal_Lint64_int64 (s0 : List Int) (s1 : List Int) : Option Bool :=
  bif ((s0.length : Int) : Int) != (s1.length : Int) then
    some (false)
  else
    loop (p_slices_Equal_Lint64_int64_b1 s0 s1) (0)
noncomputable def p_slices_IndexFunc_Lint64_int64_b1 (s0 : List Int) (fn1 : Int → Option Bool) : Int → Option ((Int) ⊕ (Int))
  | y8 =>
    bif decide ((y8 : Int) < (s0.length : Int)) then
      (gIdx s0 y8).bind fun e14 =>
      (fn1 e14).bind fun r16 =>
      bif r16 then
        some (.inr (y8))
      else
        some (.inl (IntKind.i64.wrap (y8 + 1)))
    else
      some (.inr ((-1)))
noncomputable def p_slices_IndexFunc_Lint64_int64 (s0 : List Int) (fn1 : Int → Option Bool) : Option Int :=
  loop (p_slices_IndexFunc_Lint64_int64_b1 s0 fn1) (0)
noncomputable def p_slices_ContainsFunc_Lint64_int64 (s0 : List Int) (fn1 : Int → Option Bool) : Option Bool :=
  (p_slices_IndexFunc_Lint64_int64 s0 fn1).bind fun r7 =>
  some (decide ((r7 : Int) ≥ 0))
noncomputable def p_impl_isDesignPacking_1 (c0 : Int) (y1 : Int) : Option Bool :=
  some (decide ((c0 : Int) > y1))
noncomputable def p_impl_isDesignPacking_b1 (d0 : T_impl_Design) (k1 : Int) (lambda2 : Int) : Int → Option ((Int) ⊕ (Bool))
  | y12 =>
    bif decide ((y12 : Int) < (d0.Blocks.length : Int)) then
      (gIdx d0.Blocks y12).bind fun e15 =>
      (p_impl_size_int64 e15).bind fun r18 =>
      bif (r18 : Int) != k1 then
        some (.inr (false))
      else
        bif decide ((y12 : Int) > 0) then
          (gIdx d0.Blocks (IntKind.i64.wrap (y12 - 1))).bind fun e29 =>
          (p_slices_Equal_Lint64_int64 e29 e15).bind fun r32 =>
          bif r32 then
            some (.inr (false))
          else
            some (.inl (IntKind.i64.wrap (y12 + 1)))
        else
          some (.inl (IntKind.i64.wrap (y12 + 1)))
    else
      bif decide ((lambda2 : Int) > 0) then
        (p_impl_pairCounts (T_impl_Design.mk d0.Points d0.Blocks)).bind fun r40 =>
        (p_slices_ContainsFunc_Lint64_int64 r40 (fun y0 => p_impl_isDesignPacking_1 y0 lambda2)).bind fun r42 =>
        some (.inr (!r42))
      else
        some (.inr (false))
noncomputable def p_impl_isDesignPacking (d0 : T_impl_Design) (k1 : Int) (lambda2 : Int) : Option Bool :=
  loop (p_impl_isDesignPacking_b1 d0 k1 lambda2) (0)
noncomputable def p_impl_isSearched (v0 : Int) (k1 : Int) (lambda2 : Int) : Option Bool :=
  (p_impl_within v0 2 32).bind fun r8 =>
  bif r8 then
    (p_impl_within k1 2 v0).bind fun r12 =>
    bif r12 then
      (p_impl_within lambda2 1 128).bind fun r16 =>
      some (r16)
    else
      some (false)
  else
    some (false)
noncomputable def p_impl_load_change_b2 (by2 : Int) (y12 : Int) (e15 : Int) (l20 : List Int) : Int × List (List Int) → Option ((Int × List (List Int)) ⊕ ((Int × List (List Int)) ⊕ (List (List Int))))
  | (y22, xs_2) =>
    bif decide ((y22 : Int) < (l20.length : Int)) then
      (gIdx l20 y22).bind fun e24 =>
      (gIdx xs_2 e15).bind fun e28 =>
      (gIdx e28 e24).bind fun e31 =>
      (gIdx e28 e24).bind fun e35 =>
      some (.inl (IntKind.i64.wrap (y22 + 1), (xs_2.set (e15 : Int).toNat (e28.set (e24 : Int).toNat (IntKind.i64.wrap (e31 + by2))))))
    else
      some (.inr (.inl (IntKind.i64.wrap (y12 + 1), xs_2)))
noncomputable def p_impl_load_change_b1 (block1 : List Int) (by2 : Int) : Int × List (List Int) → Option ((Int × List (List Int)) ⊕ (List (List Int)))
  | (y12, xs) =>
    bif decide ((y12 : Int) < (block1.length : Int)) then
      (gIdx block1 y12).bind fun e15 =>
      (gSl block1 (IntKind.i64.wrap (y12 + 1)) (block1.length : Int)).bind fun l20 =>
      loop (p_impl_load_change_b2 by2 y12 e15 l20) (0, xs)
    else
      some (.inr (xs))
noncomputable def p_impl_load_change (l0 : List (List Int)) (block1 : List Int) (by2 : Int) : Option (List (List Int)) :=
  loop (p_impl_load_change_b1 block1 by2) (0, l0)
noncomputable def p_impl_loadOf_b1 (d0 : T_impl_Design) : Int × List (List Int) → Option ((Int × List (List Int)) ⊕ (List (List Int)))
  | (y12, xs) =>
    bif decide ((y12 : Int) < (d0.Blocks.length : Int)) then
      (gIdx d0.Blocks y12).bind fun e14 =>
      (p_impl_load_change xs e14 1).bind fun r18 =>
      some (.inl (IntKind.i64.wrap (y12 + 1), r18))
    else
      some (.inr (xs))
noncomputable def p_impl_loadOf (d0 : T_impl_Design) : Option (List (List Int)) :=
  (p_impl_emptySquare d0.Points).bind fun r8 =>
  loop (p_impl_loadOf_b1 d0) (0, r8)
noncomputable def p_impl_isBudget (n0 : Int) : Option Bool :=
  (p_impl_within n0 1 20000).bind fun r4 =>
  some (r4)
noncomputable def p_impl_copyLists_b1 (lists0 : List (List Int)) : List (List Int) × Int → Option ((List (List Int) × Int) ⊕ (List (List Int)))
  | (out3, y8) =>
    bif decide ((y8 : Int) < (lists0.length : Int)) then
      (gIdx lists0 y8).bind fun e10 =>
      (p_slices_Clone_Lint64_int64 e10).bind fun r14 =>
      (gApp 24 out3 [r14]).bind fun l16 =>
      some (.inl (l16, IntKind.i64.wrap (y8 + 1)))
    else
      some (.inr (out3))
noncomputable def p_impl_copyLists (lists0 : List (List Int)) : Option (List (List Int)) :=
  loop (p_impl_copyLists_b1 lists0) (([] : List (List Int)), 0)
noncomputable def p_impl_hasList_1 (l0 : List Int) (y1 : List Int) : Option Bool :=
  (p_slices_Equal_Lint64_int64 l0 y1).bind fun r6 =>
  some (r6)
noncomputable def p_impl_hasList (lists0 : List (List Int)) (list1 : List Int) : Option Bool :=
  (p_slices_ContainsFunc_LLint64_Lint64 lists0 (fun y0 => p_impl_hasList_1 y0 list1)).bind fun r7 =>
  some (r7)
noncomputable def p_impl_load_most_b2 (l0 : List (List Int)) (y12 : Int) (e15 : Int) (l20 : List Int) : Int × Int → Option ((Int × Int) ⊕ ((Int × Int) ⊕ (Int)))
  | (most5_2, y22) =>
    bif decide ((y22 : Int) < (l20.length : Int)) then
      (gIdx l20 y22).bind fun e24 =>
      (gIdx l0 e15).bind fun e29 =>
      (gIdx e29 e24).bind fun e32 =>
      some (.inl (if (e32 : Int) > most5_2 then e32 else most5_2, IntKind.i64.wrap (y22 + 1)))
    else
      some (.inr (.inl (most5_2, IntKind.i64.wrap (y12 + 1))))
noncomputable def p_impl_load_most_b1 (l0 : List (List Int)) (block1 : List Int) : Int × Int → Option ((Int × Int) ⊕ (Int))
  | (most5, y12) =>
    bif decide ((y12 : Int) < (block1.length : Int)) then
      (gIdx block1 y12).bind fun e15 =>
      (gSl block1 (IntKind.i64.wrap (y12 + 1)) (block1.length : Int)).bind fun l20 =>
      loop (p_impl_load_most_b2 l0 y12 e15 l20) (most5, 0)
    else
      some (.inr (most5))
noncomputable def p_impl_load_most (l0 : List (List Int)) (block1 : List Int) : Option Int :=
  loop (p_impl_load_most_b1 l0 block1) (0, 0)
noncomputable def p_impl_counter_node (c0 : T_impl_counter) : Option (Bool × T_impl_counter) :=
  bif (c0.qleft : Int) == 0 then
    some ((false, (T_impl_counter.mk c0.qleft true)))
  else
    some ((true, (T_impl_counter.mk (IntKind.i64.wrap (c0.qleft - 1)) c0.qspent)))
noncomputable def p_impl_blocker_shortPair_b2 (s0 : T_impl_blocker) (y13 : Int) (e16 : List Int) : Int → Option ((Int) ⊕ ((Int) ⊕ (Int × Int × Bool)))
  | b7 =>
    bif decide ((b7 : Int) < (e16.length : Int)) then
      (gIdx e16 b7).bind fun e28 =>
      bif decide ((e28 : Int) < s0.qlambda) then
        some (.inr (.inr ((y13, b7, true))))
      else
        some (.inl (IntKind.i64.wrap (b7 + 1)))
    else
      some (.inr (.inl (IntKind.i64.wrap (y13 + 1))))
noncomputable def p_impl_blocker_shortPair_b1 (s0 : T_impl_blocker) : Int → Option ((Int) ⊕ (Int × Int × Bool))
  | y13 =>
    bif decide ((y13 : Int) < (s0.qload.length : Int)) then
      (gIdx s0.qload y13).bind fun e16 =>
      loop (p_impl_blocker_shortPair_b2 s0 y13 e16) (IntKind.i64.wrap (y13 + 1))
    else
      some (.inr ((0, 0, false)))
noncomputable def p_impl_blocker_shortPair (s0 : T_impl_blocker) : Option (Int × Int × Bool) :=
  loop (p_impl_blocker_shortPair_b1 s0) (0)
noncomputable def p_slices_Index_Lint64_int64_b1 (s0 : List Int) (v1 : Int) : Int → Option ((Int) ⊕ (Int))
  | y8 =>
    bif decide ((y8 : Int) < (s0.length : Int)) then
      (gIdx s0 y8).bind fun e14 =>
      bif (v1 : Int) == e14 then
        some (.inr (y8))
      else
        some (.inl (IntKind.i64.wrap (y8 + 1)))
    else
      some (.inr ((-1)))
noncomputable def p_slices_Index_Lint64_int64 (s0 : List Int) (v1 : Int) : Option Int :=
  loop (p_slices_Index_Lint64_int64_b1 s0 v1) (0)
noncomputable def p_slices_Contains_Lint64_int64 (s0 : List Int) (v1 : Int) : Option Bool :=
  (p_slices_Index_Lint64_int64 s0 v1).bind fun r7 =>
  some (decide ((r7 : Int) ≥ 0))
noncomputable def p_impl_blocker_search_k3 (rf_impl_blocker_search : T_impl_blocker → Int → Int → Int → Option T_impl_blocker) (y0 : T_impl_blocker) (r48 : Int × Int × Bool) (y12 : Int) (q_3 : Int) (q_4 : Bool) (q_5 : Int) (q_6 : Bool) (q_7 : Int) (q_8 : Int) (xs : List (List Int)) (xs_2 : List Bool) (xs_3 : List (List Int)) (xs_4 : List (List Int)) (e99 : List Int) : Option ((Int × Int × Bool × Int × Bool × Int × Int × List (List Int) × List Bool × List (List Int) × List (List Int)) ⊕ (T_impl_blocker)) :=
  (gIdx xs_2 y12).bind fun e138 =>
  (p_impl_load_change xs e99 1).bind fun r144 =>
  (gApp 24 xs_3 [e99]).bind fun l152 =>
  (rf_impl_blocker_search (T_impl_blocker.mk (T_impl_counter.mk q_3 q_4) q_5 q_6 r144 y0.qsets (xs_2.set (y12 : Int).toNat true) l152 q_7 q_8 xs_4) y12 r48.1 r48.2.1).bind fun r159 =>
  (gSl r159.qblocks 0 (IntKind.i64.wrap ((r159.qblocks.length : Int) - 1))).bind fun l171 =>
  (p_impl_load_change r159.qload e99 (-1)).bind fun r179 =>
  (gIdx r159.qused y12).bind fun e185 =>
  some (.inl (IntKind.i64.wrap (y12 + 1), r159.qcounter.qleft, r159.qcounter.qspent, r159.qlambda, r159.qfirst, r159.qnodes, r159.qcount, r179, (r159.qused.set (y12 : Int).toNat false), l171, r159.qfound))
noncomputable def p_impl_blocker_search_b1 (rf_impl_blocker_search : T_impl_blocker → Int → Int → Int → Option T_impl_blocker) (y0 : T_impl_blocker) (r48 : Int × Int × Bool) : Int × Int × Bool × Int × Bool × Int × Int × List (List Int) × List Bool × List (List Int) × List (List Int) → Option ((Int × Int × Bool × Int × Bool × Int × Int × List (List Int) × List Bool × List (List Int) × List (List Int)) ⊕ (T_impl_blocker))
  | (y12, q_3, q_4, q_5, q_6, q_7, q_8, xs, xs_2, xs_3, xs_4) =>
    bif decide ((y12 : Int) < (y0.qsets.length : Int)) then
      (gIdx y0.qsets y12).bind fun e99 =>
      (gIdx xs_2 y12).bind fun e106 =>
      bif e106 then
        some (.inl (IntKind.i64.wrap (y12 + 1), q_3, q_4, q_5, q_6, q_7, q_8, xs, xs_2, xs_3, xs_4))
      else
        (p_slices_Contains_Lint64_int64 e99 r48.1).bind fun r111 =>
        bif !r111 then
          some (.inl (IntKind.i64.wrap (y12 + 1), q_3, q_4, q_5, q_6, q_7, q_8, xs, xs_2, xs_3, xs_4))
        else
          (p_slices_Contains_Lint64_int64 e99 r48.2.1).bind fun r117 =>
          bif !r117 then
            some (.inl (IntKind.i64.wrap (y12 + 1), q_3, q_4, q_5, q_6, q_7, q_8, xs, xs_2, xs_3, xs_4))
          else
            (p_impl_load_most xs e99).bind fun r126 =>
            bif decide ((r126 : Int) ≥ q_5) then
              some (.inl (IntKind.i64.wrap (y12 + 1), q_3, q_4, q_5, q_6, q_7, q_8, xs, xs_2, xs_3, xs_4))
            else
              p_impl_blocker_search_k3 rf_impl_blocker_search y0 r48 y12 q_3 q_4 q_5 q_6 q_7 q_8 xs xs_2 xs_3 xs_4 e99
    else
      some (.inr ((T_impl_blocker.mk (T_impl_counter.mk q_3 q_4) q_5 q_6 xs y0.qsets xs_2 xs_3 q_7 q_8 xs_4)))
noncomputable def p_impl_blocker_search_k2 (rf_impl_blocker_search : T_impl_blocker → Int → Int → Int → Option T_impl_blocker) (y0 : T_impl_blocker) (q : Int) (q_2 : Bool) (r48 : Int × Int × Bool) (y11 : Int) : Option (T_impl_blocker) :=
  loop (p_impl_blocker_search_b1 rf_impl_blocker_search y0 r48) (y11, q, q_2, y0.qlambda, y0.qfirst, IntKind.i64.wrap (y0.qnodes + 1), y0.qcount, y0.qload, y0.qused, y0.qblocks, y0.qfound)
noncomputable def p_impl_blocker_search_k1 (rf_impl_blocker_search : T_impl_blocker → Int → Int → Int → Option T_impl_blocker) (y0 : T_impl_blocker) (y1 : Int) (y2 : Int) (y3 : Int) (q : Int) (q_2 : Bool) : Option (T_impl_blocker) :=
  (p_impl_blocker_shortPair (T_impl_blocker.mk (T_impl_counter.mk q q_2) y0.qlambda y0.qfirst y0.qload y0.qsets y0.qused y0.qblocks (IntKind.i64.wrap (y0.qnodes + 1)) y0.qcount y0.qfound)).bind fun r48 =>
  bif !r48.2.2 then
    bif (IntKind.i64.wrap (y0.qcount + 1) : Int) == 1 then
      (p_impl_copyLists y0.qblocks).bind fun r71 =>
      some ((T_impl_blocker.mk (T_impl_counter.mk q q_2) y0.qlambda y0.qfirst y0.qload y0.qsets y0.qused y0.qblocks (IntKind.i64.wrap (y0.qnodes + 1)) (IntKind.i64.wrap (y0.qcount + 1)) r71))
    else
      some ((T_impl_blocker.mk (T_impl_counter.mk q q_2) y0.qlambda y0.qfirst y0.qload y0.qsets y0.qused y0.qblocks (IntKind.i64.wrap (y0.qnodes + 1)) (IntKind.i64.wrap (y0.qcount + 1)) y0.qfound))
  else
    bif (r48.1 : Int) == y2 then
      bif (r48.2.1 : Int) == y3 then
        p_impl_blocker_search_k2 rf_impl_blocker_search y0 q q_2 r48 (IntKind.i64.wrap (y1 + 1))
      else
        p_impl_blocker_search_k2 rf_impl_blocker_search y0 q q_2 r48 0
    else
      p_impl_blocker_search_k2 rf_impl_blocker_search y0 q q_2 r48 0
noncomputable def q_impl_blocker_search (rf_impl_blocker_search : T_impl_blocker → Int → Int → Int → Option T_impl_blocker) (y0 : T_impl_blocker) (y1 : Int) (y2 : Int) (y3 : Int) : Option T_impl_blocker :=
  bif y0.qcounter.qspent then
    some ((T_impl_blocker.mk (T_impl_counter.mk y0.qcounter.qleft y0.qcounter.qspent) y0.qlambda y0.qfirst y0.qload y0.qsets y0.qused y0.qblocks y0.qnodes y0.qcount y0.qfound))
  else
    bif y0.qfirst then
      bif decide ((y0.qcount : Int) > 0) then
        some ((T_impl_blocker.mk (T_impl_counter.mk y0.qcounter.qleft y0.qcounter.qspent) y0.qlambda y0.qfirst y0.qload y0.qsets y0.qused y0.qblocks y0.qnodes y0.qcount y0.qfound))
      else
        (p_impl_counter_node (T_impl_counter.mk y0.qcounter.qleft y0.qcounter.qspent)).bind fun r36 =>
        bif !r36.1 then
          some ((T_impl_blocker.mk (T_impl_counter.mk r36.2.qleft r36.2.qspent) y0.qlambda y0.qfirst y0.qload y0.qsets y0.qused y0.qblocks y0.qnodes y0.qcount y0.qfound))
        else
          p_impl_blocker_search_k1 rf_impl_blocker_search y0 y1 y2 y3 r36.2.qleft r36.2.qspent
    else
      (p_impl_counter_node (T_impl_counter.mk y0.qcounter.qleft y0.qcounter.qspent)).bind fun r36_2 =>
      bif !r36_2.1 then
        some ((T_impl_blocker.mk (T_impl_counter.mk r36_2.2.qleft r36_2.2.qspent) y0.qlambda y0.qfirst y0.qload y0.qsets y0.qused y0.qblocks y0.qnodes y0.qcount y0.qfound))
      else
        p_impl_blocker_search_k1 rf_impl_blocker_search y0 y1 y2 y3 r36_2.2.qleft r36_2.2.qspent
noncomputable def pn_impl_blocker_search : Nat → (T_impl_blocker → Int → Int → Int → Option T_impl_blocker)
  | 0 => (fun _ _ _ _ => none)
  | n + 1 => q_impl_blocker_search (pn_impl_blocker_search n)
noncomputable def p_impl_blocker_search : T_impl_blocker → Int → Int → Int → Option T_impl_blocker := (pn_impl_blocker_search fuel)
noncomputable def p_impl_completed_b1 (y0 : T_impl_Design) (y2 : Int) (y3 : Int) (y4 : Bool) (r44 : List (List Int)) (r48 : List (List Int)) (r51 : List (List Int)) : Int × List Bool → Option ((Int × List Bool) ⊕ ((Option T_impl_blocker) × Int))
  | (y59, xs) =>
    bif decide ((y59 : Int) < (r48.length : Int)) then
      (gIdx r48 y59).bind fun e61 =>
      (p_impl_hasList y0.Blocks e61).bind fun r71 =>
      (gApp 1 xs ([r71] : List Bool)).bind fun l73 =>
      some (.inl (IntKind.i64.wrap (y59 + 1), l73))
    else
      (p_impl_blocker_search (T_impl_blocker.mk (T_impl_counter.mk y3 false) y2 y4 r44 r48 xs r51 0 0 ([] : List (List Int))) (-1) (-1) (-1)).bind fun r78 =>
      bif r78.qcounter.qspent then
        some (.inr ((none, 5)))
      else
        some (.inr (((some (T_impl_blocker.mk (T_impl_counter.mk r78.qcounter.qleft r78.qcounter.qspent) r78.qlambda r78.qfirst r78.qload r48 r78.qused r78.qblocks r78.qnodes r78.qcount r78.qfound)), 0)))
noncomputable def p_impl_completed_k1 (y0 : T_impl_Design) (y1 : Int) (y2 : Int) (y3 : Int) (y4 : Bool) : Option ((Option T_impl_blocker) × Int) :=
  (p_impl_loadOf (T_impl_Design.mk y0.Points y0.Blocks)).bind fun r44 =>
  (p_impl_allSubsets y0.Points y1).bind fun r48 =>
  (p_impl_copyLists y0.Blocks).bind fun r51 =>
  loop (p_impl_completed_b1 y0 y2 y3 y4 r44 r48 r51) (0, ([] : List Bool))
noncomputable def p_impl_completed_k2 (y0 : T_impl_Design) (y1 : Int) (y2 : Int) (y3 : Int) (y4 : Bool) (y15 : Bool) : Option ((Option T_impl_blocker) × Int) :=
  bif y15 then
    some ((none, 2))
  else
    (p_impl_Choose y0.Points y1).bind fun r31 =>
    bif decide ((r31 : Int) > 1500) then
      some ((none, 5))
    else
      (p_impl_isDesignPacking (T_impl_Design.mk y0.Points y0.Blocks) y1 y2).bind fun r37 =>
      bif !r37 then
        some ((none, 6))
      else
        p_impl_completed_k1 y0 y1 y2 y3 y4
noncomputable def p_impl_completed (y0 : T_impl_Design) (y1 : Int) (y2 : Int) (y3 : Int) (y4 : Bool) : Option ((Option T_impl_blocker) × Int) :=
  (p_impl_isBudget y3).bind fun r17 =>
  bif !r17 then
    p_impl_completed_k2 y0 y1 y2 y3 y4 true
  else
    (p_impl_isSearched y0.Points y1 y2).bind fun r24 =>
    p_impl_completed_k2 y0 y1 y2 y3 y4 (!r24)
open Classical in
noncomputable def p_slices_SortFunc_LLint64_Lint64 (x0 : List (List Int)) (fn1 : (List Int) → (List Int) → Option Int) : Option (List (List Int)) := if (∀ a ∈ x0, ∀ c ∈ x0, fn1 a c = some (lexC a c)) ∧ x0.length < 4611686018427387904 then some (sortRows x0) else none
noncomputable def p_impl_sorted (points0 : Int) (blocks1 : List (List Int)) : Option (T_impl_Design × Int) :=
  bif decide (((blocks1.length : Int) : Int) > 128) then
    some (((T_impl_Design.mk 0 ([] : List (List Int))), 5))
  else
    (p_impl_copyLists blocks1).bind fun r13 =>
    (p_slices_SortFunc_LLint64_Lint64 r13 (fun y0 y1 => p_slices_Compare_Lint64_int64 y0 y1)).bind fun r17 =>
    some (((T_impl_Design.mk points0 r17), 0))
noncomputable def p_impl_firstCompletion (d0 : T_impl_Design) (k1 : Int) (lambda2 : Int) (budget3 : Int) : Option (T_impl_Design × Int) :=
  (p_impl_completed (T_impl_Design.mk d0.Points d0.Blocks) k1 lambda2 budget3 true).bind fun r17 =>
  (match r17 with
  | (none, c17) =>
    bif (c17 : Int) != 0 then
      some (((T_impl_Design.mk 0 ([] : List (List Int))), c17))
    else
      none
  | (some d17, c17) =>
    bif (c17 : Int) != 0 then
      some (((T_impl_Design.mk 0 ([] : List (List Int))), c17))
    else
      bif (d17.qcount : Int) == 0 then
        some (((T_impl_Design.mk 0 ([] : List (List Int))), 3))
      else
        (p_impl_sorted d0.Points d17.qfound).bind fun r36 =>
        some (((T_impl_Design.mk r36.1.Points r36.1.Blocks), r36.2))
  )
noncomputable def p_impl_CompleteDesign (d0 : T_impl_Design) (k1 : Int) (lambda2 : Int) (budget3 : Int) : Option (T_impl_Design × Int) :=
  (p_impl_ValidDesign (T_impl_Design.mk d0.Points d0.Blocks)).bind fun r11 =>
  bif !r11 then
    some (((T_impl_Design.mk 0 ([] : List (List Int))), 1))
  else
    (p_impl_firstCompletion (T_impl_Design.mk d0.Points d0.Blocks) k1 lambda2 budget3).bind fun r18 =>
    some (((T_impl_Design.mk r18.1.Points r18.1.Blocks), r18.2))
noncomputable def p_laws_eqInt64S_b1 (a0 : List Int) (b1 : List Int) : Int → Option ((Int) ⊕ (Bool))
  | i5 =>
    bif decide ((i5 : Int) < (a0.length : Int)) then
      (gIdx a0 i5).bind fun e19 =>
      (gIdx b1 i5).bind fun e23 =>
      bif (e19 : Int) != e23 then
        some (.inr (false))
      else
        some (.inl (IntKind.i64.wrap (i5 + 1)))
    else
      some (.inr (true))
noncomputable def p_laws_eqInt64S (a0 : List Int) (b1 : List Int) : Option Bool :=
  bif ((a0.length : Int) : Int) != (b1.length : Int) then
    some (false)
  else
    loop (p_laws_eqInt64S_b1 a0 b1) (0)
noncomputable def p_laws_eqInt64SS_b1 (a0 : List (List Int)) (b1 : List (List Int)) : Int → Option ((Int) ⊕ (Bool))
  | i5 =>
    bif decide ((i5 : Int) < (a0.length : Int)) then
      (gIdx a0 i5).bind fun e19 =>
      (gIdx b1 i5).bind fun e23 =>
      (p_laws_eqInt64S e19 e23).bind fun r25 =>
      bif !r25 then
        some (.inr (false))
      else
        some (.inl (IntKind.i64.wrap (i5 + 1)))
    else
      some (.inr (true))
noncomputable def p_laws_eqInt64SS (a0 : List (List Int)) (b1 : List (List Int)) : Option Bool :=
  bif ((a0.length : Int) : Int) != (b1.length : Int) then
    some (false)
  else
    loop (p_laws_eqInt64SS_b1 a0 b1) (0)
noncomputable def p_laws_eqDesign (a0 : T_impl_Design) (b1 : T_impl_Design) : Option Bool :=
  bif (a0.Points : Int) != b1.Points then
    some (false)
  else
    (p_laws_eqInt64SS a0.Blocks b1.Blocks).bind fun r14 =>
    bif !r14 then
      some (false)
    else
      some (true)
noncomputable def p_laws_markInt64S_b1 : Int × Int × List Int → Option ((Int × Int × List Int) ⊕ (Int × (List Int)))
  | (k1_2, i5, xs) =>
    bif decide ((i5 : Int) < (xs.length : Int)) then
      (gIdx xs i5).bind fun e15 =>
      some (.inl (IntKind.i64.wrap (k1_2 + 1), IntKind.i64.wrap (i5 + 1), (xs.set (i5 : Int).toNat k1_2)))
    else
      some (.inr ((k1_2, xs)))
noncomputable def p_laws_markInt64S (a0 : List Int) (k1 : Int) : Option (Int × (List Int)) :=
  loop (p_laws_markInt64S_b1) (k1, 0, a0)
noncomputable def p_laws_markInt64SS_b1 : Int × Int × List (List Int) → Option ((Int × Int × List (List Int)) ⊕ (Int × (List (List Int))))
  | (k1_2, i5, xs) =>
    bif decide ((i5 : Int) < (xs.length : Int)) then
      (gIdx xs i5).bind fun e14 =>
      (p_laws_markInt64S e14 k1_2).bind fun r17 =>
      some (.inl (r17.1, IntKind.i64.wrap (i5 + 1), (xs.set (i5 : Int).toNat r17.2)))
    else
      some (.inr ((k1_2, xs)))
noncomputable def p_laws_markInt64SS (a0 : List (List Int)) (k1 : Int) : Option (Int × (List (List Int))) :=
  loop (p_laws_markInt64SS_b1) (k1, 0, a0)
noncomputable def p_laws_markDesign (a0 : T_impl_Design) (k1 : Int) : Option (Int × T_impl_Design) :=
  (p_laws_markInt64SS a0.Blocks k1).bind fun r8 =>
  some ((r8.1, (T_impl_Design.mk a0.Points r8.2)))
noncomputable def p_laws_heldInt64S_b1 (a0 : List Int) : Int × Int → Option ((Int × Int) ⊕ (Int))
  | (k1_2, i5) =>
    bif decide ((i5 : Int) < (a0.length : Int)) then
      (gIdx a0 i5).bind fun e14 =>
      bif (e14 : Int) != k1_2 then
        some (.inr ((-1)))
      else
        some (.inl (IntKind.i64.wrap (k1_2 + 1), IntKind.i64.wrap (i5 + 1)))
    else
      some (.inr (k1_2))
noncomputable def p_laws_heldInt64S (a0 : List Int) (k1 : Int) : Option Int :=
  loop (p_laws_heldInt64S_b1 a0) (k1, 0)
noncomputable def p_laws_heldInt64SS_b1 (a0 : List (List Int)) : Int × Int → Option ((Int × Int) ⊕ (Int))
  | (k1_2, i5) =>
    bif decide ((i5 : Int) < (a0.length : Int)) then
      (gIdx a0 i5).bind fun e14 =>
      (p_laws_heldInt64S e14 k1_2).bind fun r17 =>
      bif decide ((r17 : Int) < 0) then
        some (.inr ((-1)))
      else
        some (.inl (r17, IntKind.i64.wrap (i5 + 1)))
    else
      some (.inr (k1_2))
noncomputable def p_laws_heldInt64SS (a0 : List (List Int)) (k1 : Int) : Option Int :=
  loop (p_laws_heldInt64SS_b1 a0) (k1, 0)
noncomputable def p_laws_heldDesign (a0 : T_impl_Design) (k1 : Int) : Option Int :=
  (p_laws_heldInt64SS a0.Blocks k1).bind fun r8 =>
  bif decide ((r8 : Int) < 0) then
    some ((-1))
  else
    some (r8)
noncomputable def p_laws_FnExactCompleteDesign_k3 (r41 : T_impl_Design × Int) (r76 : Int × T_impl_Design) : Option (Bool) :=
  (p_laws_heldDesign (T_impl_Design.mk r41.1.Points r76.2.Blocks) 1).bind fun r105 =>
  bif decide ((r105 : Int) < 0) then
    some (false)
  else
    bif (r105 : Int) != r76.1 then
      some (false)
    else
      some (true)
noncomputable def p_laws_FnExactCompleteDesign_k2 (y0 : T_laws_Design) (y1 : Int) (y2 : Int) (y3 : Int) (r31 : T_impl_Design × Int) (r41 : T_impl_Design × Int) : Option (Bool) :=
  (p_laws_markDesign (T_impl_Design.mk r41.1.Points r41.1.Blocks) 1).bind fun r76 =>
  (p_laws_heldDesign (T_impl_Design.mk r41.1.Points r76.2.Blocks) 1).bind fun r79 =>
  bif decide ((r79 : Int) < 0) then
    some (false)
  else
    bif (r79 : Int) != r76.1 then
      some (false)
    else
      (p_laws_toDesign (T_laws_Design.mk y0.Points y0.Blocks)).bind fun r87 =>
      (p_impl_CompleteDesign r87 y1 y2 y3).bind fun r91 =>
      (p_laws_eqDesign (T_impl_Design.mk r91.1.Points r91.1.Blocks) (T_impl_Design.mk r31.1.Points r31.1.Blocks)).bind fun r96 =>
      bif !r96 then
        some (false)
      else
        bif (r91.2 : Int) != r31.2 then
          some (false)
        else
          p_laws_FnExactCompleteDesign_k3 r41 r76
noncomputable def p_laws_FnExactCompleteDesign_k1 (y0 : T_laws_Design) (y1 : Int) (y2 : Int) (y3 : Int) (r31 : T_impl_Design × Int) (r35 : T_impl_Design) (r41 : T_impl_Design × Int) : Option (Bool) :=
  (p_laws_toDesign (T_laws_Design.mk y0.Points y0.Blocks)).bind fun r55 =>
  (p_laws_eqDesign (T_impl_Design.mk r35.Points r35.Blocks) r55).bind fun r56 =>
  bif !r56 then
    some (false)
  else
    (p_laws_markDesign (T_impl_Design.mk r35.Points r35.Blocks) 1).bind fun r60 =>
    bif decide ((r60.1 : Int) < 0) then
      some (false)
    else
      (p_laws_eqDesign (T_impl_Design.mk r41.1.Points r41.1.Blocks) (T_impl_Design.mk r31.1.Points r31.1.Blocks)).bind fun r66 =>
      bif !r66 then
        some (false)
      else
        bif (r41.2 : Int) != r31.2 then
          some (false)
        else
          p_laws_FnExactCompleteDesign_k2 y0 y1 y2 y3 r31 r41
noncomputable def p_laws_FnExactCompleteDesign (y0 : T_laws_Design) (y1 : Int) (y2 : Int) (y3 : Int) : Option Bool :=
  (p_laws_szDesign (T_laws_Design.mk y0.Points y0.Blocks) 1048576).bind fun r22 =>
  bif decide ((r22 : Int) < 0) then
    some (true)
  else
    (p_laws_toDesign (T_laws_Design.mk y0.Points y0.Blocks)).bind fun r27 =>
    (p_spec_CompleteDesign r27 y1 y2 y3).bind fun r31 =>
    (p_laws_toDesign (T_laws_Design.mk y0.Points y0.Blocks)).bind fun r35 =>
    (p_impl_CompleteDesign (T_impl_Design.mk r35.Points r35.Blocks) y1 y2 y3).bind fun r41 =>
    (p_laws_eqDesign (T_impl_Design.mk r41.1.Points r41.1.Blocks) (T_impl_Design.mk r31.1.Points r31.1.Blocks)).bind fun r46 =>
    bif !r46 then
      some (false)
    else
      bif (r41.2 : Int) != r31.2 then
        some (false)
      else
        p_laws_FnExactCompleteDesign_k1 y0 y1 y2 y3 r31 r35 r41
end Go.Proofs.YtkgeocffngdeoaaGreat
