/- Plain functions of the functions of this seat, printed by pgen.py. -/
import Derived.Test.YtieehpcgmjbceaaPuBase
namespace Go.Proofs.Ytieehpcgmjbceaa
open Go Go.Vc
set_option linter.unusedVariables false
structure T_spec_l26Find where
  qm : List (List Int)
  qlater : List (List Int)
  qlambda : Int
  qchosen : List Int
  qfirst : List Int
  qcount : Int
  qlimit : Int
  qnodes : Int
  qbudget : Int
  qfull : Bool
structure T_impl_counter where
  qleft : Int
  qspent : Bool
structure T_impl_chooser where
  qcounter : T_impl_counter
  qmatrix : List (List Int)
  qlambda : Int
  qlimit : Int
  qsums : List Int
  qlater : List Int
  qchosen : List Int
  qcount : Int
  qfirst : List Int
noncomputable def p_laws_eqInt64S_b1 (a0 : List Int) (b1 : List Int) : Int → Option ((Int) ⊕ (Bool))
  | i5 =>
    bif decide ((i5 : Int) < (a0.length : Int)) then
      (gIdx a0 i5).bind fun e19 =>
      (gIdx b1 i5).bind fun e23 =>
      bif (e19 : Int) != e23 then
        some (.inr (false))
      else
        some (.inl (IntKind.i64.wrap (i5 + 1)))
    else
      some (.inr (true))
noncomputable def p_laws_eqInt64S (a0 : List Int) (b1 : List Int) : Option Bool :=
  bif ((a0.length : Int) : Int) != (b1.length : Int) then
    some (false)
  else
    loop (p_laws_eqInt64S_b1 a0 b1) (0)
noncomputable def p_laws_markInt64S_b1 : Int × Int × List Int → Option ((Int × Int × List Int) ⊕ (Int × (List Int)))
  | (k1_2, i5, xs) =>
    bif decide ((i5 : Int) < (xs.length : Int)) then
      (gIdx xs i5).bind fun e15 =>
      some (.inl (IntKind.i64.wrap (k1_2 + 1), IntKind.i64.wrap (i5 + 1), (xs.set (i5 : Int).toNat k1_2)))
    else
      some (.inr ((k1_2, xs)))
noncomputable def p_laws_markInt64S (a0 : List Int) (k1 : Int) : Option (Int × (List Int)) :=
  loop (p_laws_markInt64S_b1) (k1, 0, a0)
noncomputable def p_laws_heldInt64S_b1 (a0 : List Int) : Int × Int → Option ((Int × Int) ⊕ (Int))
  | (k1_2, i5) =>
    bif decide ((i5 : Int) < (a0.length : Int)) then
      (gIdx a0 i5).bind fun e14 =>
      bif (e14 : Int) != k1_2 then
        some (.inr ((-1)))
      else
        some (.inl (IntKind.i64.wrap (k1_2 + 1), IntKind.i64.wrap (i5 + 1)))
    else
      some (.inr (k1_2))
noncomputable def p_laws_heldInt64S (a0 : List Int) (k1 : Int) : Option Int :=
  loop (p_laws_heldInt64S_b1 a0) (k1, 0)
noncomputable def p_laws_szInt64S (a0 : List Int) (left1 : Int) : Option Int :=
  bif decide ((IntKind.i64.wrap (left1 - (a0.length : Int)) : Int) < 0) then
    some ((-1))
  else
    some (IntKind.i64.wrap (left1 - (a0.length : Int)))
noncomputable def p_laws_szInt64SS_b1 (a0 : List (List Int)) : Int × Int → Option ((Int × Int) ⊕ (Int))
  | (left1_2, i5) =>
    bif decide ((i5 : Int) < (a0.length : Int)) then
      (gIdx a0 i5).bind fun e20 =>
      (p_laws_szInt64S e20 left1_2).bind fun r23 =>
      bif decide ((r23 : Int) < 0) then
        some (.inr ((-1)))
      else
        some (.inl (r23, IntKind.i64.wrap (i5 + 1)))
    else
      some (.inr (left1_2))
noncomputable def p_laws_szInt64SS (a0 : List (List Int)) (left1 : Int) : Option Int :=
  bif decide ((IntKind.i64.wrap (left1 - (a0.length : Int)) : Int) < 0) then
    some ((-1))
  else
    loop (p_laws_szInt64SS_b1 a0) (IntKind.i64.wrap (left1 - (a0.length : Int)), 0)
noncomputable def p_laws_toInt64S_b1 (a0 : List Int) : Int × List Int → Option ((Int × List Int) ⊕ (List Int))
  | (i4, xs) =>
    bif decide ((i4 : Int) < (a0.length : Int)) then
      (gIdx a0 i4).bind fun e18 =>
      (gIdx xs i4).bind fun e20 =>
      some (.inl (IntKind.i64.wrap (i4 + 1), (xs.set (i4 : Int).toNat e18)))
    else
      some (.inr (xs))
noncomputable def p_laws_toInt64S (a0 : List Int) : Option (List Int) :=
  (gMake 8 (0 : Int) (a0.length : Int) (a0.length : Int)).bind fun l7 =>
  loop (p_laws_toInt64S_b1 a0) (0, l7)
noncomputable def p_laws_toInt64SS_b1 (a0 : List (List Int)) : Int × List (List Int) → Option ((Int × List (List Int)) ⊕ (List (List Int)))
  | (i4, xs) =>
    bif decide ((i4 : Int) < (a0.length : Int)) then
      (gIdx a0 i4).bind fun e18 =>
      (p_laws_toInt64S e18).bind fun r20 =>
      (gIdx xs i4).bind fun e21 =>
      some (.inl (IntKind.i64.wrap (i4 + 1), (xs.set (i4 : Int).toNat r20)))
    else
      some (.inr (xs))
noncomputable def p_laws_toInt64SS (a0 : List (List Int)) : Option (List (List Int)) :=
  (gMake 24 ([] : List Int) (a0.length : Int) (a0.length : Int)).bind fun l7 =>
  loop (p_laws_toInt64SS_b1 a0) (0, l7)
noncomputable def p_laws_eqInt64SS_b1 (a0 : List (List Int)) (b1 : List (List Int)) : Int → Option ((Int) ⊕ (Bool))
  | i5 =>
    bif decide ((i5 : Int) < (a0.length : Int)) then
      (gIdx a0 i5).bind fun e19 =>
      (gIdx b1 i5).bind fun e23 =>
      (p_laws_eqInt64S e19 e23).bind fun r25 =>
      bif !r25 then
        some (.inr (false))
      else
        some (.inl (IntKind.i64.wrap (i5 + 1)))
    else
      some (.inr (true))
noncomputable def p_laws_eqInt64SS (a0 : List (List Int)) (b1 : List (List Int)) : Option Bool :=
  bif ((a0.length : Int) : Int) != (b1.length : Int) then
    some (false)
  else
    loop (p_laws_eqInt64SS_b1 a0 b1) (0)
noncomputable def p_spec_l00In (n0 : Int) (low1 : Int) (high2 : Int) : Option Bool :=
  bif decide ((n0 : Int) ≥ low1) then
    some (decide ((n0 : Int) ≤ high2))
  else
    some (false)
noncomputable def p_spec_l26Ok_b2 (m0 : List (List Int)) (i3 : Int) : Int → Option ((Int) ⊕ ((Int) ⊕ (Bool)))
  | j4 =>
    (gIdx m0 i3).bind fun e40 =>
    bif decide ((j4 : Int) < (e40.length : Int)) then
      (gIdx m0 i3).bind fun e48 =>
      (gIdx e48 j4).bind fun e51 =>
      (p_spec_l00In e51 0 2000).bind fun r53 =>
      bif !r53 then
        some (.inr (.inr (false)))
      else
        some (.inl (IntKind.i64.wrap (j4 + 1)))
    else
      some (.inr (.inl (IntKind.i64.wrap (i3 + 1))))
noncomputable def p_spec_l26Ok_k2 (m0 : List (List Int)) (i3 : Int) : Option ((Int) ⊕ (Bool)) :=
  loop (p_spec_l26Ok_b2 m0 i3) (0)
noncomputable def p_spec_l26Ok_b1 (m0 : List (List Int)) : Int → Option ((Int) ⊕ (Bool))
  | i3 =>
    bif decide ((i3 : Int) < (m0.length : Int)) then
      (gIdx m0 i3).bind fun e21 =>
      (gIdx m0 0).bind fun e25 =>
      bif ((e21.length : Int) : Int) != (e25.length : Int) then
        some (.inr (false))
      else
        (gIdx m0 i3).bind fun e32 =>
        bif decide (((e32.length : Int) : Int) > 2000) then
          some (.inr (false))
        else
          p_spec_l26Ok_k2 m0 i3
    else
      some (.inr (true))
noncomputable def p_spec_l26Ok_k1 (m0 : List (List Int)) : Option (Bool) :=
  loop (p_spec_l26Ok_b1 m0) (0)
noncomputable def p_spec_l26Ok (m0 : List (List Int)) : Option Bool :=
  bif decide (((m0.length : Int) : Int) < 1) then
    some (false)
  else
    bif decide (((m0.length : Int) : Int) > 2000) then
      some (false)
    else
      p_spec_l26Ok_k1 m0
noncomputable def p_spec_l09Budget (budget0 : Int) : Option Bool :=
  (p_spec_l00In budget0 1 20000).bind fun r4 =>
  some (r4)
noncomputable def p_spec_l26Lambda (lambda0 : Int) : Option Bool :=
  (p_spec_l00In lambda0 1 2000).bind fun r4 =>
  some (r4)
noncomputable def p_spec_l00Own (list0 : List Int) : Option (List Int) :=
  (gApp 8 ([] : List Int) list0).bind fun l5 =>
  some (l5)
noncomputable def p_spec_l26Find_on_k1 (rf_spec_l26Find_run : T_spec_l26Find → (List Int) → Int → Option T_spec_l26Find) (y0 : T_spec_l26Find) (y1 : List Int) (y2 : Int) : Option ((Int) ⊕ (T_spec_l26Find)) :=
  bif (y0.qnodes : Int) == y0.qbudget then
    some (.inr ((T_spec_l26Find.mk y0.qm y0.qlater y0.qlambda y0.qchosen y0.qfirst y0.qcount y0.qlimit y0.qnodes y0.qbudget true)))
  else
    (rf_spec_l26Find_run (T_spec_l26Find.mk y0.qm y0.qlater y0.qlambda y0.qchosen y0.qfirst y0.qcount y0.qlimit (IntKind.i64.wrap (y0.qnodes + 1)) y0.qbudget y0.qfull) y1 y2).bind fun r70 =>
    some (.inr ((T_spec_l26Find.mk y0.qm r70.qlater r70.qlambda r70.qchosen r70.qfirst r70.qcount r70.qlimit r70.qnodes r70.qbudget r70.qfull)))
noncomputable def p_spec_l26Find_on_b1 (rf_spec_l26Find_run : T_spec_l26Find → (List Int) → Int → Option T_spec_l26Find) (y0 : T_spec_l26Find) (y1 : List Int) (y2 : Int) : Int → Option ((Int) ⊕ (T_spec_l26Find))
  | y6 =>
    bif decide ((y6 : Int) < (y1.length : Int)) then
      (gIdx y1 y6).bind fun e15 =>
      (gIdx y0.qlater y6).bind fun e22 =>
      (gIdx e22 y2).bind fun e25 =>
      bif decide ((IntKind.i64.wrap (e15 + e25) : Int) < y0.qlambda) then
        some (.inr ((T_spec_l26Find.mk y0.qm y0.qlater y0.qlambda y0.qchosen y0.qfirst y0.qcount y0.qlimit y0.qnodes y0.qbudget y0.qfull)))
      else
        some (.inl (IntKind.i64.wrap (y6 + 1)))
    else
      bif y0.qfull then
        some (.inr ((T_spec_l26Find.mk y0.qm y0.qlater y0.qlambda y0.qchosen y0.qfirst y0.qcount y0.qlimit y0.qnodes y0.qbudget y0.qfull)))
      else
        bif (y0.qcount : Int) == y0.qlimit then
          some (.inr ((T_spec_l26Find.mk y0.qm y0.qlater y0.qlambda y0.qchosen y0.qfirst y0.qcount y0.qlimit y0.qnodes y0.qbudget y0.qfull)))
        else
          p_spec_l26Find_on_k1 rf_spec_l26Find_run y0 y1 y2
noncomputable def q_spec_l26Find_on (rf_spec_l26Find_on : T_spec_l26Find → (List Int) → Int → Option T_spec_l26Find) (rf_spec_l26Find_run : T_spec_l26Find → (List Int) → Int → Option T_spec_l26Find) (y0 : T_spec_l26Find) (y1 : List Int) (y2 : Int) : Option T_spec_l26Find :=
  loop (p_spec_l26Find_on_b1 rf_spec_l26Find_run y0 y1 y2) (0)
noncomputable def p_spec_l26Find_run_k1 (y0 : T_spec_l26Find) (xs : List Int) : Option (T_spec_l26Find) :=
  some ((T_spec_l26Find.mk y0.qm y0.qlater y0.qlambda y0.qchosen xs (IntKind.i64.wrap (y0.qcount + 1)) y0.qlimit y0.qnodes y0.qbudget y0.qfull))
noncomputable def p_spec_l26Find_run_k2 (rf_spec_l26Find_on : T_spec_l26Find → (List Int) → Int → Option T_spec_l26Find) (y0 : T_spec_l26Find) (y1 : List Int) (y2 : Int) (q : Int) (q_2 : Int) (q_3 : Int) (q_4 : Int) (q_5 : Int) (q_6 : Bool) (xs_2 : List (List Int)) (xs_3 : List Int) (xs_4 : List Int) : Option ((Bool × List Int × Int) ⊕ (T_spec_l26Find)) :=
  (rf_spec_l26Find_on (T_spec_l26Find.mk y0.qm xs_2 q xs_3 xs_4 q_2 q_3 q_4 q_5 q_6) y1 (IntKind.i64.wrap (y2 + 1))).bind fun r107 =>
  some (.inr ((T_spec_l26Find.mk y0.qm r107.qlater r107.qlambda r107.qchosen r107.qfirst r107.qcount r107.qlimit r107.qnodes r107.qbudget r107.qfull)))
noncomputable def p_spec_l26Find_run_b1 (rf_spec_l26Find_on : T_spec_l26Find → (List Int) → Int → Option T_spec_l26Find) (y0 : T_spec_l26Find) (y1 : List Int) (y2 : Int) : Bool × List Int × Int → Option ((Bool × List Int × Int) ⊕ (T_spec_l26Find))
  | (y6, y7, y8) =>
    bif decide ((y8 : Int) < (y1.length : Int)) then
      (gIdx y1 y8).bind fun e49 =>
      (gIdx y0.qm y8).bind fun e56 =>
      (gIdx e56 y2).bind fun e59 =>
      (gApp 8 y7 [IntKind.i64.wrap (e49 + e59)]).bind fun l63 =>
      (gIdx l63 y8).bind fun e66 =>
      bif decide ((e66 : Int) > y0.qlambda) then
        some (.inl (false, l63, IntKind.i64.wrap (y8 + 1)))
      else
        some (.inl (y6, l63, IntKind.i64.wrap (y8 + 1)))
    else
      bif y6 then
        (gApp 8 y0.qchosen [y2]).bind fun l86 =>
        (rf_spec_l26Find_on (T_spec_l26Find.mk y0.qm y0.qlater y0.qlambda l86 y0.qfirst y0.qcount y0.qlimit y0.qnodes y0.qbudget y0.qfull) y7 (IntKind.i64.wrap (y2 + 1))).bind fun r93 =>
        (gSl r93.qchosen 0 (y0.qchosen.length : Int)).bind fun l100 =>
        p_spec_l26Find_run_k2 rf_spec_l26Find_on y0 y1 y2 r93.qlambda r93.qcount r93.qlimit r93.qnodes r93.qbudget r93.qfull r93.qlater l100 r93.qfirst
      else
        p_spec_l26Find_run_k2 rf_spec_l26Find_on y0 y1 y2 y0.qlambda y0.qcount y0.qlimit y0.qnodes y0.qbudget y0.qfull y0.qlater y0.qchosen y0.qfirst
noncomputable def q_spec_l26Find_run (rf_spec_l26Find_on : T_spec_l26Find → (List Int) → Int → Option T_spec_l26Find) (rf_spec_l26Find_run : T_spec_l26Find → (List Int) → Int → Option T_spec_l26Find) (y0 : T_spec_l26Find) (y1 : List Int) (y2 : Int) : Option T_spec_l26Find :=
  (gIdx y0.qm 0).bind fun e15 =>
  bif (y2 : Int) == (e15.length : Int) then
    bif (y0.qcount : Int) == 0 then
      (p_spec_l00Own y0.qchosen).bind fun r29 =>
      p_spec_l26Find_run_k1 y0 r29
    else
      p_spec_l26Find_run_k1 y0 y0.qfirst
  else
    loop (p_spec_l26Find_run_b1 rf_spec_l26Find_on y0 y1 y2) (true, ([] : List Int), 0)
noncomputable def pn_spec_l26Find_on : Nat → (T_spec_l26Find → (List Int) → Int → Option T_spec_l26Find) × (T_spec_l26Find → (List Int) → Int → Option T_spec_l26Find)
  | 0 => ((fun _ _ _ => none), (fun _ _ _ => none))
  | n + 1 => (q_spec_l26Find_on (pn_spec_l26Find_on n).1 (pn_spec_l26Find_on n).2, q_spec_l26Find_run (pn_spec_l26Find_on n).1 (pn_spec_l26Find_on n).2)
noncomputable def p_spec_l26Find_on : T_spec_l26Find → (List Int) → Int → Option T_spec_l26Find := (pn_spec_l26Find_on fuel).1
noncomputable def p_spec_l26Find_run : T_spec_l26Find → (List Int) → Int → Option T_spec_l26Find := (pn_spec_l26Find_on fuel).2
noncomputable def p_spec_l26Search_b2 (y0 : List (List Int)) (y1 : Int) (y10 : Bool) (y11 : Int) (xs : List (List Int)) : Int × List Int → Option ((Int × List Int) ⊕ ((Bool × Int × List (List Int)) ⊕ (T_spec_l26Find)))
  | (y13, xs_2) =>
    bif decide ((y13 : Int) ≥ 0) then
      (gIdx xs_2 (IntKind.i64.wrap (y13 + 1))).bind fun e48 =>
      (gIdx y0 y11).bind fun e52 =>
      (gIdx e52 y13).bind fun e55 =>
      (gIdx xs_2 y13).bind fun e58 =>
      some (.inl (IntKind.i64.wrap (y13 - 1), (xs_2.set (y13 : Int).toNat (IntKind.i64.wrap (e48 + e55)))))
    else
      (gApp 24 xs [xs_2]).bind fun l66 =>
      (gIdx xs_2 0).bind fun e70 =>
      bif decide ((e70 : Int) < y1) then
        some (.inr (.inl (false, IntKind.i64.wrap (y11 + 1), l66)))
      else
        some (.inr (.inl (y10, IntKind.i64.wrap (y11 + 1), l66)))
noncomputable def p_spec_l26Search_b1 (y0 : List (List Int)) (y1 : Int) (y2 : Int) (y3 : Int) : Bool × Int × List (List Int) → Option ((Bool × Int × List (List Int)) ⊕ (T_spec_l26Find))
  | (y10, y11, xs) =>
    bif decide ((y11 : Int) < (y0.length : Int)) then
      (gIdx y0 y11).bind fun e28 =>
      (gMake 8 (0 : Int) (IntKind.i64.wrap ((e28.length : Int) + 1)) (IntKind.i64.wrap ((e28.length : Int) + 1))).bind fun l32 =>
      (gIdx y0 y11).bind fun e35 =>
      loop (p_spec_l26Search_b2 y0 y1 y10 y11 xs) (IntKind.i64.wrap ((e35.length : Int) - 1), l32)
    else
      bif y10 then
        (gMake 8 (0 : Int) (y0.length : Int) (y0.length : Int)).bind fun l78 =>
        (p_spec_l26Find_run (T_spec_l26Find.mk y0 xs y1 ([] : List Int) ([] : List Int) 0 y2 0 y3 false) l78 0).bind fun r79 =>
        some (.inr ((T_spec_l26Find.mk y0 r79.qlater r79.qlambda r79.qchosen r79.qfirst r79.qcount r79.qlimit r79.qnodes r79.qbudget r79.qfull)))
      else
        some (.inr ((T_spec_l26Find.mk y0 xs y1 ([] : List Int) ([] : List Int) 0 y2 0 y3 false)))
noncomputable def p_spec_l26Search (y0 : List (List Int)) (y1 : Int) (y2 : Int) (y3 : Int) : Option T_spec_l26Find :=
  loop (p_spec_l26Search_b1 y0 y1 y2 y3) (true, 0, ([] : List (List Int)))
noncomputable def p_spec_l26First (m0 : List (List Int)) (lambda1 : Int) (budget2 : Int) : Option ((List Int) × Int) :=
  (p_spec_l26Search m0 lambda1 1 budget2).bind fun r12 =>
  bif decide ((r12.qcount : Int) > 0) then
    some ((r12.qfirst, 0))
  else
    bif r12.qfull then
      some ((([] : List Int), 5))
    else
      some ((([] : List Int), 3))
noncomputable def p_spec_ChooseOrbits_k1 (m0 : List (List Int)) (lambda1 : Int) (budget2 : Int) : Option ((List Int) × Int) :=
  (p_spec_l26First m0 lambda1 budget2).bind fun r22 =>
  some ((r22.1, r22.2))
noncomputable def p_spec_ChooseOrbits (m0 : List (List Int)) (lambda1 : Int) (budget2 : Int) : Option ((List Int) × Int) :=
  (p_spec_l26Ok m0).bind fun r9 =>
  bif !r9 then
    some ((([] : List Int), 1))
  else
    (p_spec_l09Budget budget2).bind fun r12 =>
    bif !r12 then
      some ((([] : List Int), 2))
    else
      (p_spec_l26Lambda lambda1).bind fun r16 =>
      bif !r16 then
        some ((([] : List Int), 2))
      else
        p_spec_ChooseOrbits_k1 m0 lambda1 budget2
noncomputable def p_impl_within (n0 : Int) (low1 : Int) (high2 : Int) : Option Bool :=
  bif decide ((n0 : Int) ≥ low1) then
    some (decide ((n0 : Int) ≤ high2))
  else
    some (false)
noncomputable def p_impl_size_Lint64 (list0 : List (List Int)) : Option Int :=
  some ((list0.length : Int))
noncomputable def p_slices_IndexFunc_LLint64_Lint64_b1 (s0 : List (List Int)) (fn1 : (List Int) → Option Bool) : Int → Option ((Int) ⊕ (Int))
  | y8 =>
    bif decide ((y8 : Int) < (s0.length : Int)) then
      (gIdx s0 y8).bind fun e14 =>
      (fn1 e14).bind fun r16 =>
      bif r16 then
        some (.inr (y8))
      else
        some (.inl (IntKind.i64.wrap (y8 + 1)))
    else
      some (.inr ((-1)))
noncomputable def p_slices_IndexFunc_LLint64_Lint64 (s0 : List (List Int)) (fn1 : (List Int) → Option Bool) : Option Int :=
  loop (p_slices_IndexFunc_LLint64_Lint64_b1 s0 fn1) (0)
noncomputable def p_slices_ContainsFunc_LLint64_Lint64 (s0 : List (List Int)) (fn1 : (List Int) → Option Bool) : Option Bool :=
  (p_slices_IndexFunc_LLint64_Lint64 s0 fn1).bind fun r7 =>
  some (decide ((r7 : Int) ≥ 0))
noncomputable def p_slices_IndexFunc_Lint64_int64_b1 (s0 : List Int) (fn1 : Int → Option Bool) : Int → Option ((Int) ⊕ (Int))
  | y8 =>
    bif decide ((y8 : Int) < (s0.length : Int)) then
      (gIdx s0 y8).bind fun e14 =>
      (fn1 e14).bind fun r16 =>
      bif r16 then
        some (.inr (y8))
      else
        some (.inl (IntKind.i64.wrap (y8 + 1)))
    else
      some (.inr ((-1)))
noncomputable def p_slices_IndexFunc_Lint64_int64 (s0 : List Int) (fn1 : Int → Option Bool) : Option Int :=
  loop (p_slices_IndexFunc_Lint64_int64_b1 s0 fn1) (0)
noncomputable def p_slices_ContainsFunc_Lint64_int64 (s0 : List Int) (fn1 : Int → Option Bool) : Option Bool :=
  (p_slices_IndexFunc_Lint64_int64 s0 fn1).bind fun r7 =>
  some (decide ((r7 : Int) ≥ 0))
noncomputable def p_impl_areIn_1 (x0 : Int) (y1 : Int) : Option Bool :=
  (p_impl_within x0 0 (IntKind.i64.wrap (y1 - 1))).bind fun r7 =>
  some (!r7)
noncomputable def p_impl_areIn (q0 : Int) (list1 : List Int) : Option Bool :=
  (p_slices_ContainsFunc_Lint64_int64 list1 (fun y0 => p_impl_areIn_1 y0 q0)).bind fun r7 =>
  some (!r7)
noncomputable def p_impl_isCounts_1 (row0 : List Int) (y1 : List (List Int)) : Option Bool :=
  (gIdx y1 0).bind fun e7 =>
  bif ((row0.length : Int) : Int) != (e7.length : Int) then
    some (true)
  else
    (p_impl_areIn 2001 row0).bind fun r13 =>
    some (!r13)
noncomputable def p_impl_isCounts_k1 (m0 : List (List Int)) : Option (Bool) :=
  (p_slices_ContainsFunc_LLint64_Lint64 m0 (fun y0 => p_impl_isCounts_1 y0 m0)).bind fun r16 =>
  some (!r16)
noncomputable def p_impl_isCounts (m0 : List (List Int)) : Option Bool :=
  (p_impl_size_Lint64 m0).bind fun r4 =>
  (p_impl_within r4 1 2000).bind fun r5 =>
  bif !r5 then
    some (false)
  else
    (gIdx m0 0).bind fun e9 =>
    bif decide (((e9.length : Int) : Int) > 2000) then
      some (false)
    else
      p_impl_isCounts_k1 m0
noncomputable def p_impl_isBudget (n0 : Int) : Option Bool :=
  (p_impl_within n0 1 20000).bind fun r4 =>
  some (r4)
noncomputable def p_impl_isLambda (lambda0 : Int) : Option Bool :=
  (p_impl_within lambda0 1 2000).bind fun r4 =>
  some (r4)
noncomputable def p_impl_chooser_change_b1 (c0 : T_impl_chooser) (column2 : Int) (factor3 : Int) : Int × List Int → Option ((Int × List Int) ⊕ (List Int))
  | (y15, xs) =>
    bif decide ((y15 : Int) < (c0.qmatrix.length : Int)) then
      (gIdx c0.qmatrix y15).bind fun e18 =>
      (gIdx xs y15).bind fun e22 =>
      (gIdx e18 column2).bind fun e27 =>
      (gIdx xs y15).bind fun e31 =>
      some (.inl (IntKind.i64.wrap (y15 + 1), (xs.set (y15 : Int).toNat (IntKind.i64.wrap (e22 + (IntKind.i64.wrap (factor3 * e27)))))))
    else
      some (.inr (xs))
noncomputable def p_impl_chooser_change (c0 : T_impl_chooser) (sums1 : List Int) (column2 : Int) (factor3 : Int) : Option (List Int) :=
  loop (p_impl_chooser_change_b1 c0 column2 factor3) (0, sums1)
noncomputable def p_impl_chooser_possible_b1 (c0 : T_impl_chooser) : Int → Option ((Int) ⊕ (Bool))
  | y10 =>
    bif decide ((y10 : Int) < (c0.qsums.length : Int)) then
      (gIdx c0.qsums y10).bind fun e13 =>
      bif decide ((e13 : Int) > c0.qlambda) then
        some (.inr (false))
      else
        (gIdx c0.qlater y10).bind fun e28 =>
        bif decide ((IntKind.i64.wrap (e13 + e28) : Int) < c0.qlambda) then
          some (.inr (false))
        else
          some (.inl (IntKind.i64.wrap (y10 + 1)))
    else
      some (.inr (true))
noncomputable def p_impl_chooser_possible (c0 : T_impl_chooser) : Option Bool :=
  loop (p_impl_chooser_possible_b1 c0) (0)
noncomputable def p_slices_Clone_Lint64_int64 (a0 : List Int) : Option (List Int) := gApp 8 [] a0
noncomputable def p_impl_counter_node (c0 : T_impl_counter) : Option (Bool × T_impl_counter) :=
  bif (c0.qleft : Int) == 0 then
    some ((false, (T_impl_counter.mk c0.qleft true)))
  else
    some ((true, (T_impl_counter.mk (IntKind.i64.wrap (c0.qleft - 1)) c0.qspent)))
noncomputable def p_impl_chooser_search_k1 (y0 : T_impl_chooser) (xs : List Int) : Option (T_impl_chooser) :=
  some ((T_impl_chooser.mk (T_impl_counter.mk y0.qcounter.qleft y0.qcounter.qspent) y0.qmatrix y0.qlambda y0.qlimit y0.qsums y0.qlater y0.qchosen (IntKind.i64.wrap (y0.qcount + 1)) xs))
noncomputable def p_impl_chooser_search_k3 (y0 : T_impl_chooser) (y1 : Int) (y46 : Int) (e48 : Bool) (q_6 : Int) (q_7 : Bool) (q_8 : Int) (q_9 : Int) (q_10 : Int) (xs_8 : List Int) (xs_9 : List Int) (xs_10 : List Int) (xs_11 : List Int) : Option ((Int × Int × Bool × Int × Int × Int × List Int × List Int × List Int × List Int) ⊕ (T_impl_chooser)) :=
  bif e48 then
    (p_impl_chooser_change (T_impl_chooser.mk (T_impl_counter.mk q_6 q_7) y0.qmatrix q_8 q_9 xs_9 xs_8 xs_10 q_10 xs_11) xs_9 y1 (-1)).bind fun r106 =>
    (gSl xs_10 0 (IntKind.i64.wrap ((xs_10.length : Int) - 1))).bind fun l118 =>
    some (.inl (IntKind.i64.wrap (y46 + 1), q_6, q_7, q_8, q_9, q_10, xs_8, r106, l118, xs_11))
  else
    some (.inl (IntKind.i64.wrap (y46 + 1), q_6, q_7, q_8, q_9, q_10, xs_8, xs_9, xs_10, xs_11))
noncomputable def p_impl_chooser_search_k2 (rf_impl_chooser_search : T_impl_chooser → Int → Option T_impl_chooser) (y0 : T_impl_chooser) (y1 : Int) (y46 : Int) (q : Int) (q_2 : Bool) (q_3 : Int) (q_4 : Int) (q_5 : Int) (xs_2 : List Int) (xs_5 : List Int) (e48 : Bool) (xs_6 : List Int) (xs_7 : List Int) : Option ((Int × Int × Bool × Int × Int × Int × List Int × List Int × List Int × List Int) ⊕ (T_impl_chooser)) :=
  (p_impl_chooser_possible (T_impl_chooser.mk (T_impl_counter.mk q q_2) y0.qmatrix q_3 q_4 xs_6 xs_2 xs_7 q_5 xs_5)).bind fun r69 =>
  bif r69 then
    bif decide ((q_5 : Int) < q_4) then
      bif !q_2 then
        (p_impl_counter_node (T_impl_counter.mk q q_2)).bind fun r93 =>
        bif r93.1 then
          (rf_impl_chooser_search (T_impl_chooser.mk (T_impl_counter.mk r93.2.qleft r93.2.qspent) y0.qmatrix q_3 q_4 xs_6 xs_2 xs_7 q_5 xs_5) (IntKind.i64.wrap (y1 + 1))).bind fun r98 =>
          p_impl_chooser_search_k3 y0 y1 y46 e48 r98.qcounter.qleft r98.qcounter.qspent r98.qlambda r98.qlimit r98.qcount r98.qlater r98.qsums r98.qchosen r98.qfirst
        else
          p_impl_chooser_search_k3 y0 y1 y46 e48 r93.2.qleft r93.2.qspent q_3 q_4 q_5 xs_2 xs_6 xs_7 xs_5
      else
        p_impl_chooser_search_k3 y0 y1 y46 e48 q q_2 q_3 q_4 q_5 xs_2 xs_6 xs_7 xs_5
    else
      p_impl_chooser_search_k3 y0 y1 y46 e48 q q_2 q_3 q_4 q_5 xs_2 xs_6 xs_7 xs_5
  else
    p_impl_chooser_search_k3 y0 y1 y46 e48 q q_2 q_3 q_4 q_5 xs_2 xs_6 xs_7 xs_5
noncomputable def p_impl_chooser_search_b1 (rf_impl_chooser_search : T_impl_chooser → Int → Option T_impl_chooser) (y0 : T_impl_chooser) (y1 : Int) : Int × Int × Bool × Int × Int × Int × List Int × List Int × List Int × List Int → Option ((Int × Int × Bool × Int × Int × Int × List Int × List Int × List Int × List Int) ⊕ (T_impl_chooser))
  | (y46, q, q_2, q_3, q_4, q_5, xs_2, xs_3, xs_4, xs_5) =>
    bif decide ((y46 : Int) < (([true, false] : List Bool).length : Int)) then
      (gIdx ([true, false] : List Bool) y46).bind fun e48 =>
      bif e48 then
        (p_impl_chooser_change (T_impl_chooser.mk (T_impl_counter.mk q q_2) y0.qmatrix q_3 q_4 xs_3 xs_2 xs_4 q_5 xs_5) xs_3 y1 1).bind fun r57 =>
        (gApp 8 xs_4 [y1]).bind fun l65 =>
        p_impl_chooser_search_k2 rf_impl_chooser_search y0 y1 y46 q q_2 q_3 q_4 q_5 xs_2 xs_5 e48 r57 l65
      else
        p_impl_chooser_search_k2 rf_impl_chooser_search y0 y1 y46 q q_2 q_3 q_4 q_5 xs_2 xs_5 e48 xs_3 xs_4
    else
      (p_impl_chooser_change (T_impl_chooser.mk (T_impl_counter.mk q q_2) y0.qmatrix q_3 q_4 xs_3 xs_2 xs_4 q_5 xs_5) xs_2 y1 1).bind fun r128 =>
      some (.inr ((T_impl_chooser.mk (T_impl_counter.mk q q_2) y0.qmatrix q_3 q_4 xs_3 r128 xs_4 q_5 xs_5)))
noncomputable def q_impl_chooser_search (rf_impl_chooser_search : T_impl_chooser → Int → Option T_impl_chooser) (y0 : T_impl_chooser) (y1 : Int) : Option T_impl_chooser :=
  (gIdx y0.qmatrix 0).bind fun e11 =>
  bif (y1 : Int) == (e11.length : Int) then
    (p_impl_chooser_possible (T_impl_chooser.mk (T_impl_counter.mk y0.qcounter.qleft y0.qcounter.qspent) y0.qmatrix y0.qlambda y0.qlimit y0.qsums y0.qlater y0.qchosen y0.qcount y0.qfirst)).bind fun r16 =>
    bif r16 then
      bif (y0.qcount : Int) == 0 then
        (p_slices_Clone_Lint64_int64 y0.qchosen).bind fun r27 =>
        p_impl_chooser_search_k1 y0 r27
      else
        p_impl_chooser_search_k1 y0 y0.qfirst
    else
      some ((T_impl_chooser.mk (T_impl_counter.mk y0.qcounter.qleft y0.qcounter.qspent) y0.qmatrix y0.qlambda y0.qlimit y0.qsums y0.qlater y0.qchosen y0.qcount y0.qfirst))
  else
    (p_impl_chooser_change (T_impl_chooser.mk (T_impl_counter.mk y0.qcounter.qleft y0.qcounter.qspent) y0.qmatrix y0.qlambda y0.qlimit y0.qsums y0.qlater y0.qchosen y0.qcount y0.qfirst) y0.qlater y1 (-1)).bind fun r43 =>
    loop (p_impl_chooser_search_b1 rf_impl_chooser_search y0 y1) (0, y0.qcounter.qleft, y0.qcounter.qspent, y0.qlambda, y0.qlimit, y0.qcount, r43, y0.qsums, y0.qchosen, y0.qfirst)
noncomputable def pn_impl_chooser_search : Nat → (T_impl_chooser → Int → Option T_impl_chooser)
  | 0 => (fun _ _ => none)
  | n + 1 => q_impl_chooser_search (pn_impl_chooser_search n)
noncomputable def p_impl_chooser_search : T_impl_chooser → Int → Option T_impl_chooser := (pn_impl_chooser_search fuel)
noncomputable def p_impl_choices_b1 (m0 : List (List Int)) (lambda1 : Int) (limit2 : Int) (budget3 : Int) (l18 : List Int) (e25 : List Int) : Int × List Int → Option ((Int × List Int) ⊕ (T_impl_chooser))
  | (y28, xs) =>
    bif decide ((y28 : Int) < (e25.length : Int)) then
      (p_impl_chooser_change (T_impl_chooser.mk (T_impl_counter.mk budget3 false) m0 lambda1 limit2 l18 xs ([] : List Int) 0 ([] : List Int)) xs y28 1).bind fun r37 =>
      some (.inl (IntKind.i64.wrap (y28 + 1), r37))
    else
      (p_impl_chooser_search (T_impl_chooser.mk (T_impl_counter.mk budget3 false) m0 lambda1 limit2 l18 xs ([] : List Int) 0 ([] : List Int)) 0).bind fun r40 =>
      some (.inr ((T_impl_chooser.mk (T_impl_counter.mk r40.qcounter.qleft r40.qcounter.qspent) m0 r40.qlambda r40.qlimit r40.qsums r40.qlater r40.qchosen r40.qcount r40.qfirst)))
noncomputable def p_impl_choices_b2 (m0 : List (List Int)) (lambda1 : Int) (limit2 : Int) (budget3 : Int) (l18 : List Int) (e25_2 : List Int) : Int × List Int → Option ((Int × List Int) ⊕ (T_impl_chooser))
  | (y28_2, xs_2) =>
    bif decide ((y28_2 : Int) < (e25_2.length : Int)) then
      (p_impl_chooser_change (T_impl_chooser.mk (T_impl_counter.mk budget3 false) m0 lambda1 limit2 l18 xs_2 ([] : List Int) 0 ([] : List Int)) xs_2 y28_2 1).bind fun r37_2 =>
      some (.inl (IntKind.i64.wrap (y28_2 + 1), r37_2))
    else
      (p_impl_chooser_search (T_impl_chooser.mk (T_impl_counter.mk budget3 false) m0 lambda1 limit2 l18 xs_2 ([] : List Int) 0 ([] : List Int)) 0).bind fun r40_2 =>
      some (.inr ((T_impl_chooser.mk (T_impl_counter.mk r40_2.qcounter.qleft r40_2.qcounter.qspent) m0 r40_2.qlambda r40_2.qlimit r40_2.qsums r40_2.qlater r40_2.qchosen r40_2.qcount r40_2.qfirst)))
noncomputable def p_impl_choices (m0 : List (List Int)) (lambda1 : Int) (limit2 : Int) (budget3 : Int) : Option T_impl_chooser :=
  (gMake 8 (0 : Int) (m0.length : Int) (m0.length : Int)).bind fun l18 =>
  (gMake 8 (0 : Int) (m0.length : Int) (m0.length : Int)).bind fun l21 =>
  (gIdx m0 0).bind fun e25 =>
  loop (p_impl_choices_b1 m0 lambda1 limit2 budget3 l18 e25) (0, l21)
noncomputable def p_impl_ChooseOrbits_k1 (m0 : List (List Int)) (lambda1 : Int) (budget2 : Int) : Option ((List Int) × Int) :=
  (p_impl_choices m0 lambda1 1 budget2).bind fun r23 =>
  bif r23.qcounter.qspent then
    some ((([] : List Int), 5))
  else
    bif (r23.qcount : Int) == 0 then
      some ((([] : List Int), 3))
    else
      some ((r23.qfirst, 0))
noncomputable def p_impl_ChooseOrbits (m0 : List (List Int)) (lambda1 : Int) (budget2 : Int) : Option ((List Int) × Int) :=
  (p_impl_isCounts m0).bind fun r10 =>
  bif !r10 then
    some ((([] : List Int), 1))
  else
    (p_impl_isBudget budget2).bind fun r13 =>
    bif !r13 then
      some ((([] : List Int), 2))
    else
      (p_impl_isLambda lambda1).bind fun r17 =>
      bif !r17 then
        some ((([] : List Int), 2))
      else
        p_impl_ChooseOrbits_k1 m0 lambda1 budget2
noncomputable def p_laws_markInt64SS_b1 : Int × Int × List (List Int) → Option ((Int × Int × List (List Int)) ⊕ (Int × (List (List Int))))
  | (k1_2, i5, xs) =>
    bif decide ((i5 : Int) < (xs.length : Int)) then
      (gIdx xs i5).bind fun e14 =>
      (p_laws_markInt64S e14 k1_2).bind fun r17 =>
      some (.inl (r17.1, IntKind.i64.wrap (i5 + 1), (xs.set (i5 : Int).toNat r17.2)))
    else
      some (.inr ((k1_2, xs)))
noncomputable def p_laws_markInt64SS (a0 : List (List Int)) (k1 : Int) : Option (Int × (List (List Int))) :=
  loop (p_laws_markInt64SS_b1) (k1, 0, a0)
noncomputable def p_laws_FnExactChooseOrbits_k3 (r72 : Int × (List Int)) : Option (Bool) :=
  (p_laws_heldInt64S r72.2 1).bind fun r100 =>
  bif decide ((r100 : Int) < 0) then
    some (false)
  else
    bif (r100 : Int) != r72.1 then
      some (false)
    else
      some (true)
noncomputable def p_laws_FnExactChooseOrbits_k2 (y0 : List (List Int)) (y1 : Int) (y2 : Int) (r28 : (List Int) × Int) (r37 : (List Int) × Int) : Option (Bool) :=
  (p_laws_markInt64S r37.1 1).bind fun r72 =>
  (p_laws_heldInt64S r72.2 1).bind fun r75 =>
  bif decide ((r75 : Int) < 0) then
    some (false)
  else
    bif (r75 : Int) != r72.1 then
      some (false)
    else
      (p_laws_toInt64SS y0).bind fun r83 =>
      (p_impl_ChooseOrbits r83 y1 y2).bind fun r86 =>
      (p_laws_eqInt64S r86.1 r28.1).bind fun r91 =>
      bif !r91 then
        some (false)
      else
        bif (r86.2 : Int) != r28.2 then
          some (false)
        else
          p_laws_FnExactChooseOrbits_k3 r72
noncomputable def p_laws_FnExactChooseOrbits_k1 (y0 : List (List Int)) (y1 : Int) (y2 : Int) (r28 : (List Int) × Int) (r32 : List (List Int)) (r37 : (List Int) × Int) : Option (Bool) :=
  (p_laws_toInt64SS y0).bind fun r51 =>
  (p_laws_eqInt64SS r32 r51).bind fun r52 =>
  bif !r52 then
    some (false)
  else
    (p_laws_markInt64SS r32 1).bind fun r56 =>
    bif decide ((r56.1 : Int) < 0) then
      some (false)
    else
      (p_laws_eqInt64S r37.1 r28.1).bind fun r62 =>
      bif !r62 then
        some (false)
      else
        bif (r37.2 : Int) != r28.2 then
          some (false)
        else
          p_laws_FnExactChooseOrbits_k2 y0 y1 y2 r28 r37
noncomputable def p_laws_FnExactChooseOrbits (y0 : List (List Int)) (y1 : Int) (y2 : Int) : Option Bool :=
  (p_laws_szInt64SS y0 1048576).bind fun r20 =>
  bif decide ((r20 : Int) < 0) then
    some (true)
  else
    (p_laws_toInt64SS y0).bind fun r25 =>
    (p_spec_ChooseOrbits r25 y1 y2).bind fun r28 =>
    (p_laws_toInt64SS y0).bind fun r32 =>
    (p_impl_ChooseOrbits r32 y1 y2).bind fun r37 =>
    (p_laws_eqInt64S r37.1 r28.1).bind fun r42 =>
    bif !r42 then
      some (false)
    else
      bif (r37.2 : Int) != r28.2 then
        some (false)
      else
        p_laws_FnExactChooseOrbits_k1 y0 y1 y2 r28 r32 r37
end Go.Proofs.Ytieehpcgmjbceaa
