/- Plain functions of the functions of this seat, printed by pgen.py. -/
import Derived.Test.YtclgicpmbcbjlaaPuBase
namespace Go.Proofs.Ytclgicpmbcbjlaa
open Go Go.Vc
set_option linter.unusedVariables false
structure T_laws_Recipe where
  Name : ByteArray
  Verb : ByteArray
  Args : List Int
  Uses : List ByteArray
structure T_laws_Object where
  Kind : Int
  Size : Int
  Rows : List (List Int)
structure T_laws_Lab where
  Recipes : List T_laws_Recipe
  Objects : List T_laws_Object
structure T_laws_Item where
  Name : ByteArray
  Object : T_laws_Object
  Key : ByteArray
structure T_laws_Catalog where
  Items : List T_laws_Item
structure T_laws_Desk where
  Lab : T_laws_Lab
  Catalog : T_laws_Catalog
structure T_impl_Object where
  Kind : Int
  Size : Int
  Rows : List (List Int)
structure T_impl_Recipe where
  Name : ByteArray
  Verb : ByteArray
  Args : List Int
  Uses : List ByteArray
structure T_impl_Lab where
  Recipes : List T_impl_Recipe
  Objects : List T_impl_Object
structure T_impl_Item where
  Name : ByteArray
  Object : T_impl_Object
  Key : ByteArray
structure T_impl_Catalog where
  Items : List T_impl_Item
structure T_impl_Desk where
  Lab : T_impl_Lab
  Catalog : T_impl_Catalog
noncomputable def p_laws_szInt64S (a0 : List Int) (left1 : Int) : Option Int :=
  bif decide ((IntKind.i64.wrap (left1 - (a0.length : Int)) : Int) < 0) then
    some ((-1))
  else
    some (IntKind.i64.wrap (left1 - (a0.length : Int)))
noncomputable def p_laws_szStringS_b1 (a0 : List ByteArray) : Int × Int → Option ((Int × Int) ⊕ (Int))
  | (left1_2, i5) =>
    bif decide ((i5 : Int) < (a0.length : Int)) then
      (gIdx a0 i5).bind fun e21 =>
      bif decide ((IntKind.i64.wrap (left1_2 - ((e21 : ByteArray).size : Int)) : Int) < 0) then
        some (.inr ((-1)))
      else
        some (.inl (IntKind.i64.wrap (left1_2 - ((e21 : ByteArray).size : Int)), IntKind.i64.wrap (i5 + 1)))
    else
      some (.inr (left1_2))
noncomputable def p_laws_szStringS (a0 : List ByteArray) (left1 : Int) : Option Int :=
  bif decide ((IntKind.i64.wrap (left1 - (a0.length : Int)) : Int) < 0) then
    some ((-1))
  else
    loop (p_laws_szStringS_b1 a0) (IntKind.i64.wrap (left1 - (a0.length : Int)), 0)
noncomputable def p_laws_szRecipe (a0 : T_laws_Recipe) (left1 : Int) : Option Int :=
  bif decide ((IntKind.i64.wrap (left1 - ((a0.Name : ByteArray).size : Int)) : Int) < 0) then
    some ((-1))
  else
    bif decide ((IntKind.i64.wrap ((IntKind.i64.wrap (left1 - ((a0.Name : ByteArray).size : Int))) - ((a0.Verb : ByteArray).size : Int)) : Int) < 0) then
      some ((-1))
    else
      (p_laws_szInt64S a0.Args (IntKind.i64.wrap ((IntKind.i64.wrap (left1 - ((a0.Name : ByteArray).size : Int))) - ((a0.Verb : ByteArray).size : Int)))).bind fun r22 =>
      bif decide ((r22 : Int) < 0) then
        some ((-1))
      else
        (p_laws_szStringS a0.Uses r22).bind fun r28 =>
        bif decide ((r28 : Int) < 0) then
          some ((-1))
        else
          some (r28)
noncomputable def p_laws_szRecipeS_b1 (a0 : List T_laws_Recipe) : Int × Int → Option ((Int × Int) ⊕ (Int))
  | (left1_2, i5) =>
    bif decide ((i5 : Int) < (a0.length : Int)) then
      (gIdx a0 i5).bind fun e20 =>
      (p_laws_szRecipe e20 left1_2).bind fun r23 =>
      bif decide ((r23 : Int) < 0) then
        some (.inr ((-1)))
      else
        some (.inl (r23, IntKind.i64.wrap (i5 + 1)))
    else
      some (.inr (left1_2))
noncomputable def p_laws_szRecipeS (a0 : List T_laws_Recipe) (left1 : Int) : Option Int :=
  bif decide ((IntKind.i64.wrap (left1 - (a0.length : Int)) : Int) < 0) then
    some ((-1))
  else
    loop (p_laws_szRecipeS_b1 a0) (IntKind.i64.wrap (left1 - (a0.length : Int)), 0)
noncomputable def p_laws_szInt64SS_b1 (a0 : List (List Int)) : Int × Int → Option ((Int × Int) ⊕ (Int))
  | (left1_2, i5) =>
    bif decide ((i5 : Int) < (a0.length : Int)) then
      (gIdx a0 i5).bind fun e20 =>
      (p_laws_szInt64S e20 left1_2).bind fun r23 =>
      bif decide ((r23 : Int) < 0) then
        some (.inr ((-1)))
      else
        some (.inl (r23, IntKind.i64.wrap (i5 + 1)))
    else
      some (.inr (left1_2))
noncomputable def p_laws_szInt64SS (a0 : List (List Int)) (left1 : Int) : Option Int :=
  bif decide ((IntKind.i64.wrap (left1 - (a0.length : Int)) : Int) < 0) then
    some ((-1))
  else
    loop (p_laws_szInt64SS_b1 a0) (IntKind.i64.wrap (left1 - (a0.length : Int)), 0)
noncomputable def p_laws_szObject (a0 : T_laws_Object) (left1 : Int) : Option Int :=
  (p_laws_szInt64SS a0.Rows left1).bind fun r8 =>
  bif decide ((r8 : Int) < 0) then
    some ((-1))
  else
    some (r8)
noncomputable def p_laws_szObjectS_b1 (a0 : List T_laws_Object) : Int × Int → Option ((Int × Int) ⊕ (Int))
  | (left1_2, i5) =>
    bif decide ((i5 : Int) < (a0.length : Int)) then
      (gIdx a0 i5).bind fun e20 =>
      (p_laws_szObject e20 left1_2).bind fun r23 =>
      bif decide ((r23 : Int) < 0) then
        some (.inr ((-1)))
      else
        some (.inl (r23, IntKind.i64.wrap (i5 + 1)))
    else
      some (.inr (left1_2))
noncomputable def p_laws_szObjectS (a0 : List T_laws_Object) (left1 : Int) : Option Int :=
  bif decide ((IntKind.i64.wrap (left1 - (a0.length : Int)) : Int) < 0) then
    some ((-1))
  else
    loop (p_laws_szObjectS_b1 a0) (IntKind.i64.wrap (left1 - (a0.length : Int)), 0)
noncomputable def p_laws_szLab (a0 : T_laws_Lab) (left1 : Int) : Option Int :=
  (p_laws_szRecipeS a0.Recipes left1).bind fun r8 =>
  bif decide ((r8 : Int) < 0) then
    some ((-1))
  else
    (p_laws_szObjectS a0.Objects r8).bind fun r14 =>
    bif decide ((r14 : Int) < 0) then
      some ((-1))
    else
      some (r14)
noncomputable def p_laws_szItem (a0 : T_laws_Item) (left1 : Int) : Option Int :=
  bif decide ((IntKind.i64.wrap (left1 - ((a0.Name : ByteArray).size : Int)) : Int) < 0) then
    some ((-1))
  else
    (p_laws_szObject (T_laws_Object.mk a0.Object.Kind a0.Object.Size a0.Object.Rows) (IntKind.i64.wrap (left1 - ((a0.Name : ByteArray).size : Int)))).bind fun r15 =>
    bif decide ((r15 : Int) < 0) then
      some ((-1))
    else
      bif decide ((IntKind.i64.wrap (r15 - ((a0.Key : ByteArray).size : Int)) : Int) < 0) then
        some ((-1))
      else
        some (IntKind.i64.wrap (r15 - ((a0.Key : ByteArray).size : Int)))
noncomputable def p_laws_szItemS_b1 (a0 : List T_laws_Item) : Int × Int → Option ((Int × Int) ⊕ (Int))
  | (left1_2, i5) =>
    bif decide ((i5 : Int) < (a0.length : Int)) then
      (gIdx a0 i5).bind fun e20 =>
      (p_laws_szItem e20 left1_2).bind fun r23 =>
      bif decide ((r23 : Int) < 0) then
        some (.inr ((-1)))
      else
        some (.inl (r23, IntKind.i64.wrap (i5 + 1)))
    else
      some (.inr (left1_2))
noncomputable def p_laws_szItemS (a0 : List T_laws_Item) (left1 : Int) : Option Int :=
  bif decide ((IntKind.i64.wrap (left1 - (a0.length : Int)) : Int) < 0) then
    some ((-1))
  else
    loop (p_laws_szItemS_b1 a0) (IntKind.i64.wrap (left1 - (a0.length : Int)), 0)
noncomputable def p_laws_szCatalog (a0 : T_laws_Catalog) (left1 : Int) : Option Int :=
  (p_laws_szItemS a0.Items left1).bind fun r8 =>
  bif decide ((r8 : Int) < 0) then
    some ((-1))
  else
    some (r8)
noncomputable def p_laws_szDesk (a0 : T_laws_Desk) (left1 : Int) : Option Int :=
  (p_laws_szLab (T_laws_Lab.mk a0.Lab.Recipes a0.Lab.Objects) left1).bind fun r8 =>
  bif decide ((r8 : Int) < 0) then
    some ((-1))
  else
    (p_laws_szCatalog (T_laws_Catalog.mk a0.Catalog.Items) r8).bind fun r14 =>
    bif decide ((r14 : Int) < 0) then
      some ((-1))
    else
      some (r14)
noncomputable def p_spec_l00Same_b1 (a0 : List Int) (b1 : List Int) : Int → Option ((Int) ⊕ (Bool))
  | i5 =>
    bif decide ((i5 : Int) < (a0.length : Int)) then
      (gIdx a0 i5).bind fun e19 =>
      (gIdx b1 i5).bind fun e23 =>
      bif (e19 : Int) != e23 then
        some (.inr (false))
      else
        some (.inl (IntKind.i64.wrap (i5 + 1)))
    else
      some (.inr (true))
noncomputable def p_spec_l00Same (a0 : List Int) (b1 : List Int) : Option Bool :=
  bif ((a0.length : Int) : Int) != (b1.length : Int) then
    some (false)
  else
    loop (p_spec_l00Same_b1 a0 b1) (0)
noncomputable def p_spec_l32Words_b1 (a0 : List ByteArray) (b1 : List ByteArray) : Int → Option ((Int) ⊕ (Bool))
  | i5 =>
    bif decide ((i5 : Int) < (a0.length : Int)) then
      (gIdx a0 i5).bind fun e19 =>
      (gIdx b1 i5).bind fun e23 =>
      bif !((e19 : ByteArray).toList == (e23 : ByteArray).toList) then
        some (.inr (false))
      else
        some (.inl (IntKind.i64.wrap (i5 + 1)))
    else
      some (.inr (true))
noncomputable def p_spec_l32Words (a0 : List ByteArray) (b1 : List ByteArray) : Option Bool :=
  bif ((a0.length : Int) : Int) != (b1.length : Int) then
    some (false)
  else
    loop (p_spec_l32Words_b1 a0 b1) (0)
noncomputable def p_spec_l10Same_b1 (a0 : List (List Int)) (b1 : List (List Int)) : Int → Option ((Int) ⊕ (Bool))
  | i5 =>
    bif decide ((i5 : Int) < (a0.length : Int)) then
      (gIdx a0 i5).bind fun e19 =>
      (gIdx b1 i5).bind fun e23 =>
      (p_spec_l00Same e19 e23).bind fun r25 =>
      bif !r25 then
        some (.inr (false))
      else
        some (.inl (IntKind.i64.wrap (i5 + 1)))
    else
      some (.inr (true))
noncomputable def p_spec_l10Same (a0 : List (List Int)) (b1 : List (List Int)) : Option Bool :=
  bif ((a0.length : Int) : Int) != (b1.length : Int) then
    some (false)
  else
    loop (p_spec_l10Same_b1 a0 b1) (0)
noncomputable def p_spec_SameObject (a0 : T_impl_Object) (b1 : T_impl_Object) : Option Bool :=
  bif (a0.Kind : Int) == b1.Kind then
    bif (a0.Size : Int) == b1.Size then
      (p_spec_l10Same a0.Rows b1.Rows).bind fun r22 =>
      some (r22)
    else
      some (false)
  else
    some (false)
noncomputable def p_spec_SameLab_b2 (y0 : T_impl_Lab) (y1 : T_impl_Lab) : Int → Option ((Int) ⊕ ((Int) ⊕ (Bool)))
  | y8 =>
    bif decide ((y8 : Int) < (y0.Objects.length : Int)) then
      (gIdx y0.Objects y8).bind fun e80 =>
      (gIdx y1.Objects y8).bind fun e85 =>
      (p_spec_SameObject e80 e85).bind fun r87 =>
      bif !r87 then
        some (.inr (.inr (false)))
      else
        some (.inl (IntKind.i64.wrap (y8 + 1)))
    else
      some (.inr (.inr (true)))
noncomputable def p_spec_SameLab_b1 (y0 : T_impl_Lab) (y1 : T_impl_Lab) : Int → Option ((Int) ⊕ (Bool))
  | y5 =>
    bif decide ((y5 : Int) < (y0.Recipes.length : Int)) then
      (gIdx y0.Recipes y5).bind fun e35 =>
      (gIdx y1.Recipes y5).bind fun e40 =>
      bif !((e35.Name : ByteArray).toList == (e40.Name : ByteArray).toList) then
        some (.inr (false))
      else
        bif !((e35.Verb : ByteArray).toList == (e40.Verb : ByteArray).toList) then
          some (.inr (false))
        else
          (p_spec_l00Same e35.Args e40.Args).bind fun r59 =>
          bif !r59 then
            some (.inr (false))
          else
            (p_spec_l32Words e35.Uses e40.Uses).bind fun r67 =>
            bif !r67 then
              some (.inr (false))
            else
              some (.inl (IntKind.i64.wrap (y5 + 1)))
    else
      loop (p_spec_SameLab_b2 y0 y1) (0)
noncomputable def p_spec_SameLab_k1 (y0 : T_impl_Lab) (y1 : T_impl_Lab) : Option (Bool) :=
  loop (p_spec_SameLab_b1 y0 y1) (0)
noncomputable def p_spec_SameLab (y0 : T_impl_Lab) (y1 : T_impl_Lab) : Option Bool :=
  bif ((y0.Recipes.length : Int) : Int) != (y1.Recipes.length : Int) then
    some (false)
  else
    bif ((y0.Objects.length : Int) : Int) != (y1.Objects.length : Int) then
      some (false)
    else
      p_spec_SameLab_k1 y0 y1
noncomputable def p_spec_l31Same (a0 : T_impl_Item) (b1 : T_impl_Item) : Option Bool :=
  bif (a0.Name : ByteArray).toList == (b1.Name : ByteArray).toList then
    bif (a0.Key : ByteArray).toList == (b1.Key : ByteArray).toList then
      (p_spec_SameObject (T_impl_Object.mk a0.Object.Kind a0.Object.Size a0.Object.Rows) (T_impl_Object.mk b1.Object.Kind b1.Object.Size b1.Object.Rows)).bind fun r34 =>
      some (r34)
    else
      some (false)
  else
    some (false)
noncomputable def p_spec_SameCatalog_b1 (a0 : T_impl_Catalog) (b1 : T_impl_Catalog) : Int → Option ((Int) ⊕ (Bool))
  | i5 =>
    bif decide ((i5 : Int) < (a0.Items.length : Int)) then
      (gIdx a0.Items i5).bind fun e23 =>
      (gIdx b1.Items i5).bind fun e27 =>
      (p_spec_l31Same e23 e27).bind fun r28 =>
      bif !r28 then
        some (.inr (false))
      else
        some (.inl (IntKind.i64.wrap (i5 + 1)))
    else
      some (.inr (true))
noncomputable def p_spec_SameCatalog (a0 : T_impl_Catalog) (b1 : T_impl_Catalog) : Option Bool :=
  bif ((a0.Items.length : Int) : Int) != (b1.Items.length : Int) then
    some (false)
  else
    loop (p_spec_SameCatalog_b1 a0 b1) (0)
noncomputable def p_spec_SameDesk (a0 : T_impl_Desk) (b1 : T_impl_Desk) : Option Bool :=
  (p_spec_SameLab (T_impl_Lab.mk a0.Lab.Recipes a0.Lab.Objects) (T_impl_Lab.mk b1.Lab.Recipes b1.Lab.Objects)).bind fun r9 =>
  bif r9 then
    (p_spec_SameCatalog (T_impl_Catalog.mk a0.Catalog.Items) (T_impl_Catalog.mk b1.Catalog.Items)).bind fun r15 =>
    some (r15)
  else
    some (false)
noncomputable def p_laws_toInt64S_b1 (a0 : List Int) : Int × List Int → Option ((Int × List Int) ⊕ (List Int))
  | (i4, xs) =>
    bif decide ((i4 : Int) < (a0.length : Int)) then
      (gIdx a0 i4).bind fun e18 =>
      (gIdx xs i4).bind fun e20 =>
      some (.inl (IntKind.i64.wrap (i4 + 1), (xs.set (i4 : Int).toNat e18)))
    else
      some (.inr (xs))
noncomputable def p_laws_toInt64S (a0 : List Int) : Option (List Int) :=
  (gMake 8 (0 : Int) (a0.length : Int) (a0.length : Int)).bind fun l7 =>
  loop (p_laws_toInt64S_b1 a0) (0, l7)
noncomputable def p_laws_toStringS_b1 (a0 : List ByteArray) : Int × List ByteArray → Option ((Int × List ByteArray) ⊕ (List ByteArray))
  | (i4, xs) =>
    bif decide ((i4 : Int) < (a0.length : Int)) then
      (gIdx a0 i4).bind fun e18 =>
      (gIdx xs i4).bind fun e20 =>
      some (.inl (IntKind.i64.wrap (i4 + 1), (xs.set (i4 : Int).toNat e18)))
    else
      some (.inr (xs))
noncomputable def p_laws_toStringS (a0 : List ByteArray) : Option (List ByteArray) :=
  (gMake 16 (⟨#[]⟩ : ByteArray) (a0.length : Int) (a0.length : Int)).bind fun l7 =>
  loop (p_laws_toStringS_b1 a0) (0, l7)
noncomputable def p_laws_toRecipe (a0 : T_laws_Recipe) : Option T_impl_Recipe :=
  (p_laws_toInt64S a0.Args).bind fun r12 =>
  (p_laws_toStringS a0.Uses).bind fun r16 =>
  some ((T_impl_Recipe.mk a0.Name a0.Verb r12 r16))
noncomputable def p_laws_toRecipeS_b1 (a0 : List T_laws_Recipe) : Int × List T_impl_Recipe → Option ((Int × List T_impl_Recipe) ⊕ (List T_impl_Recipe))
  | (i4, xs) =>
    bif decide ((i4 : Int) < (a0.length : Int)) then
      (gIdx a0 i4).bind fun e18 =>
      (p_laws_toRecipe e18).bind fun r20 =>
      (gIdx xs i4).bind fun e21 =>
      some (.inl (IntKind.i64.wrap (i4 + 1), (xs.set (i4 : Int).toNat r20)))
    else
      some (.inr (xs))
noncomputable def p_laws_toRecipeS (a0 : List T_laws_Recipe) : Option (List T_impl_Recipe) :=
  (gMake 80 (T_impl_Recipe.mk (⟨#[]⟩ : ByteArray) (⟨#[]⟩ : ByteArray) ([] : List Int) ([] : List ByteArray)) (a0.length : Int) (a0.length : Int)).bind fun l7 =>
  loop (p_laws_toRecipeS_b1 a0) (0, l7)
noncomputable def p_laws_toInt64SS_b1 (a0 : List (List Int)) : Int × List (List Int) → Option ((Int × List (List Int)) ⊕ (List (List Int)))
  | (i4, xs) =>
    bif decide ((i4 : Int) < (a0.length : Int)) then
      (gIdx a0 i4).bind fun e18 =>
      (p_laws_toInt64S e18).bind fun r20 =>
      (gIdx xs i4).bind fun e21 =>
      some (.inl (IntKind.i64.wrap (i4 + 1), (xs.set (i4 : Int).toNat r20)))
    else
      some (.inr (xs))
noncomputable def p_laws_toInt64SS (a0 : List (List Int)) : Option (List (List Int)) :=
  (gMake 24 ([] : List Int) (a0.length : Int) (a0.length : Int)).bind fun l7 =>
  loop (p_laws_toInt64SS_b1 a0) (0, l7)
noncomputable def p_laws_toObject (a0 : T_laws_Object) : Option T_impl_Object :=
  (p_laws_toInt64SS a0.Rows).bind fun r12 =>
  some ((T_impl_Object.mk a0.Kind a0.Size r12))
noncomputable def p_laws_toObjectS_b1 (a0 : List T_laws_Object) : Int × List T_impl_Object → Option ((Int × List T_impl_Object) ⊕ (List T_impl_Object))
  | (i4, xs) =>
    bif decide ((i4 : Int) < (a0.length : Int)) then
      (gIdx a0 i4).bind fun e18 =>
      (p_laws_toObject e18).bind fun r20 =>
      (gIdx xs i4).bind fun e21 =>
      some (.inl (IntKind.i64.wrap (i4 + 1), (xs.set (i4 : Int).toNat r20)))
    else
      some (.inr (xs))
noncomputable def p_laws_toObjectS (a0 : List T_laws_Object) : Option (List T_impl_Object) :=
  (gMake 40 (T_impl_Object.mk (0 : Int) (0 : Int) ([] : List (List Int))) (a0.length : Int) (a0.length : Int)).bind fun l7 =>
  loop (p_laws_toObjectS_b1 a0) (0, l7)
noncomputable def p_laws_toLab (a0 : T_laws_Lab) : Option T_impl_Lab :=
  (p_laws_toRecipeS a0.Recipes).bind fun r6 =>
  (p_laws_toObjectS a0.Objects).bind fun r10 =>
  some ((T_impl_Lab.mk r6 r10))
noncomputable def p_laws_toItem (a0 : T_laws_Item) : Option T_impl_Item :=
  (p_laws_toObject (T_laws_Object.mk a0.Object.Kind a0.Object.Size a0.Object.Rows)).bind fun r9 =>
  some ((T_impl_Item.mk a0.Name (T_impl_Object.mk r9.Kind r9.Size r9.Rows) a0.Key))
noncomputable def p_laws_toItemS_b1 (a0 : List T_laws_Item) : Int × List T_impl_Item → Option ((Int × List T_impl_Item) ⊕ (List T_impl_Item))
  | (i4, xs) =>
    bif decide ((i4 : Int) < (a0.length : Int)) then
      (gIdx a0 i4).bind fun e18 =>
      (p_laws_toItem e18).bind fun r20 =>
      (gIdx xs i4).bind fun e21 =>
      some (.inl (IntKind.i64.wrap (i4 + 1), (xs.set (i4 : Int).toNat r20)))
    else
      some (.inr (xs))
noncomputable def p_laws_toItemS (a0 : List T_laws_Item) : Option (List T_impl_Item) :=
  (gMake 72 (T_impl_Item.mk (⟨#[]⟩ : ByteArray) (T_impl_Object.mk (0 : Int) (0 : Int) ([] : List (List Int))) (⟨#[]⟩ : ByteArray)) (a0.length : Int) (a0.length : Int)).bind fun l7 =>
  loop (p_laws_toItemS_b1 a0) (0, l7)
noncomputable def p_laws_toCatalog (a0 : T_laws_Catalog) : Option T_impl_Catalog :=
  (p_laws_toItemS a0.Items).bind fun r6 =>
  some ((T_impl_Catalog.mk r6))
noncomputable def p_laws_toDesk (a0 : T_laws_Desk) : Option T_impl_Desk :=
  (p_laws_toLab (T_laws_Lab.mk a0.Lab.Recipes a0.Lab.Objects)).bind fun r6 =>
  (p_laws_toCatalog (T_laws_Catalog.mk a0.Catalog.Items)).bind fun r10 =>
  some ((T_impl_Desk.mk (T_impl_Lab.mk r6.Recipes r6.Objects) (T_impl_Catalog.mk r10.Items)))
noncomputable def p_slices_EqualFunc_impl_Recipe_impl_Recipe_impl_Recipe_impl_Recipe_b1 (s0 : List T_impl_Recipe) (s1 : List T_impl_Recipe) (fn2 : T_impl_Recipe → T_impl_Recipe → Option Bool) : Int → Option ((Int) ⊕ (Bool))
  | y17 =>
    bif decide ((y17 : Int) < (s0.length : Int)) then
      (gIdx s0 y17).bind fun e20 =>
      (gIdx s1 y17).bind fun e24 =>
      (fn2 (T_impl_Recipe.mk e20.Name e20.Verb e20.Args e20.Uses) (T_impl_Recipe.mk e24.Name e24.Verb e24.Args e24.Uses)).bind fun r29 =>
      bif !r29 then
        some (.inr (false))
      else
        some (.inl (IntKind.i64.wrap (y17 + 1)))
    else
      some (.inr (true))
noncomputable def p_slices_EqualFunc_impl_Recipe_impl_Recipe_impl_Recipe_impl_Recipe (s0 : List T_impl_Recipe) (s1 : List T_impl_Recipe) (fn2 : T_impl_Recipe → T_impl_Recipe → Option Bool) : Option Bool :=
  bif ((s0.length : Int) : Int) != (s1.length : Int) then
    some (false)
  else
    loop (p_slices_EqualFunc_impl_Recipe_impl_Recipe_impl_Recipe_impl_Recipe_b1 s0 s1 fn2) (0)
noncomputable def p_slices_Equal_int64_int64_b1 (s0 : List Int) (s1 : List Int) : Int → Option ((Int) ⊕ (Bool))
  | y13 =>
    bif decide ((y13 : Int) < (s0.length : Int)) then
      (gIdx s0 y13).bind fun e18 =>
      (gIdx s1 y13).bind fun e22 =>
      bif (e18 : Int) != e22 then
        some (.inr (false))
      else
        some (.inl (IntKind.i64.wrap (y13 + 1)))
    else
      some (.inr (true))
noncomputable def p_slices_Equal_int64_int64 (s0 : List Int) (s1 : List Int) : Option Bool :=
  bif ((s0.length : Int) : Int) != (s1.length : Int) then
    some (false)
  else
    loop (p_slices_Equal_int64_int64_b1 s0 s1) (0)
noncomputable def p_slices_Equal_string_string_b1 (s0 : List ByteArray) (s1 : List ByteArray) : Int → Option ((Int) ⊕ (Bool))
  | y13 =>
    bif decide ((y13 : Int) < (s0.length : Int)) then
      (gIdx s0 y13).bind fun e18 =>
      (gIdx s1 y13).bind fun e22 =>
      bif !((e18 : ByteArray).toList == (e22 : ByteArray).toList) then
        some (.inr (false))
      else
        some (.inl (IntKind.i64.wrap (y13 + 1)))
    else
      some (.inr (true))
noncomputable def p_slices_Equal_string_string (s0 : List ByteArray) (s1 : List ByteArray) : Option Bool :=
  bif ((s0.length : Int) : Int) != (s1.length : Int) then
    some (false)
  else
    loop (p_slices_Equal_string_string_b1 s0 s1) (0)
noncomputable def p_impl_sameRecipe (a0 : T_impl_Recipe) (b1 : T_impl_Recipe) : Option Bool :=
  bif (a0.Name : ByteArray).toList == (b1.Name : ByteArray).toList then
    bif (a0.Verb : ByteArray).toList == (b1.Verb : ByteArray).toList then
      (p_slices_Equal_int64_int64 a0.Args b1.Args).bind fun r22 =>
      bif r22 then
        (p_slices_Equal_string_string a0.Uses b1.Uses).bind fun r29 =>
        some (r29)
      else
        some (false)
    else
      some (false)
  else
    some (false)
noncomputable def p_slices_EqualFunc_impl_Object_impl_Object_impl_Object_impl_Object_b1 (s0 : List T_impl_Object) (s1 : List T_impl_Object) (fn2 : T_impl_Object → T_impl_Object → Option Bool) : Int → Option ((Int) ⊕ (Bool))
  | y17 =>
    bif decide ((y17 : Int) < (s0.length : Int)) then
      (gIdx s0 y17).bind fun e20 =>
      (gIdx s1 y17).bind fun e24 =>
      (fn2 (T_impl_Object.mk e20.Kind e20.Size e20.Rows) (T_impl_Object.mk e24.Kind e24.Size e24.Rows)).bind fun r29 =>
      bif !r29 then
        some (.inr (false))
      else
        some (.inl (IntKind.i64.wrap (y17 + 1)))
    else
      some (.inr (true))
noncomputable def p_slices_EqualFunc_impl_Object_impl_Object_impl_Object_impl_Object (s0 : List T_impl_Object) (s1 : List T_impl_Object) (fn2 : T_impl_Object → T_impl_Object → Option Bool) : Option Bool :=
  bif ((s0.length : Int) : Int) != (s1.length : Int) then
    some (false)
  else
    loop (p_slices_EqualFunc_impl_Object_impl_Object_impl_Object_impl_Object_b1 s0 s1 fn2) (0)
noncomputable def p_slices_EqualFunc_int64_int64_int64_int64_b1 (s0 : List (List Int)) (s1 : List (List Int)) (fn2 : (List Int) → (List Int) → Option Bool) : Int → Option ((Int) ⊕ (Bool))
  | y17 =>
    bif decide ((y17 : Int) < (s0.length : Int)) then
      (gIdx s0 y17).bind fun e20 =>
      (gIdx s1 y17).bind fun e24 =>
      (fn2 e20 e24).bind fun r29 =>
      bif !r29 then
        some (.inr (false))
      else
        some (.inl (IntKind.i64.wrap (y17 + 1)))
    else
      some (.inr (true))
noncomputable def p_slices_EqualFunc_int64_int64_int64_int64 (s0 : List (List Int)) (s1 : List (List Int)) (fn2 : (List Int) → (List Int) → Option Bool) : Option Bool :=
  bif ((s0.length : Int) : Int) != (s1.length : Int) then
    some (false)
  else
    loop (p_slices_EqualFunc_int64_int64_int64_int64_b1 s0 s1 fn2) (0)
noncomputable def p_impl_areSame (a0 : List (List Int)) (b1 : List (List Int)) : Option Bool :=
  (p_slices_EqualFunc_int64_int64_int64_int64 a0 b1 (fun y0 y1 => p_slices_Equal_int64_int64 y0 y1)).bind fun r7 =>
  some (r7)
noncomputable def p_impl_SameObject (a0 : T_impl_Object) (b1 : T_impl_Object) : Option Bool :=
  bif (a0.Kind : Int) == b1.Kind then
    bif (a0.Size : Int) == b1.Size then
      (p_impl_areSame a0.Rows b1.Rows).bind fun r22 =>
      some (r22)
    else
      some (false)
  else
    some (false)
noncomputable def p_impl_SameLab (a0 : T_impl_Lab) (b1 : T_impl_Lab) : Option Bool :=
  (p_slices_EqualFunc_impl_Recipe_impl_Recipe_impl_Recipe_impl_Recipe a0.Recipes b1.Recipes (fun y0 y1 => p_impl_sameRecipe y0 y1)).bind fun r9 =>
  bif r9 then
    (p_slices_EqualFunc_impl_Object_impl_Object_impl_Object_impl_Object a0.Objects b1.Objects (fun y0 y1 => p_impl_SameObject y0 y1)).bind fun r15 =>
    some (r15)
  else
    some (false)
noncomputable def p_slices_EqualFunc_impl_Item_impl_Item_impl_Item_impl_Item_b1 (s0 : List T_impl_Item) (s1 : List T_impl_Item) (fn2 : T_impl_Item → T_impl_Item → Option Bool) : Int → Option ((Int) ⊕ (Bool))
  | y17 =>
    bif decide ((y17 : Int) < (s0.length : Int)) then
      (gIdx s0 y17).bind fun e20 =>
      (gIdx s1 y17).bind fun e24 =>
      (fn2 (T_impl_Item.mk e20.Name (T_impl_Object.mk e20.Object.Kind e20.Object.Size e20.Object.Rows) e20.Key) (T_impl_Item.mk e24.Name (T_impl_Object.mk e24.Object.Kind e24.Object.Size e24.Object.Rows) e24.Key)).bind fun r29 =>
      bif !r29 then
        some (.inr (false))
      else
        some (.inl (IntKind.i64.wrap (y17 + 1)))
    else
      some (.inr (true))
noncomputable def p_slices_EqualFunc_impl_Item_impl_Item_impl_Item_impl_Item (s0 : List T_impl_Item) (s1 : List T_impl_Item) (fn2 : T_impl_Item → T_impl_Item → Option Bool) : Option Bool :=
  bif ((s0.length : Int) : Int) != (s1.length : Int) then
    some (false)
  else
    loop (p_slices_EqualFunc_impl_Item_impl_Item_impl_Item_impl_Item_b1 s0 s1 fn2) (0)
noncomputable def p_impl_SameCatalog_1 (x0 : T_impl_Item) (y1 : T_impl_Item) : Option Bool :=
  bif (x0.Name : ByteArray).toList == (y1.Name : ByteArray).toList then
    bif (x0.Key : ByteArray).toList == (y1.Key : ByteArray).toList then
      (p_impl_SameObject (T_impl_Object.mk x0.Object.Kind x0.Object.Size x0.Object.Rows) (T_impl_Object.mk y1.Object.Kind y1.Object.Size y1.Object.Rows)).bind fun r22 =>
      some (r22)
    else
      some (false)
  else
    some (false)
noncomputable def p_impl_SameCatalog (a0 : T_impl_Catalog) (b1 : T_impl_Catalog) : Option Bool :=
  (p_slices_EqualFunc_impl_Item_impl_Item_impl_Item_impl_Item a0.Items b1.Items (fun y0 y1 => p_impl_SameCatalog_1 y0 y1)).bind fun r9 =>
  some (r9)
noncomputable def p_impl_SameDesk (a0 : T_impl_Desk) (b1 : T_impl_Desk) : Option Bool :=
  (p_impl_SameLab (T_impl_Lab.mk a0.Lab.Recipes a0.Lab.Objects) (T_impl_Lab.mk b1.Lab.Recipes b1.Lab.Objects)).bind fun r9 =>
  bif r9 then
    (p_impl_SameCatalog (T_impl_Catalog.mk a0.Catalog.Items) (T_impl_Catalog.mk b1.Catalog.Items)).bind fun r15 =>
    some (r15)
  else
    some (false)
noncomputable def p_laws_eqInt64S_b1 (a0 : List Int) (b1 : List Int) : Int → Option ((Int) ⊕ (Bool))
  | i5 =>
    bif decide ((i5 : Int) < (a0.length : Int)) then
      (gIdx a0 i5).bind fun e19 =>
      (gIdx b1 i5).bind fun e23 =>
      bif (e19 : Int) != e23 then
        some (.inr (false))
      else
        some (.inl (IntKind.i64.wrap (i5 + 1)))
    else
      some (.inr (true))
noncomputable def p_laws_eqInt64S (a0 : List Int) (b1 : List Int) : Option Bool :=
  bif ((a0.length : Int) : Int) != (b1.length : Int) then
    some (false)
  else
    loop (p_laws_eqInt64S_b1 a0 b1) (0)
noncomputable def p_laws_eqStringS_b1 (a0 : List ByteArray) (b1 : List ByteArray) : Int → Option ((Int) ⊕ (Bool))
  | i5 =>
    bif decide ((i5 : Int) < (a0.length : Int)) then
      (gIdx a0 i5).bind fun e19 =>
      (gIdx b1 i5).bind fun e23 =>
      bif !((e19 : ByteArray).toList == (e23 : ByteArray).toList) then
        some (.inr (false))
      else
        some (.inl (IntKind.i64.wrap (i5 + 1)))
    else
      some (.inr (true))
noncomputable def p_laws_eqStringS (a0 : List ByteArray) (b1 : List ByteArray) : Option Bool :=
  bif ((a0.length : Int) : Int) != (b1.length : Int) then
    some (false)
  else
    loop (p_laws_eqStringS_b1 a0 b1) (0)
noncomputable def p_laws_eqRecipe (a0 : T_impl_Recipe) (b1 : T_impl_Recipe) : Option Bool :=
  bif !((a0.Name : ByteArray).toList == (b1.Name : ByteArray).toList) then
    some (false)
  else
    bif !((a0.Verb : ByteArray).toList == (b1.Verb : ByteArray).toList) then
      some (false)
    else
      (p_laws_eqInt64S a0.Args b1.Args).bind fun r19 =>
      bif !r19 then
        some (false)
      else
        (p_laws_eqStringS a0.Uses b1.Uses).bind fun r25 =>
        bif !r25 then
          some (false)
        else
          some (true)
noncomputable def p_laws_eqRecipeS_b1 (a0 : List T_impl_Recipe) (b1 : List T_impl_Recipe) : Int → Option ((Int) ⊕ (Bool))
  | i5 =>
    bif decide ((i5 : Int) < (a0.length : Int)) then
      (gIdx a0 i5).bind fun e19 =>
      (gIdx b1 i5).bind fun e23 =>
      (p_laws_eqRecipe e19 e23).bind fun r25 =>
      bif !r25 then
        some (.inr (false))
      else
        some (.inl (IntKind.i64.wrap (i5 + 1)))
    else
      some (.inr (true))
noncomputable def p_laws_eqRecipeS (a0 : List T_impl_Recipe) (b1 : List T_impl_Recipe) : Option Bool :=
  bif ((a0.length : Int) : Int) != (b1.length : Int) then
    some (false)
  else
    loop (p_laws_eqRecipeS_b1 a0 b1) (0)
noncomputable def p_laws_eqInt64SS_b1 (a0 : List (List Int)) (b1 : List (List Int)) : Int → Option ((Int) ⊕ (Bool))
  | i5 =>
    bif decide ((i5 : Int) < (a0.length : Int)) then
      (gIdx a0 i5).bind fun e19 =>
      (gIdx b1 i5).bind fun e23 =>
      (p_laws_eqInt64S e19 e23).bind fun r25 =>
      bif !r25 then
        some (.inr (false))
      else
        some (.inl (IntKind.i64.wrap (i5 + 1)))
    else
      some (.inr (true))
noncomputable def p_laws_eqInt64SS (a0 : List (List Int)) (b1 : List (List Int)) : Option Bool :=
  bif ((a0.length : Int) : Int) != (b1.length : Int) then
    some (false)
  else
    loop (p_laws_eqInt64SS_b1 a0 b1) (0)
noncomputable def p_laws_eqObject (a0 : T_impl_Object) (b1 : T_impl_Object) : Option Bool :=
  bif (a0.Kind : Int) != b1.Kind then
    some (false)
  else
    bif (a0.Size : Int) != b1.Size then
      some (false)
    else
      (p_laws_eqInt64SS a0.Rows b1.Rows).bind fun r19 =>
      bif !r19 then
        some (false)
      else
        some (true)
noncomputable def p_laws_eqObjectS_b1 (a0 : List T_impl_Object) (b1 : List T_impl_Object) : Int → Option ((Int) ⊕ (Bool))
  | i5 =>
    bif decide ((i5 : Int) < (a0.length : Int)) then
      (gIdx a0 i5).bind fun e19 =>
      (gIdx b1 i5).bind fun e23 =>
      (p_laws_eqObject e19 e23).bind fun r25 =>
      bif !r25 then
        some (.inr (false))
      else
        some (.inl (IntKind.i64.wrap (i5 + 1)))
    else
      some (.inr (true))
noncomputable def p_laws_eqObjectS (a0 : List T_impl_Object) (b1 : List T_impl_Object) : Option Bool :=
  bif ((a0.length : Int) : Int) != (b1.length : Int) then
    some (false)
  else
    loop (p_laws_eqObjectS_b1 a0 b1) (0)
noncomputable def p_laws_eqLab (a0 : T_impl_Lab) (b1 : T_impl_Lab) : Option Bool :=
  (p_laws_eqRecipeS a0.Recipes b1.Recipes).bind fun r9 =>
  bif !r9 then
    some (false)
  else
    (p_laws_eqObjectS a0.Objects b1.Objects).bind fun r15 =>
    bif !r15 then
      some (false)
    else
      some (true)
noncomputable def p_laws_eqItem (a0 : T_impl_Item) (b1 : T_impl_Item) : Option Bool :=
  bif !((a0.Name : ByteArray).toList == (b1.Name : ByteArray).toList) then
    some (false)
  else
    (p_laws_eqObject (T_impl_Object.mk a0.Object.Kind a0.Object.Size a0.Object.Rows) (T_impl_Object.mk b1.Object.Kind b1.Object.Size b1.Object.Rows)).bind fun r14 =>
    bif !r14 then
      some (false)
    else
      bif !((a0.Key : ByteArray).toList == (b1.Key : ByteArray).toList) then
        some (false)
      else
        some (true)
noncomputable def p_laws_eqItemS_b1 (a0 : List T_impl_Item) (b1 : List T_impl_Item) : Int → Option ((Int) ⊕ (Bool))
  | i5 =>
    bif decide ((i5 : Int) < (a0.length : Int)) then
      (gIdx a0 i5).bind fun e19 =>
      (gIdx b1 i5).bind fun e23 =>
      (p_laws_eqItem e19 e23).bind fun r25 =>
      bif !r25 then
        some (.inr (false))
      else
        some (.inl (IntKind.i64.wrap (i5 + 1)))
    else
      some (.inr (true))
noncomputable def p_laws_eqItemS (a0 : List T_impl_Item) (b1 : List T_impl_Item) : Option Bool :=
  bif ((a0.length : Int) : Int) != (b1.length : Int) then
    some (false)
  else
    loop (p_laws_eqItemS_b1 a0 b1) (0)
noncomputable def p_laws_eqCatalog (a0 : T_impl_Catalog) (b1 : T_impl_Catalog) : Option Bool :=
  (p_laws_eqItemS a0.Items b1.Items).bind fun r9 =>
  bif !r9 then
    some (false)
  else
    some (true)
noncomputable def p_laws_eqDesk (a0 : T_impl_Desk) (b1 : T_impl_Desk) : Option Bool :=
  (p_laws_eqLab (T_impl_Lab.mk a0.Lab.Recipes a0.Lab.Objects) (T_impl_Lab.mk b1.Lab.Recipes b1.Lab.Objects)).bind fun r9 =>
  bif !r9 then
    some (false)
  else
    (p_laws_eqCatalog (T_impl_Catalog.mk a0.Catalog.Items) (T_impl_Catalog.mk b1.Catalog.Items)).bind fun r15 =>
    bif !r15 then
      some (false)
    else
      some (true)
noncomputable def p_laws_FnExactSameDesk (aA0 : T_laws_Desk) (aB1 : T_laws_Desk) : Option Bool :=
  (p_laws_szDesk (T_laws_Desk.mk (T_laws_Lab.mk aA0.Lab.Recipes aA0.Lab.Objects) (T_laws_Catalog.mk aA0.Catalog.Items)) 1048576).bind fun r12 =>
  bif decide ((r12 : Int) < 0) then
    some (true)
  else
    (p_laws_szDesk (T_laws_Desk.mk (T_laws_Lab.mk aB1.Lab.Recipes aB1.Lab.Objects) (T_laws_Catalog.mk aB1.Catalog.Items)) r12).bind fun r17 =>
    bif decide ((r17 : Int) < 0) then
      some (true)
    else
      (p_laws_toDesk (T_laws_Desk.mk (T_laws_Lab.mk aA0.Lab.Recipes aA0.Lab.Objects) (T_laws_Catalog.mk aA0.Catalog.Items))).bind fun r21 =>
      (p_laws_toDesk (T_laws_Desk.mk (T_laws_Lab.mk aB1.Lab.Recipes aB1.Lab.Objects) (T_laws_Catalog.mk aB1.Catalog.Items))).bind fun r23 =>
      (p_spec_SameDesk r21 r23).bind fun r24 =>
      (p_laws_toDesk (T_laws_Desk.mk (T_laws_Lab.mk aA0.Lab.Recipes aA0.Lab.Objects) (T_laws_Catalog.mk aA0.Catalog.Items))).bind fun r26 =>
      (p_laws_toDesk (T_laws_Desk.mk (T_laws_Lab.mk aB1.Lab.Recipes aB1.Lab.Objects) (T_laws_Catalog.mk aB1.Catalog.Items))).bind fun r28 =>
      (p_impl_SameDesk (T_impl_Desk.mk (T_impl_Lab.mk r26.Lab.Recipes r26.Lab.Objects) (T_impl_Catalog.mk r26.Catalog.Items)) (T_impl_Desk.mk (T_impl_Lab.mk r28.Lab.Recipes r28.Lab.Objects) (T_impl_Catalog.mk r28.Catalog.Items))).bind fun r31 =>
      bif !(r31 == r24) then
        some (false)
      else
        (p_laws_toDesk (T_laws_Desk.mk (T_laws_Lab.mk aA0.Lab.Recipes aA0.Lab.Objects) (T_laws_Catalog.mk aA0.Catalog.Items))).bind fun r37 =>
        (p_laws_eqDesk (T_impl_Desk.mk (T_impl_Lab.mk r26.Lab.Recipes r26.Lab.Objects) (T_impl_Catalog.mk r26.Catalog.Items)) r37).bind fun r38 =>
        bif !r38 then
          some (false)
        else
          (p_laws_toDesk (T_laws_Desk.mk (T_laws_Lab.mk aB1.Lab.Recipes aB1.Lab.Objects) (T_laws_Catalog.mk aB1.Catalog.Items))).bind fun r42 =>
          (p_laws_eqDesk (T_impl_Desk.mk (T_impl_Lab.mk r28.Lab.Recipes r28.Lab.Objects) (T_impl_Catalog.mk r28.Catalog.Items)) r42).bind fun r43 =>
          bif !r43 then
            some (false)
          else
            some (true)
end Go.Proofs.Ytclgicpmbcbjlaa
