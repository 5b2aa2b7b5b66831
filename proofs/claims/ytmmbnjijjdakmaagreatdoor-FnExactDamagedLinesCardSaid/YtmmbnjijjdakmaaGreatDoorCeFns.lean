import Derived.Test.YtmmbnjijjdakmaaGreatDoorPuEvS
import Derived.Test.YtmmbnjijjdakmaaGreatDoorPuFns
namespace Go.Proofs.YtmmbnjijjdakmaaGreatDoor
open Go Go.Vc
set_option linter.unusedVariables false
set_option linter.unusedSimpArgs false
set_option maxRecDepth 20000
noncomputable instance:Frc Zd where
 frc p k:=Zd.rec (fun x0 x1 x2=>Frc.frc x0 fun x0=>Frc.frc x1 fun x1=>Frc.frc x2 fun x2=>k (.mk x0 x1 x2)) p
 ok p k:=by cases p;show Frc.frc _ _=_;simp only [Frc.ok]
noncomputable def Zes (F:Nat) (n0 low1 high2:Int):Option Bool:=
 bif lei (low1) (n0) then
  some (lei (n0) (high2))
 else
  some (false)
theorem ZmR {F:Nat} (n0 low1 high2:Int)  :Le (Zes F n0 low1 high2) (ZE n0 low1 high2):=by
 unfold Zes ZE
 try simp only [←cw_ok,←Zt,←Zs,←Zn,←Zk,←Zm,←Zx,←Zu,GT.gt,GE.ge]
 repeat' (with_reducible first|exact Le.rfl|assumption|exact Zq _ _ _|exact Zw _ _ _ _|(refine le_if ?_ ?_)|(refine Zr ?_ fun _=>?_)|(refine Zy ?_)|(refine Zp fun _=>?_))
noncomputable def Zny (F:Nat) (p4:Int):Int×Int→Option ((Int×Int) ⊕ ((Int) ⊕ (Int×Int)))
 | (k5,n6)=>
  bif lti (1) (n6) then
   fbind (cNz p4) fun _=>
   bif !eqi (Int.tmod n6 p4) (0) then
    some (.inr (.inr ((0,0))))
   else
    fbind (cNz p4) fun _=>
    some (.inl (cw (k5+1),cw (Int.tdiv n6 p4)))
  else
   some (.inr (.inr ((p4,k5))))
theorem ZwB {F:Nat} (p4:Int)  (s_:_):Le (Zny F p4 s_) (ZiB p4 s_):=by
 obtain ⟨k5,n6⟩:=s_
 unfold Zny ZiB
 try simp only [←cw_ok,←Zt,←Zs,←Zn,←Zk,←Zm,←Zx,←Zu,GT.gt,GE.ge]
 repeat' (with_reducible first|exact Le.rfl|assumption|exact Zq _ _ _|exact Zw _ _ _ _|(refine le_if ?_ ?_)|(refine Zr ?_ fun _=>?_)|(refine Zy ?_)|(refine Zp fun _=>?_))
noncomputable def ZlI (F:Nat) (q0:Int):Int→Option ((Int) ⊕ (Int×Int))
 | p4=>
  fbind (cNz p4) fun _=>
  bif !eqi (Int.tmod q0 p4) (0) then
   some (.inl (cw (p4+1)))
  else
   lpF F (Zny F p4) (0,q0)
theorem Zsx {F:Nat} (q0:Int)  (s_:_):Le (ZlI F q0 s_) (Ziy q0 s_):=by
 unfold ZlI Ziy
 try simp only [←cw_ok,←Zt,←Zs,←Zn,←Zk,←Zm,←Zx,←Zu,GT.gt,GE.ge]
 repeat' (with_reducible first|exact Le.rfl|assumption|exact ZwB _ _|exact Zq _ _ _|exact Zw _ _ _ _|(refine le_if ?_ ?_)|(refine Zr ?_ fun _=>?_)|(refine Zy ?_)|(refine Zp fun _=>?_))
noncomputable def Zj4 (F:Nat) (q0:Int):Option (Int×Int):=
 fbind (Zes F q0 2 64) fun r8=>
 bif !r8 then
  some ((0,0))
 else
  lpF F (ZlI F q0) (2)
theorem Zi {F:Nat} (q0:Int)  :Le (Zj4 F q0) (Zbu q0):=by
 unfold Zj4 Zbu
 try simp only [←cw_ok,←Zt,←Zs,←Zn,←Zk,←Zm,←Zx,←Zu,GT.gt,GE.ge]
 repeat' (with_reducible first|exact Le.rfl|assumption|exact ZmR _ _ _|exact Zsx _ _|exact Zq _ _ _|exact Zw _ _ _ _|(refine le_if ?_ ?_)|(refine Zr ?_ fun _=>?_)|(refine Zy ?_)|(refine Zp fun _=>?_))
noncomputable def Zki (F:Nat) (p1:Int):Int×Int×List Int→Option ((Int×Int×List Int) ⊕ (List Int))
 | (a0_2,n2_2,out7)=>
  bif lti (0) (n2_2) then
   fbind (cNz p1) fun _=>
   fbind (cApp 8 out7 [Int.tmod a0_2 p1]) fun l18=>
   fbind (cNz p1) fun _=>
   some (.inl (cw (Int.tdiv a0_2 p1),cw (n2_2-1),l18))
  else
   some (.inr (out7))
theorem Zse {F:Nat} (p1:Int)  (s_:_):Le (Zki F p1 s_) (ZcG p1 s_):=by
 obtain ⟨a0_2,n2_2,out7⟩:=s_
 unfold Zki ZcG
 try simp only [←cw_ok,←Zt,←Zs,←Zn,←Zk,←Zm,←Zx,←Zu,GT.gt,GE.ge]
 repeat' (with_reducible first|exact Le.rfl|assumption|exact Zq _ _ _|exact Zw _ _ _ _|(refine le_if ?_ ?_)|(refine Zr ?_ fun _=>?_)|(refine Zy ?_)|(refine Zp fun _=>?_))
noncomputable def Zi4 (F:Nat) (a0 p1 n2:Int):Option (List Int):=
 lpF F (Zki F p1) (a0,n2,([]:List Int))
theorem Zq9 {F:Nat} (a0 p1 n2:Int)  :Le (Zi4 F a0 p1 n2) (ZaI a0 p1 n2):=by
 unfold Zi4 ZaI
 try simp only [←cw_ok,←Zt,←Zs,←Zn,←Zk,←Zm,←Zx,←Zu,GT.gt,GE.ge]
 repeat' (with_reducible first|exact Le.rfl|assumption|exact Zse _ _|exact Zq _ _ _|exact Zw _ _ _ _|(refine le_if ?_ ?_)|(refine Zr ?_ fun _=>?_)|(refine Zy ?_)|(refine Zp fun _=>?_))
noncomputable def Zl4 (F:Nat) (p0:Int):Int×Int→Option ((Int×Int) ⊕ (Int))
 | (k1_2,out5)=>
  bif lti (0) (k1_2) then
   some (.inl (cw (k1_2-1),cw (out5*p0)))
  else
   some (.inr (out5))
theorem ZBf {F:Nat} (p0:Int)  (s_:_):Le (Zl4 F p0 s_) (ZjO p0 s_):=by
 obtain ⟨k1_2,out5⟩:=s_
 unfold Zl4 ZjO
 try simp only [←cw_ok,←Zt,←Zs,←Zn,←Zk,←Zm,←Zx,←Zu,GT.gt,GE.ge]
 repeat' (with_reducible first|exact Le.rfl|assumption|exact Zq _ _ _|exact Zw _ _ _ _|(refine le_if ?_ ?_)|(refine Zr ?_ fun _=>?_)|(refine Zy ?_)|(refine Zp fun _=>?_))
noncomputable def Zhx (F:Nat) (p0 k1:Int):Option Int:=
 lpF F (Zl4 F p0) (k1,1)
theorem Zm1 {F:Nat} (p0 k1:Int)  :Le (Zhx F p0 k1) (Zd0 p0 k1):=by
 unfold Zhx Zd0
 try simp only [←cw_ok,←Zt,←Zs,←Zn,←Zk,←Zm,←Zx,←Zu,GT.gt,GE.ge]
 repeat' (with_reducible first|exact Le.rfl|assumption|exact ZBf _ _|exact Zq _ _ _|exact Zw _ _ _ _|(refine le_if ?_ ?_)|(refine Zr ?_ fun _=>?_)|(refine Zy ?_)|(refine Zp fun _=>?_))
noncomputable def ZkN (F:Nat) (list0:List Int):Option (List Int):=
 fbind (cApp 8 ([]:List Int) list0) fun l5=>
 some (l5)
theorem Zzu {F:Nat} (list0:List Int)  :Le (ZkN F list0) (Zbh list0):=by
 unfold ZkN Zbh
 try simp only [←cw_ok,←Zt,←Zs,←Zn,←Zk,←Zm,←Zx,←Zu,GT.gt,GE.ge]
 repeat' (with_reducible first|exact Le.rfl|assumption|exact Zq _ _ _|exact Zw _ _ _ _|(refine le_if ?_ ?_)|(refine Zr ?_ fun _=>?_)|(refine Zy ?_)|(refine Zp fun _=>?_))
noncomputable def Zmc (F:Nat) (y1:List Int) (y2 y9 e28:Int):Int×List Int→Option ((Int×List Int) ⊕ ((Int×List Int) ⊕ (List Int)))
 | (y11,xs_2)=>
  bif lti (y11) ((y1.length:Int)) then
   fbind (cIdx xs_2 (cw ((cw ((cw (y9-(y1.length:Int)))+1))+y11))) fun e45=>
   fbind (cIdx y1 y11) fun e52=>
   fbind (cNz y2) fun _=>
   fbind (cIdx xs_2 (cw ((cw ((cw (y9-(y1.length:Int)))+1))+y11))) fun e58=>
   some (.inl (cw (y11+1),(xs_2.set (cw ((cw ((cw (y9-(y1.length:Int)))+1))+y11):Int).toNat (Int.tmod (cw (e45+(cw ((cw (y2-e28))*e52)))) y2))))
  else
   some (.inr (.inl (cw (y9-1),xs_2)))
theorem Zvc {F:Nat} (y1:List Int) (y2 y9 e28:Int)  (s_:_):Le (Zmc F y1 y2 y9 e28 s_) (ZdB y1 y2 y9 e28 s_):=by
 obtain ⟨y11,xs_2⟩:=s_
 unfold Zmc ZdB
 try simp only [←cw_ok,←Zt,←Zs,←Zn,←Zk,←Zm,←Zx,←Zu,GT.gt,GE.ge]
 repeat' (with_reducible first|exact Le.rfl|assumption|exact Zq _ _ _|exact Zw _ _ _ _|(refine le_if ?_ ?_)|(refine Zr ?_ fun _=>?_)|(refine Zy ?_)|(refine Zp fun _=>?_))
noncomputable def ZmH (F:Nat) (y1:List Int):List Int→Option ((List Int) ⊕ ((Int×List Int) ⊕ (List Int)))
 | y7=>
  bif lei ((y1.length:Int)) ((y7.length:Int)) then
   fbind (cSl y7 0 (cw ((y7.length:Int)-1))) fun l67=>
   some (.inl (l67))
  else
   some (.inr (.inr (y7)))
theorem Zzy {F:Nat} (y1:List Int)  (s_:_):Le (ZmH F y1 s_) (Zca y1 s_):=by
 unfold ZmH Zca
 try simp only [←cw_ok,←Zt,←Zs,←Zn,←Zk,←Zm,←Zx,←Zu,GT.gt,GE.ge]
 repeat' (with_reducible first|exact Le.rfl|assumption|exact Zq _ _ _|exact Zw _ _ _ _|(refine le_if ?_ ?_)|(refine Zr ?_ fun _=>?_)|(refine Zy ?_)|(refine Zp fun _=>?_))
noncomputable def ZlC (F:Nat) (y1:List Int) (y2:Int):Int×List Int→Option ((Int×List Int) ⊕ (List Int))
 | (y9,xs)=>
  bif lei ((cw ((y1.length:Int)-1))) (y9) then
   fbind (cIdx xs y9) fun e28=>
   lpF F (Zmc F y1 y2 y9 e28) (0,xs)
  else
   lpF F (ZmH F y1) (xs)
theorem Zz7 {F:Nat} (y1:List Int) (y2:Int)  (s_:_):Le (ZlC F y1 y2 s_) (Zbc y1 y2 s_):=by
 obtain ⟨y9,xs⟩:=s_
 unfold ZlC Zbc
 try simp only [←cw_ok,←Zt,←Zs,←Zn,←Zk,←Zm,←Zx,←Zu,GT.gt,GE.ge]
 repeat' (with_reducible first|exact Le.rfl|assumption|exact Zvc _ _ _ _ _|exact Zzy _ _|exact Zq _ _ _|exact Zw _ _ _ _|(refine le_if ?_ ?_)|(refine Zr ?_ fun _=>?_)|(refine Zy ?_)|(refine Zp fun _=>?_))
noncomputable def ZkC (F:Nat) (y0 y1:List Int) (y2:Int):Option (List Int):=
 fbind (ZkN F y0) fun r14=>
 lpF F (ZlC F y1 y2) (cw ((r14.length:Int)-1),r14)
theorem Zsb {F:Nat} (y0 y1:List Int) (y2:Int)  :Le (ZkC F y0 y1 y2) (ZcF y0 y1 y2):=by
 unfold ZkC ZcF
 try simp only [←cw_ok,←Zt,←Zs,←Zn,←Zk,←Zm,←Zx,←Zu,GT.gt,GE.ge]
 repeat' (with_reducible first|exact Le.rfl|assumption|exact Zzu _|exact Zz7 _ _ _|exact Zq _ _ _|exact Zw _ _ _ _|(refine le_if ?_ ?_)|(refine Zr ?_ fun _=>?_)|(refine Zy ?_)|(refine Zp fun _=>?_))
noncomputable def Zkt (F:Nat) (list0:List Int) (p1:Int):Int×Int→Option ((Int×Int) ⊕ (Int))
 | (out5,i6)=>
  bif lei (0) (i6) then
   fbind (cIdx list0 i6) fun e19=>
   some (.inl (cw ((cw (out5*p1))+e19),cw (i6-1)))
  else
   some (.inr (out5))
theorem ZvF {F:Nat} (list0:List Int) (p1:Int)  (s_:_):Le (Zkt F list0 p1 s_) (Zdq list0 p1 s_):=by
 obtain ⟨out5,i6⟩:=s_
 unfold Zkt Zdq
 try simp only [←cw_ok,←Zt,←Zs,←Zn,←Zk,←Zm,←Zx,←Zu,GT.gt,GE.ge]
 repeat' (with_reducible first|exact Le.rfl|assumption|exact Zq _ _ _|exact Zw _ _ _ _|(refine le_if ?_ ?_)|(refine Zr ?_ fun _=>?_)|(refine Zy ?_)|(refine Zp fun _=>?_))
noncomputable def Znf (F:Nat) (list0:List Int) (p1:Int):Option Int:=
 lpF F (Zkt F list0 p1) (0,cw ((list0.length:Int)-1))
theorem Zt3 {F:Nat} (list0:List Int) (p1:Int)  :Le (Znf F list0 p1) (ZaP list0 p1):=by
 unfold Znf ZaP
 try simp only [←cw_ok,←Zt,←Zs,←Zn,←Zk,←Zm,←Zx,←Zu,GT.gt,GE.ge]
 repeat' (with_reducible first|exact Le.rfl|assumption|exact ZvF _ _ _|exact Zq _ _ _|exact Zw _ _ _ _|(refine le_if ?_ ?_)|(refine Zr ?_ fun _=>?_)|(refine Zy ?_)|(refine Zp fun _=>?_))
noncomputable def ZnR (F:Nat) (poly0:List Int) (p1 d6:Int):Int→Option ((Int) ⊕ ((Int) ⊕ (Bool)))
 | n7=>
  fbind (Zhx F p1 d6) fun r22=>
  bif lti (n7) (r22) then
   fbind (Zi4 F n7 p1 d6) fun r29=>
   fbind (cApp 8 r29 [1]) fun l31=>
   fbind (ZkC F poly0 l31 p1) fun r35=>
   fbind (Znf F r35 p1) fun r38=>
   bif eqi (r38) (0) then
    some (.inr (.inr (false)))
   else
    some (.inl (cw (n7+1)))
  else
   some (.inr (.inl (cw (d6+1))))
theorem Zuk {F:Nat} (poly0:List Int) (p1 d6:Int)  (s_:_):Le (ZnR F poly0 p1 d6 s_) (ZiA poly0 p1 d6 s_):=by
 unfold ZnR ZiA
 try simp only [←cw_ok,←Zt,←Zs,←Zn,←Zk,←Zm,←Zx,←Zu,GT.gt,GE.ge]
 repeat' (with_reducible first|exact Le.rfl|assumption|exact Zm1 _ _|exact Zq9 _ _ _|exact Zsb _ _ _|exact Zt3 _ _|exact Zq _ _ _|exact Zw _ _ _ _|(refine le_if ?_ ?_)|(refine Zr ?_ fun _=>?_)|(refine Zy ?_)|(refine Zp fun _=>?_))
noncomputable def Zm0 (F:Nat) (poly0:List Int) (p1:Int):Int→Option ((Int) ⊕ (Bool))
 | d6=>
  bif lei (cw (2*d6)) ((cw ((poly0.length:Int)-1))) then
   lpF F (ZnR F poly0 p1 d6) (0)
  else
   some (.inr (true))
theorem Zvh {F:Nat} (poly0:List Int) (p1:Int)  (s_:_):Le (Zm0 F poly0 p1 s_) (Zi6 poly0 p1 s_):=by
 unfold Zm0 Zi6
 try simp only [←cw_ok,←Zt,←Zs,←Zn,←Zk,←Zm,←Zx,←Zu,GT.gt,GE.ge]
 repeat' (with_reducible first|exact Le.rfl|assumption|exact Zuk _ _ _ _|exact Zq _ _ _|exact Zw _ _ _ _|(refine le_if ?_ ?_)|(refine Zr ?_ fun _=>?_)|(refine Zy ?_)|(refine Zp fun _=>?_))
noncomputable def ZiE (F:Nat) (poly0:List Int) (p1:Int):Option Bool:=
 lpF F (Zm0 F poly0 p1) (1)
theorem ZqW {F:Nat} (poly0:List Int) (p1:Int)  :Le (ZiE F poly0 p1) (ZeW poly0 p1):=by
 unfold ZiE ZeW
 try simp only [←cw_ok,←Zt,←Zs,←Zn,←Zk,←Zm,←Zx,←Zu,GT.gt,GE.ge]
 repeat' (with_reducible first|exact Le.rfl|assumption|exact Zvh _ _ _|exact Zq _ _ _|exact Zw _ _ _ _|(refine le_if ?_ ?_)|(refine Zr ?_ fun _=>?_)|(refine Zy ?_)|(refine Zp fun _=>?_))
noncomputable def Zl5 (F:Nat) (r9:Int×Int):Int→Option ((Int) ⊕ (Zd))
 | n5=>
  fbind (Zi4 F n5 r9.1 r9.2) fun r17=>
  fbind (cApp 8 r17 [1]) fun l19=>
  fbind (ZiE F l19 r9.1) fun r22=>
  bif r22 then
   some (.inr ((Zd.mk r9.1 r9.2 l19)))
  else
   some (.inl (cw (n5+1)))
theorem Zxo {F:Nat} (r9:Int×Int)  (s_:_):Le (Zl5 F r9 s_) (ZiQ r9 s_):=by
 unfold Zl5 ZiQ
 try simp only [←cw_ok,←Zt,←Zs,←Zn,←Zk,←Zm,←Zx,←Zu,GT.gt,GE.ge]
 repeat' (with_reducible first|exact Le.rfl|assumption|exact Zq9 _ _ _|exact ZqW _ _|exact Zq _ _ _|exact Zw _ _ _ _|(refine le_if ?_ ?_)|(refine Zr ?_ fun _=>?_)|(refine Zy ?_)|(refine Zp fun _=>?_))
noncomputable def Zon (F:Nat) (q0:Int):Option Zd:=
 fbind (Zj4 F q0) fun r9=>
 lpF F (Zl5 F r9) (0)
theorem ZV {F:Nat} (q0:Int)  :Le (Zon F q0) (Zfl q0):=by
 unfold Zon Zfl
 try simp only [←cw_ok,←Zt,←Zs,←Zn,←Zk,←Zm,←Zx,←Zu,GT.gt,GE.ge]
 repeat' (with_reducible first|exact Le.rfl|assumption|exact Zi _|exact Zxo _ _|exact Zq _ _ _|exact Zw _ _ _ _|(refine le_if ?_ ?_)|(refine Zr ?_ fun _=>?_)|(refine Zy ?_)|(refine Zp fun _=>?_))
noncomputable def Zko (F:Nat) (y0:Zd) (r58:Int×Int):Int→Option ((Int) ⊕ (Bool))
 | y6=>
  bif lti (y6) ((y0.Poly.length:Int)) then
   fbind (cIdx y0.Poly y6) fun e81=>
   fbind (Zes F e81 0 (cw (r58.1-1))) fun r85=>
   bif !r85 then
    some (.inr (false))
   else
    some (.inl (cw (y6+1)))
  else
   fbind (ZiE F y0.Poly r58.1) fun r92=>
   some (.inr (r92))
theorem ZAT {F:Nat} (y0:Zd) (r58:Int×Int)  (s_:_):Le (Zko F y0 r58 s_) (Zja y0 r58 s_):=by
 unfold Zko Zja
 try simp only [←cw_ok,←Zt,←Zs,←Zn,←Zk,←Zm,←Zx,←Zu,GT.gt,GE.ge]
 repeat' (with_reducible first|exact Le.rfl|assumption|exact ZmR _ _ _|exact ZqW _ _|exact Zq _ _ _|exact Zw _ _ _ _|(refine le_if ?_ ?_)|(refine Zr ?_ fun _=>?_)|(refine Zy ?_)|(refine Zp fun _=>?_))
noncomputable def Zno (F:Nat) (y0:Zd):Option (Bool):=
 fbind (Zhx F y0.Prime y0.Degree) fun r55=>
 fbind (Zj4 F r55) fun r58=>
 bif !eqi (r58.1) (y0.Prime) then
  some (false)
 else
  lpF F (Zko F y0 r58) (0)
theorem ZxD {F:Nat} (y0:Zd)  :Le (Zno F y0) (Zfw y0):=by
 unfold Zno Zfw
 try simp only [←cw_ok,←Zt,←Zs,←Zn,←Zk,←Zm,←Zx,←Zu,GT.gt,GE.ge]
 repeat' (with_reducible first|exact Le.rfl|assumption|exact Zm1 _ _|exact Zi _|exact ZAT _ _ _|exact Zq _ _ _|exact Zw _ _ _ _|(refine le_if ?_ ?_)|(refine Zr ?_ fun _=>?_)|(refine Zy ?_)|(refine Zp fun _=>?_))
noncomputable def Zqc (F:Nat) (y0:Zd):Option Bool:=
 fbind (Zes F y0.Prime 2 64) fun r11=>
 bif !r11 then
  some (false)
 else
  fbind (Zes F y0.Degree 1 6) fun r18=>
  bif !r18 then
   some (false)
  else
   bif !eqi ((y0.Poly.length:Int)) ((cw (y0.Degree+1))) then
    some (false)
   else
    fbind (cIdx y0.Poly y0.Degree) fun e43=>
    bif !eqi (e43) (1) then
     some (false)
    else
     Zno F y0
theorem ZU {F:Nat} (y0:Zd)  :Le (Zqc F y0) (ZeY y0):=by
 unfold Zqc ZeY
 try simp only [←cw_ok,←Zt,←Zs,←Zn,←Zk,←Zm,←Zx,←Zu,GT.gt,GE.ge]
 repeat' (with_reducible first|exact Le.rfl|assumption|exact ZmR _ _ _|exact ZxD _|exact Zq _ _ _|exact Zw _ _ _ _|(refine le_if ?_ ?_)|(refine Zr ?_ fun _=>?_)|(refine Zy ?_)|(refine Zp fun _=>?_))
noncomputable def Zpq (F:Nat) (f0:Zd):Option Int:=
 fbind (Zhx F f0.Prime f0.Degree) fun r11=>
 some (r11)
theorem ZT {F:Nat} (f0:Zd)  :Le (Zpq F f0) (Zcw f0):=by
 unfold Zpq Zcw
 try simp only [←cw_ok,←Zt,←Zs,←Zn,←Zk,←Zm,←Zx,←Zu,GT.gt,GE.ge]
 repeat' (with_reducible first|exact Le.rfl|assumption|exact Zm1 _ _|exact Zq _ _ _|exact Zw _ _ _ _|(refine le_if ?_ ?_)|(refine Zr ?_ fun _=>?_)|(refine Zy ?_)|(refine Zp fun _=>?_))
noncomputable def Zj5 (F:Nat) (n0 low1 high2:Int):Option Bool:=
 bif lei (low1) (n0) then
  some (lei (n0) (high2))
 else
  some (false)
theorem Zo6 {F:Nat} (n0 low1 high2:Int)  :Le (Zj5 F n0 low1 high2) (ZG n0 low1 high2):=by
 unfold Zj5 ZG
 try simp only [←cw_ok,←Zt,←Zs,←Zn,←Zk,←Zm,←Zx,←Zu,GT.gt,GE.ge]
 repeat' (with_reducible first|exact Le.rfl|assumption|exact Zq _ _ _|exact Zw _ _ _ _|(refine le_if ?_ ?_)|(refine Zr ?_ fun _=>?_)|(refine Zy ?_)|(refine Zp fun _=>?_))
noncomputable def Zm5 (F:Nat) (s0:List Int) (fn1:Int→Option Bool):Int→Option ((Int) ⊕ (Int))
 | y8=>
  bif lti (y8) ((s0.length:Int)) then
   fbind (cIdx s0 y8) fun e14=>
   fbind (fn1 e14) fun r16=>
   bif r16 then
    some (.inr (y8))
   else
    some (.inl (cw (y8+1)))
  else
   some (.inr ((-1)))
theorem ZtQ {F:Nat} (s0:List Int) (fn1 fn1':Int→Option Bool) (hfn1:∀ u0,Le (fn1 u0) (fn1' u0)) (s_:_):Le (Zm5 F s0 fn1 s_) (Zc0 s0 fn1' s_):=by
 unfold Zm5 Zc0
 try simp only [←cw_ok,←Zt,←Zs,←Zn,←Zk,←Zm,←Zx,←Zu,GT.gt,GE.ge]
 repeat' (with_reducible first|exact Le.rfl|assumption|exact Zq _ _ _|exact Zw _ _ _ _|(refine le_if ?_ ?_)|(refine Zr ?_ fun _=>?_)|(refine Zy ?_)|(refine Zp fun _=>?_))
 all_goals (first|exact hfn1 _|skip)
noncomputable def ZmQ (F:Nat) (s0:List Int) (fn1:Int→Option Bool):Option Int:=
 lpF F (Zm5 F s0 fn1) (0)
theorem Zy3 {F:Nat} (s0:List Int) (fn1 fn1':Int→Option Bool) (hfn1:∀ u0,Le (fn1 u0) (fn1' u0)):Le (ZmQ F s0 fn1) (Zgg s0 fn1'):=by
 unfold ZmQ Zgg
 try simp only [←cw_ok,←Zt,←Zs,←Zn,←Zk,←Zm,←Zx,←Zu,GT.gt,GE.ge]
 repeat' (with_reducible first|exact Le.rfl|assumption|(refine ZtQ _ _ _ ?_ _;intros)|exact Zq _ _ _|exact Zw _ _ _ _|(refine le_if ?_ ?_)|(refine Zr ?_ fun _=>?_)|(refine Zy ?_)|(refine Zp fun _=>?_))
 all_goals (first|exact hfn1 _|skip)
noncomputable def ZlL (F:Nat) (s0:List Int) (fn1:Int→Option Bool):Option Bool:=
 fbind (ZmQ F s0 fn1) fun r7=>
 some (lei (0) (r7))
theorem Zxj {F:Nat} (s0:List Int) (fn1 fn1':Int→Option Bool) (hfn1:∀ u0,Le (fn1 u0) (fn1' u0)):Le (ZlL F s0 fn1) (ZaA s0 fn1'):=by
 unfold ZlL ZaA
 try simp only [←cw_ok,←Zt,←Zs,←Zn,←Zk,←Zm,←Zx,←Zu,GT.gt,GE.ge]
 repeat' (with_reducible first|exact Le.rfl|assumption|(refine Zy3 _ _ _ ?_;intros)|exact Zq _ _ _|exact Zw _ _ _ _|(refine le_if ?_ ?_)|(refine Zr ?_ fun _=>?_)|(refine Zy ?_)|(refine Zp fun _=>?_))
 all_goals (first|exact hfn1 _|skip)
noncomputable def ZnG (F:Nat) (a0:List Int):Option (List Int):=cApp 8 [] a0
theorem ZzJ {F:Nat} (a0:List Int)  :Le (ZnG F a0) (ZbF a0):=by
 unfold ZnG ZbF
 try simp only [←cw_ok,←Zt,←Zs,←Zn,←Zk,←Zm,←Zx,←Zu,GT.gt,GE.ge]
 repeat' (with_reducible first|exact Le.rfl|assumption|exact Zq _ _ _|exact Zw _ _ _ _|(refine le_if ?_ ?_)|(refine Zr ?_ fun _=>?_)|(refine Zy ?_)|(refine Zp fun _=>?_))
noncomputable def ZhG (F:Nat) (list0:List Int):Option Int:=
 some ((list0.length:Int))
theorem Zoi {F:Nat} (list0:List Int)  :Le (ZhG F list0) (ZN list0):=by
 unfold ZhG ZN
 try simp only [←cw_ok,←Zt,←Zs,←Zn,←Zk,←Zm,←Zx,←Zu,GT.gt,GE.ge]
 repeat' (with_reducible first|exact Le.rfl|assumption|exact Zq _ _ _|exact Zw _ _ _ _|(refine le_if ?_ ?_)|(refine Zr ?_ fun _=>?_)|(refine Zy ?_)|(refine Zp fun _=>?_))
noncomputable def Zof (F:Nat) (base0 e1_2 power7:Int):Option ((Int×Int) ⊕ (Int)):=
 some (.inl (cw (e1_2-1),cw (power7*base0)))
theorem ZyL {F:Nat} (base0 e1_2 power7:Int)  :Le (Zof F base0 e1_2 power7) (ZeR base0 e1_2 power7):=by
 unfold Zof ZeR
 try simp only [←cw_ok,←Zt,←Zs,←Zn,←Zk,←Zm,←Zx,←Zu,GT.gt,GE.ge]
 repeat' (with_reducible first|exact Le.rfl|assumption|exact Zq _ _ _|exact Zw _ _ _ _|(refine le_if ?_ ?_)|(refine Zr ?_ fun _=>?_)|(refine Zy ?_)|(refine Zp fun _=>?_))
noncomputable def ZmB (F:Nat) (base0 limit2:Int):Int×Int→Option ((Int×Int) ⊕ (Int))
 | (e1_2,power7)=>
  bif lti (0) (e1_2) then
   bif lei (power7) (limit2) then
    Zof F base0 e1_2 power7
   else
    some (.inr (power7))
  else
   some (.inr (power7))
theorem ZyI {F:Nat} (base0 limit2:Int)  (s_:_):Le (ZmB F base0 limit2 s_) (Za9 base0 limit2 s_):=by
 obtain ⟨e1_2,power7⟩:=s_
 unfold ZmB Za9
 try simp only [←cw_ok,←Zt,←Zs,←Zn,←Zk,←Zm,←Zx,←Zu,GT.gt,GE.ge]
 repeat' (with_reducible first|exact Le.rfl|assumption|exact ZyL _ _ _|exact Zq _ _ _|exact Zw _ _ _ _|(refine le_if ?_ ?_)|(refine Zr ?_ fun _=>?_)|(refine Zy ?_)|(refine Zp fun _=>?_))
noncomputable def Zgk (F:Nat) (base0 e1 limit2:Int):Option Int:=
 lpF F (ZmB F base0 limit2) (e1,1)
theorem ZlO {F:Nat} (base0 e1 limit2:Int)  :Le (Zgk F base0 e1 limit2) (Zb4 base0 e1 limit2):=by
 unfold Zgk Zb4
 try simp only [←cw_ok,←Zt,←Zs,←Zn,←Zk,←Zm,←Zx,←Zu,GT.gt,GE.ge]
 repeat' (with_reducible first|exact Le.rfl|assumption|exact ZyI _ _ _|exact Zq _ _ _|exact Zw _ _ _ _|(refine le_if ?_ ?_)|(refine Zr ?_ fun _=>?_)|(refine Zy ?_)|(refine Zp fun _=>?_))
noncomputable def Zp5 (F:Nat) (f0:Zd):Option Int:=
 fbind (Zgk F f0.Prime f0.Degree 64) fun r7=>
 some (r7)
theorem ZX {F:Nat} (f0:Zd)  :Le (Zp5 F f0) (ZbZ f0):=by
 unfold Zp5 ZbZ
 try simp only [←cw_ok,←Zt,←Zs,←Zn,←Zk,←Zm,←Zx,←Zu,GT.gt,GE.ge]
 repeat' (with_reducible first|exact Le.rfl|assumption|exact ZlO _ _ _|exact Zq _ _ _|exact Zw _ _ _ _|(refine le_if ?_ ?_)|(refine Zr ?_ fun _=>?_)|(refine Zy ?_)|(refine Zp fun _=>?_))
noncomputable def ZkD (F:Nat) (base1:Int) (l10:List Int):Int×Int×List Int→Option ((Int×Int×List Int) ⊕ (List Int))
 | (n0_2,y13,xs)=>
  bif lti (y13) ((l10.length:Int)) then
   fbind (cNz base1) fun _=>
   fbind (cIdx xs y13) fun e21=>
   fbind (cNz base1) fun _=>
   some (.inl (cw (Int.tdiv n0_2 base1),cw (y13+1),(xs.set (y13:Int).toNat (Int.tmod n0_2 base1))))
  else
   some (.inr (xs))
theorem ZtO {F:Nat} (base1:Int) (l10:List Int)  (s_:_):Le (ZkD F base1 l10 s_) (ZbN base1 l10 s_):=by
 obtain ⟨n0_2,y13,xs⟩:=s_
 unfold ZkD ZbN
 try simp only [←cw_ok,←Zt,←Zs,←Zn,←Zk,←Zm,←Zx,←Zu,GT.gt,GE.ge]
 repeat' (with_reducible first|exact Le.rfl|assumption|exact Zq _ _ _|exact Zw _ _ _ _|(refine le_if ?_ ?_)|(refine Zr ?_ fun _=>?_)|(refine Zy ?_)|(refine Zp fun _=>?_))
noncomputable def ZfN (F:Nat) (n0 base1 count2:Int):Option (List Int):=
 fbind (cMake 8 (0:Int) count2 count2) fun l10=>
 lpF F (ZkD F base1 l10) (n0,0,l10)
theorem Zo2 {F:Nat} (n0 base1 count2:Int)  :Le (ZfN F n0 base1 count2) (ZaH n0 base1 count2):=by
 unfold ZfN ZaH
 try simp only [←cw_ok,←Zt,←Zs,←Zn,←Zk,←Zm,←Zx,←Zu,GT.gt,GE.ge]
 repeat' (with_reducible first|exact Le.rfl|assumption|exact ZtO _ _ _|exact Zq _ _ _|exact Zw _ _ _ _|(refine le_if ?_ ?_)|(refine Zr ?_ fun _=>?_)|(refine Zy ?_)|(refine Zp fun _=>?_))
noncomputable def ZlZ (F:Nat) (y1:List Int) (y2 y9 e29:Int):Int×List Int→Option ((Int×List Int) ⊕ ((Int×List Int) ⊕ (List Int)))
 | (y33,xs_2)=>
  bif lti (y33) ((y1.length:Int)) then
   fbind (cIdx y1 y33) fun e36=>
   fbind (cIdx xs_2 (cw ((cw (y9-(cw ((y1.length:Int)-1))))+y33))) fun e47=>
   fbind (cNz y2) fun _=>
   fbind (cNz y2) fun _=>
   fbind (cIdx xs_2 (cw ((cw (y9-(cw ((y1.length:Int)-1))))+y33))) fun e59=>
   some (.inl (cw (y33+1),(xs_2.set (cw ((cw (y9-(cw ((y1.length:Int)-1))))+y33):Int).toNat (Int.tmod (cw ((Int.tmod (cw (e47-(cw (e29*e36)))) y2)+y2)) y2))))
  else
   some (.inr (.inl (cw (y9-1),xs_2)))
theorem ZAX {F:Nat} (y1:List Int) (y2 y9 e29:Int)  (s_:_):Le (ZlZ F y1 y2 y9 e29 s_) (Zdi y1 y2 y9 e29 s_):=by
 obtain ⟨y33,xs_2⟩:=s_
 unfold ZlZ Zdi
 try simp only [←cw_ok,←Zt,←Zs,←Zn,←Zk,←Zm,←Zx,←Zu,GT.gt,GE.ge]
 repeat' (with_reducible first|exact Le.rfl|assumption|exact Zq _ _ _|exact Zw _ _ _ _|(refine le_if ?_ ?_)|(refine Zr ?_ fun _=>?_)|(refine Zy ?_)|(refine Zp fun _=>?_))
noncomputable def ZkE (F:Nat) (y1:List Int) (y2:Int):Int×List Int→Option ((Int×List Int) ⊕ (List Int))
 | (y9,xs)=>
  bif lei ((cw ((y1.length:Int)-1))) (y9) then
   fbind (cIdx xs y9) fun e29=>
   lpF F (ZlZ F y1 y2 y9 e29) (0,xs)
  else
   fbind (cSl xs 0 (if ((xs.length:Int):Int)<(cw ((y1.length:Int)-1)) then (xs.length:Int) else cw ((y1.length:Int)-1))) fun l66=>
   some (.inr (l66))
theorem Zwj {F:Nat} (y1:List Int) (y2:Int)  (s_:_):Le (ZkE F y1 y2 s_) (Za1 y1 y2 s_):=by
 obtain ⟨y9,xs⟩:=s_
 unfold ZkE Za1
 try simp only [←cw_ok,←Zt,←Zs,←Zn,←Zk,←Zm,←Zx,←Zu,GT.gt,GE.ge]
 repeat' (with_reducible first|exact Le.rfl|assumption|exact ZAX _ _ _ _ _|exact Zq _ _ _|exact Zw _ _ _ _|(refine le_if ?_ ?_)|(refine Zr ?_ fun _=>?_)|(refine Zy ?_)|(refine Zp fun _=>?_))
noncomputable def ZmT (F:Nat) (y0 y1:List Int) (y2:Int):Option (List Int):=
 fbind (ZnG F y0) fun r15=>
 lpF F (ZkE F y1 y2) (cw ((r15.length:Int)-1),r15)
theorem ZwI {F:Nat} (y0 y1:List Int) (y2:Int)  :Le (ZmT F y0 y1 y2) (ZcH y0 y1 y2):=by
 unfold ZmT ZcH
 try simp only [←cw_ok,←Zt,←Zs,←Zn,←Zk,←Zm,←Zx,←Zu,GT.gt,GE.ge]
 repeat' (with_reducible first|exact Le.rfl|assumption|exact ZzJ _|exact Zwj _ _ _|exact Zq _ _ _|exact Zw _ _ _ _|(refine le_if ?_ ?_)|(refine Zr ?_ fun _=>?_)|(refine Zy ?_)|(refine Zp fun _=>?_))
noncomputable def Zm2 (F:Nat) (x0:Int):Option Bool:=
 some (!eqi (x0) (0))
theorem Zyb {F:Nat} (x0:Int)  :Le (Zm2 F x0) (Zhw x0):=by
 unfold Zm2 Zhw
 try simp only [←cw_ok,←Zt,←Zs,←Zn,←Zk,←Zm,←Zx,←Zu,GT.gt,GE.ge]
 repeat' (with_reducible first|exact Le.rfl|assumption|exact Zq _ _ _|exact Zw _ _ _ _|(refine le_if ?_ ?_)|(refine Zr ?_ fun _=>?_)|(refine Zy ?_)|(refine Zp fun _=>?_))
noncomputable def Zl1 (F:Nat) (list0:List Int):Option Bool:=
 fbind (ZlL F list0 (fun y0=>Zm2 F y0)) fun r4=>
 some (!r4)
theorem Zuy {F:Nat} (list0:List Int)  :Le (Zl1 F list0) (Zhg list0):=by
 unfold Zl1 Zhg
 try simp only [←cw_ok,←Zt,←Zs,←Zn,←Zk,←Zm,←Zx,←Zu,GT.gt,GE.ge]
 repeat' (with_reducible first|exact Le.rfl|assumption|(refine Zxj _ _ _ ?_;intros)|exact Zyb _|exact Zq _ _ _|exact Zw _ _ _ _|(refine le_if ?_ ?_)|(refine Zr ?_ fun _=>?_)|(refine Zy ?_)|(refine Zp fun _=>?_))
noncomputable def Znc (F:Nat) (poly0:List Int) (p1 d6:Int):Int→Option ((Int) ⊕ ((Int) ⊕ (Bool)))
 | n7=>
  fbind (Zgk F p1 d6 64) fun r20=>
  bif lti (n7) (r20) then
   fbind (ZfN F n7 p1 d6) fun r28=>
   fbind (cApp 8 r28 [1]) fun l30=>
   fbind (ZmT F poly0 l30 p1) fun r32=>
   fbind (Zl1 F r32) fun r33=>
   bif r33 then
    some (.inr (.inr (false)))
   else
    some (.inl (cw (n7+1)))
  else
   some (.inr (.inl (cw (d6+1))))
theorem ZzF {F:Nat} (poly0:List Int) (p1 d6:Int)  (s_:_):Le (Znc F poly0 p1 d6 s_) (Zic poly0 p1 d6 s_):=by
 unfold Znc Zic
 try simp only [←cw_ok,←Zt,←Zs,←Zn,←Zk,←Zm,←Zx,←Zu,GT.gt,GE.ge]
 repeat' (with_reducible first|exact Le.rfl|assumption|exact ZlO _ _ _|exact Zo2 _ _ _|exact ZwI _ _ _|exact Zuy _|exact Zq _ _ _|exact Zw _ _ _ _|(refine le_if ?_ ?_)|(refine Zr ?_ fun _=>?_)|(refine Zy ?_)|(refine Zp fun _=>?_))
noncomputable def ZnC (F:Nat) (poly0:List Int) (p1 r9:Int):Int→Option ((Int) ⊕ (Bool))
 | d6=>
  bif lei (cw (2*d6)) ((cw (r9-1))) then
   lpF F (Znc F poly0 p1 d6) (0)
  else
   some (.inr (true))
theorem Zx9 {F:Nat} (poly0:List Int) (p1 r9:Int)  (s_:_):Le (ZnC F poly0 p1 r9 s_) (Ziq poly0 p1 r9 s_):=by
 unfold ZnC Ziq
 try simp only [←cw_ok,←Zt,←Zs,←Zn,←Zk,←Zm,←Zx,←Zu,GT.gt,GE.ge]
 repeat' (with_reducible first|exact Le.rfl|assumption|exact ZzF _ _ _ _|exact Zq _ _ _|exact Zw _ _ _ _|(refine le_if ?_ ?_)|(refine Zr ?_ fun _=>?_)|(refine Zy ?_)|(refine Zp fun _=>?_))
noncomputable def ZiK (F:Nat) (poly0:List Int) (p1:Int):Option Bool:=
 fbind (ZhG F poly0) fun r9=>
 lpF F (ZnC F poly0 p1 r9) (1)
theorem ZqZ {F:Nat} (poly0:List Int) (p1:Int)  :Le (ZiK F poly0 p1) (Zer poly0 p1):=by
 unfold ZiK Zer
 try simp only [←cw_ok,←Zt,←Zs,←Zn,←Zk,←Zm,←Zx,←Zu,GT.gt,GE.ge]
 repeat' (with_reducible first|exact Le.rfl|assumption|exact Zoi _|exact Zx9 _ _ _ _|exact Zq _ _ _|exact Zw _ _ _ _|(refine le_if ?_ ?_)|(refine Zr ?_ fun _=>?_)|(refine Zy ?_)|(refine Zp fun _=>?_))
noncomputable def ZnU (F:Nat) (p4:Int):Int×List Int→Option ((Int×List Int) ⊕ ((Int×List Int×Int) ⊕ (List Int)))
 | (n0_3,factor3_2)=>
  fbind (cNz p4) fun _=>
  bif eqi (Int.tmod n0_3 p4) (0) then
   fbind (cApp 8 factor3_2 [p4]) fun l22=>
   fbind (cNz p4) fun _=>
   some (.inl (cw (Int.tdiv n0_3 p4),l22))
  else
   some (.inr (.inl (n0_3,factor3_2,cw (p4+1))))
theorem ZyK {F:Nat} (p4:Int)  (s_:_):Le (ZnU F p4 s_) (Zch p4 s_):=by
 obtain ⟨n0_3,factor3_2⟩:=s_
 unfold ZnU Zch
 try simp only [←cw_ok,←Zt,←Zs,←Zn,←Zk,←Zm,←Zx,←Zu,GT.gt,GE.ge]
 repeat' (with_reducible first|exact Le.rfl|assumption|exact Zq _ _ _|exact Zw _ _ _ _|(refine le_if ?_ ?_)|(refine Zr ?_ fun _=>?_)|(refine Zy ?_)|(refine Zp fun _=>?_))
noncomputable def Zkj (F:Nat):Int×List Int×Int→Option ((Int×List Int×Int) ⊕ (List Int))
 | (n0_2,factor3,p4)=>
  bif lei (cw (p4*p4)) (n0_2) then
   lpF F (ZnU F p4) (n0_2,factor3)
  else
   bif lti (1) (n0_2) then
    fbind (cApp 8 factor3 [n0_2]) fun l31=>
    some (.inr (l31))
   else
    some (.inr (factor3))
theorem Zyf {F:Nat}   (s_:_):Le (Zkj F  s_) (Za0  s_):=by
 obtain ⟨n0_2,factor3,p4⟩:=s_
 unfold Zkj Za0
 try simp only [←cw_ok,←Zt,←Zs,←Zn,←Zk,←Zm,←Zx,←Zu,GT.gt,GE.ge]
 repeat' (with_reducible first|exact Le.rfl|assumption|exact ZyK _ _|exact Zq _ _ _|exact Zw _ _ _ _|(refine le_if ?_ ?_)|(refine Zr ?_ fun _=>?_)|(refine Zy ?_)|(refine Zp fun _=>?_))
noncomputable def Ziw (F:Nat) (n0:Int):Option (List Int):=
 fbind (Zj5 F n0 1 1000000) fun r6=>
 bif !r6 then
  some (([]:List Int))
 else
  lpF F (Zkj F) (n0,([]:List Int),2)
theorem ZpT {F:Nat} (n0:Int)  :Le (Ziw F n0) (Zb2 n0):=by
 unfold Ziw Zb2
 try simp only [←cw_ok,←Zt,←Zs,←Zn,←Zk,←Zm,←Zx,←Zu,GT.gt,GE.ge]
 repeat' (with_reducible first|exact Le.rfl|assumption|exact Zo6 _ _ _|exact Zyf  _|exact Zq _ _ _|exact Zw _ _ _ _|(refine le_if ?_ ?_)|(refine Zr ?_ fun _=>?_)|(refine Zy ?_)|(refine Zp fun _=>?_))
noncomputable def ZkW (F:Nat) (n0:Int):Option Bool:=
 fbind (Ziw F n0) fun r4=>
 some (eqi ((r4.length:Int)) (1))
theorem Zso {F:Nat} (n0:Int)  :Le (ZkW F n0) (ZfE n0):=by
 unfold ZkW ZfE
 try simp only [←cw_ok,←Zt,←Zs,←Zn,←Zk,←Zm,←Zx,←Zu,GT.gt,GE.ge]
 repeat' (with_reducible first|exact Le.rfl|assumption|exact ZpT _|exact Zq _ _ _|exact Zw _ _ _ _|(refine le_if ?_ ?_)|(refine Zr ?_ fun _=>?_)|(refine Zy ?_)|(refine Zp fun _=>?_))
noncomputable def ZlQ (F:Nat) (f0:Zd):Int→Option ((Int) ⊕ (Bool))
 | y41=>
  bif lti (y41) ((f0.Poly.length:Int)) then
   fbind (cIdx f0.Poly y41) fun e43=>
   fbind (Zj5 F e43 0 (cw (f0.Prime-1))) fun r49=>
   bif !r49 then
    some (.inr (false))
   else
    some (.inl (cw (y41+1)))
  else
   fbind (ZiK F f0.Poly f0.Prime) fun r56=>
   some (.inr (r56))
theorem Zwx {F:Nat} (f0:Zd)  (s_:_):Le (ZlQ F f0 s_) (Zi7 f0 s_):=by
 unfold ZlQ Zi7
 try simp only [←cw_ok,←Zt,←Zs,←Zn,←Zk,←Zm,←Zx,←Zu,GT.gt,GE.ge]
 repeat' (with_reducible first|exact Le.rfl|assumption|exact Zo6 _ _ _|exact ZqZ _ _|exact Zq _ _ _|exact Zw _ _ _ _|(refine le_if ?_ ?_)|(refine Zr ?_ fun _=>?_)|(refine Zy ?_)|(refine Zp fun _=>?_))
noncomputable def Zkh (F:Nat) (f0:Zd):Option (Bool):=
 lpF F (ZlQ F f0) (0)
theorem Zu7 {F:Nat} (f0:Zd)  :Le (Zkh F f0) (ZhQ f0):=by
 unfold Zkh ZhQ
 try simp only [←cw_ok,←Zt,←Zs,←Zn,←Zk,←Zm,←Zx,←Zu,GT.gt,GE.ge]
 repeat' (with_reducible first|exact Le.rfl|assumption|exact Zwx _ _|exact Zq _ _ _|exact Zw _ _ _ _|(refine le_if ?_ ?_)|(refine Zr ?_ fun _=>?_)|(refine Zy ?_)|(refine Zp fun _=>?_))
noncomputable def Zl7 (F:Nat) (f0:Zd):Option (Bool):=
 fbind (ZhG F f0.Poly) fun r24=>
 bif !eqi (r24) ((cw (f0.Degree+1))) then
  some (false)
 else
  fbind (cIdx f0.Poly f0.Degree) fun e34=>
  bif !eqi (e34) (1) then
   some (false)
  else
   Zkh F f0
theorem Zz0 {F:Nat} (f0:Zd)  :Le (Zl7 F f0) (ZfA f0):=by
 unfold Zl7 ZfA
 try simp only [←cw_ok,←Zt,←Zs,←Zn,←Zk,←Zm,←Zx,←Zu,GT.gt,GE.ge]
 repeat' (with_reducible first|exact Le.rfl|assumption|exact Zoi _|exact Zu7 _|exact Zq _ _ _|exact Zw _ _ _ _|(refine le_if ?_ ?_)|(refine Zr ?_ fun _=>?_)|(refine Zy ?_)|(refine Zp fun _=>?_))
noncomputable def ZpG (F:Nat) (f0:Zd):Option Bool:=
 fbind (ZkW F f0.Prime) fun r7=>
 bif !r7 then
  some (false)
 else
  bif lti (f0.Degree) (1) then
   some (false)
  else
   fbind (Zgk F f0.Prime f0.Degree 64) fun r19=>
   bif lti (64) (r19) then
    some (false)
   else
    Zl7 F f0
theorem ZW {F:Nat} (f0:Zd)  :Le (ZpG F f0) (Zey f0):=by
 unfold ZpG Zey
 try simp only [←cw_ok,←Zt,←Zs,←Zn,←Zk,←Zm,←Zx,←Zu,GT.gt,GE.ge]
 repeat' (with_reducible first|exact Le.rfl|assumption|exact Zso _|exact ZlO _ _ _|exact Zz0 _|exact Zq _ _ _|exact Zw _ _ _ _|(refine le_if ?_ ?_)|(refine Zr ?_ fun _=>?_)|(refine Zy ?_)|(refine Zp fun _=>?_))
noncomputable def Zll (F:Nat) (r8:List Int):Int→Option ((Int) ⊕ (Int×Int))
 | y11=>
  bif lti (y11) ((r8.length:Int)) then
   fbind (cIdx r8 y11) fun e13=>
   fbind (cIdx r8 0) fun e17=>
   bif !eqi (e13) (e17) then
    some (.inr ((0,0)))
   else
    some (.inl (cw (y11+1)))
  else
   bif eqi ((r8.length:Int)) (0) then
    some (.inr ((0,0)))
   else
    fbind (ZhG F r8) fun r28=>
    fbind (cIdx r8 0) fun e25=>
    some (.inr ((e25,r28)))
theorem Zx3 {F:Nat} (r8:List Int)  (s_:_):Le (Zll F r8 s_) (Zbq r8 s_):=by
 unfold Zll Zbq
 try simp only [←cw_ok,←Zt,←Zs,←Zn,←Zk,←Zm,←Zx,←Zu,GT.gt,GE.ge]
 repeat' (with_reducible first|exact Le.rfl|assumption|exact Zoi _|exact Zq _ _ _|exact Zw _ _ _ _|(refine le_if ?_ ?_)|(refine Zr ?_ fun _=>?_)|(refine Zy ?_)|(refine Zp fun _=>?_))
noncomputable def Zls (F:Nat) (n0:Int):Option (Int×Int):=
 fbind (Ziw F n0) fun r8=>
 lpF F (Zll F r8) (0)
theorem Zqz {F:Nat} (n0:Int)  :Le (Zls F n0) (ZbL n0):=by
 unfold Zls ZbL
 try simp only [←cw_ok,←Zt,←Zs,←Zn,←Zk,←Zm,←Zx,←Zu,GT.gt,GE.ge]
 repeat' (with_reducible first|exact Le.rfl|assumption|exact ZpT _|exact Zx3 _ _|exact Zq _ _ _|exact Zw _ _ _ _|(refine le_if ?_ ?_)|(refine Zr ?_ fun _=>?_)|(refine Zy ?_)|(refine Zp fun _=>?_))
noncomputable def Zn8 (F:Nat) (r9:Int×Int):Int→Option ((Int) ⊕ (Zd×Int))
 | n6=>
  fbind (ZfN F n6 r9.1 r9.2) fun r22=>
  fbind (cApp 8 r22 [1]) fun l24=>
  fbind (ZiK F l24 r9.1) fun r26=>
  bif !r26 then
   some (.inl (cw (n6+1)))
  else
   fbind (ZfN F n6 r9.1 r9.2) fun r35=>
   fbind (cApp 8 r35 [1]) fun l37=>
   some (.inr (((Zd.mk r9.1 r9.2 l37),0)))
theorem ZsJ {F:Nat} (r9:Int×Int)  (s_:_):Le (Zn8 F r9 s_) (Zi3 r9 s_):=by
 unfold Zn8 Zi3
 try simp only [←cw_ok,←Zt,←Zs,←Zn,←Zk,←Zm,←Zx,←Zu,GT.gt,GE.ge]
 repeat' (with_reducible first|exact Le.rfl|assumption|exact Zo2 _ _ _|exact ZqZ _ _|exact Zq _ _ _|exact Zw _ _ _ _|(refine le_if ?_ ?_)|(refine Zr ?_ fun _=>?_)|(refine Zy ?_)|(refine Zp fun _=>?_))
noncomputable def ZkL (F:Nat) (r9:Int×Int):Option (Zd×Int):=
 lpF F (Zn8 F r9) (0)
theorem Ztl {F:Nat} (r9:Int×Int)  :Le (ZkL F r9) (Zf5 r9):=by
 unfold ZkL Zf5
 try simp only [←cw_ok,←Zt,←Zs,←Zn,←Zk,←Zm,←Zx,←Zu,GT.gt,GE.ge]
 repeat' (with_reducible first|exact Le.rfl|assumption|exact ZsJ _ _|exact Zq _ _ _|exact Zw _ _ _ _|(refine le_if ?_ ?_)|(refine Zr ?_ fun _=>?_)|(refine Zy ?_)|(refine Zp fun _=>?_))
noncomputable def ZqO (F:Nat) (q0:Int):Option (Zd×Int):=
 fbind (Zls F q0) fun r9=>
 bif eqi (r9.1) (0) then
  some (((Zd.mk 0 0 ([]:List Int)),2))
 else
  bif lti (64) (q0) then
   some (((Zd.mk 0 0 ([]:List Int)),2))
  else
   ZkL F r9
theorem Zj {F:Nat} (q0:Int)  :Le (ZqO F q0) (ZaU q0):=by
 unfold ZqO ZaU
 try simp only [←cw_ok,←Zt,←Zs,←Zn,←Zk,←Zm,←Zx,←Zu,GT.gt,GE.ge]
 repeat' (with_reducible first|exact Le.rfl|assumption|exact Zqz _|exact Ztl _|exact Zq _ _ _|exact Zw _ _ _ _|(refine le_if ?_ ?_)|(refine Zr ?_ fun _=>?_)|(refine Zy ?_)|(refine Zp fun _=>?_))
end Go.Proofs.YtmmbnjijjdakmaaGreatDoor
