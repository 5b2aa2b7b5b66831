import Derived.Test.YtghbgeaammnkcaaGreatDoorPuEvS
import Derived.Test.YtghbgeaammnkcaaGreatDoorPuFns
namespace Go.Proofs.YtghbgeaammnkcaaGreatDoor
open Go Go.Vc
set_option linter.unusedVariables false
set_option linter.unusedSimpArgs false
set_option maxRecDepth 20000
noncomputable instance:Frc Zd where
 frc p k:=Zd.rec (fun x0 x1 x2=>Frc.frc x0 fun x0=>Frc.frc x1 fun x1=>Frc.frc x2 fun x2=>k (.mk x0 x1 x2)) p
 ok p k:=by cases p;show Frc.frc _ _=_;simp only [Frc.ok]
noncomputable def ZcN (F:Nat) (n0 b a:Int):Option Bool:=
 bif lei (b) (n0) then
  some (lei (n0) (a))
 else
  some (false)
theorem ZlP {F:Nat} (n0 b a:Int)  :Le (ZcN F n0 b a) (ZR n0 b a):=by
 unfold ZcN ZR
 try simp only [←cw_ok,←Zv,←Zy,←Zp,←Zm,←Zo,←ZC,←Zw,GT.gt,GE.ge]
 repeat' (with_reducible first|exact Le.rfl|assumption|exact ZD _ _ _|exact ZA _ _ _ _|(refine le_if ?_ ?_)|(refine ZB ?_ fun _=>?_)|(refine Zz ?_)|(refine Zx fun _=>?_))
noncomputable def ZpQ (F:Nat) (a:Int):Int×Int→Option ((Int×Int) ⊕ ((Int) ⊕ (Int×Int)))
 | (c,b)=>
  bif lti (1) (b) then
   fbind (cNz a) fun _=>
   bif !eqi (Int.tmod b a) (0) then
    some (.inr (.inr ((0,0))))
   else
    fbind (cNz a) fun _=>
    some (.inl (cw (c+1),cw (Int.tdiv b a)))
  else
   some (.inr (.inr ((a,c))))
theorem ZEA {F:Nat} (a:Int)  (s_:_):Le (ZpQ F a s_) (Zk5 a s_):=by
 obtain ⟨b,c⟩:=s_
 unfold ZpQ Zk5
 try simp only [←cw_ok,←Zv,←Zy,←Zp,←Zm,←Zo,←ZC,←Zw,GT.gt,GE.ge]
 repeat' (with_reducible first|exact Le.rfl|assumption|exact ZD _ _ _|exact ZA _ _ _ _|(refine le_if ?_ ?_)|(refine ZB ?_ fun _=>?_)|(refine Zz ?_)|(refine Zx fun _=>?_))
noncomputable def ZoT (F:Nat) (b:Int):Int→Option ((Int) ⊕ (Int×Int))
 | a=>
  fbind (cNz a) fun _=>
  bif !eqi (Int.tmod b a) (0) then
   some (.inl (cw (a+1)))
  else
   lpF F (ZpQ F a) (0,b)
theorem Zyt {F:Nat} (a:Int)  (s_:_):Le (ZoT F a s_) (Zk7 a s_):=by
 unfold ZoT Zk7
 try simp only [←cw_ok,←Zv,←Zy,←Zp,←Zm,←Zo,←ZC,←Zw,GT.gt,GE.ge]
 repeat' (with_reducible first|exact Le.rfl|assumption|exact ZEA _ _|exact ZD _ _ _|exact ZA _ _ _ _|(refine le_if ?_ ?_)|(refine ZB ?_ fun _=>?_)|(refine Zz ?_)|(refine Zx fun _=>?_))
noncomputable def Zlj (F:Nat) (a:Int):Option (Int×Int):=
 fbind (ZcN F a 2 64) fun r8=>
 bif !r8 then
  some ((0,0))
 else
  lpF F (ZoT F a) (2)
theorem Zn {F:Nat} (a:Int)  :Le (Zlj F a) (ZbF a):=by
 unfold Zlj ZbF
 try simp only [←cw_ok,←Zv,←Zy,←Zp,←Zm,←Zo,←ZC,←Zw,GT.gt,GE.ge]
 repeat' (with_reducible first|exact Le.rfl|assumption|exact ZlP _ _ _|exact Zyt _ _|exact ZD _ _ _|exact ZA _ _ _ _|(refine le_if ?_ ?_)|(refine ZB ?_ fun _=>?_)|(refine Zz ?_)|(refine Zx fun _=>?_))
noncomputable def Zqt (F:Nat) (p1:Int):Int×Int×List Int→Option ((Int×Int×List Int) ⊕ (List Int))
 | (a,b,c)=>
  bif lti (0) (b) then
   fbind (cNz p1) fun _=>
   fbind (cApp 8 c [Int.tmod a p1]) fun e=>
   fbind (cNz p1) fun _=>
   some (.inl (cw (Int.tdiv a p1),cw (b-1),e))
  else
   some (.inr (c))
theorem Zxp {F:Nat} (p1:Int)  (s_:_):Le (Zqt F p1 s_) (Zc1 p1 s_):=by
 obtain ⟨a,b,c⟩:=s_
 unfold Zqt Zc1
 try simp only [←cw_ok,←Zv,←Zy,←Zp,←Zm,←Zo,←ZC,←Zw,GT.gt,GE.ge]
 repeat' (with_reducible first|exact Le.rfl|assumption|exact ZD _ _ _|exact ZA _ _ _ _|(refine le_if ?_ ?_)|(refine ZB ?_ fun _=>?_)|(refine Zz ?_)|(refine Zx fun _=>?_))
noncomputable def Zj6 (F:Nat) (a p1 n2:Int):Option (List Int):=
 lpF F (Zqt F p1) (a,n2,([]:List Int))
theorem Zt2 {F:Nat} (a p1 n2:Int)  :Le (Zj6 F a p1 n2) (Zbd a p1 n2):=by
 unfold Zj6 Zbd
 try simp only [←cw_ok,←Zv,←Zy,←Zp,←Zm,←Zo,←ZC,←Zw,GT.gt,GE.ge]
 repeat' (with_reducible first|exact Le.rfl|assumption|exact Zxp _ _|exact ZD _ _ _|exact ZA _ _ _ _|(refine le_if ?_ ?_)|(refine ZB ?_ fun _=>?_)|(refine Zz ?_)|(refine Zx fun _=>?_))
noncomputable def Zpe (F:Nat) (c:Int):Int×Int→Option ((Int×Int) ⊕ (Int))
 | (a,b)=>
  bif lti (0) (a) then
   some (.inl (cw (a-1),cw (b*c)))
  else
   some (.inr (b))
theorem ZF0 {F:Nat} (a:Int)  (s_:_):Le (Zpe F a s_) (Zlt a s_):=by
 obtain ⟨b,c⟩:=s_
 unfold Zpe Zlt
 try simp only [←cw_ok,←Zv,←Zy,←Zp,←Zm,←Zo,←ZC,←Zw,GT.gt,GE.ge]
 repeat' (with_reducible first|exact Le.rfl|assumption|exact ZD _ _ _|exact ZA _ _ _ _|(refine le_if ?_ ?_)|(refine ZB ?_ fun _=>?_)|(refine Zz ?_)|(refine Zx fun _=>?_))
noncomputable def Zjn (F:Nat) (a k1:Int):Option Int:=
 lpF F (Zpe F a) (k1,1)
theorem Zoj {F:Nat} (a k1:Int)  :Le (Zjn F a k1) (Zen a k1):=by
 unfold Zjn Zen
 try simp only [←cw_ok,←Zv,←Zy,←Zp,←Zm,←Zo,←ZC,←Zw,GT.gt,GE.ge]
 repeat' (with_reducible first|exact Le.rfl|assumption|exact ZF0 _ _|exact ZD _ _ _|exact ZA _ _ _ _|(refine le_if ?_ ?_)|(refine ZB ?_ fun _=>?_)|(refine Zz ?_)|(refine Zx fun _=>?_))
noncomputable def ZnH (F:Nat) (a:List Int):Option (List Int):=
 fbind (cApp 8 ([]:List Int) a) fun b=>
 some (b)
theorem Zu4 {F:Nat} (a:List Int)  :Le (ZnH F a) (Zbl a):=by
 unfold ZnH Zbl
 try simp only [←cw_ok,←Zv,←Zy,←Zp,←Zm,←Zo,←ZC,←Zw,GT.gt,GE.ge]
 repeat' (with_reducible first|exact Le.rfl|assumption|exact ZD _ _ _|exact ZA _ _ _ _|(refine le_if ?_ ?_)|(refine ZB ?_ fun _=>?_)|(refine Zz ?_)|(refine Zx fun _=>?_))
noncomputable def Zp9 (F:Nat) (c:List Int) (f e g:Int):Int×List Int→Option ((Int×List Int) ⊕ ((Int×List Int) ⊕ (List Int)))
 | (a,b)=>
  bif lti (a) ((c.length:Int)) then
   fbind (cIdx b (cw ((cw ((cw (e-(c.length:Int)))+1))+a))) fun h=>
   fbind (cIdx c a) fun i=>
   fbind (cNz f) fun _=>
   fbind (cIdx b (cw ((cw ((cw (e-(c.length:Int)))+1))+a))) fun j=>
   some (.inl (cw (a+1),(b.set (cw ((cw ((cw (e-(c.length:Int)))+1))+a):Int).toNat (Int.tmod (cw (h+(cw ((cw (f-g))*i)))) f))))
  else
   some (.inr (.inl (cw (e-1),b)))
theorem ZEj {F:Nat} (b:List Int) (c e a:Int)  (s_:_):Le (Zp9 F b c e a s_) (Zd7 b c e a s_):=by
 obtain ⟨g,f⟩:=s_
 unfold Zp9 Zd7
 try simp only [←cw_ok,←Zv,←Zy,←Zp,←Zm,←Zo,←ZC,←Zw,GT.gt,GE.ge]
 repeat' (with_reducible first|exact Le.rfl|assumption|exact ZD _ _ _|exact ZA _ _ _ _|(refine le_if ?_ ?_)|(refine ZB ?_ fun _=>?_)|(refine Zz ?_)|(refine Zx fun _=>?_))
noncomputable def ZqN (F:Nat) (b:List Int):List Int→Option ((List Int) ⊕ ((Int×List Int) ⊕ (List Int)))
 | y7=>
  bif lei ((b.length:Int)) ((y7.length:Int)) then
   fbind (cSl y7 0 (cw ((y7.length:Int)-1))) fun a=>
   some (.inl (a))
  else
   some (.inr (.inr (y7)))
theorem Zyx {F:Nat} (a:List Int)  (s_:_):Le (ZqN F a s_) (Zcu a s_):=by
 unfold ZqN Zcu
 try simp only [←cw_ok,←Zv,←Zy,←Zp,←Zm,←Zo,←ZC,←Zw,GT.gt,GE.ge]
 repeat' (with_reducible first|exact Le.rfl|assumption|exact ZD _ _ _|exact ZA _ _ _ _|(refine le_if ?_ ?_)|(refine ZB ?_ fun _=>?_)|(refine Zz ?_)|(refine Zx fun _=>?_))
noncomputable def Zo8 (F:Nat) (a:List Int) (e:Int):Int×List Int→Option ((Int×List Int) ⊕ (List Int))
 | (b,xs)=>
  bif lei ((cw ((a.length:Int)-1))) (b) then
   fbind (cIdx xs b) fun c=>
   lpF F (Zp9 F a e b c) (0,xs)
  else
   lpF F (ZqN F a) (xs)
theorem ZAT {F:Nat} (a:List Int) (b:Int)  (s_:_):Le (Zo8 F a b s_) (Zbu a b s_):=by
 obtain ⟨c,xs⟩:=s_
 unfold Zo8 Zbu
 try simp only [←cw_ok,←Zv,←Zy,←Zp,←Zm,←Zo,←ZC,←Zw,GT.gt,GE.ge]
 repeat' (with_reducible first|exact Le.rfl|assumption|exact ZEj _ _ _ _ _|exact Zyx _ _|exact ZD _ _ _|exact ZA _ _ _ _|(refine le_if ?_ ?_)|(refine ZB ?_ fun _=>?_)|(refine Zz ?_)|(refine Zx fun _=>?_))
noncomputable def ZmZ (F:Nat) (b c:List Int) (e:Int):Option (List Int):=
 fbind (ZnH F b) fun a=>
 lpF F (Zo8 F c e) (cw ((a.length:Int)-1),a)
theorem ZzG {F:Nat} (a b:List Int) (c:Int)  :Le (ZmZ F a b c) (ZcV a b c):=by
 unfold ZmZ ZcV
 try simp only [←cw_ok,←Zv,←Zy,←Zp,←Zm,←Zo,←ZC,←Zw,GT.gt,GE.ge]
 repeat' (with_reducible first|exact Le.rfl|assumption|exact Zu4 _|exact ZAT _ _ _|exact ZD _ _ _|exact ZA _ _ _ _|(refine le_if ?_ ?_)|(refine ZB ?_ fun _=>?_)|(refine Zz ?_)|(refine Zx fun _=>?_))
noncomputable def Zqu (F:Nat) (b:List Int) (p1:Int):Int×Int→Option ((Int×Int) ⊕ (Int))
 | (a,c)=>
  bif lei (0) (c) then
   fbind (cIdx b c) fun e=>
   some (.inl (cw ((cw (a*p1))+e),cw (c-1)))
  else
   some (.inr (a))
theorem ZFm {F:Nat} (a:List Int) (p1:Int)  (s_:_):Le (Zqu F a p1 s_) (ZeJ a p1 s_):=by
 obtain ⟨b,c⟩:=s_
 unfold Zqu ZeJ
 try simp only [←cw_ok,←Zv,←Zy,←Zp,←Zm,←Zo,←ZC,←Zw,GT.gt,GE.ge]
 repeat' (with_reducible first|exact Le.rfl|assumption|exact ZD _ _ _|exact ZA _ _ _ _|(refine le_if ?_ ?_)|(refine ZB ?_ fun _=>?_)|(refine Zz ?_)|(refine Zx fun _=>?_))
noncomputable def Zqe (F:Nat) (a:List Int) (p1:Int):Option Int:=
 lpF F (Zqu F a p1) (0,cw ((a.length:Int)-1))
theorem ZzZ {F:Nat} (a:List Int) (p1:Int)  :Le (Zqe F a p1) (Zbe a p1):=by
 unfold Zqe Zbe
 try simp only [←cw_ok,←Zv,←Zy,←Zp,←Zm,←Zo,←ZC,←Zw,GT.gt,GE.ge]
 repeat' (with_reducible first|exact Le.rfl|assumption|exact ZFm _ _ _|exact ZD _ _ _|exact ZA _ _ _ _|(refine le_if ?_ ?_)|(refine ZB ?_ fun _=>?_)|(refine Zz ?_)|(refine Zx fun _=>?_))
noncomputable def ZoR (F:Nat) (a:List Int) (p1 b:Int):Int→Option ((Int) ⊕ ((Int) ⊕ (Bool)))
 | c=>
  fbind (Zjn F p1 b) fun e=>
  bif lti (c) (e) then
   fbind (Zj6 F c p1 b) fun f=>
   fbind (cApp 8 f [1]) fun g=>
   fbind (ZmZ F a g p1) fun h=>
   fbind (Zqe F h p1) fun i=>
   bif eqi (i) (0) then
    some (.inr (.inr (false)))
   else
    some (.inl (cw (c+1)))
  else
   some (.inr (.inl (cw (b+1))))
theorem ZBI {F:Nat} (a:List Int) (p1 b:Int)  (s_:_):Le (ZoR F a p1 b s_) (Zl2 a p1 b s_):=by
 unfold ZoR Zl2
 try simp only [←cw_ok,←Zv,←Zy,←Zp,←Zm,←Zo,←ZC,←Zw,GT.gt,GE.ge]
 repeat' (with_reducible first|exact Le.rfl|assumption|exact Zoj _ _|exact Zt2 _ _ _|exact ZzG _ _ _|exact ZzZ _ _|exact ZD _ _ _|exact ZA _ _ _ _|(refine le_if ?_ ?_)|(refine ZB ?_ fun _=>?_)|(refine Zz ?_)|(refine Zx fun _=>?_))
noncomputable def ZoF (F:Nat) (a:List Int) (p1:Int):Int→Option ((Int) ⊕ (Bool))
 | b=>
  bif lei (cw (2*b)) ((cw ((a.length:Int)-1))) then
   lpF F (ZoR F a p1 b) (0)
  else
   some (.inr (true))
theorem ZBp {F:Nat} (a:List Int) (p1:Int)  (s_:_):Le (ZoF F a p1 s_) (ZlL a p1 s_):=by
 unfold ZoF ZlL
 try simp only [←cw_ok,←Zv,←Zy,←Zp,←Zm,←Zo,←ZC,←Zw,GT.gt,GE.ge]
 repeat' (with_reducible first|exact Le.rfl|assumption|exact ZBI _ _ _ _|exact ZD _ _ _|exact ZA _ _ _ _|(refine le_if ?_ ?_)|(refine ZB ?_ fun _=>?_)|(refine Zz ?_)|(refine Zx fun _=>?_))
noncomputable def ZlD (F:Nat) (a:List Int) (p1:Int):Option Bool:=
 lpF F (ZoF F a p1) (1)
theorem Zq6 {F:Nat} (a:List Int) (p1:Int)  :Le (ZlD F a p1) (Zgw a p1):=by
 unfold ZlD Zgw
 try simp only [←cw_ok,←Zv,←Zy,←Zp,←Zm,←Zo,←ZC,←Zw,GT.gt,GE.ge]
 repeat' (with_reducible first|exact Le.rfl|assumption|exact ZBp _ _ _|exact ZD _ _ _|exact ZA _ _ _ _|(refine le_if ?_ ?_)|(refine ZB ?_ fun _=>?_)|(refine Zz ?_)|(refine Zx fun _=>?_))
noncomputable def Zmq (F:Nat) (a:Int×Int):Int→Option ((Int) ⊕ (Zd))
 | c=>
  fbind (Zj6 F c a.1 a.2) fun e=>
  fbind (cApp 8 e [1]) fun b=>
  fbind (ZlD F b a.1) fun f=>
  bif f then
   some (.inr ((Zd.mk a.1 a.2 b)))
  else
   some (.inl (cw (c+1)))
theorem ZBa {F:Nat} (a:Int×Int)  (s_:_):Le (Zmq F a s_) (Zlr a s_):=by
 unfold Zmq Zlr
 try simp only [←cw_ok,←Zv,←Zy,←Zp,←Zm,←Zo,←ZC,←Zw,GT.gt,GE.ge]
 repeat' (with_reducible first|exact Le.rfl|assumption|exact Zt2 _ _ _|exact Zq6 _ _|exact ZD _ _ _|exact ZA _ _ _ _|(refine le_if ?_ ?_)|(refine ZB ?_ fun _=>?_)|(refine Zz ?_)|(refine Zx fun _=>?_))
noncomputable def Zq3 (F:Nat) (a:Int):Option Zd:=
 fbind (Zlj F a) fun b=>
 lpF F (Zmq F b) (0)
theorem Z7 {F:Nat} (a:Int)  :Le (Zq3 F a) (Zfo a):=by
 unfold Zq3 Zfo
 try simp only [←cw_ok,←Zv,←Zy,←Zp,←Zm,←Zo,←ZC,←Zw,GT.gt,GE.ge]
 repeat' (with_reducible first|exact Le.rfl|assumption|exact Zn _|exact ZBa _ _|exact ZD _ _ _|exact ZA _ _ _ _|(refine le_if ?_ ?_)|(refine ZB ?_ fun _=>?_)|(refine Zz ?_)|(refine Zx fun _=>?_))
noncomputable def Zou (F:Nat) (b:Zd) (a:Int×Int):Int→Option ((Int) ⊕ (Bool))
 | c=>
  bif lti (c) ((b.Poly.length:Int)) then
   fbind (cIdx b.Poly c) fun e=>
   fbind (ZcN F e 0 (cw (a.1-1))) fun f=>
   bif !f then
    some (.inr (false))
   else
    some (.inl (cw (c+1)))
  else
   fbind (ZlD F b.Poly a.1) fun g=>
   some (.inr (g))
theorem Zyo {F:Nat} (b:Zd) (a:Int×Int)  (s_:_):Le (Zou F b a s_) (Zlp b a s_):=by
 unfold Zou Zlp
 try simp only [←cw_ok,←Zv,←Zy,←Zp,←Zm,←Zo,←ZC,←Zw,GT.gt,GE.ge]
 repeat' (with_reducible first|exact Le.rfl|assumption|exact ZlP _ _ _|exact Zq6 _ _|exact ZD _ _ _|exact ZA _ _ _ _|(refine le_if ?_ ?_)|(refine ZB ?_ fun _=>?_)|(refine Zz ?_)|(refine Zx fun _=>?_))
noncomputable def ZoO (F:Nat) (a:Zd):Option (Bool):=
 fbind (Zjn F a.Prime a.Degree) fun c=>
 fbind (Zlj F c) fun b=>
 bif !eqi (b.1) (a.Prime) then
  some (false)
 else
  lpF F (Zou F a b) (0)
theorem ZDS {F:Nat} (a:Zd)  :Le (ZoO F a) (Zjp a):=by
 unfold ZoO Zjp
 try simp only [←cw_ok,←Zv,←Zy,←Zp,←Zm,←Zo,←ZC,←Zw,GT.gt,GE.ge]
 repeat' (with_reducible first|exact Le.rfl|assumption|exact Zoj _ _|exact Zn _|exact Zyo _ _ _|exact ZD _ _ _|exact ZA _ _ _ _|(refine le_if ?_ ?_)|(refine ZB ?_ fun _=>?_)|(refine Zz ?_)|(refine Zx fun _=>?_))
noncomputable def ZtG (F:Nat) (a:Zd):Option Bool:=
 fbind (ZcN F a.Prime 2 64) fun b=>
 bif !b then
  some (false)
 else
  fbind (ZcN F a.Degree 1 6) fun c=>
  bif !c then
   some (false)
  else
   bif !eqi ((a.Poly.length:Int)) ((cw (a.Degree+1))) then
    some (false)
   else
    fbind (cIdx a.Poly a.Degree) fun e=>
    bif !eqi (e) (1) then
     some (false)
    else
     ZoO F a
theorem Z8 {F:Nat} (a:Zd)  :Le (ZtG F a) (Zgi a):=by
 unfold ZtG Zgi
 try simp only [←cw_ok,←Zv,←Zy,←Zp,←Zm,←Zo,←ZC,←Zw,GT.gt,GE.ge]
 repeat' (with_reducible first|exact Le.rfl|assumption|exact ZlP _ _ _|exact ZDS _|exact ZD _ _ _|exact ZA _ _ _ _|(refine le_if ?_ ?_)|(refine ZB ?_ fun _=>?_)|(refine Zz ?_)|(refine Zx fun _=>?_))
noncomputable def ZtI (F:Nat) (a:Zd):Option Int:=
 fbind (Zjn F a.Prime a.Degree) fun b=>
 some (b)
theorem Z9 {F:Nat} (a:Zd)  :Le (ZtI F a) (Zbk a):=by
 unfold ZtI Zbk
 try simp only [←cw_ok,←Zv,←Zy,←Zp,←Zm,←Zo,←ZC,←Zw,GT.gt,GE.ge]
 repeat' (with_reducible first|exact Le.rfl|assumption|exact Zoj _ _|exact ZD _ _ _|exact ZA _ _ _ _|(refine le_if ?_ ?_)|(refine ZB ?_ fun _=>?_)|(refine Zz ?_)|(refine Zx fun _=>?_))
noncomputable def ZmW (F:Nat) (b c:Int):Int×Int→Option ((Int×Int) ⊕ (Int))
 | (a,e)=>
  bif lti (e) (c) then
   bif lti (256) (cw (a*b)) then
    some (.inr (257))
   else
    some (.inl (cw (a*b),cw (e+1)))
  else
   some (.inr (a))
theorem ZEb {F:Nat} (a b:Int)  (s_:_):Le (ZmW F a b s_) (ZkJ a b s_):=by
 obtain ⟨c,e⟩:=s_
 unfold ZmW ZkJ
 try simp only [←cw_ok,←Zv,←Zy,←Zp,←Zm,←Zo,←ZC,←Zw,GT.gt,GE.ge]
 repeat' (with_reducible first|exact Le.rfl|assumption|exact ZD _ _ _|exact ZA _ _ _ _|(refine le_if ?_ ?_)|(refine ZB ?_ fun _=>?_)|(refine Zz ?_)|(refine Zx fun _=>?_))
noncomputable def Zkf (F:Nat) (a b:Int):Option Int:=
 lpF F (ZmW F a b) (1,0)
theorem Zss {F:Nat} (a b:Int)  :Le (Zkf F a b) (ZdL a b):=by
 unfold Zkf ZdL
 try simp only [←cw_ok,←Zv,←Zy,←Zp,←Zm,←Zo,←ZC,←Zw,GT.gt,GE.ge]
 repeat' (with_reducible first|exact Le.rfl|assumption|exact ZEb _ _ _|exact ZD _ _ _|exact ZA _ _ _ _|(refine le_if ?_ ?_)|(refine ZB ?_ fun _=>?_)|(refine Zz ?_)|(refine Zx fun _=>?_))
noncomputable def Zm7 (F:Nat) (n0 k1:Int):Int×Int→Option ((Int×Int) ⊕ (Int))
 | (a,b)=>
  bif lei (b) (k1) then
   fbind (cNz b) fun _=>
   some (.inl (cw (Int.tdiv (cw (a*(cw ((cw (n0-k1))+b)))) b),cw (b+1)))
  else
   some (.inr (a))
theorem ZvA {F:Nat} (n0 k1:Int)  (s_:_):Le (Zm7 F n0 k1 s_) (Zlo n0 k1 s_):=by
 obtain ⟨a,b⟩:=s_
 unfold Zm7 Zlo
 try simp only [←cw_ok,←Zv,←Zy,←Zp,←Zm,←Zo,←ZC,←Zw,GT.gt,GE.ge]
 repeat' (with_reducible first|exact Le.rfl|assumption|exact ZD _ _ _|exact ZA _ _ _ _|(refine le_if ?_ ?_)|(refine ZB ?_ fun _=>?_)|(refine Zz ?_)|(refine Zx fun _=>?_))
noncomputable def Zpo (F:Nat) (n0 k1:Int):Option (Int):=
 lpF F (Zm7 F n0 k1) (1,1)
theorem Zz8 {F:Nat} (n0 k1:Int)  :Le (Zpo F n0 k1) (Zjy n0 k1):=by
 unfold Zpo Zjy
 try simp only [←cw_ok,←Zv,←Zy,←Zp,←Zm,←Zo,←ZC,←Zw,GT.gt,GE.ge]
 repeat' (with_reducible first|exact Le.rfl|assumption|exact ZvA _ _ _|exact ZD _ _ _|exact ZA _ _ _ _|(refine le_if ?_ ?_)|(refine ZB ?_ fun _=>?_)|(refine Zz ?_)|(refine Zx fun _=>?_))
noncomputable def Zni (F:Nat) (n0 k1:Int):Option Int:=
 fbind (ZcN F n0 0 32) fun r8=>
 bif !r8 then
  some (0)
 else
  fbind (ZcN F k1 0 n0) fun a=>
  bif !a then
   some (0)
  else
   Zpo F n0 k1
theorem ZBT {F:Nat} (n0 k1:Int)  :Le (Zni F n0 k1) (Zcz n0 k1):=by
 unfold Zni Zcz
 try simp only [←cw_ok,←Zv,←Zy,←Zp,←Zm,←Zo,←ZC,←Zw,GT.gt,GE.ge]
 repeat' (with_reducible first|exact Le.rfl|assumption|exact ZlP _ _ _|exact Zz8 _ _|exact ZD _ _ _|exact ZA _ _ _ _|(refine le_if ?_ ?_)|(refine ZB ?_ fun _=>?_)|(refine Zz ?_)|(refine Zx fun _=>?_))
noncomputable def ZmL (F:Nat) (a:List Int):Option (List Int):=cApp 8 [] a
theorem ZzV {F:Nat} (a:List Int)  :Le (ZmL F a) (Zbc a):=by
 unfold ZmL Zbc
 try simp only [←cw_ok,←Zv,←Zy,←Zp,←Zm,←Zo,←ZC,←Zw,GT.gt,GE.ge]
 repeat' (with_reducible first|exact Le.rfl|assumption|exact ZD _ _ _|exact ZA _ _ _ _|(refine le_if ?_ ?_)|(refine ZB ?_ fun _=>?_)|(refine Zz ?_)|(refine Zx fun _=>?_))
noncomputable def ZhS (F:Nat) (a:List Int):Option Int:=
 some ((a.length:Int))
theorem Zmh {F:Nat} (a:List Int)  :Le (ZhS F a) (ZH a):=by
 unfold ZhS ZH
 try simp only [←cw_ok,←Zv,←Zy,←Zp,←Zm,←Zo,←ZC,←Zw,GT.gt,GE.ge]
 repeat' (with_reducible first|exact Le.rfl|assumption|exact ZD _ _ _|exact ZA _ _ _ _|(refine le_if ?_ ?_)|(refine ZB ?_ fun _=>?_)|(refine Zz ?_)|(refine Zx fun _=>?_))
noncomputable def ZlQ (F:Nat) (n0 b a:Int):Option Bool:=
 bif lei (b) (n0) then
  some (lei (n0) (a))
 else
  some (false)
theorem ZtA {F:Nat} (n0 b a:Int)  :Le (ZlQ F n0 b a) (Z2 n0 b a):=by
 unfold ZlQ Z2
 try simp only [←cw_ok,←Zv,←Zy,←Zp,←Zm,←Zo,←ZC,←Zw,GT.gt,GE.ge]
 repeat' (with_reducible first|exact Le.rfl|assumption|exact ZD _ _ _|exact ZA _ _ _ _|(refine le_if ?_ ?_)|(refine ZB ?_ fun _=>?_)|(refine Zz ?_)|(refine Zx fun _=>?_))
noncomputable def Zma (F:Nat) (b:List Int) (c:Int→Option Bool):Int→Option ((Int) ⊕ (Int))
 | a=>
  bif lti (a) ((b.length:Int)) then
   fbind (cIdx b a) fun e=>
   fbind (c e) fun f=>
   bif f then
    some (.inr (a))
   else
    some (.inl (cw (a+1)))
  else
   some (.inr ((-1)))
theorem ZxU {F:Nat} (c:List Int) (a fn1':Int→Option Bool) (b:∀ e,Le (a e) (fn1' e)) (s_:_):Le (Zma F c a s_) (Zet c fn1' s_):=by
 unfold Zma Zet
 try simp only [←cw_ok,←Zv,←Zy,←Zp,←Zm,←Zo,←ZC,←Zw,GT.gt,GE.ge]
 repeat' (with_reducible first|exact Le.rfl|assumption|exact ZD _ _ _|exact ZA _ _ _ _|(refine le_if ?_ ?_)|(refine ZB ?_ fun _=>?_)|(refine Zz ?_)|(refine Zx fun _=>?_))
 all_goals (first|exact b _|skip)
noncomputable def ZnI (F:Nat) (b:List Int) (a:Int→Option Bool):Option Int:=
 lpF F (Zma F b a) (0)
theorem ZCR {F:Nat} (c:List Int) (a fn1':Int→Option Bool) (b:∀ e,Le (a e) (fn1' e)):Le (ZnI F c a) (Zie c fn1'):=by
 unfold ZnI Zie
 try simp only [←cw_ok,←Zv,←Zy,←Zp,←Zm,←Zo,←ZC,←Zw,GT.gt,GE.ge]
 repeat' (with_reducible first|exact Le.rfl|assumption|(refine ZxU _ _ _ ?_ _;intros)|exact ZD _ _ _|exact ZA _ _ _ _|(refine le_if ?_ ?_)|(refine ZB ?_ fun _=>?_)|(refine Zz ?_)|(refine Zx fun _=>?_))
 all_goals (first|exact b _|skip)
noncomputable def ZnD (F:Nat) (b:List Int) (a:Int→Option Bool):Option Bool:=
 fbind (ZnI F b a) fun c=>
 some (lei (0) (c))
theorem ZEi {F:Nat} (c:List Int) (a fn1':Int→Option Bool) (b:∀ e,Le (a e) (fn1' e)):Le (ZnD F c a) (ZaU c fn1'):=by
 unfold ZnD ZaU
 try simp only [←cw_ok,←Zv,←Zy,←Zp,←Zm,←Zo,←ZC,←Zw,GT.gt,GE.ge]
 repeat' (with_reducible first|exact Le.rfl|assumption|(refine ZCR _ _ _ ?_;intros)|exact ZD _ _ _|exact ZA _ _ _ _|(refine le_if ?_ ?_)|(refine ZB ?_ fun _=>?_)|(refine Zz ?_)|(refine Zx fun _=>?_))
 all_goals (first|exact b _|skip)
noncomputable def ZnO (F:Nat) (a b power7:Int):Option ((Int×Int) ⊕ (Int)):=
 some (.inl (cw (b-1),cw (power7*a)))
theorem ZEU {F:Nat} (a b power7:Int)  :Le (ZnO F a b power7) (ZeV a b power7):=by
 unfold ZnO ZeV
 try simp only [←cw_ok,←Zv,←Zy,←Zp,←Zm,←Zo,←ZC,←Zw,GT.gt,GE.ge]
 repeat' (with_reducible first|exact Le.rfl|assumption|exact ZD _ _ _|exact ZA _ _ _ _|(refine le_if ?_ ?_)|(refine ZB ?_ fun _=>?_)|(refine Zz ?_)|(refine Zx fun _=>?_))
noncomputable def Zna (F:Nat) (b limit2:Int):Int×Int→Option ((Int×Int) ⊕ (Int))
 | (a,power7)=>
  bif lti (0) (a) then
   bif lei (power7) (limit2) then
    ZnO F b a power7
   else
    some (.inr (power7))
  else
   some (.inr (power7))
theorem ZwD {F:Nat} (a limit2:Int)  (s_:_):Le (Zna F a limit2 s_) (ZaV a limit2 s_):=by
 obtain ⟨b,power7⟩:=s_
 unfold Zna ZaV
 try simp only [←cw_ok,←Zv,←Zy,←Zp,←Zm,←Zo,←ZC,←Zw,GT.gt,GE.ge]
 repeat' (with_reducible first|exact Le.rfl|assumption|exact ZEU _ _ _|exact ZD _ _ _|exact ZA _ _ _ _|(refine le_if ?_ ?_)|(refine ZB ?_ fun _=>?_)|(refine Zz ?_)|(refine Zx fun _=>?_))
noncomputable def Zcb (F:Nat) (a b limit2:Int):Option Int:=
 lpF F (Zna F a limit2) (b,1)
theorem Zjl {F:Nat} (a b limit2:Int)  :Le (Zcb F a b limit2) (Zau a b limit2):=by
 unfold Zcb Zau
 try simp only [←cw_ok,←Zv,←Zy,←Zp,←Zm,←Zo,←ZC,←Zw,GT.gt,GE.ge]
 repeat' (with_reducible first|exact Le.rfl|assumption|exact ZwD _ _ _|exact ZD _ _ _|exact ZA _ _ _ _|(refine le_if ?_ ?_)|(refine ZB ?_ fun _=>?_)|(refine Zz ?_)|(refine Zx fun _=>?_))
noncomputable def Zum (F:Nat) (a:Zd):Option Int:=
 fbind (Zcb F a.Prime a.Degree 64) fun b=>
 some (b)
theorem Zaa {F:Nat} (a:Zd)  :Le (Zum F a) (Zby a):=by
 unfold Zum Zby
 try simp only [←cw_ok,←Zv,←Zy,←Zp,←Zm,←Zo,←ZC,←Zw,GT.gt,GE.ge]
 repeat' (with_reducible first|exact Le.rfl|assumption|exact Zjl _ _ _|exact ZD _ _ _|exact ZA _ _ _ _|(refine le_if ?_ ?_)|(refine ZB ?_ fun _=>?_)|(refine Zz ?_)|(refine Zx fun _=>?_))
noncomputable def Zm0 (F:Nat) (a:Int) (e:List Int):Int×Int×List Int→Option ((Int×Int×List Int) ⊕ (List Int))
 | (c,b,xs)=>
  bif lti (b) ((e.length:Int)) then
   fbind (cNz a) fun _=>
   fbind (cIdx xs b) fun f=>
   fbind (cNz a) fun _=>
   some (.inl (cw (Int.tdiv c a),cw (b+1),(xs.set (b:Int).toNat (Int.tmod c a))))
  else
   some (.inr (xs))
theorem Zy7 {F:Nat} (a:Int) (b:List Int)  (s_:_):Le (Zm0 F a b s_) (Zca a b s_):=by
 obtain ⟨c,e,xs⟩:=s_
 unfold Zm0 Zca
 try simp only [←cw_ok,←Zv,←Zy,←Zp,←Zm,←Zo,←ZC,←Zw,GT.gt,GE.ge]
 repeat' (with_reducible first|exact Le.rfl|assumption|exact ZD _ _ _|exact ZA _ _ _ _|(refine le_if ?_ ?_)|(refine ZB ?_ fun _=>?_)|(refine Zz ?_)|(refine Zx fun _=>?_))
noncomputable def ZiM (F:Nat) (n0 a count2:Int):Option (List Int):=
 fbind (cMake 8 (0:Int) count2 count2) fun b=>
 lpF F (Zm0 F a b) (n0,0,b)
theorem ZrF {F:Nat} (n0 a count2:Int)  :Le (ZiM F n0 a count2) (ZaR n0 a count2):=by
 unfold ZiM ZaR
 try simp only [←cw_ok,←Zv,←Zy,←Zp,←Zm,←Zo,←ZC,←Zw,GT.gt,GE.ge]
 repeat' (with_reducible first|exact Le.rfl|assumption|exact Zy7 _ _ _|exact ZD _ _ _|exact ZA _ _ _ _|(refine le_if ?_ ?_)|(refine ZB ?_ fun _=>?_)|(refine Zz ?_)|(refine Zx fun _=>?_))
noncomputable def ZpZ (F:Nat) (c:List Int) (e f g:Int):Int×List Int→Option ((Int×List Int) ⊕ ((Int×List Int) ⊕ (List Int)))
 | (a,b)=>
  bif lti (a) ((c.length:Int)) then
   fbind (cIdx c a) fun h=>
   fbind (cIdx b (cw ((cw (f-(cw ((c.length:Int)-1))))+a))) fun i=>
   fbind (cNz e) fun _=>
   fbind (cNz e) fun _=>
   fbind (cIdx b (cw ((cw (f-(cw ((c.length:Int)-1))))+a))) fun j=>
   some (.inl (cw (a+1),(b.set (cw ((cw (f-(cw ((c.length:Int)-1))))+a):Int).toNat (Int.tmod (cw ((Int.tmod (cw (i-(cw (g*h)))) e)+e)) e))))
  else
   some (.inr (.inl (cw (f-1),b)))
theorem ZCA {F:Nat} (b:List Int) (c e a:Int)  (s_:_):Le (ZpZ F b c e a s_) (Zd1 b c e a s_):=by
 obtain ⟨g,f⟩:=s_
 unfold ZpZ Zd1
 try simp only [←cw_ok,←Zv,←Zy,←Zp,←Zm,←Zo,←ZC,←Zw,GT.gt,GE.ge]
 repeat' (with_reducible first|exact Le.rfl|assumption|exact ZD _ _ _|exact ZA _ _ _ _|(refine le_if ?_ ?_)|(refine ZB ?_ fun _=>?_)|(refine Zz ?_)|(refine Zx fun _=>?_))
noncomputable def Zov (F:Nat) (a:List Int) (f:Int):Int×List Int→Option ((Int×List Int) ⊕ (List Int))
 | (b,xs)=>
  bif lei ((cw ((a.length:Int)-1))) (b) then
   fbind (cIdx xs b) fun c=>
   lpF F (ZpZ F a f b c) (0,xs)
  else
   fbind (cSl xs 0 (if ((xs.length:Int):Int)<(cw ((a.length:Int)-1)) then (xs.length:Int) else cw ((a.length:Int)-1))) fun e=>
   some (.inr (e))
theorem ZwV {F:Nat} (a:List Int) (b:Int)  (s_:_):Le (Zov F a b s_) (Zbj a b s_):=by
 obtain ⟨c,xs⟩:=s_
 unfold Zov Zbj
 try simp only [←cw_ok,←Zv,←Zy,←Zp,←Zm,←Zo,←ZC,←Zw,GT.gt,GE.ge]
 repeat' (with_reducible first|exact Le.rfl|assumption|exact ZCA _ _ _ _ _|exact ZD _ _ _|exact ZA _ _ _ _|(refine le_if ?_ ?_)|(refine ZB ?_ fun _=>?_)|(refine Zz ?_)|(refine Zx fun _=>?_))
noncomputable def ZpB (F:Nat) (b c:List Int) (e:Int):Option (List Int):=
 fbind (ZmL F b) fun a=>
 lpF F (Zov F c e) (cw ((a.length:Int)-1),a)
theorem Zxn {F:Nat} (a b:List Int) (c:Int)  :Le (ZpB F a b c) (ZcU a b c):=by
 unfold ZpB ZcU
 try simp only [←cw_ok,←Zv,←Zy,←Zp,←Zm,←Zo,←ZC,←Zw,GT.gt,GE.ge]
 repeat' (with_reducible first|exact Le.rfl|assumption|exact ZzV _|exact ZwV _ _ _|exact ZD _ _ _|exact ZA _ _ _ _|(refine le_if ?_ ?_)|(refine ZB ?_ fun _=>?_)|(refine Zz ?_)|(refine Zx fun _=>?_))
noncomputable def Zqv (F:Nat) (a:Int):Option Bool:=
 some (!eqi (a) (0))
theorem ZDY {F:Nat} (a:Int)  :Le (Zqv F a) (Zhb a):=by
 unfold Zqv Zhb
 try simp only [←cw_ok,←Zv,←Zy,←Zp,←Zm,←Zo,←ZC,←Zw,GT.gt,GE.ge]
 repeat' (with_reducible first|exact Le.rfl|assumption|exact ZD _ _ _|exact ZA _ _ _ _|(refine le_if ?_ ?_)|(refine ZB ?_ fun _=>?_)|(refine Zz ?_)|(refine Zx fun _=>?_))
noncomputable def ZqS (F:Nat) (a:List Int):Option Bool:=
 fbind (ZnD F a (fun b=>Zqv F b)) fun c=>
 some (!c)
theorem ZDC {F:Nat} (a:List Int)  :Le (ZqS F a) (ZiI a):=by
 unfold ZqS ZiI
 try simp only [←cw_ok,←Zv,←Zy,←Zp,←Zm,←Zo,←ZC,←Zw,GT.gt,GE.ge]
 repeat' (with_reducible first|exact Le.rfl|assumption|(refine ZEi _ _ _ ?_;intros)|exact ZDY _|exact ZD _ _ _|exact ZA _ _ _ _|(refine le_if ?_ ?_)|(refine ZB ?_ fun _=>?_)|(refine Zz ?_)|(refine Zx fun _=>?_))
noncomputable def ZmO (F:Nat) (a:List Int) (p1 b:Int):Int→Option ((Int) ⊕ ((Int) ⊕ (Bool)))
 | c=>
  fbind (Zcb F p1 b 64) fun e=>
  bif lti (c) (e) then
   fbind (ZiM F c p1 b) fun f=>
   fbind (cApp 8 f [1]) fun g=>
   fbind (ZpB F a g p1) fun h=>
   fbind (ZqS F h) fun i=>
   bif i then
    some (.inr (.inr (false)))
   else
    some (.inl (cw (c+1)))
  else
   some (.inr (.inl (cw (b+1))))
theorem ZvS {F:Nat} (a:List Int) (p1 b:Int)  (s_:_):Le (ZmO F a p1 b s_) (ZkS a p1 b s_):=by
 unfold ZmO ZkS
 try simp only [←cw_ok,←Zv,←Zy,←Zp,←Zm,←Zo,←ZC,←Zw,GT.gt,GE.ge]
 repeat' (with_reducible first|exact Le.rfl|assumption|exact Zjl _ _ _|exact ZrF _ _ _|exact Zxn _ _ _|exact ZDC _|exact ZD _ _ _|exact ZA _ _ _ _|(refine le_if ?_ ?_)|(refine ZB ?_ fun _=>?_)|(refine Zz ?_)|(refine Zx fun _=>?_))
noncomputable def Zmv (F:Nat) (a:List Int) (p1 c:Int):Int→Option ((Int) ⊕ (Bool))
 | b=>
  bif lei (cw (2*b)) ((cw (c-1))) then
   lpF F (ZmO F a p1 b) (0)
  else
   some (.inr (true))
theorem Zyh {F:Nat} (a:List Int) (p1 b:Int)  (s_:_):Le (Zmv F a p1 b s_) (Zl0 a p1 b s_):=by
 unfold Zmv Zl0
 try simp only [←cw_ok,←Zv,←Zy,←Zp,←Zm,←Zo,←ZC,←Zw,GT.gt,GE.ge]
 repeat' (with_reducible first|exact Le.rfl|assumption|exact ZvS _ _ _ _|exact ZD _ _ _|exact ZA _ _ _ _|(refine le_if ?_ ?_)|(refine ZB ?_ fun _=>?_)|(refine Zz ?_)|(refine Zx fun _=>?_))
noncomputable def Zka (F:Nat) (a:List Int) (p1:Int):Option Bool:=
 fbind (ZhS F a) fun b=>
 lpF F (Zmv F a p1 b) (1)
theorem ZrO {F:Nat} (a:List Int) (p1:Int)  :Le (Zka F a p1) (ZeX a p1):=by
 unfold Zka ZeX
 try simp only [←cw_ok,←Zv,←Zy,←Zp,←Zm,←Zo,←ZC,←Zw,GT.gt,GE.ge]
 repeat' (with_reducible first|exact Le.rfl|assumption|exact Zmh _|exact Zyh _ _ _ _|exact ZD _ _ _|exact ZA _ _ _ _|(refine le_if ?_ ?_)|(refine ZB ?_ fun _=>?_)|(refine Zz ?_)|(refine Zx fun _=>?_))
noncomputable def Zmk (F:Nat) (b:Int):Int×List Int→Option ((Int×List Int) ⊕ ((Int×List Int×Int) ⊕ (List Int)))
 | (a,factor3_2)=>
  fbind (cNz b) fun _=>
  bif eqi (Int.tmod a b) (0) then
   fbind (cApp 8 factor3_2 [b]) fun c=>
   fbind (cNz b) fun _=>
   some (.inl (cw (Int.tdiv a b),c))
  else
   some (.inr (.inl (a,factor3_2,cw (b+1))))
theorem Zv6 {F:Nat} (a:Int)  (s_:_):Le (Zmk F a s_) (Zdt a s_):=by
 obtain ⟨b,factor3_2⟩:=s_
 unfold Zmk Zdt
 try simp only [←cw_ok,←Zv,←Zy,←Zp,←Zm,←Zo,←ZC,←Zw,GT.gt,GE.ge]
 repeat' (with_reducible first|exact Le.rfl|assumption|exact ZD _ _ _|exact ZA _ _ _ _|(refine le_if ?_ ?_)|(refine ZB ?_ fun _=>?_)|(refine Zz ?_)|(refine Zx fun _=>?_))
noncomputable def ZqD (F:Nat):Int×List Int×Int→Option ((Int×List Int×Int) ⊕ (List Int))
 | (a,factor3,b)=>
  bif lei (cw (b*b)) (a) then
   lpF F (Zmk F b) (a,factor3)
  else
   bif lti (1) (a) then
    fbind (cApp 8 factor3 [a]) fun c=>
    some (.inr (c))
   else
    some (.inr (factor3))
theorem ZwM {F:Nat}   (s_:_):Le (ZqD F  s_) (Zbq  s_):=by
 obtain ⟨a,factor3,b⟩:=s_
 unfold ZqD Zbq
 try simp only [←cw_ok,←Zv,←Zy,←Zp,←Zm,←Zo,←ZC,←Zw,GT.gt,GE.ge]
 repeat' (with_reducible first|exact Le.rfl|assumption|exact Zv6 _ _|exact ZD _ _ _|exact ZA _ _ _ _|(refine le_if ?_ ?_)|(refine ZB ?_ fun _=>?_)|(refine Zz ?_)|(refine Zx fun _=>?_))
noncomputable def ZlW (F:Nat) (n0:Int):Option (List Int):=
 fbind (ZlQ F n0 1 1000000) fun a=>
 bif !a then
  some (([]:List Int))
 else
  lpF F (ZqD F) (n0,([]:List Int),2)
theorem ZtW {F:Nat} (n0:Int)  :Le (ZlW F n0) (Zb4 n0):=by
 unfold ZlW Zb4
 try simp only [←cw_ok,←Zv,←Zy,←Zp,←Zm,←Zo,←ZC,←Zw,GT.gt,GE.ge]
 repeat' (with_reducible first|exact Le.rfl|assumption|exact ZtA _ _ _|exact ZwM  _|exact ZD _ _ _|exact ZA _ _ _ _|(refine le_if ?_ ?_)|(refine ZB ?_ fun _=>?_)|(refine Zz ?_)|(refine Zx fun _=>?_))
noncomputable def ZmI (F:Nat) (n0:Int):Option Bool:=
 fbind (ZlW F n0) fun a=>
 some (eqi ((a.length:Int)) (1))
theorem ZAn {F:Nat} (n0:Int)  :Le (ZmI F n0) (ZiX n0):=by
 unfold ZmI ZiX
 try simp only [←cw_ok,←Zv,←Zy,←Zp,←Zm,←Zo,←ZC,←Zw,GT.gt,GE.ge]
 repeat' (with_reducible first|exact Le.rfl|assumption|exact ZtW _|exact ZD _ _ _|exact ZA _ _ _ _|(refine le_if ?_ ?_)|(refine ZB ?_ fun _=>?_)|(refine Zz ?_)|(refine Zx fun _=>?_))
noncomputable def ZqB (F:Nat) (a:Zd):Int→Option ((Int) ⊕ (Bool))
 | b=>
  bif lti (b) ((a.Poly.length:Int)) then
   fbind (cIdx a.Poly b) fun c=>
   fbind (ZlQ F c 0 (cw (a.Prime-1))) fun e=>
   bif !e then
    some (.inr (false))
   else
    some (.inl (cw (b+1)))
  else
   fbind (Zka F a.Poly a.Prime) fun f=>
   some (.inr (f))
theorem ZwO {F:Nat} (a:Zd)  (s_:_):Le (ZqB F a s_) (Zli a s_):=by
 unfold ZqB Zli
 try simp only [←cw_ok,←Zv,←Zy,←Zp,←Zm,←Zo,←ZC,←Zw,GT.gt,GE.ge]
 repeat' (with_reducible first|exact Le.rfl|assumption|exact ZtA _ _ _|exact ZrO _ _|exact ZD _ _ _|exact ZA _ _ _ _|(refine le_if ?_ ?_)|(refine ZB ?_ fun _=>?_)|(refine Zz ?_)|(refine Zx fun _=>?_))
noncomputable def Zmw (F:Nat) (a:Zd):Option (Bool):=
 lpF F (ZqB F a) (0)
theorem ZvU {F:Nat} (a:Zd)  :Le (Zmw F a) (ZjQ a):=by
 unfold Zmw ZjQ
 try simp only [←cw_ok,←Zv,←Zy,←Zp,←Zm,←Zo,←ZC,←Zw,GT.gt,GE.ge]
 repeat' (with_reducible first|exact Le.rfl|assumption|exact ZwO _ _|exact ZD _ _ _|exact ZA _ _ _ _|(refine le_if ?_ ?_)|(refine ZB ?_ fun _=>?_)|(refine Zz ?_)|(refine Zx fun _=>?_))
noncomputable def Zmx (F:Nat) (a:Zd):Option (Bool):=
 fbind (ZhS F a.Poly) fun b=>
 bif !eqi (b) ((cw (a.Degree+1))) then
  some (false)
 else
  fbind (cIdx a.Poly a.Degree) fun c=>
  bif !eqi (c) (1) then
   some (false)
  else
   Zmw F a
theorem ZyC {F:Nat} (a:Zd)  :Le (Zmx F a) (Zjr a):=by
 unfold Zmx Zjr
 try simp only [←cw_ok,←Zv,←Zy,←Zp,←Zm,←Zo,←ZC,←Zw,GT.gt,GE.ge]
 repeat' (with_reducible first|exact Le.rfl|assumption|exact Zmh _|exact ZvU _|exact ZD _ _ _|exact ZA _ _ _ _|(refine le_if ?_ ?_)|(refine ZB ?_ fun _=>?_)|(refine Zz ?_)|(refine Zx fun _=>?_))
noncomputable def Zrg (F:Nat) (a:Zd):Option Bool:=
 fbind (ZmI F a.Prime) fun c=>
 bif !c then
  some (false)
 else
  bif lti (a.Degree) (1) then
   some (false)
  else
   fbind (Zcb F a.Prime a.Degree 64) fun b=>
   bif lti (64) (b) then
    some (false)
   else
    Zmx F a
theorem Z4 {F:Nat} (a:Zd)  :Le (Zrg F a) (Zfl a):=by
 unfold Zrg Zfl
 try simp only [←cw_ok,←Zv,←Zy,←Zp,←Zm,←Zo,←ZC,←Zw,GT.gt,GE.ge]
 repeat' (with_reducible first|exact Le.rfl|assumption|exact ZAn _|exact Zjl _ _ _|exact ZyC _|exact ZD _ _ _|exact ZA _ _ _ _|(refine le_if ?_ ?_)|(refine ZB ?_ fun _=>?_)|(refine Zz ?_)|(refine Zx fun _=>?_))
noncomputable def Znu (F:Nat) (r8:List Int):Int→Option ((Int) ⊕ (Int×Int))
 | a=>
  bif lti (a) ((r8.length:Int)) then
   fbind (cIdx r8 a) fun b=>
   fbind (cIdx r8 0) fun c=>
   bif !eqi (b) (c) then
    some (.inr ((0,0)))
   else
    some (.inl (cw (a+1)))
  else
   bif eqi ((r8.length:Int)) (0) then
    some (.inr ((0,0)))
   else
    fbind (ZhS F r8) fun e=>
    fbind (cIdx r8 0) fun f=>
    some (.inr ((f,e)))
theorem ZDo {F:Nat} (r8:List Int)  (s_:_):Le (Znu F r8 s_) (ZbM r8 s_):=by
 unfold Znu ZbM
 try simp only [←cw_ok,←Zv,←Zy,←Zp,←Zm,←Zo,←ZC,←Zw,GT.gt,GE.ge]
 repeat' (with_reducible first|exact Le.rfl|assumption|exact Zmh _|exact ZD _ _ _|exact ZA _ _ _ _|(refine le_if ?_ ?_)|(refine ZB ?_ fun _=>?_)|(refine Zz ?_)|(refine Zx fun _=>?_))
noncomputable def Zmd (F:Nat) (n0:Int):Option (Int×Int):=
 fbind (ZlW F n0) fun r8=>
 lpF F (Znu F r8) (0)
theorem Zr7 {F:Nat} (n0:Int)  :Le (Zmd F n0) (Zb1 n0):=by
 unfold Zmd Zb1
 try simp only [←cw_ok,←Zv,←Zy,←Zp,←Zm,←Zo,←ZC,←Zw,GT.gt,GE.ge]
 repeat' (with_reducible first|exact Le.rfl|assumption|exact ZtW _|exact ZDo _ _|exact ZD _ _ _|exact ZA _ _ _ _|(refine le_if ?_ ?_)|(refine ZB ?_ fun _=>?_)|(refine Zz ?_)|(refine Zx fun _=>?_))
noncomputable def ZqR (F:Nat) (a:Int×Int):Int→Option ((Int) ⊕ (Zd×Int))
 | b=>
  fbind (ZiM F b a.1 a.2) fun c=>
  fbind (cApp 8 c [1]) fun e=>
  fbind (Zka F e a.1) fun f=>
  bif !f then
   some (.inl (cw (b+1)))
  else
   fbind (ZiM F b a.1 a.2) fun g=>
   fbind (cApp 8 g [1]) fun h=>
   some (.inr (((Zd.mk a.1 a.2 h),0)))
theorem ZEc {F:Nat} (a:Int×Int)  (s_:_):Le (ZqR F a s_) (Zk0 a s_):=by
 unfold ZqR Zk0
 try simp only [←cw_ok,←Zv,←Zy,←Zp,←Zm,←Zo,←ZC,←Zw,GT.gt,GE.ge]
 repeat' (with_reducible first|exact Le.rfl|assumption|exact ZrF _ _ _|exact ZrO _ _|exact ZD _ _ _|exact ZA _ _ _ _|(refine le_if ?_ ?_)|(refine ZB ?_ fun _=>?_)|(refine Zz ?_)|(refine Zx fun _=>?_))
noncomputable def Zqn (F:Nat) (a:Int×Int):Option (Zd×Int):=
 lpF F (ZqR F a) (0)
theorem ZCC {F:Nat} (a:Int×Int)  :Le (Zqn F a) (ZiC a):=by
 unfold Zqn ZiC
 try simp only [←cw_ok,←Zv,←Zy,←Zp,←Zm,←Zo,←ZC,←Zw,GT.gt,GE.ge]
 repeat' (with_reducible first|exact Le.rfl|assumption|exact ZEc _ _|exact ZD _ _ _|exact ZA _ _ _ _|(refine le_if ?_ ?_)|(refine ZB ?_ fun _=>?_)|(refine Zz ?_)|(refine Zx fun _=>?_))
noncomputable def ZsO (F:Nat) (a:Int):Option (Zd×Int):=
 fbind (Zmd F a) fun b=>
 bif eqi (b.1) (0) then
  some (((Zd.mk 0 0 ([]:List Int)),2))
 else
  bif lti (64) (a) then
   some (((Zd.mk 0 0 ([]:List Int)),2))
  else
   Zqn F b
theorem Zr {F:Nat} (a:Int)  :Le (ZsO F a) (ZbU a):=by
 unfold ZsO ZbU
 try simp only [←cw_ok,←Zv,←Zy,←Zp,←Zm,←Zo,←ZC,←Zw,GT.gt,GE.ge]
 repeat' (with_reducible first|exact Le.rfl|assumption|exact Zr7 _|exact ZCC _|exact ZD _ _ _|exact ZA _ _ _ _|(refine le_if ?_ ?_)|(refine ZB ?_ fun _=>?_)|(refine Zz ?_)|(refine Zx fun _=>?_))
end Go.Proofs.YtghbgeaammnkcaaGreatDoor
