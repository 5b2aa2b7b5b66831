import Derived.Test.YtepnljbkgjbbmaaGreatDoorPuEvS
import Derived.Test.YtepnljbkgjbbmaaGreatDoorPuFns
namespace Go.Proofs.YtepnljbkgjbbmaaGreatDoor
open Go Go.Vc
set_option linter.unusedVariables false
set_option linter.unusedSimpArgs false
set_option maxRecDepth 20000
noncomputable instance:Frc Zd where
 frc p k:=Zd.rec (fun x0 x1 x2=>Frc.frc x0 fun x0=>Frc.frc x1 fun x1=>Frc.frc x2 fun x2=>k (.mk x0 x1 x2)) p
 ok p k:=by cases p;show Frc.frc _ _=_;simp only [Frc.ok]
theorem θ {p q:Prop} (g:q) (h:q->p:=by intro f;(try simp only [<-cw_ok,<-ZA,<-Zw,<-Zu,<-Zs,<-Zt,<-ZD,<-ZC,GT.gt,GE.ge]);(repeat' (with_reducible first|exact Le.rfl|assumption|apply f.1|apply f.2.1|apply f.2.2.1|apply f.2.2.2.1|apply f.2.2.2.2.1|apply f.2.2.2.2.2.1|apply f.2.2.2.2.2.2.1|apply f|apply f.2|apply f.2.2|apply f.2.2.2|apply f.2.2.2.2|apply f.2.2.2.2.2|apply f.2.2.2.2.2.2|apply f.2.2.2.2.2.2.2|exact Zz _ _ _|exact Zx _ _ _ _|(refine le_if ?_ ?_)|(refine ZF ?_ fun _=>?_)|(refine ZB ?_)|(refine Zy fun _=>?_)))):p:=h g
noncomputable def ZfJ (F:Nat) (n0 c a:Int):Option Bool:=
 bif lei (c) (n0) then
  some (lei (n0) (a))
 else
  some (false)
theorem Zm8 {F:Nat} (n0 c a:Int)  :Le (ZfJ F n0 c a) (Z3 n0 c a):=by
 unfold ZfJ Z3
 exact θ trivial
noncomputable def ZnO (F:Nat) (a:Int):Int×Int->Option ((Int×Int) ⊕ ((Int) ⊕ (Int×Int)))
 | (e,c)=>
  bif lti (1) (c) then
   fbind (cNz a) fun _=>
   bif !eqi (Int.tmod c a) (0) then
    some (.inr (.inr ((0,0))))
   else
    fbind (cNz a) fun _=>
    some (.inl (cw (e+1),cw (Int.tdiv c a)))
  else
   some (.inr (.inr ((a,e))))
theorem Zzn {F:Nat} (a:Int)  (g:_):Le (ZnO F a g) (ZkS a g):=by
 obtain ⟨c,e⟩:=g
 unfold ZnO ZkS
 exact θ trivial
noncomputable def ZoV (F:Nat) (c:Int):Int->Option ((Int) ⊕ (Int×Int))
 | a=>
  fbind (cNz a) fun _=>
  bif !eqi (Int.tmod c a) (0) then
   some (.inl (cw (a+1)))
  else
   lpF F (ZnO F a) (0,c)
theorem Zvt {F:Nat} (a:Int)  (e:_):Le (ZoV F a e) (Zk9 a e):=by
 unfold ZoV Zk9
 exact θ (@Zzn F)
noncomputable def ZkX (F:Nat) (a:Int):Option (Int×Int):=
 fbind (ZfJ F a 2 64) fun r8=>
 bif !r8 then
  some ((0,0))
 else
  lpF F (ZoV F a) (2)
theorem Zq {F:Nat} (a:Int)  :Le (ZkX F a) (ZbN a):=by
 unfold ZkX ZbN
 exact θ (And.intro (@Zm8 F) (@Zvt F))
noncomputable def Znp (F:Nat) (p1:Int):Int×Int×List Int->Option ((Int×Int×List Int) ⊕ (List Int))
 | (a,c,e)=>
  bif lti (0) (c) then
   fbind (cNz p1) fun _=>
   fbind (cApp 8 e [Int.tmod a p1]) fun f=>
   fbind (cNz p1) fun _=>
   some (.inl (cw (Int.tdiv a p1),cw (c-1),f))
  else
   some (.inr (e))
theorem ZHk {F:Nat} (p1:Int)  (g:_):Le (Znp F p1 g) (Zda p1 g):=by
 obtain ⟨a,c,e⟩:=g
 unfold Znp Zda
 exact θ trivial
noncomputable def ZlH (F:Nat) (a p1 n2:Int):Option (List Int):=
 lpF F (Znp F p1) (a,n2,([]:List Int))
theorem Zup {F:Nat} (a p1 n2:Int)  :Le (ZlH F a p1 n2) (Za3 a p1 n2):=by
 unfold ZlH Za3
 exact θ (@ZHk F)
noncomputable def Znu (F:Nat) (e:Int):Int×Int->Option ((Int×Int) ⊕ (Int))
 | (a,c)=>
  bif lti (0) (a) then
   some (.inl (cw (a-1),cw (c*e)))
  else
   some (.inr (c))
theorem ZzN {F:Nat} (a:Int)  (g:_):Le (Znu F a g) (Zmq a g):=by
 obtain ⟨c,e⟩:=g
 unfold Znu Zmq
 exact θ trivial
noncomputable def Zi7 (F:Nat) (a k1:Int):Option Int:=
 lpF F (Znu F a) (k1,1)
theorem Znc {F:Nat} (a k1:Int)  :Le (Zi7 F a k1) (ZeT a k1):=by
 unfold Zi7 ZeT
 exact θ (@ZzN F)
noncomputable def ZpB (F:Nat) (a:List Int):Option (List Int):=
 fbind (cApp 8 ([]:List Int) a) fun c=>
 some (c)
theorem Zym {F:Nat} (a:List Int)  :Le (ZpB F a) (ZaZ a):=by
 unfold ZpB ZaZ
 exact θ trivial
noncomputable def Zot (F:Nat) (e:List Int) (g f h:Int):Int×List Int->Option ((Int×List Int) ⊕ ((Int×List Int) ⊕ (List Int)))
 | (a,c)=>
  bif lti (a) ((e.length:Int)) then
   fbind (cIdx c (cw ((cw ((cw (f-(e.length:Int)))+1))+a))) fun i=>
   fbind (cIdx e a) fun j=>
   fbind (cNz g) fun _=>
   fbind (cIdx c (cw ((cw ((cw (f-(e.length:Int)))+1))+a))) fun k=>
   some (.inl (cw (a+1),(c.set (cw ((cw ((cw (f-(e.length:Int)))+1))+a):Int).toNat (Int.tmod (cw (i+(cw ((cw (g-h))*j)))) g))))
  else
   some (.inr (.inl (cw (f-1),c)))
theorem Zyh {F:Nat} (c:List Int) (e f a:Int)  (j:_):Le (Zot F c e f a j) (Zer c e f a j):=by
 obtain ⟨h,g⟩:=j
 unfold Zot Zer
 exact θ trivial
noncomputable def Znj (F:Nat) (e:List Int):List Int->Option ((List Int) ⊕ ((Int×List Int) ⊕ (List Int)))
 | a=>
  bif lei ((e.length:Int)) ((a.length:Int)) then
   fbind (cSl a 0 (cw ((a.length:Int)-1))) fun c=>
   some (.inl (c))
  else
   some (.inr (.inr (a)))
theorem ZBe {F:Nat} (a:List Int)  (e:_):Le (Znj F a e) (Zch a e):=by
 unfold Znj Zch
 exact θ trivial
noncomputable def ZnQ (F:Nat) (a:List Int) (f:Int):Int×List Int->Option ((Int×List Int) ⊕ (List Int))
 | (c,xs)=>
  bif lei ((cw ((a.length:Int)-1))) (c) then
   fbind (cIdx xs c) fun e=>
   lpF F (Zot F a f c e) (0,xs)
  else
   lpF F (Znj F a) (xs)
theorem ZDW {F:Nat} (a:List Int) (c:Int)  (g:_):Le (ZnQ F a c g) (Zbo a c g):=by
 obtain ⟨e,xs⟩:=g
 unfold ZnQ Zbo
 exact θ (And.intro (@Zyh F) (@ZBe F))
noncomputable def ZoT (F:Nat) (c e:List Int) (f:Int):Option (List Int):=
 fbind (ZpB F c) fun a=>
 lpF F (ZnQ F e f) (cw ((a.length:Int)-1),a)
theorem Zzu {F:Nat} (a c:List Int) (e:Int)  :Le (ZoT F a c e) (ZdE a c e):=by
 unfold ZoT ZdE
 exact θ (And.intro (@Zym F) (@ZDW F))
noncomputable def ZpG (F:Nat) (c:List Int) (p1:Int):Int×Int->Option ((Int×Int) ⊕ (Int))
 | (a,e)=>
  bif lei (0) (e) then
   fbind (cIdx c e) fun f=>
   some (.inl (cw ((cw (a*p1))+f),cw (e-1)))
  else
   some (.inr (a))
theorem ZxS {F:Nat} (a:List Int) (p1:Int)  (g:_):Le (ZpG F a p1 g) (Zes a p1 g):=by
 obtain ⟨c,e⟩:=g
 unfold ZpG Zes
 exact θ trivial
noncomputable def Zpt (F:Nat) (a:List Int) (p1:Int):Option Int:=
 lpF F (ZpG F a p1) (0,cw ((a.length:Int)-1))
theorem Zwf {F:Nat} (a:List Int) (p1:Int)  :Le (Zpt F a p1) (Za2 a p1):=by
 unfold Zpt Za2
 exact θ (@ZxS F)
noncomputable def ZoG (F:Nat) (a:List Int) (p1 c:Int):Int->Option ((Int) ⊕ ((Int) ⊕ (Bool)))
 | e=>
  fbind (Zi7 F p1 c) fun f=>
  bif lti (e) (f) then
   fbind (ZlH F e p1 c) fun g=>
   fbind (cApp 8 g [1]) fun h=>
   fbind (ZoT F a h p1) fun i=>
   fbind (Zpt F i p1) fun j=>
   bif eqi (j) (0) then
    some (.inr (.inr (false)))
   else
    some (.inl (cw (e+1)))
  else
   some (.inr (.inl (cw (c+1))))
theorem ZBl {F:Nat} (a:List Int) (p1 c:Int)  (e:_):Le (ZoG F a p1 c e) (Zln a p1 c e):=by
 unfold ZoG Zln
 exact θ (And.intro (@Znc F)<|And.intro (@Zup F)<|And.intro (@Zzu F) (@Zwf F))
noncomputable def ZnY (F:Nat) (a:List Int) (p1:Int):Int->Option ((Int) ⊕ (Bool))
 | c=>
  bif lei (cw (2*c)) ((cw ((a.length:Int)-1))) then
   lpF F (ZoG F a p1 c) (0)
  else
   some (.inr (true))
theorem ZHx {F:Nat} (a:List Int) (p1:Int)  (e:_):Le (ZnY F a p1 e) (Zml a p1 e):=by
 unfold ZnY Zml
 exact θ (@ZBl F)
noncomputable def ZkN (F:Nat) (a:List Int) (p1:Int):Option Bool:=
 lpF F (ZnY F a p1) (1)
theorem Zr4 {F:Nat} (a:List Int) (p1:Int)  :Le (ZkN F a p1) (ZgC a p1):=by
 unfold ZkN ZgC
 exact θ (@ZHx F)
noncomputable def Zn8 (F:Nat) (a:Int×Int):Int->Option ((Int) ⊕ (Zd))
 | e=>
  fbind (ZlH F e a.1 a.2) fun f=>
  fbind (cApp 8 f [1]) fun c=>
  fbind (ZkN F c a.1) fun g=>
  bif g then
   some (.inr ((Zd.mk a.1 a.2 c)))
  else
   some (.inl (cw (e+1)))
theorem ZEm {F:Nat} (a:Int×Int)  (e:_):Le (Zn8 F a e) (Zlc a e):=by
 unfold Zn8 Zlc
 exact θ (And.intro (@Zup F) (@Zr4 F))
noncomputable def Zq8 (F:Nat) (a:Int):Option Zd:=
 fbind (ZkX F a) fun c=>
 lpF F (Zn8 F c) (0)
theorem Zaa {F:Nat} (a:Int)  :Le (Zq8 F a) (Zhj a):=by
 unfold Zq8 Zhj
 exact θ (And.intro (@Zq F) (@ZEm F))
noncomputable def Zpl (F:Nat) (c:Zd) (a:Int×Int):Int->Option ((Int) ⊕ (Bool))
 | e=>
  bif lti (e) ((c.Poly.length:Int)) then
   fbind (cIdx c.Poly e) fun f=>
   fbind (ZfJ F f 0 (cw (a.1-1))) fun g=>
   bif !g then
    some (.inr (false))
   else
    some (.inl (cw (e+1)))
  else
   fbind (ZkN F c.Poly a.1) fun h=>
   some (.inr (h))
theorem ZAn {F:Nat} (c:Zd) (a:Int×Int)  (e:_):Le (Zpl F c a e) (Zmv c a e):=by
 unfold Zpl Zmv
 exact θ (And.intro (@Zm8 F) (@Zr4 F))
noncomputable def ZnS (F:Nat) (a:Zd):Option (Bool):=
 fbind (Zi7 F a.Prime a.Degree) fun e=>
 fbind (ZkX F e) fun c=>
 bif !eqi (c.1) (a.Prime) then
  some (false)
 else
  lpF F (Zpl F a c) (0)
theorem ZDA {F:Nat} (a:Zd)  :Le (ZnS F a) (Zhy a):=by
 unfold ZnS Zhy
 exact θ (And.intro (@Znc F)<|And.intro (@Zq F) (@ZAn F))
noncomputable def Zrp (F:Nat) (a:Zd):Option Bool:=
 fbind (ZfJ F a.Prime 2 64) fun c=>
 bif !c then
  some (false)
 else
  fbind (ZfJ F a.Degree 1 6) fun e=>
  bif !e then
   some (false)
  else
   bif !eqi ((a.Poly.length:Int)) ((cw (a.Degree+1))) then
    some (false)
   else
    fbind (cIdx a.Poly a.Degree) fun f=>
    bif !eqi (f) (1) then
     some (false)
    else
     ZnS F a
theorem Zad {F:Nat} (a:Zd)  :Le (Zrp F a) (ZfG a):=by
 unfold Zrp ZfG
 exact θ (And.intro (@Zm8 F) (@ZDA F))
noncomputable def Zq2 (F:Nat) (a:Zd):Option Int:=
 fbind (Zi7 F a.Prime a.Degree) fun c=>
 some (c)
theorem Zac {F:Nat} (a:Zd)  :Le (Zq2 F a) (Zbc a):=by
 unfold Zq2 Zbc
 exact θ (@Znc F)
noncomputable def Zlz (F:Nat) (n0 c a:Int):Option Bool:=
 bif lei (c) (n0) then
  some (lei (n0) (a))
 else
  some (false)
theorem Zq5 {F:Nat} (n0 c a:Int)  :Le (Zlz F n0 c a) (Z8 n0 c a):=by
 unfold Zlz Z8
 exact θ trivial
noncomputable def Zna (F:Nat) (a:List Int):Option (List Int):=cApp 8 [] a
theorem Zwy {F:Nat} (a:List Int)  :Le (Zna F a) (Zb2 a):=by
 unfold Zna Zb2
 exact θ trivial
noncomputable def ZiH (F:Nat) (a:List Int):Option Int:=
 some ((a.length:Int))
theorem Zpa {F:Nat} (a:List Int)  :Le (ZiH F a) (ZV a):=by
 unfold ZiH ZV
 exact θ trivial
noncomputable def Zpd (F:Nat) (c:List Int) (e:Int->Option Bool):Int->Option ((Int) ⊕ (Int))
 | a=>
  bif lti (a) ((c.length:Int)) then
   fbind (cIdx c a) fun f=>
   fbind (e f) fun g=>
   bif g then
    some (.inr (a))
   else
    some (.inl (cw (a+1)))
  else
   some (.inr ((-1)))
theorem ZzL {F:Nat} (e:List Int) (a g:Int->Option Bool) (c:∀ f,Le (a f) (g f)) (h:_):Le (Zpd F e a h) (ZeY e g h):=by
 unfold Zpd ZeY
 try simp only [<-cw_ok,<-ZA,<-Zw,<-Zu,<-Zs,<-Zt,<-ZD,<-ZC,GT.gt,GE.ge]
 repeat' (with_reducible first|exact Le.rfl|assumption|exact Zz _ _ _|exact Zx _ _ _ _|(refine le_if ?_ ?_)|(refine ZF ?_ fun _=>?_)|(refine ZB ?_)|(refine Zy fun _=>?_))
 all_goals (first|exact c _|skip)
noncomputable def Zn2 (F:Nat) (c:List Int) (a:Int->Option Bool):Option Int:=
 lpF F (Zpd F c a) (0)
theorem Zvz {F:Nat} (e:List Int) (a g:Int->Option Bool) (c:∀ f,Le (a f) (g f)):Le (Zn2 F e a) (Zh6 e g):=by
 unfold Zn2 Zh6
 try simp only [<-cw_ok,<-ZA,<-Zw,<-Zu,<-Zs,<-Zt,<-ZD,<-ZC,GT.gt,GE.ge]
 repeat' (with_reducible first|exact Le.rfl|assumption|(refine ZzL _ _ _ ?_ _;intros)|exact Zz _ _ _|exact Zx _ _ _ _|(refine le_if ?_ ?_)|(refine ZF ?_ fun _=>?_)|(refine ZB ?_)|(refine Zy fun _=>?_))
 all_goals (first|exact c _|skip)
noncomputable def ZoJ (F:Nat) (c:List Int) (a:Int->Option Bool):Option Bool:=
 fbind (Zn2 F c a) fun e=>
 some (lei (0) (e))
theorem ZAm {F:Nat} (e:List Int) (a g:Int->Option Bool) (c:∀ f,Le (a f) (g f)):Le (ZoJ F e a) (ZaV e g):=by
 unfold ZoJ ZaV
 try simp only [<-cw_ok,<-ZA,<-Zw,<-Zu,<-Zs,<-Zt,<-ZD,<-ZC,GT.gt,GE.ge]
 repeat' (with_reducible first|exact Le.rfl|assumption|(refine Zvz _ _ _ ?_;intros)|exact Zz _ _ _|exact Zx _ _ _ _|(refine le_if ?_ ?_)|(refine ZF ?_ fun _=>?_)|(refine ZB ?_)|(refine Zy fun _=>?_))
 all_goals (first|exact c _|skip)
noncomputable def ZmW (F:Nat) (a c e:Int):Option ((Int×Int) ⊕ (Int)):=
 some (.inl (cw (c-1),cw (e*a)))
theorem ZDJ {F:Nat} (a c e:Int)  :Le (ZmW F a c e) (Ze2 a c e):=by
 unfold ZmW Ze2
 exact θ trivial
noncomputable def ZpD (F:Nat) (c e:Int):Int×Int->Option ((Int×Int) ⊕ (Int))
 | (a,power7)=>
  bif lti (0) (a) then
   bif lei (power7) (e) then
    ZmW F c a power7
   else
    some (.inr (power7))
  else
   some (.inr (power7))
theorem ZzG {F:Nat} (a e:Int)  (g:_):Le (ZpD F a e g) (ZaS a e g):=by
 obtain ⟨c,h⟩:=g
 unfold ZpD ZaS
 exact θ (@ZDJ F)
noncomputable def Zjl (F:Nat) (a c e:Int):Option Int:=
 lpF F (ZpD F a e) (c,1)
theorem ZoW {F:Nat} (a c e:Int)  :Le (Zjl F a c e) (Za6 a c e):=by
 unfold Zjl Za6
 exact θ (@ZzG F)
noncomputable def Zrw (F:Nat) (a:Zd):Option Int:=
 fbind (Zjl F a.Prime a.Degree 64) fun c=>
 some (c)
theorem Zab {F:Nat} (a:Zd)  :Le (Zrw F a) (Za5 a):=by
 unfold Zrw Za5
 exact θ (@ZoW F)
noncomputable def ZoI (F:Nat) (a:Int) (f:List Int):Int×Int×List Int->Option ((Int×Int×List Int) ⊕ (List Int))
 | (e,c,xs)=>
  bif lti (c) ((f.length:Int)) then
   fbind (cNz a) fun _=>
   fbind (cIdx xs c) fun g=>
   fbind (cNz a) fun _=>
   some (.inl (cw (Int.tdiv e a),cw (c+1),(xs.set (c:Int).toNat (Int.tmod e a))))
  else
   some (.inr (xs))
theorem ZGl {F:Nat} (a:Int) (c:List Int)  (g:_):Le (ZoI F a c g) (Zcy a c g):=by
 obtain ⟨e,f,xs⟩:=g
 unfold ZoI Zcy
 exact θ trivial
noncomputable def Zh9 (F:Nat) (n0 a e:Int):Option (List Int):=
 fbind (cMake 8 (0:Int) e e) fun c=>
 lpF F (ZoI F a c) (n0,0,c)
theorem Zrv {F:Nat} (n0 a e:Int)  :Le (Zh9 F n0 a e) (ZaR n0 a e):=by
 unfold Zh9 ZaR
 exact θ (@ZGl F)
noncomputable def Zpw (F:Nat) (e:List Int) (f g h:Int):Int×List Int->Option ((Int×List Int) ⊕ ((Int×List Int) ⊕ (List Int)))
 | (a,c)=>
  bif lti (a) ((e.length:Int)) then
   fbind (cIdx e a) fun i=>
   fbind (cIdx c (cw ((cw (g-(cw ((e.length:Int)-1))))+a))) fun j=>
   fbind (cNz f) fun _=>
   fbind (cNz f) fun _=>
   fbind (cIdx c (cw ((cw (g-(cw ((e.length:Int)-1))))+a))) fun k=>
   some (.inl (cw (a+1),(c.set (cw ((cw (g-(cw ((e.length:Int)-1))))+a):Int).toNat (Int.tmod (cw ((Int.tmod (cw (j-(cw (h*i)))) f)+f)) f))))
  else
   some (.inr (.inl (cw (g-1),c)))
theorem ZCy {F:Nat} (c:List Int) (e f a:Int)  (j:_):Le (Zpw F c e f a j) (ZeE c e f a j):=by
 obtain ⟨h,g⟩:=j
 unfold Zpw ZeE
 exact θ trivial
noncomputable def ZnB (F:Nat) (a:List Int) (g:Int):Int×List Int->Option ((Int×List Int) ⊕ (List Int))
 | (c,xs)=>
  bif lei ((cw ((a.length:Int)-1))) (c) then
   fbind (cIdx xs c) fun e=>
   lpF F (Zpw F a g c e) (0,xs)
  else
   fbind (cSl xs 0 (if ((xs.length:Int):Int)<(cw ((a.length:Int)-1)) then (xs.length:Int) else cw ((a.length:Int)-1))) fun f=>
   some (.inr (f))
theorem ZAG {F:Nat} (a:List Int) (c:Int)  (g:_):Le (ZnB F a c g) (Zbr a c g):=by
 obtain ⟨e,xs⟩:=g
 unfold ZnB Zbr
 exact θ (@ZCy F)
noncomputable def ZoX (F:Nat) (c e:List Int) (f:Int):Option (List Int):=
 fbind (Zna F c) fun a=>
 lpF F (ZnB F e f) (cw ((a.length:Int)-1),a)
theorem ZCT {F:Nat} (a c:List Int) (e:Int)  :Le (ZoX F a c e) (ZcS a c e):=by
 unfold ZoX ZcS
 exact θ (And.intro (@Zwy F) (@ZAG F))
noncomputable def Zof (F:Nat) (x0:Int):Option Bool:=
 some (!eqi (x0) (0))
theorem ZDv {F:Nat} (x0:Int)  :Le (Zof F x0) (Zkc x0):=by
 unfold Zof Zkc
 exact θ trivial
noncomputable def ZoD (F:Nat) (a:List Int):Option Bool:=
 fbind (ZoJ F a (fun c=>Zof F c)) fun e=>
 some (!e)
theorem ZvA {F:Nat} (a:List Int)  :Le (ZoD F a) (ZhM a):=by
 unfold ZoD ZhM
 try simp only [<-cw_ok,<-ZA,<-Zw,<-Zu,<-Zs,<-Zt,<-ZD,<-ZC,GT.gt,GE.ge]
 repeat' (with_reducible first|exact Le.rfl|assumption|(refine ZAm _ _ _ ?_;intros)|exact ZDv _|exact Zz _ _ _|exact Zx _ _ _ _|(refine le_if ?_ ?_)|(refine ZF ?_ fun _=>?_)|(refine ZB ?_)|(refine Zy fun _=>?_))
noncomputable def Zm7 (F:Nat) (a:List Int) (p1 c:Int):Int->Option ((Int) ⊕ ((Int) ⊕ (Bool)))
 | e=>
  fbind (Zjl F p1 c 64) fun f=>
  bif lti (e) (f) then
   fbind (Zh9 F e p1 c) fun g=>
   fbind (cApp 8 g [1]) fun h=>
   fbind (ZoX F a h p1) fun i=>
   fbind (ZoD F i) fun j=>
   bif j then
    some (.inr (.inr (false)))
   else
    some (.inl (cw (e+1)))
  else
   some (.inr (.inl (cw (c+1))))
theorem ZCi {F:Nat} (a:List Int) (p1 c:Int)  (e:_):Le (Zm7 F a p1 c e) (ZlX a p1 c e):=by
 unfold Zm7 ZlX
 exact θ (And.intro (@ZoW F)<|And.intro (@Zrv F)<|And.intro (@ZCT F) (@ZvA F))
noncomputable def ZnT (F:Nat) (a:List Int) (p1 e:Int):Int->Option ((Int) ⊕ (Bool))
 | c=>
  bif lei (cw (2*c)) ((cw (e-1))) then
   lpF F (Zm7 F a p1 c) (0)
  else
   some (.inr (true))
theorem ZFK {F:Nat} (a:List Int) (p1 c:Int)  (e:_):Le (ZnT F a p1 c e) (Zmw a p1 c e):=by
 unfold ZnT Zmw
 exact θ (@ZCi F)
noncomputable def ZmR (F:Nat) (a:List Int) (p1:Int):Option Bool:=
 fbind (ZiH F a) fun c=>
 lpF F (ZnT F a p1 c) (1)
theorem ZtQ {F:Nat} (a:List Int) (p1:Int)  :Le (ZmR F a p1) (Zhn a p1):=by
 unfold ZmR Zhn
 exact θ (And.intro (@Zpa F) (@ZFK F))
noncomputable def ZnC (F:Nat) (c:Int):Int×List Int->Option ((Int×List Int) ⊕ ((Int×List Int×Int) ⊕ (List Int)))
 | (a,factor3_2)=>
  fbind (cNz c) fun _=>
  bif eqi (Int.tmod a c) (0) then
   fbind (cApp 8 factor3_2 [c]) fun e=>
   fbind (cNz c) fun _=>
   some (.inl (cw (Int.tdiv a c),e))
  else
   some (.inr (.inl (a,factor3_2,cw (c+1))))
theorem Zxi {F:Nat} (a:Int)  (g:_):Le (ZnC F a g) (ZcU a g):=by
 obtain ⟨c,e⟩:=g
 unfold ZnC ZcU
 exact θ trivial
noncomputable def Zpe (F:Nat):Int×List Int×Int->Option ((Int×List Int×Int) ⊕ (List Int))
 | (a,factor3,c)=>
  bif lei (cw (c*c)) (a) then
   lpF F (ZnC F c) (a,factor3)
  else
   bif lti (1) (a) then
    fbind (cApp 8 factor3 [a]) fun e=>
    some (.inr (e))
   else
    some (.inr (factor3))
theorem ZxG {F:Nat}   (e:_):Le (Zpe F  e) (Zby  e):=by
 obtain ⟨a,g,c⟩:=e
 unfold Zpe Zby
 exact θ (@Zxi F)
noncomputable def ZlW (F:Nat) (n0:Int):Option (List Int):=
 fbind (Zlz F n0 1 1000000) fun a=>
 bif !a then
  some (([]:List Int))
 else
  lpF F (Zpe F) (n0,([]:List Int),2)
theorem ZsK {F:Nat} (n0:Int)  :Le (ZlW F n0) (Zco n0):=by
 unfold ZlW Zco
 try simp only [<-cw_ok,<-ZA,<-Zw,<-Zu,<-Zs,<-Zt,<-ZD,<-ZC,GT.gt,GE.ge]
 repeat' (with_reducible first|exact Le.rfl|assumption|exact Zq5 _ _ _|exact ZxG  _|exact Zz _ _ _|exact Zx _ _ _ _|(refine le_if ?_ ?_)|(refine ZF ?_ fun _=>?_)|(refine ZB ?_)|(refine Zy fun _=>?_))
noncomputable def Zn0 (F:Nat) (n0:Int):Option Bool:=
 fbind (ZlW F n0) fun a=>
 some (eqi ((a.length:Int)) (1))
theorem ZBP {F:Nat} (n0:Int)  :Le (Zn0 F n0) (ZjB n0):=by
 unfold Zn0 ZjB
 exact θ (@ZsK F)
noncomputable def Znh (F:Nat) (a:Zd):Int->Option ((Int) ⊕ (Bool))
 | c=>
  bif lti (c) ((a.Poly.length:Int)) then
   fbind (cIdx a.Poly c) fun e=>
   fbind (Zlz F e 0 (cw (a.Prime-1))) fun f=>
   bif !f then
    some (.inr (false))
   else
    some (.inl (cw (c+1)))
  else
   fbind (ZmR F a.Poly a.Prime) fun g=>
   some (.inr (g))
theorem ZG8 {F:Nat} (a:Zd)  (e:_):Le (Znh F a e) (Zl8 a e):=by
 unfold Znh Zl8
 exact θ (And.intro (@Zq5 F) (@ZtQ F))
noncomputable def Znv (F:Nat) (a:Zd):Option (Bool):=
 lpF F (Znh F a) (0)
theorem ZzI {F:Nat} (a:Zd)  :Le (Znv F a) (Zko a):=by
 unfold Znv Zko
 exact θ (@ZG8 F)
noncomputable def ZmY (F:Nat) (a:Zd):Option (Bool):=
 fbind (ZiH F a.Poly) fun c=>
 bif !eqi (c) ((cw (a.Degree+1))) then
  some (false)
 else
  fbind (cIdx a.Poly a.Degree) fun e=>
  bif !eqi (e) (1) then
   some (false)
  else
   Znv F a
theorem ZA7 {F:Nat} (a:Zd)  :Le (ZmY F a) (Zin a):=by
 unfold ZmY Zin
 exact θ (And.intro (@Zpa F) (@ZzI F))
noncomputable def ZtG (F:Nat) (a:Zd):Option Bool:=
 fbind (Zn0 F a.Prime) fun e=>
 bif !e then
  some (false)
 else
  bif lti (a.Degree) (1) then
   some (false)
  else
   fbind (Zjl F a.Prime a.Degree 64) fun c=>
   bif lti (64) (c) then
    some (false)
   else
    ZmY F a
theorem Z9 {F:Nat} (a:Zd)  :Le (ZtG F a) (ZfY a):=by
 unfold ZtG ZfY
 exact θ (And.intro (@ZBP F)<|And.intro (@ZoW F) (@ZA7 F))
noncomputable def Zpk (F:Nat) (r8:List Int):Int->Option ((Int) ⊕ (Int×Int))
 | a=>
  bif lti (a) ((r8.length:Int)) then
   fbind (cIdx r8 a) fun c=>
   fbind (cIdx r8 0) fun e=>
   bif !eqi (c) (e) then
    some (.inr ((0,0)))
   else
    some (.inl (cw (a+1)))
  else
   bif eqi ((r8.length:Int)) (0) then
    some (.inr ((0,0)))
   else
    fbind (ZiH F r8) fun f=>
    fbind (cIdx r8 0) fun g=>
    some (.inr ((g,f)))
theorem ZFS {F:Nat} (r8:List Int)  (a:_):Le (Zpk F r8 a) (ZbW r8 a):=by
 unfold Zpk ZbW
 exact θ (@Zpa F)
noncomputable def Znq (F:Nat) (n0:Int):Option (Int×Int):=
 fbind (ZlW F n0) fun r8=>
 lpF F (Zpk F r8) (0)
theorem Zsm {F:Nat} (n0:Int)  :Le (Znq F n0) (Zcz n0):=by
 unfold Znq Zcz
 exact θ (And.intro (@ZsK F) (@ZFS F))
noncomputable def ZnX (F:Nat) (a:Int×Int):Int->Option ((Int) ⊕ (Zd×Int))
 | c=>
  fbind (Zh9 F c a.1 a.2) fun e=>
  fbind (cApp 8 e [1]) fun f=>
  fbind (ZmR F f a.1) fun g=>
  bif !g then
   some (.inl (cw (c+1)))
  else
   fbind (Zh9 F c a.1 a.2) fun h=>
   fbind (cApp 8 h [1]) fun i=>
   some (.inr (((Zd.mk a.1 a.2 i),0)))
theorem ZvX {F:Nat} (a:Int×Int)  (e:_):Le (ZnX F a e) (ZlC a e):=by
 unfold ZnX ZlC
 exact θ (And.intro (@Zrv F) (@ZtQ F))
noncomputable def ZoM (F:Nat) (a:Int×Int):Option (Zd×Int):=
 lpF F (ZnX F a) (0)
theorem ZE8 {F:Nat} (a:Int×Int)  :Le (ZoM F a) (Ziv a):=by
 unfold ZoM Ziv
 exact θ (@ZvX F)
noncomputable def Zu3 (F:Nat) (a:Int):Option (Zd×Int):=
 fbind (Znq F a) fun c=>
 bif eqi (c.1) (0) then
  some (((Zd.mk 0 0 ([]:List Int)),2))
 else
  bif lti (64) (a) then
   some (((Zd.mk 0 0 ([]:List Int)),2))
  else
   ZoM F c
theorem Zr {F:Nat} (a:Int)  :Le (Zu3 F a) (ZbP a):=by
 unfold Zu3 ZbP
 exact θ (And.intro (@Zsm F) (@ZE8 F))
end Go.Proofs.YtepnljbkgjbbmaaGreatDoor
