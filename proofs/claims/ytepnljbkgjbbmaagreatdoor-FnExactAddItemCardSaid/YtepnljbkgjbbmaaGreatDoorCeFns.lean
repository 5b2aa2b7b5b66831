import Derived.Test.YtepnljbkgjbbmaaGreatDoorPuEvS
import Derived.Test.YtepnljbkgjbbmaaGreatDoorPuFns
namespace Go.Proofs.YtepnljbkgjbbmaaGreatDoor
open Go Go.Vc
set_option linter.unusedVariables false
set_option linter.unusedSimpArgs false
set_option maxRecDepth 20000
noncomputable instance:Frc Ze where
 frc p k:=Ze.rec (fun x0 x1 x2=>Frc.frc x0 fun x0=>Frc.frc x1 fun x1=>Frc.frc x2 fun x2=>k (.mk x0 x1 x2)) p
 ok p k:=by cases p;show Frc.frc _ _=_;simp only [Frc.ok]
theorem θ {p q:Prop} (g:q) (h:q->p:=by intro f;(try simp only [<-cw_ok,<-Zw,<-ZC,<-Zt,<-Zr,<-Zs,<-ZB,<-ZE,GT.gt,GE.ge]);(repeat' (with_reducible first|exact Le.rfl|assumption|apply f.1|apply f.2.1|apply f.2.2.1|apply f.2.2.2.1|apply f.2.2.2.2.1|apply f.2.2.2.2.2.1|apply f.2.2.2.2.2.2.1|apply f|apply f.2|apply f.2.2|apply f.2.2.2|apply f.2.2.2.2|apply f.2.2.2.2.2|apply f.2.2.2.2.2.2|apply f.2.2.2.2.2.2.2|exact Zx _ _ _|exact Zy _ _ _ _|(refine le_if ?_ ?_)|(refine ZD ?_ fun _=>?_)|(refine ZA ?_)|(refine ZF fun _=>?_)))):p:=h g
noncomputable def Zek (F:Nat) (n0 c a:Int):Option Bool:=
 bif lei (c) (n0) then
  some (lei (n0) (a))
 else
  some (false)
theorem Zo7 {F:Nat} (n0 c a:Int)  :Le (Zek F n0 c a) (Z3 n0 c a):=by
 unfold Zek Z3
 exact θ trivial
noncomputable def Zna (F:Nat) (a:Int):Int×Int->Option ((Int×Int) ⊕ ((Int) ⊕ (Int×Int)))
 | (e,c)=>
  bif lti (1) (c) then
   fbind (cNz a) fun _=>
   bif !eqi (Int.tmod c a) (0) then
    some (.inr (.inr ((0,0))))
   else
    fbind (cNz a) fun _=>
    some (.inl (cw (e+1),cw (Int.tdiv c a)))
  else
   some (.inr (.inr ((a,e))))
theorem Zw7 {F:Nat} (a:Int)  (g:_):Le (Zna F a g) (Zoc a g):=by
 obtain ⟨c,e⟩:=g
 unfold Zna Zoc
 exact θ trivial
noncomputable def Zm2 (F:Nat) (c:Int):Int->Option ((Int) ⊕ (Int×Int))
 | a=>
  fbind (cNz a) fun _=>
  bif !eqi (Int.tmod c a) (0) then
   some (.inl (cw (a+1)))
  else
   lpF F (Zna F a) (0,c)
theorem ZD1 {F:Nat} (a:Int)  (e:_):Le (Zm2 F a e) (Zpq a e):=by
 unfold Zm2 Zpq
 exact θ (@Zw7 F)
noncomputable def Zk8 (F:Nat) (a:Int):Option (Int×Int):=
 fbind (Zek F a 2 64) fun r8=>
 bif !r8 then
  some ((0,0))
 else
  lpF F (Zm2 F a) (2)
theorem Zp {F:Nat} (a:Int)  :Le (Zk8 F a) (ZbU a):=by
 unfold Zk8 ZbU
 exact θ (And.intro (@Zo7 F) (@ZD1 F))
noncomputable def ZoW (F:Nat) (p1:Int):Int×Int×List Int->Option ((Int×Int×List Int) ⊕ (List Int))
 | (a,c,e)=>
  bif lti (0) (c) then
   fbind (cNz p1) fun _=>
   fbind (cApp 8 e [Int.tmod a p1]) fun f=>
   fbind (cNz p1) fun _=>
   some (.inl (cw (Int.tdiv a p1),cw (c-1),f))
  else
   some (.inr (e))
theorem Zyp {F:Nat} (p1:Int)  (g:_):Le (ZoW F p1 g) (Zdt p1 g):=by
 obtain ⟨a,c,e⟩:=g
 unfold ZoW Zdt
 exact θ trivial
noncomputable def Zlr (F:Nat) (a p1 n2:Int):Option (List Int):=
 lpF F (ZoW F p1) (a,n2,([]:List Int))
theorem ZrP {F:Nat} (a p1 n2:Int)  :Le (Zlr F a p1 n2) (Zbe a p1 n2):=by
 unfold Zlr Zbe
 exact θ (@Zyp F)
noncomputable def ZpE (F:Nat) (e:Int):Int×Int->Option ((Int×Int) ⊕ (Int))
 | (a,c)=>
  bif lti (0) (a) then
   some (.inl (cw (a-1),cw (c*e)))
  else
   some (.inr (c))
theorem ZHe {F:Nat} (a:Int)  (g:_):Le (ZpE F a g) (ZpY a g):=by
 obtain ⟨c,e⟩:=g
 unfold ZpE ZpY
 exact θ trivial
noncomputable def Zhy (F:Nat) (a k1:Int):Option Int:=
 lpF F (ZpE F a) (k1,1)
theorem Zpe {F:Nat} (a k1:Int)  :Le (Zhy F a k1) (Zed a k1):=by
 unfold Zhy Zed
 exact θ (@ZHe F)
noncomputable def Zni (F:Nat) (a:List Int):Option (List Int):=
 fbind (cApp 8 ([]:List Int) a) fun c=>
 some (c)
theorem Zzy {F:Nat} (a:List Int)  :Le (Zni F a) (ZaY a):=by
 unfold Zni ZaY
 exact θ trivial
noncomputable def Zpk (F:Nat) (e:List Int) (g f h:Int):Int×List Int->Option ((Int×List Int) ⊕ ((Int×List Int) ⊕ (List Int)))
 | (a,c)=>
  bif lti (a) ((e.length:Int)) then
   fbind (cIdx c (cw ((cw ((cw (f-(e.length:Int)))+1))+a))) fun i=>
   fbind (cIdx e a) fun j=>
   fbind (cNz g) fun _=>
   fbind (cIdx c (cw ((cw ((cw (f-(e.length:Int)))+1))+a))) fun k=>
   some (.inl (cw (a+1),(c.set (cw ((cw ((cw (f-(e.length:Int)))+1))+a):Int).toNat (Int.tmod (cw (i+(cw ((cw (g-h))*j)))) g))))
  else
   some (.inr (.inl (cw (f-1),c)))
theorem ZAu {F:Nat} (c:List Int) (e f a:Int)  (j:_):Le (Zpk F c e f a j) (Zfk c e f a j):=by
 obtain ⟨h,g⟩:=j
 unfold Zpk Zfk
 exact θ trivial
noncomputable def Zoq (F:Nat) (e:List Int):List Int->Option ((List Int) ⊕ ((Int×List Int) ⊕ (List Int)))
 | a=>
  bif lei ((e.length:Int)) ((a.length:Int)) then
   fbind (cSl a 0 (cw ((a.length:Int)-1))) fun c=>
   some (.inl (c))
  else
   some (.inr (.inr (a)))
theorem ZC6 {F:Nat} (a:List Int)  (e:_):Le (Zoq F a e) (ZcU a e):=by
 unfold Zoq ZcU
 exact θ trivial
noncomputable def ZmN (F:Nat) (a:List Int) (f:Int):Int×List Int->Option ((Int×List Int) ⊕ (List Int))
 | (c,xs)=>
  bif lei ((cw ((a.length:Int)-1))) (c) then
   fbind (cIdx xs c) fun e=>
   lpF F (Zpk F a f c e) (0,xs)
  else
   lpF F (Zoq F a) (xs)
theorem ZGt {F:Nat} (a:List Int) (c:Int)  (g:_):Le (ZmN F a c g) (Zbv a c g):=by
 obtain ⟨e,xs⟩:=g
 unfold ZmN Zbv
 exact θ (And.intro (@ZAu F) (@ZC6 F))
noncomputable def Zp1 (F:Nat) (c e:List Int) (f:Int):Option (List Int):=
 fbind (Zni F c) fun a=>
 lpF F (ZmN F e f) (cw ((a.length:Int)-1),a)
theorem ZCN {F:Nat} (a c:List Int) (e:Int)  :Le (Zp1 F a c e) (ZdX a c e):=by
 unfold Zp1 ZdX
 exact θ (And.intro (@Zzy F) (@ZGt F))
noncomputable def Zoh (F:Nat) (c:List Int) (p1:Int):Int×Int->Option ((Int×Int) ⊕ (Int))
 | (a,e)=>
  bif lei (0) (e) then
   fbind (cIdx c e) fun f=>
   some (.inl (cw ((cw (a*p1))+f),cw (e-1)))
  else
   some (.inr (a))
theorem ZDY {F:Nat} (a:List Int) (p1:Int)  (g:_):Le (Zoh F a p1 g) (ZeS a p1 g):=by
 obtain ⟨c,e⟩:=g
 unfold Zoh ZeS
 exact θ trivial
noncomputable def ZpC (F:Nat) (a:List Int) (p1:Int):Option Int:=
 lpF F (Zoh F a p1) (0,cw ((a.length:Int)-1))
theorem Zwb {F:Nat} (a:List Int) (p1:Int)  :Le (ZpC F a p1) (Zbi a p1):=by
 unfold ZpC Zbi
 exact θ (@ZDY F)
noncomputable def Zmt (F:Nat) (a:List Int) (p1 c:Int):Int->Option ((Int) ⊕ ((Int) ⊕ (Bool)))
 | e=>
  fbind (Zhy F p1 c) fun f=>
  bif lti (e) (f) then
   fbind (Zlr F e p1 c) fun g=>
   fbind (cApp 8 g [1]) fun h=>
   fbind (Zp1 F a h p1) fun i=>
   fbind (ZpC F i p1) fun j=>
   bif eqi (j) (0) then
    some (.inr (.inr (false)))
   else
    some (.inl (cw (e+1)))
  else
   some (.inr (.inl (cw (c+1))))
theorem Zzn {F:Nat} (a:List Int) (p1 c:Int)  (e:_):Le (Zmt F a p1 c e) (ZmM a p1 c e):=by
 unfold Zmt ZmM
 exact θ (And.intro (@Zpe F)<|And.intro (@ZrP F)<|And.intro (@ZCN F) (@Zwb F))
noncomputable def ZmT (F:Nat) (a:List Int) (p1:Int):Int->Option ((Int) ⊕ (Bool))
 | c=>
  bif lei (cw (2*c)) ((cw ((a.length:Int)-1))) then
   lpF F (Zmt F a p1 c) (0)
  else
   some (.inr (true))
theorem ZFk {F:Nat} (a:List Int) (p1:Int)  (e:_):Le (ZmT F a p1 e) (Zpl a p1 e):=by
 unfold ZmT Zpl
 exact θ (@Zzn F)
noncomputable def Zi9 (F:Nat) (a:List Int) (p1:Int):Option Bool:=
 lpF F (ZmT F a p1) (1)
theorem Ztx {F:Nat} (a:List Int) (p1:Int)  :Le (Zi9 F a p1) (Zhw a p1):=by
 unfold Zi9 Zhw
 exact θ (@ZFk F)
noncomputable def Zpx (F:Nat) (a:Int×Int):Int->Option ((Int) ⊕ (Ze))
 | e=>
  fbind (Zlr F e a.1 a.2) fun f=>
  fbind (cApp 8 f [1]) fun c=>
  fbind (Zi9 F c a.1) fun g=>
  bif g then
   some (.inr ((Ze.mk a.1 a.2 c)))
  else
   some (.inl (cw (e+1)))
theorem ZIB {F:Nat} (a:Int×Int)  (e:_):Le (Zpx F a e) (ZnS a e):=by
 unfold Zpx ZnS
 exact θ (And.intro (@ZrP F) (@Ztx F))
noncomputable def Zro (F:Nat) (a:Int):Option Ze:=
 fbind (Zk8 F a) fun c=>
 lpF F (Zpx F c) (0)
theorem Zaa {F:Nat} (a:Int)  :Le (Zro F a) (ZgV a):=by
 unfold Zro ZgV
 exact θ (And.intro (@Zp F) (@ZIB F))
noncomputable def Zms (F:Nat) (c:Ze) (a:Int×Int):Int->Option ((Int) ⊕ (Bool))
 | e=>
  bif lti (e) ((c.Poly.length:Int)) then
   fbind (cIdx c.Poly e) fun f=>
   fbind (Zek F f 0 (cw (a.1-1))) fun g=>
   bif !g then
    some (.inr (false))
   else
    some (.inl (cw (e+1)))
  else
   fbind (Zi9 F c.Poly a.1) fun h=>
   some (.inr (h))
theorem ZHl {F:Nat} (c:Ze) (a:Int×Int)  (e:_):Le (Zms F c a e) (Zpg c a e):=by
 unfold Zms Zpg
 exact θ (And.intro (@Zo7 F) (@Ztx F))
noncomputable def ZoL (F:Nat) (a:Ze):Option (Bool):=
 fbind (Zhy F a.Prime a.Degree) fun e=>
 fbind (Zk8 F e) fun c=>
 bif !eqi (c.1) (a.Prime) then
  some (false)
 else
  lpF F (Zms F a c) (0)
theorem ZGL {F:Nat} (a:Ze)  :Le (ZoL F a) (Zk9 a):=by
 unfold ZoL Zk9
 exact θ (And.intro (@Zpe F)<|And.intro (@Zp F) (@ZHl F))
noncomputable def Zq0 (F:Nat) (a:Ze):Option Bool:=
 fbind (Zek F a.Prime 2 64) fun c=>
 bif !c then
  some (false)
 else
  fbind (Zek F a.Degree 1 6) fun e=>
  bif !e then
   some (false)
  else
   bif !eqi ((a.Poly.length:Int)) ((cw (a.Degree+1))) then
    some (false)
   else
    fbind (cIdx a.Poly a.Degree) fun f=>
    bif !eqi (f) (1) then
     some (false)
    else
     ZoL F a
theorem Z5 {F:Nat} (a:Ze)  :Le (Zq0 F a) (Zg3 a):=by
 unfold Zq0 Zg3
 exact θ (And.intro (@Zo7 F) (@ZGL F))
noncomputable def ZtK (F:Nat) (a:Ze):Option Int:=
 fbind (Zhy F a.Prime a.Degree) fun c=>
 some (c)
theorem Z7 {F:Nat} (a:Ze)  :Le (ZtK F a) (Za8 a):=by
 unfold ZtK Za8
 exact θ (@Zpe F)
noncomputable def Zlx (F:Nat) (n0 c a:Int):Option Bool:=
 bif lei (c) (n0) then
  some (lei (n0) (a))
 else
  some (false)
theorem ZsN {F:Nat} (n0 c a:Int)  :Le (Zlx F n0 c a) (Zab n0 c a):=by
 unfold Zlx Zab
 exact θ trivial
noncomputable def ZpF (F:Nat) (a:List Int):Option (List Int):=cApp 8 [] a
theorem ZAc {F:Nat} (a:List Int)  :Le (ZpF F a) (Zce a):=by
 unfold ZpF Zce
 exact θ trivial
noncomputable def Zgf (F:Nat) (a:List Int):Option Int:=
 some ((a.length:Int))
theorem ZoY {F:Nat} (a:List Int)  :Le (Zgf F a) (ZW a):=by
 unfold Zgf ZW
 exact θ trivial
noncomputable def Zn8 (F:Nat) (c:List Int) (e:Int->Option Bool):Int->Option ((Int) ⊕ (Int))
 | a=>
  bif lti (a) ((c.length:Int)) then
   fbind (cIdx c a) fun f=>
   fbind (e f) fun g=>
   bif g then
    some (.inr (a))
   else
    some (.inl (cw (a+1)))
  else
   some (.inr ((-1)))
theorem ZHG {F:Nat} (e:List Int) (a g:Int->Option Bool) (c:∀ f,Le (a f) (g f)) (h:_):Le (Zn8 F e a h) (Zfu e g h):=by
 unfold Zn8 Zfu
 try simp only [<-cw_ok,<-Zw,<-ZC,<-Zt,<-Zr,<-Zs,<-ZB,<-ZE,GT.gt,GE.ge]
 repeat' (with_reducible first|exact Le.rfl|assumption|exact Zx _ _ _|exact Zy _ _ _ _|(refine le_if ?_ ?_)|(refine ZD ?_ fun _=>?_)|(refine ZA ?_)|(refine ZF fun _=>?_))
 all_goals (first|exact c _|skip)
noncomputable def ZmL (F:Nat) (c:List Int) (a:Int->Option Bool):Option Int:=
 lpF F (Zn8 F c a) (0)
theorem ZEV {F:Nat} (e:List Int) (a g:Int->Option Bool) (c:∀ f,Le (a f) (g f)):Le (ZmL F e a) (Zmh e g):=by
 unfold ZmL Zmh
 try simp only [<-cw_ok,<-Zw,<-ZC,<-Zt,<-Zr,<-Zs,<-ZB,<-ZE,GT.gt,GE.ge]
 repeat' (with_reducible first|exact Le.rfl|assumption|(refine ZHG _ _ _ ?_ _;intros)|exact Zx _ _ _|exact Zy _ _ _ _|(refine le_if ?_ ?_)|(refine ZD ?_ fun _=>?_)|(refine ZA ?_)|(refine ZF fun _=>?_))
 all_goals (first|exact c _|skip)
noncomputable def ZnR (F:Nat) (c:List Int) (a:Int->Option Bool):Option Bool:=
 fbind (ZmL F c a) fun e=>
 some (lei (0) (e))
theorem ZCY {F:Nat} (e:List Int) (a g:Int->Option Bool) (c:∀ f,Le (a f) (g f)):Le (ZnR F e a) (ZaU e g):=by
 unfold ZnR ZaU
 try simp only [<-cw_ok,<-Zw,<-ZC,<-Zt,<-Zr,<-Zs,<-ZB,<-ZE,GT.gt,GE.ge]
 repeat' (with_reducible first|exact Le.rfl|assumption|(refine ZEV _ _ _ ?_;intros)|exact Zx _ _ _|exact Zy _ _ _ _|(refine le_if ?_ ?_)|(refine ZD ?_ fun _=>?_)|(refine ZA ?_)|(refine ZF fun _=>?_))
 all_goals (first|exact c _|skip)
noncomputable def Zo5 (F:Nat) (a c e:Int):Option ((Int×Int) ⊕ (Int)):=
 some (.inl (cw (c-1),cw (e*a)))
theorem ZA9 {F:Nat} (a c e:Int)  :Le (Zo5 F a c e) (ZfK a c e):=by
 unfold Zo5 ZfK
 exact θ trivial
noncomputable def ZmC (F:Nat) (c e:Int):Int×Int->Option ((Int×Int) ⊕ (Int))
 | (a,power7)=>
  bif lti (0) (a) then
   bif lei (power7) (e) then
    Zo5 F c a power7
   else
    some (.inr (power7))
  else
   some (.inr (power7))
theorem ZGD {F:Nat} (a e:Int)  (g:_):Le (ZmC F a e g) (ZaV a e g):=by
 obtain ⟨c,h⟩:=g
 unfold ZmC ZaV
 exact θ (@ZA9 F)
noncomputable def Zhc (F:Nat) (a c e:Int):Option Int:=
 lpF F (ZmC F a e) (c,1)
theorem ZmA {F:Nat} (a c e:Int)  :Le (Zhc F a c e) (Zbo a c e):=by
 unfold Zhc Zbo
 exact θ (@ZGD F)
noncomputable def Zsq (F:Nat) (a:Ze):Option Int:=
 fbind (Zhc F a.Prime a.Degree 64) fun c=>
 some (c)
theorem Z8 {F:Nat} (a:Ze)  :Le (Zsq F a) (Zba a):=by
 unfold Zsq Zba
 exact θ (@ZmA F)
noncomputable def ZnX (F:Nat) (a:Int) (f:List Int):Int×Int×List Int->Option ((Int×Int×List Int) ⊕ (List Int))
 | (e,c,xs)=>
  bif lti (c) ((f.length:Int)) then
   fbind (cNz a) fun _=>
   fbind (cIdx xs c) fun g=>
   fbind (cNz a) fun _=>
   some (.inl (cw (Int.tdiv e a),cw (c+1),(xs.set (c:Int).toNat (Int.tmod e a))))
  else
   some (.inr (xs))
theorem ZGn {F:Nat} (a:Int) (c:List Int)  (g:_):Le (ZnX F a c g) (ZcR a c g):=by
 obtain ⟨e,f,xs⟩:=g
 unfold ZnX ZcR
 exact θ trivial
noncomputable def Zgm (F:Nat) (n0 a e:Int):Option (List Int):=
 fbind (cMake 8 (0:Int) e e) fun c=>
 lpF F (ZnX F a c) (n0,0,c)
theorem Zt2 {F:Nat} (n0 a e:Int)  :Le (Zgm F n0 a e) (ZaT n0 a e):=by
 unfold Zgm ZaT
 exact θ (@ZGn F)
noncomputable def Zoz (F:Nat) (e:List Int) (f g h:Int):Int×List Int->Option ((Int×List Int) ⊕ ((Int×List Int) ⊕ (List Int)))
 | (a,c)=>
  bif lti (a) ((e.length:Int)) then
   fbind (cIdx e a) fun i=>
   fbind (cIdx c (cw ((cw (g-(cw ((e.length:Int)-1))))+a))) fun j=>
   fbind (cNz f) fun _=>
   fbind (cNz f) fun _=>
   fbind (cIdx c (cw ((cw (g-(cw ((e.length:Int)-1))))+a))) fun k=>
   some (.inl (cw (a+1),(c.set (cw ((cw (g-(cw ((e.length:Int)-1))))+a):Int).toNat (Int.tmod (cw ((Int.tmod (cw (j-(cw (h*i)))) f)+f)) f))))
  else
   some (.inr (.inl (cw (g-1),c)))
theorem ZDl {F:Nat} (c:List Int) (e f a:Int)  (j:_):Le (Zoz F c e f a j) (Zev c e f a j):=by
 obtain ⟨h,g⟩:=j
 unfold Zoz Zev
 exact θ trivial
noncomputable def Zmu (F:Nat) (a:List Int) (g:Int):Int×List Int->Option ((Int×List Int) ⊕ (List Int))
 | (c,xs)=>
  bif lei ((cw ((a.length:Int)-1))) (c) then
   fbind (cIdx xs c) fun e=>
   lpF F (Zoz F a g c e) (0,xs)
  else
   fbind (cSl xs 0 (if ((xs.length:Int):Int)<(cw ((a.length:Int)-1)) then (xs.length:Int) else cw ((a.length:Int)-1))) fun f=>
   some (.inr (f))
theorem ZBG {F:Nat} (a:List Int) (c:Int)  (g:_):Le (Zmu F a c g) (ZbI a c g):=by
 obtain ⟨e,xs⟩:=g
 unfold Zmu ZbI
 exact θ (@ZDl F)
noncomputable def Znx (F:Nat) (c e:List Int) (f:Int):Option (List Int):=
 fbind (ZpF F c) fun a=>
 lpF F (Zmu F e f) (cw ((a.length:Int)-1),a)
theorem ZF2 {F:Nat} (a c:List Int) (e:Int)  :Le (Znx F a c e) (Zdy a c e):=by
 unfold Znx Zdy
 exact θ (And.intro (@ZAc F) (@ZBG F))
noncomputable def ZnE (F:Nat) (x0:Int):Option Bool:=
 some (!eqi (x0) (0))
theorem ZGM {F:Nat} (x0:Int)  :Le (ZnE F x0) (Zl9 x0):=by
 unfold ZnE Zl9
 exact θ trivial
noncomputable def ZmX (F:Nat) (a:List Int):Option Bool:=
 fbind (ZnR F a (fun c=>ZnE F c)) fun e=>
 some (!e)
theorem Zv7 {F:Nat} (a:List Int)  :Le (ZmX F a) (ZjB a):=by
 unfold ZmX ZjB
 try simp only [<-cw_ok,<-Zw,<-ZC,<-Zt,<-Zr,<-Zs,<-ZB,<-ZE,GT.gt,GE.ge]
 repeat' (with_reducible first|exact Le.rfl|assumption|(refine ZCY _ _ _ ?_;intros)|exact ZGM _|exact Zx _ _ _|exact Zy _ _ _ _|(refine le_if ?_ ?_)|(refine ZD ?_ fun _=>?_)|(refine ZA ?_)|(refine ZF fun _=>?_))
noncomputable def ZpM (F:Nat) (a:List Int) (p1 c:Int):Int->Option ((Int) ⊕ ((Int) ⊕ (Bool)))
 | e=>
  fbind (Zhc F p1 c 64) fun f=>
  bif lti (e) (f) then
   fbind (Zgm F e p1 c) fun g=>
   fbind (cApp 8 g [1]) fun h=>
   fbind (Znx F a h p1) fun i=>
   fbind (ZmX F i) fun j=>
   bif j then
    some (.inr (.inr (false)))
   else
    some (.inl (cw (e+1)))
  else
   some (.inr (.inl (cw (c+1))))
theorem ZDN {F:Nat} (a:List Int) (p1 c:Int)  (e:_):Le (ZpM F a p1 c e) (Zmy a p1 c e):=by
 unfold ZpM Zmy
 exact θ (And.intro (@ZmA F)<|And.intro (@Zt2 F)<|And.intro (@ZF2 F) (@Zv7 F))
noncomputable def Zmr (F:Nat) (a:List Int) (p1 e:Int):Int->Option ((Int) ⊕ (Bool))
 | c=>
  bif lei (cw (2*c)) ((cw (e-1))) then
   lpF F (ZpM F a p1 c) (0)
  else
   some (.inr (true))
theorem ZEy {F:Nat} (a:List Int) (p1 c:Int)  (e:_):Le (Zmr F a p1 c e) (Zon a p1 c e):=by
 unfold Zmr Zon
 exact θ (@ZDN F)
noncomputable def Zmg (F:Nat) (a:List Int) (p1:Int):Option Bool:=
 fbind (Zgf F a) fun c=>
 lpF F (Zmr F a p1 c) (1)
theorem ZsY {F:Nat} (a:List Int) (p1:Int)  :Le (Zmg F a p1) (Zh1 a p1):=by
 unfold Zmg Zh1
 exact θ (And.intro (@ZoY F) (@ZEy F))
noncomputable def Znl (F:Nat) (c:Int):Int×List Int->Option ((Int×List Int) ⊕ ((Int×List Int×Int) ⊕ (List Int)))
 | (a,factor3_2)=>
  fbind (cNz c) fun _=>
  bif eqi (Int.tmod a c) (0) then
   fbind (cApp 8 factor3_2 [c]) fun e=>
   fbind (cNz c) fun _=>
   some (.inl (cw (Int.tdiv a c),e))
  else
   some (.inr (.inl (a,factor3_2,cw (c+1))))
theorem ZzF {F:Nat} (a:Int)  (g:_):Le (Znl F a g) (Zd4 a g):=by
 obtain ⟨c,e⟩:=g
 unfold Znl Zd4
 exact θ trivial
noncomputable def Znh (F:Nat):Int×List Int×Int->Option ((Int×List Int×Int) ⊕ (List Int))
 | (a,factor3,c)=>
  bif lei (cw (c*c)) (a) then
   lpF F (Znl F c) (a,factor3)
  else
   bif lti (1) (a) then
    fbind (cApp 8 factor3 [a]) fun e=>
    some (.inr (e))
   else
    some (.inr (factor3))
theorem Zyi {F:Nat}   (e:_):Le (Znh F  e) (Zbu  e):=by
 obtain ⟨a,g,c⟩:=e
 unfold Znh Zbu
 exact θ (@ZzF F)
noncomputable def Zi7 (F:Nat) (n0:Int):Option (List Int):=
 fbind (Zlx F n0 1 1000000) fun a=>
 bif !a then
  some (([]:List Int))
 else
  lpF F (Znh F) (n0,([]:List Int),2)
theorem Zp8 {F:Nat} (n0:Int)  :Le (Zi7 F n0) (ZcI n0):=by
 unfold Zi7 ZcI
 try simp only [<-cw_ok,<-Zw,<-ZC,<-Zt,<-Zr,<-Zs,<-ZB,<-ZE,GT.gt,GE.ge]
 repeat' (with_reducible first|exact Le.rfl|assumption|exact ZsN _ _ _|exact Zyi  _|exact Zx _ _ _|exact Zy _ _ _ _|(refine le_if ?_ ?_)|(refine ZD ?_ fun _=>?_)|(refine ZA ?_)|(refine ZF fun _=>?_))
noncomputable def ZpH (F:Nat) (n0:Int):Option Bool:=
 fbind (Zi7 F n0) fun a=>
 some (eqi ((a.length:Int)) (1))
theorem ZAr {F:Nat} (n0:Int)  :Le (ZpH F n0) (Zkl n0):=by
 unfold ZpH Zkl
 exact θ (@Zp8 F)
noncomputable def Zog (F:Nat) (a:Ze):Int->Option ((Int) ⊕ (Bool))
 | c=>
  bif lti (c) ((a.Poly.length:Int)) then
   fbind (cIdx a.Poly c) fun e=>
   fbind (Zlx F e 0 (cw (a.Prime-1))) fun f=>
   bif !f then
    some (.inr (false))
   else
    some (.inl (cw (c+1)))
  else
   fbind (Zmg F a.Poly a.Prime) fun g=>
   some (.inr (g))
theorem ZGv {F:Nat} (a:Ze)  (e:_):Le (Zog F a e) (Zoa a e):=by
 unfold Zog Zoa
 exact θ (And.intro (@ZsN F) (@ZsY F))
noncomputable def Zpo (F:Nat) (a:Ze):Option (Bool):=
 lpF F (Zog F a) (0)
theorem Zv1 {F:Nat} (a:Ze)  :Le (Zpo F a) (ZlG a):=by
 unfold Zpo ZlG
 exact θ (@ZGv F)
noncomputable def ZnH (F:Nat) (a:Ze):Option (Bool):=
 fbind (Zgf F a.Poly) fun c=>
 bif !eqi (c) ((cw (a.Degree+1))) then
  some (false)
 else
  fbind (cIdx a.Poly a.Degree) fun e=>
  bif !eqi (e) (1) then
   some (false)
  else
   Zpo F a
theorem ZGZ {F:Nat} (a:Ze)  :Le (ZnH F a) (Zjr a):=by
 unfold ZnH Zjr
 exact θ (And.intro (@ZoY F) (@Zv1 F))
noncomputable def ZqF (F:Nat) (a:Ze):Option Bool:=
 fbind (ZpH F a.Prime) fun e=>
 bif !e then
  some (false)
 else
  bif lti (a.Degree) (1) then
   some (false)
  else
   fbind (Zhc F a.Prime a.Degree 64) fun c=>
   bif lti (64) (c) then
    some (false)
   else
    ZnH F a
theorem Z9 {F:Nat} (a:Ze)  :Le (ZqF F a) (Zhf a):=by
 unfold ZqF Zhf
 exact θ (And.intro (@ZAr F)<|And.intro (@ZmA F) (@ZGZ F))
noncomputable def Zpw (F:Nat) (r8:List Int):Int->Option ((Int) ⊕ (Int×Int))
 | a=>
  bif lti (a) ((r8.length:Int)) then
   fbind (cIdx r8 a) fun c=>
   fbind (cIdx r8 0) fun e=>
   bif !eqi (c) (e) then
    some (.inr ((0,0)))
   else
    some (.inl (cw (a+1)))
  else
   bif eqi ((r8.length:Int)) (0) then
    some (.inr ((0,0)))
   else
    fbind (Zgf F r8) fun f=>
    fbind (cIdx r8 0) fun g=>
    some (.inr ((g,f)))
theorem ZIf {F:Nat} (r8:List Int)  (a:_):Le (Zpw F r8 a) (ZbW r8 a):=by
 unfold Zpw ZbW
 exact θ (@ZoY F)
noncomputable def Zpj (F:Nat) (n0:Int):Option (Int×Int):=
 fbind (Zi7 F n0) fun r8=>
 lpF F (Zpw F r8) (0)
theorem Zue {F:Nat} (n0:Int)  :Le (Zpj F n0) (ZcX n0):=by
 unfold Zpj ZcX
 exact θ (And.intro (@Zp8 F) (@ZIf F))
noncomputable def Zns (F:Nat) (a:Int×Int):Int->Option ((Int) ⊕ (Ze×Int))
 | c=>
  fbind (Zgm F c a.1 a.2) fun e=>
  fbind (cApp 8 e [1]) fun f=>
  fbind (Zmg F f a.1) fun g=>
  bif !g then
   some (.inl (cw (c+1)))
  else
   fbind (Zgm F c a.1 a.2) fun h=>
   fbind (cApp 8 h [1]) fun i=>
   some (.inr (((Ze.mk a.1 a.2 i),0)))
theorem Zwr {F:Nat} (a:Int×Int)  (e:_):Le (Zns F a e) (Zpn a e):=by
 unfold Zns Zpn
 exact θ (And.intro (@Zt2 F) (@ZsY F))
noncomputable def Zm1 (F:Nat) (a:Int×Int):Option (Ze×Int):=
 lpF F (Zns F a) (0)
theorem ZAR {F:Nat} (a:Int×Int)  :Le (Zm1 F a) (Zk1 a):=by
 unfold Zm1 Zk1
 exact θ (@Zwr F)
noncomputable def Zqq (F:Nat) (a:Int):Option (Ze×Int):=
 fbind (Zpj F a) fun c=>
 bif eqi (c.1) (0) then
  some (((Ze.mk 0 0 ([]:List Int)),2))
 else
  bif lti (64) (a) then
   some (((Ze.mk 0 0 ([]:List Int)),2))
  else
   Zm1 F c
theorem Zq {F:Nat} (a:Int)  :Le (Zqq F a) (ZbQ a):=by
 unfold Zqq ZbQ
 exact θ (And.intro (@Zue F) (@ZAR F))
end Go.Proofs.YtepnljbkgjbbmaaGreatDoor
