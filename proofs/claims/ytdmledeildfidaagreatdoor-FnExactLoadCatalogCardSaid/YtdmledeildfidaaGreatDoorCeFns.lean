import Derived.Test.YtdmledeildfidaaGreatDoorPuEvS
import Derived.Test.YtdmledeildfidaaGreatDoorPuFns
namespace Go.Proofs.YtdmledeildfidaaGreatDoor
open Go Go.Vc
set_option linter.unusedVariables false
set_option linter.unusedSimpArgs false
set_option maxRecDepth 20000
noncomputable instance:Frc Ze where
 frc p k:=Ze.rec (fun x0 x1 x2=>Frc.frc x0 fun x0=>Frc.frc x1 fun x1=>Frc.frc x2 fun x2=>k (.mk x0 x1 x2)) p
 ok p k:=by cases p;show Frc.frc _ _=_;simp only [Frc.ok]
theorem θ {p q:Prop} (g:q) (h:q->p:=by intro f;(try simp only [<-cw_ok,<-Zv,<-Zx,<-Zs,<-Zq,<-Zr,<-ZE,<-Zz,GT.gt,GE.ge]);(repeat' (with_reducible first|exact Le.rfl|assumption|apply f.1|apply f.2.1|apply f.2.2.1|apply f.2.2.2.1|apply f.2.2.2.2.1|apply f.2.2.2.2.2.1|apply f.2.2.2.2.2.2.1|apply f|apply f.2|apply f.2.2|apply f.2.2.2|apply f.2.2.2.2|apply f.2.2.2.2.2|apply f.2.2.2.2.2.2|apply f.2.2.2.2.2.2.2|exact Zu _ _ _|exact Zw _ _ _ _|(refine le_if ?_ ?_)|(refine ZB ?_ fun _=>?_)|(refine ZD ?_)|(refine ZC fun _=>?_)))):p:=h g
noncomputable def Zfi (F:Nat) (n0 c a:Int):Option Bool:=bif lei (c) (n0) then some (lei (n0) (a))else some (false)
theorem ZqD {F:Nat} (n0 c a:Int)  :Le (Zfi F n0 c a) (ZI n0 c a):=by
 unfold Zfi ZI;exact θ trivial
noncomputable def ZoO (F:Nat) (a:Int):Int×Int->Option ((Int×Int) ⊕ ((Int) ⊕ (Int×Int)))| (e,c)=>bif lti (1) (c) then fbind (cNz a) fun _=>bif !eqi (Int.tmod c a) (0) then some (.inr (.inr ((0,0))))else fbind (cNz a) fun _=>some (.inl (cw (e+1),cw (Int.tdiv c a)))else some (.inr (.inr ((a,e))))
theorem ZyA {F:Nat} (a:Int)  (g:_):Le (ZoO F a g) (ZnS a g):=by
 obtain ⟨c,e⟩:=g;unfold ZoO ZnS;exact θ trivial
noncomputable def Zn1 (F:Nat) (c:Int):Int->Option ((Int) ⊕ (Int×Int))| a=>fbind (cNz a) fun _=>bif !eqi (Int.tmod c a) (0) then some (.inl (cw (a+1)))else lpF F (ZoO F a) (0,c)
theorem ZBO {F:Nat} (a:Int)  (e:_):Le (Zn1 F a e) (ZoY a e):=by
 unfold Zn1 ZoY;exact θ (@ZyA F)
noncomputable def ZkP (F:Nat) (a:Int):Option (Int×Int):=fbind (Zfi F a 2 64) fun r8=>bif !r8 then some ((0,0))else lpF F (Zn1 F a) (2)
theorem Zn {F:Nat} (a:Int)  :Le (ZkP F a) (Zb6 a):=by
 unfold ZkP Zb6;exact θ (And.intro (@ZqD F) (@ZBO F))
noncomputable def Zn5 (F:Nat) (p1:Int):Int×Int×List Int->Option ((Int×Int×List Int) ⊕ (List Int))| (a,c,e)=>bif lti (0) (c) then fbind (cNz p1) fun _=>fbind (cApp 8 e [Int.tmod a p1]) fun f=>fbind (cNz p1) fun _=>some (.inl (cw (Int.tdiv a p1),cw (c-1),f))else some (.inr (e))
theorem Zy2 {F:Nat} (p1:Int)  (g:_):Le (Zn5 F p1 g) (Zer p1 g):=by
 obtain ⟨a,c,e⟩:=g;unfold Zn5 Zer;exact θ trivial
noncomputable def Zm5 (F:Nat) (a p1 n2:Int):Option (List Int):=lpF F (Zn5 F p1) (a,n2,([]:List Int))
theorem Zsr {F:Nat} (a p1 n2:Int)  :Le (Zm5 F a p1 n2) (Zbf a p1 n2):=by
 unfold Zm5 Zbf;exact θ (@Zy2 F)
noncomputable def ZqP (F:Nat) (e:Int):Int×Int->Option ((Int×Int) ⊕ (Int))| (a,c)=>bif lti (0) (a) then some (.inl (cw (a-1),cw (c*e)))else some (.inr (c))
theorem ZyR {F:Nat} (a:Int)  (g:_):Le (ZqP F a g) (Zny a g):=by
 obtain ⟨c,e⟩:=g;unfold ZqP Zny;exact θ trivial
noncomputable def Ziz (F:Nat) (a k1:Int):Option Int:=lpF F (ZqP F a) (k1,1)
theorem Zqr {F:Nat} (a k1:Int)  :Le (Ziz F a k1) (Zft a k1):=by
 unfold Ziz Zft;exact θ (@ZyR F)
noncomputable def ZpI (F:Nat) (a:List Int):Option (List Int):=fbind (cApp 8 ([]:List Int) a) fun c=>some (c)
theorem ZGo {F:Nat} (a:List Int)  :Le (ZpI F a) (ZaZ a):=by
 unfold ZpI ZaZ;exact θ trivial
noncomputable def ZqM (F:Nat) (e:List Int) (g f h:Int):Int×List Int->Option ((Int×List Int) ⊕ ((Int×List Int) ⊕ (List Int)))| (a,c)=>bif lti (a) ((e.length:Int)) then fbind (cIdx c (cw ((cw ((cw (f-(e.length:Int)))+1))+a))) fun i=>fbind (cIdx e a) fun j=>fbind (cNz g) fun _=>fbind (cIdx c (cw ((cw ((cw (f-(e.length:Int)))+1))+a))) fun k=>some (.inl (cw (a+1),(c.set (cw ((cw ((cw (f-(e.length:Int)))+1))+a):Int).toNat (Int.tmod (cw (i+(cw ((cw (g-h))*j)))) g))))else some (.inr (.inl (cw (f-1),c)))
theorem ZJs {F:Nat} (c:List Int) (e f a:Int)  (j:_):Le (ZqM F c e f a j) (ZhE c e f a j):=by
 obtain ⟨h,g⟩:=j;unfold ZqM ZhE;exact θ trivial
noncomputable def ZqI (F:Nat) (e:List Int):List Int->Option ((List Int) ⊕ ((Int×List Int) ⊕ (List Int)))| a=>bif lei ((e.length:Int)) ((a.length:Int)) then fbind (cSl a 0 (cw ((a.length:Int)-1))) fun c=>some (.inl (c))else some (.inr (.inr (a)))
theorem ZzZ {F:Nat} (a:List Int)  (e:_):Le (ZqI F a e) (ZdE a e):=by
 unfold ZqI ZdE;exact θ trivial
noncomputable def ZnV (F:Nat) (a:List Int) (f:Int):Int×List Int->Option ((Int×List Int) ⊕ (List Int))| (c,xs)=>bif lei ((cw ((a.length:Int)-1))) (c) then fbind (cIdx xs c) fun e=>lpF F (ZqM F a f c e) (0,xs)else lpF F (ZqI F a) (xs)
theorem ZFO {F:Nat} (a:List Int) (c:Int)  (g:_):Le (ZnV F a c g) (ZbV a c g):=by
 obtain ⟨e,xs⟩:=g;unfold ZnV ZbV;exact θ (And.intro (@ZJs F) (@ZzZ F))
noncomputable def Zo9 (F:Nat) (c e:List Int) (f:Int):Option (List Int):=fbind (ZpI F c) fun a=>lpF F (ZnV F e f) (cw ((a.length:Int)-1),a)
theorem ZyN {F:Nat} (a c:List Int) (e:Int)  :Le (Zo9 F a c e) (ZdD a c e):=by
 unfold Zo9 ZdD;exact θ (And.intro (@ZGo F) (@ZFO F))
noncomputable def Zpb (F:Nat) (c:List Int) (p1:Int):Int×Int->Option ((Int×Int) ⊕ (Int))| (a,e)=>bif lei (0) (e) then fbind (cIdx c e) fun f=>some (.inl (cw ((cw (a*p1))+f),cw (e-1)))else some (.inr (a))
theorem ZE3 {F:Nat} (a:List Int) (p1:Int)  (g:_):Le (Zpb F a p1 g) (Zd8 a p1 g):=by
 obtain ⟨c,e⟩:=g;unfold Zpb Zd8;exact θ trivial
noncomputable def Zpc (F:Nat) (a:List Int) (p1:Int):Option Int:=lpF F (Zpb F a p1) (0,cw ((a.length:Int)-1))
theorem ZBw {F:Nat} (a:List Int) (p1:Int)  :Le (Zpc F a p1) (Zbs a p1):=by
 unfold Zpc Zbs;exact θ (@ZE3 F)
noncomputable def ZqL (F:Nat) (a:List Int) (p1 c:Int):Int->Option ((Int) ⊕ ((Int) ⊕ (Bool)))| e=>fbind (Ziz F p1 c) fun f=>bif lti (e) (f) then fbind (Zm5 F e p1 c) fun g=>fbind (cApp 8 g [1]) fun h=>fbind (Zo9 F a h p1) fun i=>fbind (Zpc F i p1) fun j=>bif eqi (j) (0) then some (.inr (.inr (false)))else some (.inl (cw (e+1)))else some (.inr (.inl (cw (c+1))))
theorem Zzs {F:Nat} (a:List Int) (p1 c:Int)  (e:_):Le (ZqL F a p1 c e) (Znc a p1 c e):=by
 unfold ZqL Znc;exact θ (And.intro (@Zqr F)<|And.intro (@Zsr F)<|And.intro (@ZyN F) (@ZBw F))
noncomputable def ZpA (F:Nat) (a:List Int) (p1:Int):Int->Option ((Int) ⊕ (Bool))| c=>bif lei (cw (2*c)) ((cw ((a.length:Int)-1))) then lpF F (ZqL F a p1 c) (0)else some (.inr (true))
theorem ZAY {F:Nat} (a:List Int) (p1:Int)  (e:_):Le (ZpA F a p1 e) (Zpg a p1 e):=by
 unfold ZpA Zpg;exact θ (@Zzs F)
noncomputable def Zmz (F:Nat) (a:List Int) (p1:Int):Option Bool:=lpF F (ZpA F a p1) (1)
theorem Zsa {F:Nat} (a:List Int) (p1:Int)  :Le (Zmz F a p1) (Zgq a p1):=by
 unfold Zmz Zgq;exact θ (@ZAY F)
noncomputable def ZnZ (F:Nat) (a:Int×Int):Int->Option ((Int) ⊕ (Ze))| e=>fbind (Zm5 F e a.1 a.2) fun f=>fbind (cApp 8 f [1]) fun c=>fbind (Zmz F c a.1) fun g=>bif g then some (.inr ((Ze.mk a.1 a.2 c)))else some (.inl (cw (e+1)))
theorem Zzq {F:Nat} (a:Int×Int)  (e:_):Le (ZnZ F a e) (ZoT a e):=by
 unfold ZnZ ZoT;exact θ (And.intro (@Zsr F) (@Zsa F))
noncomputable def ZrB (F:Nat) (a:Int):Option Ze:=fbind (ZkP F a) fun c=>lpF F (ZnZ F c) (0)
theorem Z8 {F:Nat} (a:Int)  :Le (ZrB F a) (Zhf a):=by
 unfold ZrB Zhf;exact θ (And.intro (@Zn F) (@Zzq F))
noncomputable def ZoA (F:Nat) (c:Ze) (a:Int×Int):Int->Option ((Int) ⊕ (Bool))| e=>bif lti (e) ((c.Poly.length:Int)) then fbind (cIdx c.Poly e) fun f=>fbind (Zfi F f 0 (cw (a.1-1))) fun g=>bif !g then some (.inr (false))else some (.inl (cw (e+1)))else fbind (Zmz F c.Poly a.1) fun h=>some (.inr (h))
theorem ZFu {F:Nat} (c:Ze) (a:Int×Int)  (e:_):Le (ZoA F c a e) (ZoH c a e):=by
 unfold ZoA ZoH;exact θ (And.intro (@ZqD F) (@Zsa F))
noncomputable def ZqT (F:Nat) (a:Ze):Option (Bool):=fbind (Ziz F a.Prime a.Degree) fun e=>fbind (ZkP F e) fun c=>bif !eqi (c.1) (a.Prime) then some (false)else lpF F (ZoA F a c) (0)
theorem ZxM {F:Nat} (a:Ze)  :Le (ZqT F a) (Zko a):=by
 unfold ZqT Zko;exact θ (And.intro (@Zqr F)<|And.intro (@Zn F) (@ZFu F))
noncomputable def Zrc (F:Nat) (a:Ze):Option Bool:=fbind (Zfi F a.Prime 2 64) fun c=>bif !c then some (false)else fbind (Zfi F a.Degree 1 6) fun e=>bif !e then some (false)else bif !eqi ((a.Poly.length:Int)) ((cw (a.Degree+1))) then some (false)else fbind (cIdx a.Poly a.Degree) fun f=>bif !eqi (f) (1) then some (false)else ZqT F a
theorem Z5 {F:Nat} (a:Ze)  :Le (Zrc F a) (Zgn a):=by
 unfold Zrc Zgn;exact θ (And.intro (@ZqD F) (@ZxM F))
noncomputable def Zsg (F:Nat) (a:Ze):Option Int:=fbind (Ziz F a.Prime a.Degree) fun c=>some (c)
theorem Z6 {F:Nat} (a:Ze)  :Le (Zsg F a) (Zbq a):=by
 unfold Zsg Zbq;exact θ (@Zqr F)
noncomputable def Zjx (F:Nat) (n0 c a:Int):Option Bool:=bif lei (c) (n0) then some (lei (n0) (a))else some (false)
theorem Zvu {F:Nat} (n0 c a:Int)  :Le (Zjx F n0 c a) (ZK n0 c a):=by
 unfold Zjx ZK;exact θ trivial
noncomputable def Zo1 (F:Nat) (c:List Int) (e:Int->Option Bool):Int->Option ((Int) ⊕ (Int))| a=>bif lti (a) ((c.length:Int)) then fbind (cIdx c a) fun f=>fbind (e f) fun g=>bif g then some (.inr (a))else some (.inl (cw (a+1)))else some (.inr ((-1)))
theorem ZyK {F:Nat} (e:List Int) (a g:Int->Option Bool) (c:∀ f,Le (a f) (g f)) (h:_):Le (Zo1 F e a h) (Zfc e g h):=by
 unfold Zo1 Zfc
 try simp only [<-cw_ok,<-Zv,<-Zx,<-Zs,<-Zq,<-Zr,<-ZE,<-Zz,GT.gt,GE.ge]
 repeat' (with_reducible first|exact Le.rfl|assumption|exact Zu _ _ _|exact Zw _ _ _ _|(refine le_if ?_ ?_)|(refine ZB ?_ fun _=>?_)|(refine ZD ?_)|(refine ZC fun _=>?_))
 all_goals (first|exact c _|skip)
noncomputable def ZoE (F:Nat) (c:List Int) (a:Int->Option Bool):Option Int:=lpF F (Zo1 F c a) (0)
theorem ZE8 {F:Nat} (e:List Int) (a g:Int->Option Bool) (c:∀ f,Le (a f) (g f)):Le (ZoE F e a) (Zk0 e g):=by
 unfold ZoE Zk0
 try simp only [<-cw_ok,<-Zv,<-Zx,<-Zs,<-Zq,<-Zr,<-ZE,<-Zz,GT.gt,GE.ge]
 repeat' (with_reducible first|exact Le.rfl|assumption|(refine ZyK _ _ _ ?_ _;intros)|exact Zu _ _ _|exact Zw _ _ _ _|(refine le_if ?_ ?_)|(refine ZB ?_ fun _=>?_)|(refine ZD ?_)|(refine ZC fun _=>?_))
 all_goals (first|exact c _|skip)
noncomputable def ZnR (F:Nat) (c:List Int) (a:Int->Option Bool):Option Bool:=fbind (ZoE F c a) fun e=>some (lei (0) (e))
theorem ZJi {F:Nat} (e:List Int) (a g:Int->Option Bool) (c:∀ f,Le (a f) (g f)):Le (ZnR F e a) (ZaV e g):=by
 unfold ZnR ZaV
 try simp only [<-cw_ok,<-Zv,<-Zx,<-Zs,<-Zq,<-Zr,<-ZE,<-Zz,GT.gt,GE.ge]
 repeat' (with_reducible first|exact Le.rfl|assumption|(refine ZE8 _ _ _ ?_;intros)|exact Zu _ _ _|exact Zw _ _ _ _|(refine le_if ?_ ?_)|(refine ZB ?_ fun _=>?_)|(refine ZD ?_)|(refine ZC fun _=>?_))
 all_goals (first|exact c _|skip)
noncomputable def Zon (F:Nat) (a:List Int):Option (List Int):=cApp 8 [] a
theorem ZIl {F:Nat} (a:List Int)  :Le (Zon F a) (Zcc a):=by
 unfold Zon Zcc;exact θ trivial
noncomputable def ZhT (F:Nat) (a:List Int):Option Int:=some ((a.length:Int))
theorem ZpO {F:Nat} (a:List Int)  :Le (ZhT F a) (ZS a):=by
 unfold ZhT ZS;exact θ trivial
noncomputable def ZoX (F:Nat) (a c e:Int):Option ((Int×Int) ⊕ (Int)):=some (.inl (cw (c-1),cw (e*a)))
theorem ZDl {F:Nat} (a c e:Int)  :Le (ZoX F a c e) (ZeY a c e):=by
 unfold ZoX ZeY;exact θ trivial
noncomputable def ZpJ (F:Nat) (c e:Int):Int×Int->Option ((Int×Int) ⊕ (Int))| (a,power7)=>bif lti (0) (a) then bif lei (power7) (e) then ZoX F c a power7 else some (.inr (power7))else some (.inr (power7))
theorem ZBz {F:Nat} (a e:Int)  (g:_):Le (ZpJ F a e g) (ZaR a e g):=by
 obtain ⟨c,h⟩:=g;unfold ZpJ ZaR;exact θ (@ZDl F)
noncomputable def Zf6 (F:Nat) (a c e:Int):Option Int:=lpF F (ZpJ F a e) (c,1)
theorem Zou {F:Nat} (a c e:Int)  :Le (Zf6 F a c e) (Zbn a c e):=by
 unfold Zf6 Zbn;exact θ (@ZBz F)
noncomputable def Zq0 (F:Nat) (a:Ze):Option Int:=fbind (Zf6 F a.Prime a.Degree 64) fun c=>some (c)
theorem Z4 {F:Nat} (a:Ze)  :Le (Zq0 F a) (Zbj a):=by
 unfold Zq0 Zbj;exact θ (@Zou F)
noncomputable def Zqi (F:Nat) (a:Int) (f:List Int):Int×Int×List Int->Option ((Int×Int×List Int) ⊕ (List Int))| (e,c,xs)=>bif lti (c) ((f.length:Int)) then fbind (cNz a) fun _=>fbind (cIdx xs c) fun g=>fbind (cNz a) fun _=>some (.inl (cw (Int.tdiv e a),cw (c+1),(xs.set (c:Int).toNat (Int.tmod e a))))else some (.inr (xs))
theorem ZFB {F:Nat} (a:Int) (c:List Int)  (g:_):Le (Zqi F a c g) (ZdL a c g):=by
 obtain ⟨e,f,xs⟩:=g;unfold Zqi ZdL;exact θ trivial
noncomputable def ZfW (F:Nat) (n0 a e:Int):Option (List Int):=fbind (cMake 8 (0:Int) e e) fun c=>lpF F (Zqi F a c) (n0,0,c)
theorem ZuM {F:Nat} (n0 a e:Int)  :Le (ZfW F n0 a e) (ZaW n0 a e):=by
 unfold ZfW ZaW;exact θ (@ZFB F)
noncomputable def ZnM (F:Nat) (e:List Int) (f g h:Int):Int×List Int->Option ((Int×List Int) ⊕ ((Int×List Int) ⊕ (List Int)))| (a,c)=>bif lti (a) ((e.length:Int)) then fbind (cIdx e a) fun i=>fbind (cIdx c (cw ((cw (g-(cw ((e.length:Int)-1))))+a))) fun j=>fbind (cNz f) fun _=>fbind (cNz f) fun _=>fbind (cIdx c (cw ((cw (g-(cw ((e.length:Int)-1))))+a))) fun k=>some (.inl (cw (a+1),(c.set (cw ((cw (g-(cw ((e.length:Int)-1))))+a):Int).toNat (Int.tmod (cw ((Int.tmod (cw (j-(cw (h*i)))) f)+f)) f))))else some (.inr (.inl (cw (g-1),c)))
theorem ZJA {F:Nat} (c:List Int) (e f a:Int)  (j:_):Le (ZnM F c e f a j) (ZgG c e f a j):=by
 obtain ⟨h,g⟩:=j;unfold ZnM ZgG;exact θ trivial
noncomputable def ZpS (F:Nat) (a:List Int) (g:Int):Int×List Int->Option ((Int×List Int) ⊕ (List Int))| (c,xs)=>bif lei ((cw ((a.length:Int)-1))) (c) then fbind (cIdx xs c) fun e=>lpF F (ZnM F a g c e) (0,xs)else fbind (cSl xs 0 (if ((xs.length:Int):Int)<(cw ((a.length:Int)-1)) then (xs.length:Int) else cw ((a.length:Int)-1))) fun f=>some (.inr (f))
theorem ZBk {F:Nat} (a:List Int) (c:Int)  (g:_):Le (ZpS F a c g) (ZbY a c g):=by
 obtain ⟨e,xs⟩:=g;unfold ZpS ZbY;exact θ (@ZJA F)
noncomputable def Zpj (F:Nat) (c e:List Int) (f:Int):Option (List Int):=fbind (Zon F c) fun a=>lpF F (ZpS F e f) (cw ((a.length:Int)-1),a)
theorem ZCF {F:Nat} (a c:List Int) (e:Int)  :Le (Zpj F a c e) (Zdu a c e):=by
 unfold Zpj Zdu;exact θ (And.intro (@ZIl F) (@ZBk F))
noncomputable def ZnX (F:Nat) (x0:Int):Option Bool:=some (!eqi (x0) (0))
theorem ZGi {F:Nat} (x0:Int)  :Le (ZnX F x0) (Zll x0):=by
 unfold ZnX Zll;exact θ trivial
noncomputable def Zpx (F:Nat) (a:List Int):Option Bool:=fbind (ZnR F a (fun c=>ZnX F c)) fun e=>some (!e)
theorem ZDd {F:Nat} (a:List Int)  :Le (Zpx F a) (Zl5 a):=by
 unfold Zpx Zl5
 try simp only [<-cw_ok,<-Zv,<-Zx,<-Zs,<-Zq,<-Zr,<-ZE,<-Zz,GT.gt,GE.ge]
 repeat' (with_reducible first|exact Le.rfl|assumption|(refine ZJi _ _ _ ?_;intros)|exact ZGi _|exact Zu _ _ _|exact Zw _ _ _ _|(refine le_if ?_ ?_)|(refine ZB ?_ fun _=>?_)|(refine ZD ?_)|(refine ZC fun _=>?_))
noncomputable def Zqn (F:Nat) (a:List Int) (p1 c:Int):Int->Option ((Int) ⊕ ((Int) ⊕ (Bool)))| e=>fbind (Zf6 F p1 c 64) fun f=>bif lti (e) (f) then fbind (ZfW F e p1 c) fun g=>fbind (cApp 8 g [1]) fun h=>fbind (Zpj F a h p1) fun i=>fbind (Zpx F i) fun j=>bif j then some (.inr (.inr (false)))else some (.inl (cw (e+1)))else some (.inr (.inl (cw (c+1))))
theorem ZJ7 {F:Nat} (a:List Int) (p1 c:Int)  (e:_):Le (Zqn F a p1 c e) (Zoc a p1 c e):=by
 unfold Zqn Zoc;exact θ (And.intro (@Zou F)<|And.intro (@ZuM F)<|And.intro (@ZCF F) (@ZDd F))
noncomputable def Zol (F:Nat) (a:List Int) (p1 e:Int):Int->Option ((Int) ⊕ (Bool))| c=>bif lei (cw (2*c)) ((cw (e-1))) then lpF F (Zqn F a p1 c) (0)else some (.inr (true))
theorem ZzL {F:Nat} (a:List Int) (p1 c:Int)  (e:_):Le (Zol F a p1 c e) (Zqa a p1 c e):=by
 unfold Zol Zqa;exact θ (@ZJ7 F)
noncomputable def Zi5 (F:Nat) (a:List Int) (p1:Int):Option Bool:=fbind (ZhT F a) fun c=>lpF F (Zol F a p1 c) (1)
theorem ZuP {F:Nat} (a:List Int) (p1:Int)  :Le (Zi5 F a p1) (ZhI a p1):=by
 unfold Zi5 ZhI;exact θ (And.intro (@ZpO F) (@ZzL F))
noncomputable def ZpY (F:Nat) (c:Int):Int×List Int->Option ((Int×List Int) ⊕ ((Int×List Int×Int) ⊕ (List Int)))| (a,factor3_2)=>fbind (cNz c) fun _=>bif eqi (Int.tmod a c) (0) then fbind (cApp 8 factor3_2 [c]) fun e=>fbind (cNz c) fun _=>some (.inl (cw (Int.tdiv a c),e))else some (.inr (.inl (a,factor3_2,cw (c+1))))
theorem ZxH {F:Nat} (a:Int)  (g:_):Le (ZpY F a g) (ZeV a g):=by
 obtain ⟨c,e⟩:=g;unfold ZpY ZeV;exact θ trivial
noncomputable def Zoh (F:Nat):Int×List Int×Int->Option ((Int×List Int×Int) ⊕ (List Int))| (a,factor3,c)=>bif lei (cw (c*c)) (a) then lpF F (ZpY F c) (a,factor3)else bif lti (1) (a) then fbind (cApp 8 factor3 [a]) fun e=>some (.inr (e))else some (.inr (factor3))
theorem ZG5 {F:Nat}   (e:_):Le (Zoh F  e) (Zcl  e):=by
 obtain ⟨a,g,c⟩:=e;unfold Zoh Zcl;exact θ (@ZxH F)
noncomputable def Zi3 (F:Nat) (n0:Int):Option (List Int):=fbind (Zjx F n0 1 1000000) fun a=>bif !a then some (([]:List Int))else lpF F (Zoh F) (n0,([]:List Int),2)
theorem ZsR {F:Nat} (n0:Int)  :Le (Zi3 F n0) (ZcU n0):=by
 unfold Zi3 ZcU
 try simp only [<-cw_ok,<-Zv,<-Zx,<-Zs,<-Zq,<-Zr,<-ZE,<-Zz,GT.gt,GE.ge]
 repeat' (with_reducible first|exact Le.rfl|assumption|exact Zvu _ _ _|exact ZG5  _|exact Zu _ _ _|exact Zw _ _ _ _|(refine le_if ?_ ?_)|(refine ZB ?_ fun _=>?_)|(refine ZD ?_)|(refine ZC fun _=>?_))
noncomputable def Zpr (F:Nat) (n0:Int):Option Bool:=fbind (Zi3 F n0) fun a=>some (eqi ((a.length:Int)) (1))
theorem ZBT {F:Nat} (n0:Int)  :Le (Zpr F n0) (ZiT n0):=by
 unfold Zpr ZiT;exact θ (@ZsR F)
noncomputable def Zpn (F:Nat) (a:Ze):Int->Option ((Int) ⊕ (Bool))| c=>bif lti (c) ((a.Poly.length:Int)) then fbind (cIdx a.Poly c) fun e=>fbind (Zjx F e 0 (cw (a.Prime-1))) fun f=>bif !f then some (.inr (false))else some (.inl (cw (c+1)))else fbind (Zi5 F a.Poly a.Prime) fun g=>some (.inr (g))
theorem Zza {F:Nat} (a:Ze)  (e:_):Le (Zpn F a e) (ZnW a e):=by
 unfold Zpn ZnW;exact θ (And.intro (@Zvu F) (@ZuP F))
noncomputable def ZpZ (F:Nat) (a:Ze):Option (Bool):=lpF F (Zpn F a) (0)
theorem ZHu {F:Nat} (a:Ze)  :Le (ZpZ F a) (Zlv a):=by
 unfold ZpZ Zlv;exact θ (@Zza F)
noncomputable def ZqO (F:Nat) (a:Ze):Option (Bool):=fbind (ZhT F a.Poly) fun c=>bif !eqi (c) ((cw (a.Degree+1))) then some (false)else fbind (cIdx a.Poly a.Degree) fun e=>bif !eqi (e) (1) then some (false)else ZpZ F a
theorem ZCM {F:Nat} (a:Ze)  :Le (ZqO F a) (Zj1 a):=by
 unfold ZqO Zj1;exact θ (And.intro (@ZpO F) (@ZHu F))
noncomputable def Zwr (F:Nat) (a:Ze):Option Bool:=fbind (Zpr F a.Prime) fun e=>bif !e then some (false)else bif lti (a.Degree) (1) then some (false)else fbind (Zf6 F a.Prime a.Degree 64) fun c=>bif lti (64) (c) then some (false)else ZqO F a
theorem Z7 {F:Nat} (a:Ze)  :Le (Zwr F a) (ZgY a):=by
 unfold Zwr ZgY;exact θ (And.intro (@ZBT F)<|And.intro (@Zou F) (@ZCM F))
noncomputable def Zn6 (F:Nat) (r8:List Int):Int->Option ((Int) ⊕ (Int×Int))| a=>bif lti (a) ((r8.length:Int)) then fbind (cIdx r8 a) fun c=>fbind (cIdx r8 0) fun e=>bif !eqi (c) (e) then some (.inr ((0,0)))else some (.inl (cw (a+1)))else bif eqi ((r8.length:Int)) (0) then some (.inr ((0,0)))else fbind (ZhT F r8) fun f=>fbind (cIdx r8 0) fun g=>some (.inr ((g,f)))
theorem ZFn {F:Nat} (r8:List Int)  (a:_):Le (Zn6 F r8 a) (Zcg r8 a):=by
 unfold Zn6 Zcg;exact θ (@ZpO F)
noncomputable def ZqB (F:Nat) (n0:Int):Option (Int×Int):=fbind (Zi3 F n0) fun r8=>lpF F (Zn6 F r8) (0)
theorem Zu8 {F:Nat} (n0:Int)  :Le (ZqB F n0) (Zdd n0):=by
 unfold ZqB Zdd;exact θ (And.intro (@ZsR F) (@ZFn F))
noncomputable def Zp5 (F:Nat) (a:Int×Int):Int->Option ((Int) ⊕ (Ze×Int))| c=>fbind (ZfW F c a.1 a.2) fun e=>fbind (cApp 8 e [1]) fun f=>fbind (Zi5 F f a.1) fun g=>bif !g then some (.inl (cw (c+1)))else fbind (ZfW F c a.1 a.2) fun h=>fbind (cApp 8 h [1]) fun i=>some (.inr (((Ze.mk a.1 a.2 i),0)))
theorem Zzr {F:Nat} (a:Int×Int)  (e:_):Le (Zp5 F a e) (Zqd a e):=by
 unfold Zp5 Zqd;exact θ (And.intro (@ZuM F) (@ZuP F))
noncomputable def Zok (F:Nat) (a:Int×Int):Option (Ze×Int):=lpF F (Zp5 F a) (0)
theorem Zz0 {F:Nat} (a:Int×Int)  :Le (Zok F a) (Zlu a):=by
 unfold Zok Zlu;exact θ (@Zzr F)
noncomputable def Zrx (F:Nat) (a:Int):Option (Ze×Int):=fbind (ZqB F a) fun c=>bif eqi (c.1) (0) then some (((Ze.mk 0 0 ([]:List Int)),2))else bif lti (64) (a) then some (((Ze.mk 0 0 ([]:List Int)),2))else Zok F c
theorem Zo {F:Nat} (a:Int)  :Le (Zrx F a) (ZbE a):=by
 unfold Zrx ZbE;exact θ (And.intro (@Zu8 F) (@Zz0 F))
end Go.Proofs.YtdmledeildfidaaGreatDoor
