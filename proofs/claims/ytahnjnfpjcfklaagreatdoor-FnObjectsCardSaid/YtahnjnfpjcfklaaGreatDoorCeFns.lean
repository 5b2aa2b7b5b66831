import Derived.Test.YtahnjnfpjcfklaaGreatDoorPuEvS
import Derived.Test.YtahnjnfpjcfklaaGreatDoorPuFns
namespace Go.Proofs.YtahnjnfpjcfklaaGreatDoor
open Go Go.Vc
set_option linter.unusedVariables false
set_option linter.unusedSimpArgs false
set_option maxRecDepth 20000
noncomputable instance:Frc Zb where
 frc p k:=Zb.rec (fun x0 x1 x2=>Frc.frc x0 fun x0=>Frc.frc x1 fun x1=>Frc.frc x2 fun x2=>k (.mk x0 x1 x2)) p
 ok p k:=by cases p;show Frc.frc _ _=_;simp only [Frc.ok]
noncomputable instance:Frc Zw where
 frc p k:=Zw.rec (fun x0 x1=>Frc.frc x0 fun x0=>Frc.frc x1 fun x1=>k (.mk x0 x1)) p
 ok p k:=by cases p;show Frc.frc _ _=_;simp only [Frc.ok]
theorem θ {p q:Prop} (g:q) (h:q->p:=by intro f;(try simp only [<-cw_ok,<-Zt,<-Zo,<-Zm,<-Zk,<-Zl,<-Zv,<-Zp,GT.gt,GE.ge]);(repeat' (with_reducible first|exact Le.rfl|assumption|apply f.1|apply f.2.1|apply f.2.2.1|apply f.2.2.2.1|apply f.2.2.2.2.1|apply f.2.2.2.2.2.1|apply f.2.2.2.2.2.2.1|apply f|apply f.2|apply f.2.2|apply f.2.2.2|apply f.2.2.2.2|apply f.2.2.2.2.2|apply f.2.2.2.2.2.2|apply f.2.2.2.2.2.2.2|exact Zu _ _ _|exact Zs _ _ _ _|(refine le_if ?_ ?_)|(refine Zn ?_ fun _=>?_)|(refine Zr ?_)|(refine Zq fun _=>?_)))):p:=h g
noncomputable def ZhG (F:Nat) (a:List Int):Option (List Int):=fbind (cApp 8 ([]:List Int) a) fun e=>some (e)
theorem Zve {F:Nat} (a:List Int)  :Le (ZhG F a) (ZaM a):=by
 unfold ZhG ZaM;exact θ trivial
noncomputable def Zew (F:Nat) (n0 e a:Int):Option Bool:=bif lei (e) (n0) then some (lei (n0) (a))else some (false)
theorem Zld {F:Nat} (n0 e a:Int)  :Le (Zew F n0 e a) (Zak n0 e a):=by
 unfold Zew Zak;exact θ trivial
noncomputable def Znn (F:Nat) (f:Int):Int×Int->Option ((Int×Int) ⊕ (Int))| (a,e)=>bif lti (0) (a) then some (.inl (cw (a-1),cw (e*f)))else some (.inr (e))
theorem Zwf {F:Nat} (a:Int)  (g:_):Le (Znn F a g) (Zpz a g):=by
 obtain ⟨e,f⟩:=g;unfold Znn Zpz;exact θ trivial
noncomputable def Zhi (F:Nat) (a k1:Int):Option Int:=lpF F (Znn F a) (k1,1)
theorem Zob {F:Nat} (a k1:Int)  :Le (Zhi F a k1) (ZeW a k1):=by
 unfold Zhi ZeW;exact θ (@Zwf F)
noncomputable def Zuv (F:Nat) (a:Zb):Option Int:=fbind (Zhi F a.Prime a.Degree) fun e=>some (e)
theorem Zab {F:Nat} (a:Zb)  :Le (Zuv F a) (Zbh a):=by
 unfold Zuv Zbh;exact θ (@Zob F)
noncomputable def Zpl (F:Nat) (p1:Int):Int×Int×List Int->Option ((Int×Int×List Int) ⊕ (List Int))| (a,e,f)=>bif lti (0) (e) then fbind (cNz p1) fun _=>fbind (cApp 8 f [Int.tmod a p1]) fun g=>fbind (cNz p1) fun _=>some (.inl (cw (Int.tdiv a p1),cw (e-1),g))else some (.inr (f))
theorem Zxu {F:Nat} (p1:Int)  (g:_):Le (Zpl F p1 g) (ZeK p1 g):=by
 obtain ⟨a,e,f⟩:=g;unfold Zpl ZeK;exact θ trivial
noncomputable def Zjv (F:Nat) (a0 p1 n2:Int):Option (List Int):=lpF F (Zpl F p1) (a0,n2,([]:List Int))
theorem Zsm {F:Nat} (a0 p1 n2:Int)  :Le (Zjv F a0 p1 n2) (Zbe a0 p1 n2):=by
 unfold Zjv Zbe;exact θ (@Zxu F)
noncomputable def ZmE (F:Nat) (e:List Int) (p1:Int):Int×Int->Option ((Int×Int) ⊕ (Int))| (a,f)=>bif lei (0) (f) then fbind (cIdx e f) fun g=>some (.inl (cw ((cw (a*p1))+g),cw (f-1)))else some (.inr (a))
theorem ZHC {F:Nat} (a:List Int) (p1:Int)  (g:_):Le (ZmE F a p1 g) (Zer a p1 g):=by
 obtain ⟨e,f⟩:=g;unfold ZmE Zer;exact θ trivial
noncomputable def ZpK (F:Nat) (a:List Int) (p1:Int):Option Int:=lpF F (ZmE F a p1) (0,cw ((a.length:Int)-1))
theorem ZDQ {F:Nat} (a:List Int) (p1:Int)  :Le (ZpK F a p1) (Zbf a p1):=by
 unfold ZpK Zbf;exact θ (@ZHC F)
noncomputable def Zn6 (F:Nat) (f:List Int) (h g i:Int):Int×List Int->Option ((Int×List Int) ⊕ ((Int×List Int) ⊕ (List Int)))| (a,e)=>bif lti (a) ((f.length:Int)) then fbind (cIdx e (cw ((cw ((cw (g-(f.length:Int)))+1))+a))) fun j=>fbind (cIdx f a) fun k=>fbind (cNz h) fun _=>fbind (cIdx e (cw ((cw ((cw (g-(f.length:Int)))+1))+a))) fun l=>some (.inl (cw (a+1),(e.set (cw ((cw ((cw (g-(f.length:Int)))+1))+a):Int).toNat (Int.tmod (cw (j+(cw ((cw (h-i))*k)))) h))))else some (.inr (.inl (cw (g-1),e)))
theorem ZwW {F:Nat} (e:List Int) (f g a:Int)  (j:_):Le (Zn6 F e f g a j) (ZgN e f g a j):=by
 obtain ⟨i,h⟩:=j;unfold Zn6 ZgN;exact θ trivial
noncomputable def Zo0 (F:Nat) (f:List Int):List Int->Option ((List Int) ⊕ ((Int×List Int) ⊕ (List Int)))| a=>bif lei ((f.length:Int)) ((a.length:Int)) then fbind (cSl a 0 (cw ((a.length:Int)-1))) fun e=>some (.inl (e))else some (.inr (.inr (a)))
theorem Zyj {F:Nat} (a:List Int)  (e:_):Le (Zo0 F a e) (Zdx a e):=by
 unfold Zo0 Zdx;exact θ trivial
noncomputable def Zm0 (F:Nat) (a:List Int) (g:Int):Int×List Int->Option ((Int×List Int) ⊕ (List Int))| (e,xs)=>bif lei ((cw ((a.length:Int)-1))) (e) then fbind (cIdx xs e) fun f=>lpF F (Zn6 F a g e f) (0,xs)else lpF F (Zo0 F a) (xs)
theorem ZBv {F:Nat} (a:List Int) (e:Int)  (g:_):Le (Zm0 F a e g) (ZbW a e g):=by
 obtain ⟨f,xs⟩:=g;unfold Zm0 ZbW;exact θ (And.intro (@ZwW F) (@Zyj F))
noncomputable def Zpu (F:Nat) (e f:List Int) (g:Int):Option (List Int):=fbind (ZhG F e) fun a=>lpF F (Zm0 F f g) (cw ((a.length:Int)-1),a)
theorem ZD4 {F:Nat} (a e:List Int) (f:Int)  :Le (Zpu F a e f) (Zdj a e f):=by
 unfold Zpu Zdj;exact θ (And.intro (@Zve F) (@ZBv F))
noncomputable def Zop (F:Nat) (a:Int):Int×Int->Option ((Int×Int) ⊕ ((Int) ⊕ (Int×Int)))| (f,e)=>bif lti (1) (e) then fbind (cNz a) fun _=>bif !eqi (Int.tmod e a) (0) then some (.inr (.inr ((0,0))))else fbind (cNz a) fun _=>some (.inl (cw (f+1),cw (Int.tdiv e a)))else some (.inr (.inr ((a,f))))
theorem ZD7 {F:Nat} (a:Int)  (g:_):Le (Zop F a g) (Zps a g):=by
 obtain ⟨e,f⟩:=g;unfold Zop Zps;exact θ trivial
noncomputable def ZnP (F:Nat) (e:Int):Int->Option ((Int) ⊕ (Int×Int))| a=>fbind (cNz a) fun _=>bif !eqi (Int.tmod e a) (0) then some (.inl (cw (a+1)))else lpF F (Zop F a) (0,e)
theorem ZBj {F:Nat} (a:Int)  (e:_):Le (ZnP F a e) (Zm3 a e):=by
 unfold ZnP Zm3;exact θ (@ZD7 F)
noncomputable def ZfQ (F:Nat) (a:Int):Option (Int×Int):=fbind (Zew F a 2 64) fun e=>bif !e then some ((0,0))else lpF F (ZnP F a) (2)
theorem Zz {F:Nat} (a:Int)  :Le (ZfQ F a) (Zcj a):=by
 unfold ZfQ Zcj;exact θ (And.intro (@Zld F) (@ZBj F))
noncomputable def ZmC (F:Nat) (a:List Int) (p1 e:Int):Int->Option ((Int) ⊕ ((Int) ⊕ (Bool)))| f=>fbind (Zhi F p1 e) fun g=>bif lti (f) (g) then fbind (Zjv F f p1 e) fun h=>fbind (cApp 8 h [1]) fun i=>fbind (Zpu F a i p1) fun j=>fbind (ZpK F j p1) fun k=>bif eqi (k) (0) then some (.inr (.inr (false)))else some (.inl (cw (f+1)))else some (.inr (.inl (cw (e+1))))
theorem Zzv {F:Nat} (a:List Int) (p1 e:Int)  (g:_):Le (ZmC F a p1 e g) (Zoz a p1 e g):=by
 unfold ZmC Zoz;exact θ (And.intro (@Zob F)<|And.intro (@Zsm F)<|And.intro (@ZD4 F) (@ZDQ F))
noncomputable def Zmq (F:Nat) (a:List Int) (p1:Int):Int->Option ((Int) ⊕ (Bool))| e=>bif lei (cw (2*e)) ((cw ((a.length:Int)-1))) then lpF F (ZmC F a p1 e) (0)else some (.inr (true))
theorem ZB2 {F:Nat} (a:List Int) (p1:Int)  (e:_):Le (Zmq F a p1 e) (ZmM a p1 e):=by
 unfold Zmq ZmM;exact θ (@Zzv F)
noncomputable def ZhW (F:Nat) (a:List Int) (p1:Int):Option Bool:=lpF F (Zmq F a p1) (1)
theorem ZtO {F:Nat} (a:List Int) (p1:Int)  :Le (ZhW F a p1) (Zgs a p1):=by
 unfold ZhW Zgs;exact θ (@ZB2 F)
noncomputable def ZnY (F:Nat) (e:Zb) (a:Int×Int):Int->Option ((Int) ⊕ (Bool))| f=>bif lti (f) ((e.Poly.length:Int)) then fbind (cIdx e.Poly f) fun g=>fbind (Zew F g 0 (cw (a.1-1))) fun h=>bif !h then some (.inr (false))else some (.inl (cw (f+1)))else fbind (ZhW F e.Poly a.1) fun i=>some (.inr (i))
theorem ZGh {F:Nat} (e:Zb) (a:Int×Int)  (g:_):Le (ZnY F e a g) (ZlE e a g):=by
 unfold ZnY ZlE;exact θ (And.intro (@Zld F) (@ZtO F))
noncomputable def Zl4 (F:Nat) (a:Zb):Option (Bool):=fbind (Zhi F a.Prime a.Degree) fun f=>fbind (ZfQ F f) fun e=>bif !eqi (e.1) (a.Prime) then some (false)else lpF F (ZnY F a e) (0)
theorem ZGa {F:Nat} (a:Zb)  :Le (Zl4 F a) (ZkS a):=by
 unfold Zl4 ZkS;exact θ (And.intro (@Zob F)<|And.intro (@Zz F) (@ZGh F))
noncomputable def Zsl (F:Nat) (a:Zb):Option Bool:=fbind (Zew F a.Prime 2 64) fun e=>bif !e then some (false)else fbind (Zew F a.Degree 1 6) fun f=>bif !f then some (false)else bif !eqi ((a.Poly.length:Int)) ((cw (a.Degree+1))) then some (false)else fbind (cIdx a.Poly a.Degree) fun g=>bif !eqi (g) (1) then some (false)else Zl4 F a
theorem Z8 {F:Nat} (a:Zb)  :Le (Zsl F a) (Zhq a):=by
 unfold Zsl Zhq;exact θ (And.intro (@Zld F) (@ZGa F))
noncomputable def ZhF (F:Nat) (a0 a:List Int):Option (Int):=bif lti ((a0.length:Int)) ((a.length:Int)) then some ((-1))else bif lti ((a.length:Int)) ((a0.length:Int)) then some (1)else some (0)
theorem Zwa {F:Nat} (a0 a:List Int)  :Le (ZhF F a0 a) (Zcv a0 a):=by
 unfold ZhF Zcv;exact θ trivial
noncomputable def ZoI (F:Nat) (a0 e:List Int) (a:Int):Option ((Int) ⊕ (Int)):=fbind (cIdx a0 a) fun f=>fbind (cIdx e a) fun g=>bif lti (f) (g) then some (.inr ((-1)))else fbind (cIdx a0 a) fun h=>fbind (cIdx e a) fun i=>bif lti (i) (h) then some (.inr (1))else some (.inl (cw (a+1)))
theorem ZGG {F:Nat} (a0 a:List Int) (e:Int)  :Le (ZoI F a0 a e) (Zdu a0 a e):=by
 unfold ZoI Zdu;exact θ trivial
noncomputable def Zpo (F:Nat) (a0 a:List Int):Int->Option ((Int) ⊕ (Int))| e=>bif lti (e) ((a0.length:Int)) then bif lti (e) ((a.length:Int)) then ZoI F a0 a e else fmap (ZhF F a0 a) fun x=>.inr (x)else fmap (ZhF F a0 a) fun x=>.inr (x)
theorem Zyz {F:Nat} (a0 a:List Int)  (e:_):Le (Zpo F a0 a e) (ZbN a0 a e):=by
 unfold Zpo ZbN;exact θ (And.intro (@ZGG F) (@Zwa F))
noncomputable def Zpk (F:Nat) (a0 a:List Int):Option Int:=lpF F (Zpo F a0 a) (0)
theorem ZyS {F:Nat} (a0 a:List Int)  :Le (Zpk F a0 a) (Zcc a0 a):=by
 unfold Zpk Zcc;exact θ (@Zyz F)
noncomputable def Zow (F:Nat) (a:Int×Int):Int->Option ((Int) ⊕ (Zb))| f=>fbind (Zjv F f a.1 a.2) fun g=>fbind (cApp 8 g [1]) fun e=>fbind (ZhW F e a.1) fun h=>bif h then some (.inr ((Zb.mk a.1 a.2 e)))else some (.inl (cw (f+1)))
theorem ZAt {F:Nat} (a:Int×Int)  (e:_):Le (Zow F a e) (Znt a e):=by
 unfold Zow Znt;exact θ (And.intro (@Zsm F) (@ZtO F))
noncomputable def Zva (F:Nat) (a:Int):Option Zb:=fbind (ZfQ F a) fun e=>lpF F (Zow F e) (0)
theorem Zaa {F:Nat} (a:Int)  :Le (Zva F a) (ZbR a):=by
 unfold Zva ZbR;exact θ (And.intro (@Zz F) (@ZAt F))
noncomputable def Zgn (F:Nat) (f:List Int) (g:Int) (e:List Int) (a:Bool):Option ((List Int×Bool×Int) ⊕ (List Int)):=fbind (cIdx f g) fun h=>fbind (cApp 8 e [h]) fun i=>some (.inl (i,a,cw (g+1)))
theorem Zw4 {F:Nat} (f:List Int) (g:Int) (e:List Int) (a:Bool)  :Le (Zgn F f g e a) (Zby f g e a):=by
 unfold Zgn Zby;exact θ trivial
noncomputable def Zj9 (F:Nat) (a:List Int) (n1:Int) (e:List Int) (f:Bool) (g:Int) (h:Bool):Option ((List Int×Bool×Int) ⊕ (List Int)):=bif h then fbind (cIdx a g) fun i=>bif lti (n1) (i) then fbind (cApp 8 e [n1]) fun j=>Zgn F a g j true else Zgn F a g e true else Zgn F a g e f
theorem ZFo {F:Nat} (a:List Int) (n1:Int) (f:List Int) (e:Bool) (h:Int) (g:Bool)  :Le (Zj9 F a n1 f e h g) (Zcl a n1 f e h g):=by
 unfold Zj9 Zcl;exact θ (@Zw4 F)
noncomputable def Zmm (F:Nat) (a:List Int) (n1:Int):List Int×Bool×Int->Option ((List Int×Bool×Int) ⊕ (List Int))| (f,e,g)=>bif lti (g) ((a.length:Int)) then bif !e then fbind (cIdx a g) fun h=>Zj9 F a n1 f e g (lei (n1) (h))else Zj9 F a n1 f e g false else bif !e then fbind (cApp 8 f [n1]) fun i=>some (.inr (i))else some (.inr (f))
theorem Zxy {F:Nat} (a:List Int) (n1:Int)  (h:_):Le (Zmm F a n1 h) (ZaD a n1 h):=by
 obtain ⟨f,e,g⟩:=h;unfold Zmm ZaD;exact θ (@ZFo F)
noncomputable def Zkt (F:Nat) (a:List Int) (n1:Int):Option (List Int):=lpF F (Zmm F a n1) (([]:List Int),false,0)
theorem ZHa {F:Nat} (a:List Int) (n1:Int)  :Le (Zkt F a n1) (Za5 a n1):=by
 unfold Zkt Za5;exact θ (@Zxy F)
noncomputable def Zh3 (F:Nat) (e a:List (List Int)) (f g:Int):Option ((List (List Int)×Int) ⊕ (List (List Int))):=fbind (cSl a 0 g) fun h=>fbind (cApp 24 ([]:List (List Int)) h) fun i=>fbind (cIdx e f) fun j=>fbind (ZhG F j) fun k=>fbind (cApp 24 i [k]) fun l=>fbind (cSl a g (a.length:Int)) fun o=>fbind (cApp 24 l o) fun r=>some (.inl (r,cw (f+1)))
theorem Zw0 {F:Nat} (a e:List (List Int)) (f g:Int)  :Le (Zh3 F a e f g) (Zdf a e f g):=by
 unfold Zh3 Zdf;exact θ (@Zve F)
noncomputable def ZoN (F:Nat) (e f:List (List Int)) (g:Int):Int->Option ((Int) ⊕ ((List (List Int)×Int) ⊕ (List (List Int))))| a=>bif lti (0) (a) then fbind (cIdx f (cw (a-1))) fun h=>fbind (cIdx e g) fun i=>fbind (Zpk F h i) fun j=>bif lti (0) (j) then some (.inl (cw (a-1)))else fmap (Zh3 F e f g a) fun x=>.inr (x)else fmap (Zh3 F e f g a) fun x=>.inr (x)
theorem ZHS {F:Nat} (a e:List (List Int)) (f:Int)  (g:_):Le (ZoN F a e f g) (ZdI a e f g):=by
 unfold ZoN ZdI;exact θ (And.intro (@ZyS F) (@Zw0 F))
noncomputable def Znp (F:Nat) (e:List (List Int)):List (List Int)×Int->Option ((List (List Int)×Int) ⊕ (List (List Int)))| (a,f)=>bif lti (f) ((e.length:Int)) then lpF F (ZoN F e a f) ((a.length:Int))else some (.inr (a))
theorem ZEm {F:Nat} (a:List (List Int))  (g:_):Le (Znp F a g) (Zdh a g):=by
 obtain ⟨e,f⟩:=g;unfold Znp Zdh;exact θ (@ZHS F)
noncomputable def ZkA (F:Nat) (a:List (List Int)):Option (List (List Int)):=lpF F (Znp F a) (([]:List (List Int)),0)
theorem ZDw {F:Nat} (a:List (List Int))  :Le (ZkA F a) (ZaA a):=by
 unfold ZkA ZaA;exact θ (@ZEm F)
noncomputable def Zdd (F:Nat) (a0 f c2:Int):Option (List Int):=fbind (Zkt F ([a0]:List Int) f) fun a=>fbind (Zkt F a c2) fun e=>some (e)
theorem Zg9 {F:Nat} (a0 a c2:Int)  :Le (Zdd F a0 a c2) (Zcu a0 a c2):=by
 unfold Zdd Zcu;exact θ (@ZHa F)
noncomputable def ZpY (F:Nat) (a h g:Int):List (List Int)×Int->Option ((List (List Int)×Int) ⊕ ((List (List Int)×Int) ⊕ ((List (List Int)×Int) ⊕ (List (List Int)))))| (e,f)=>bif lti (f) (3) then fbind (cNz 3) fun _=>fbind (Zdd F (cw (h+(cw ((cw ((cw (2*a))+1))*f)))) (cw (g+(cw ((cw ((cw (2*a))+1))*f)))) (cw ((Int.tmod (cw ((cw (a+1))*(cw (h+g)))) (cw ((cw (2*a))+1)))+(cw ((cw ((cw (2*a))+1))*(Int.tmod (cw (f+1)) 3)))))) fun i=>fbind (cApp 24 e [i]) fun j=>some (.inl (j,cw (f+1)))else some (.inr (.inl (e,cw (g+1))))
theorem Zwp {F:Nat} (a e f:Int)  (j:_):Le (ZpY F a e f j) (ZlJ a e f j):=by
 obtain ⟨g,h⟩:=j;unfold ZpY ZlJ;exact θ (@Zg9 F)
noncomputable def Zle (F:Nat) (e f:Int):List (List Int)×Int->Option ((List (List Int)×Int) ⊕ ((List (List Int)×Int) ⊕ (List (List Int))))| (a,g)=>bif lti (g) ((cw ((cw (2*e))+1))) then fbind (cNz (cw ((cw (2*e))+1))) fun _=>lpF F (ZpY F e f g) (a,0)else some (.inr (.inl (a,cw (f+1))))
theorem ZzV {F:Nat} (a e:Int)  (h:_):Le (Zle F a e h) (ZoV a e h):=by
 obtain ⟨f,g⟩:=h;unfold Zle ZoV;exact θ (@Zwp F)
noncomputable def Znc (F:Nat) (e:Int):List (List Int)×Int->Option ((List (List Int)×Int) ⊕ (List (List Int)))| (f,a)=>bif lti (a) ((cw ((cw (2*e))+1))) then fbind (Zdd F a (cw (a+(cw ((cw (2*e))+1)))) (cw (a+(cw (2*(cw ((cw (2*e))+1))))))) fun g=>fbind (cApp 24 f [g]) fun h=>lpF F (Zle F e a) (h,cw (a+1))else some (.inr (f))
theorem ZCb {F:Nat} (a:Int)  (g:_):Le (Znc F a g) (Zms a g):=by
 obtain ⟨e,f⟩:=g;unfold Znc Zms;exact θ (And.intro (@Zg9 F) (@ZzV F))
noncomputable def Zlt (F:Nat) (a:Int):Option (List (List Int)):=lpF F (Znc F a) (([]:List (List Int)),0)
theorem ZBI {F:Nat} (a:Int)  :Le (Zlt F a) (ZjS a):=by
 unfold Zlt ZjS;exact θ (@ZCb F)
noncomputable def ZoA (F:Nat) (e g:Int):List (List Int)×Int->Option ((List (List Int)×Int) ⊕ ((List (List Int)×Int) ⊕ (List (List Int))))| (a,f)=>bif lti (f) (3) then fbind (cNz 3) fun _=>fbind (Zdd F (cw (3*(cw (2*e)))) (cw ((cw (g+e))+(cw ((cw (2*e))*f)))) (cw (g+(cw ((cw (2*e))*(Int.tmod (cw (f+1)) 3)))))) fun h=>fbind (cApp 24 a [h]) fun i=>some (.inl (i,cw (f+1)))else some (.inr (.inl (a,cw (g+1))))
theorem Zwt {F:Nat} (a e:Int)  (h:_):Le (ZoA F a e h) (ZmW a e h):=by
 obtain ⟨f,g⟩:=h;unfold ZoA ZmW;exact θ (@Zg9 F)
noncomputable def ZnN (F:Nat) (f k i j:Int):List (List Int)×Int->Option ((List (List Int)×Int) ⊕ ((List (List Int)×Int) ⊕ ((List (List Int)×Int) ⊕ ((List (List Int)×Int) ⊕ (List (List Int))))))| (e,a)=>bif lti (a) (3) then fbind (cNz 3) fun _=>fbind (Zdd F (cw (k+(cw ((cw (2*f))*a)))) (cw (i+(cw ((cw (2*f))*a)))) (cw (j+(cw ((cw (2*f))*(Int.tmod (cw (a+1)) 3)))))) fun g=>fbind (cApp 24 e [g]) fun h=>some (.inl (h,cw (a+1)))else some (.inr (.inl (e,cw (i+1))))
theorem ZwI {F:Nat} (e f g a:Int)  (j:_):Le (ZnN F e f g a j) (ZlF e f g a j):=by
 obtain ⟨h,i⟩:=j;unfold ZnN ZlF;exact θ (@Zg9 F)
noncomputable def Zjp (F:Nat) (f g:Int) (a:List (List Int)) (h e:Int):Option ((List (List Int)×Int) ⊕ ((List (List Int)×Int) ⊕ ((List (List Int)×Int) ⊕ (List (List Int))))):=lpF F (ZnN F f g h e) (a,0)
theorem ZBb {F:Nat} (f g:Int) (a:List (List Int)) (h e:Int)  :Le (Zjp F f g a h e) (Zgq f g a h e):=by
 unfold Zjp Zgq;exact θ (@ZwI F)
noncomputable def Zlf (F:Nat) (a f:Int):List (List Int)×Int->Option ((List (List Int)×Int) ⊕ ((List (List Int)×Int) ⊕ ((List (List Int)×Int) ⊕ (List (List Int)))))| (e,g)=>bif lti (g) ((cw (2*a))) then fbind (cNz (cw (2*a))) fun _=>fbind (cNz 2) fun _=>fbind (cNz 2) fun _=>bif eqi (Int.tmod (Int.tmod (cw (f+g)) (cw (2*a))) 2) (1) then Zjp F a f e g (cw ((cw (Int.tdiv (Int.tmod (cw (f+g)) (cw (2*a))) 2))+a))else Zjp F a f e g (cw (Int.tdiv (Int.tmod (cw (f+g)) (cw (2*a))) 2))else some (.inr (.inl (e,cw (f+1))))
theorem Zyb {F:Nat} (a e:Int)  (h:_):Le (Zlf F a e h) (Zpq a e h):=by
 obtain ⟨f,g⟩:=h;unfold Zlf Zpq;exact θ (@ZBb F)
noncomputable def ZoB (F:Nat) (f:Int):List (List Int)×Int->Option ((List (List Int)×Int) ⊕ ((List (List Int)×Int) ⊕ (List (List Int))))| (a,e)=>bif lti (e) ((cw (2*f))) then lpF F (Zlf F f e) (a,cw (e+1))else some (.inr (.inr (a)))
theorem Zyc {F:Nat} (a:Int)  (g:_):Le (ZoB F a g) (ZnB a g):=by
 obtain ⟨e,f⟩:=g;unfold ZoB ZnB;exact θ (@Zyb F)
noncomputable def Zo7 (F:Nat) (a:Int):List (List Int)×Int->Option ((List (List Int)×Int) ⊕ (List (List Int)))| (f,e)=>bif lti (e) (a) then fbind (Zdd F e (cw (e+(cw (2*a)))) (cw (e+(cw (2*(cw (2*a))))))) fun g=>fbind (cApp 24 f [g]) fun h=>lpF F (ZoA F a e) (h,0)else lpF F (ZoB F a) (f,0)
theorem ZBA {F:Nat} (a:Int)  (g:_):Le (Zo7 F a g) (ZmL a g):=by
 obtain ⟨e,f⟩:=g;unfold Zo7 ZmL;exact θ (And.intro (@Zg9 F)<|And.intro (@Zwt F) (@Zyc F))
noncomputable def Zm7 (F:Nat) (a:Int):Option (List (List Int)):=lpF F (Zo7 F a) (([]:List (List Int)),0)
theorem ZGF {F:Nat} (a:Int)  :Le (Zm7 F a) (Zh5 a):=by
 unfold Zm7 Zh5;exact θ (@ZBA F)
noncomputable def Zo6 (F:Nat) (v0:Int):Option Zw:=fbind (cNz 6) fun _=>bif eqi (Int.tmod v0 6) (3) then fbind (cNz 6) fun _=>fbind (Zlt F (cw (Int.tdiv (cw (v0-3)) 6))) fun a=>fbind (ZkA F a) fun e=>some ((Zw.mk v0 e))else fbind (cNz 6) fun _=>fbind (Zm7 F (cw (Int.tdiv (cw (v0-1)) 6))) fun f=>fbind (ZkA F f) fun g=>some ((Zw.mk v0 g))
theorem ZFT {F:Nat} (v0:Int)  :Le (Zo6 F v0) (ZfZ v0):=by
 unfold Zo6 ZfZ;exact θ (And.intro (@ZBI F)<|And.intro (@ZDw F) (@ZGF F))
noncomputable def Zpt (F:Nat) (a0 f:List (List Int)) (o r g:Int):List Int×Int->Option ((List Int×Int) ⊕ ((List Int×Int) ⊕ ((List (List Int)×Int) ⊕ ((List (List Int)×Int) ⊕ (List (List Int))))))| (a,e)=>bif lti (e) ((f.length:Int)) then fbind (cIdx a0 o) fun h=>fbind (cIdx h g) fun i=>fbind (cIdx f r) fun j=>fbind (cIdx j e) fun k=>fbind (cApp 8 a [cw (i*k)]) fun l=>some (.inl (l,cw (e+1)))else some (.inr (.inl (a,cw (g+1))))
theorem ZEL {F:Nat} (a0 a:List (List Int)) (e f g:Int)  (j:_):Le (Zpt F a0 a e f g j) (Zm1 a0 a e f g j):=by
 obtain ⟨h,i⟩:=j;unfold Zpt Zm1;exact θ trivial
noncomputable def ZnR (F:Nat) (a0 i:List (List Int)) (j:Int) (a:List (List Int)) (f:Int):List Int×Int->Option ((List Int×Int) ⊕ ((List (List Int)×Int) ⊕ ((List (List Int)×Int) ⊕ (List (List Int)))))| (e,g)=>bif lti (g) ((a0.length:Int)) then lpF F (Zpt F a0 i j f g) (e,0)else fbind (cApp 24 a [e]) fun h=>some (.inr (.inl (h,cw (f+1))))
theorem ZH0 {F:Nat} (a0 e:List (List Int)) (f:Int) (a:List (List Int)) (g:Int)  (j:_):Le (ZnR F a0 e f a g j) (Zlp a0 e f a g j):=by
 obtain ⟨h,i⟩:=j;unfold ZnR Zlp;exact θ (@ZEL F)
noncomputable def Zov (F:Nat) (a0 e:List (List Int)) (f:Int):List (List Int)×Int->Option ((List (List Int)×Int) ⊕ ((List (List Int)×Int) ⊕ (List (List Int))))| (a,g)=>bif lti (g) ((e.length:Int)) then lpF F (ZnR F a0 e f a g) (([]:List Int),0)else some (.inr (.inl (a,cw (f+1))))
theorem Zxz {F:Nat} (a0 a:List (List Int)) (e:Int)  (h:_):Le (Zov F a0 a e h) (Zlq a0 a e h):=by
 obtain ⟨f,g⟩:=h;unfold Zov Zlq;exact θ (@ZH0 F)
noncomputable def ZoY (F:Nat) (a0 f:List (List Int)):List (List Int)×Int->Option ((List (List Int)×Int) ⊕ (List (List Int)))| (a,e)=>bif lti (e) ((a0.length:Int)) then lpF F (Zov F a0 f e) (a,0)else some (.inr (a))
theorem ZCS {F:Nat} (a0 a:List (List Int))  (g:_):Le (ZoY F a0 a g) (Zl6 a0 a g):=by
 obtain ⟨e,f⟩:=g;unfold ZoY Zl6;exact θ (@Zxz F)
noncomputable def ZoW (F:Nat) (a0 a:List (List Int)):Option (List (List Int)):=lpF F (ZoY F a0 a) (([]:List (List Int)),0)
theorem Zv4 {F:Nat} (a0 a:List (List Int))  :Le (ZoW F a0 a) (ZiG a0 a):=by
 unfold ZoW ZiG;exact θ (@ZCS F)
noncomputable def Zll (F:Nat):Int×List (List Int)->Option ((Int×List (List Int)) ⊕ (List (List Int)))| (a,e)=>bif lti (0) (a) then fbind (ZoW F ([([1,1]:List Int),([1,(-1)]:List Int)]) e) fun f=>some (.inl (cw (a-1),f))else some (.inr (e))
theorem ZEO {F:Nat}   (g:_):Le (Zll F  g) (ZlT  g):=by
 obtain ⟨a,e⟩:=g;unfold Zll ZlT;exact θ (@Zv4 F)
noncomputable def ZpU (F:Nat) (a:Int):Option (List (List Int)):=lpF F (Zll F) (a,[([1]:List Int)])
theorem ZAC {F:Nat} (a:Int)  :Le (ZpU F a) (Zhk a):=by
 unfold ZpU Zhk
 try simp only [<-cw_ok,<-Zt,<-Zo,<-Zm,<-Zk,<-Zl,<-Zv,<-Zp,GT.gt,GE.ge]
 repeat' (with_reducible first|exact Le.rfl|assumption|exact ZEO  _|exact Zu _ _ _|exact Zs _ _ _ _|(refine le_if ?_ ?_)|(refine Zn ?_ fun _=>?_)|(refine Zr ?_)|(refine Zq fun _=>?_))
noncomputable def Zl7 (F:Nat) (n0 a1 g:Int):List Int×Int->Option ((List Int×Int) ⊕ (List Int))| (a,e)=>bif lti (e) (n0) then fbind (cNz n0) fun _=>fbind (cApp 8 a [Int.tmod (cw ((cw (a1*e))+g)) n0]) fun f=>some (.inl (f,cw (e+1)))else some (.inr (a))
theorem ZCR {F:Nat} (n0 a1 a:Int)  (g:_):Le (Zl7 F n0 a1 a g) (Zlw n0 a1 a g):=by
 obtain ⟨e,f⟩:=g;unfold Zl7 Zlw;exact θ trivial
noncomputable def Zn0 (F:Nat) (n0 a1 a:Int):Option (List Int):=lpF F (Zl7 F n0 a1 a) (([]:List Int),0)
theorem Zwi {F:Nat} (n0 a1 a:Int)  :Le (Zn0 F n0 a1 a) (Zb6 n0 a1 a):=by
 unfold Zn0 Zb6;exact θ (@ZCR F)
noncomputable def Zkn (F:Nat) (n0 e a:Int):Option Bool:=bif lei (e) (n0) then some (lei (n0) (a))else some (false)
theorem ZqW {F:Nat} (n0 e a:Int)  :Le (Zkn F n0 e a) (Z6 n0 e a):=by
 unfold Zkn Z6;exact θ trivial
noncomputable def Zod (F:Nat) (a0:List Int):Option (List Int):=cApp 8 [] a0
theorem ZBY {F:Nat} (a0:List Int)  :Le (Zod F a0) (ZbX a0):=by
 unfold Zod ZbX;exact θ trivial
noncomputable def ZfG (F:Nat) (a:List Int):Option Int:=some ((a.length:Int))
theorem ZpG {F:Nat} (a:List Int)  :Le (ZfG F a) (ZZ a):=by
 unfold ZfG ZZ;exact θ trivial
noncomputable def Zpg (F:Nat) (e:List Int) (f:Int->Option Bool):Int->Option ((Int) ⊕ (Int))| a=>bif lti (a) ((e.length:Int)) then fbind (cIdx e a) fun g=>fbind (f g) fun h=>bif h then some (.inr (a))else some (.inl (cw (a+1)))else some (.inr ((-1)))
theorem Zzy {F:Nat} (f:List Int) (a h:Int->Option Bool) (e:∀ g,Le (a g) (h g)) (j:_):Le (Zpg F f a j) (ZdT f h j):=by
 unfold Zpg ZdT
 try simp only [<-cw_ok,<-Zt,<-Zo,<-Zm,<-Zk,<-Zl,<-Zv,<-Zp,GT.gt,GE.ge]
 repeat' (with_reducible first|exact Le.rfl|assumption|exact Zu _ _ _|exact Zs _ _ _ _|(refine le_if ?_ ?_)|(refine Zn ?_ fun _=>?_)|(refine Zr ?_)|(refine Zq fun _=>?_))
 all_goals (first|exact e _|skip)
noncomputable def Zmw (F:Nat) (e:List Int) (a:Int->Option Bool):Option Int:=lpF F (Zpg F e a) (0)
theorem ZAf {F:Nat} (f:List Int) (a h:Int->Option Bool) (e:∀ g,Le (a g) (h g)):Le (Zmw F f a) (Zjw f h):=by
 unfold Zmw Zjw
 try simp only [<-cw_ok,<-Zt,<-Zo,<-Zm,<-Zk,<-Zl,<-Zv,<-Zp,GT.gt,GE.ge]
 repeat' (with_reducible first|exact Le.rfl|assumption|(refine Zzy _ _ _ ?_ _;intros)|exact Zu _ _ _|exact Zs _ _ _ _|(refine le_if ?_ ?_)|(refine Zn ?_ fun _=>?_)|(refine Zr ?_)|(refine Zq fun _=>?_))
 all_goals (first|exact e _|skip)
noncomputable def Zl2 (F:Nat) (e:List Int) (a:Int->Option Bool):Option Bool:=fbind (Zmw F e a) fun f=>some (lei (0) (f))
theorem ZxR {F:Nat} (f:List Int) (a h:Int->Option Bool) (e:∀ g,Le (a g) (h g)):Le (Zl2 F f a) (ZaY f h):=by
 unfold Zl2 ZaY
 try simp only [<-cw_ok,<-Zt,<-Zo,<-Zm,<-Zk,<-Zl,<-Zv,<-Zp,GT.gt,GE.ge]
 repeat' (with_reducible first|exact Le.rfl|assumption|(refine ZAf _ _ _ ?_;intros)|exact Zu _ _ _|exact Zs _ _ _ _|(refine le_if ?_ ?_)|(refine Zn ?_ fun _=>?_)|(refine Zr ?_)|(refine Zq fun _=>?_))
 all_goals (first|exact e _|skip)
noncomputable def Zoy (F:Nat) (a e g:Int):Option ((Int×Int) ⊕ (Int)):=some (.inl (cw (e-1),cw (g*a)))
theorem ZIc {F:Nat} (a e g:Int)  :Le (Zoy F a e g) (Zgg a e g):=by
 unfold Zoy Zgg;exact θ trivial
noncomputable def ZlY (F:Nat) (e g:Int):Int×Int->Option ((Int×Int) ⊕ (Int))| (a,power7)=>bif lti (0) (a) then bif lei (power7) (g) then Zoy F e a power7 else some (.inr (power7))else some (.inr (power7))
theorem ZHr {F:Nat} (a g:Int)  (h:_):Le (ZlY F a g h) (ZbD a g h):=by
 obtain ⟨e,j⟩:=h;unfold ZlY ZbD;exact θ (@ZIc F)
noncomputable def Zg7 (F:Nat) (a e g:Int):Option Int:=lpF F (ZlY F a g) (e,1)
theorem Znd {F:Nat} (a e g:Int)  :Le (Zg7 F a e g) (ZbT a e g):=by
 unfold Zg7 ZbT;exact θ (@ZHr F)
noncomputable def ZtW (F:Nat) (a:Zb):Option Int:=fbind (Zg7 F a.Prime a.Degree 64) fun e=>some (e)
theorem Zac {F:Nat} (a:Zb)  :Le (ZtW F a) (Zb8 a):=by
 unfold ZtW Zb8;exact θ (@Znd F)
noncomputable def Zn4 (F:Nat) (a:Int) (g:List Int):Int×Int×List Int->Option ((Int×Int×List Int) ⊕ (List Int))| (f,e,xs)=>bif lti (e) ((g.length:Int)) then fbind (cNz a) fun _=>fbind (cIdx xs e) fun h=>fbind (cNz a) fun _=>some (.inl (cw (Int.tdiv f a),cw (e+1),(xs.set (e:Int).toNat (Int.tmod f a))))else some (.inr (xs))
theorem ZyW {F:Nat} (a:Int) (e:List Int)  (h:_):Le (Zn4 F a e h) (Zdn a e h):=by
 obtain ⟨f,g,xs⟩:=h;unfold Zn4 Zdn;exact θ trivial
noncomputable def Zhj (F:Nat) (n0 a g:Int):Option (List Int):=fbind (cMake 8 (0:Int) g g) fun e=>lpF F (Zn4 F a e) (n0,0,e)
theorem Zr6 {F:Nat} (n0 a e:Int)  :Le (Zhj F n0 a e) (ZaS n0 a e):=by
 unfold Zhj ZaS;exact θ (@ZyW F)
noncomputable def Zlx (F:Nat) (f:List Int) (g h i:Int):Int×List Int->Option ((Int×List Int) ⊕ ((Int×List Int) ⊕ (List Int)))| (a,e)=>bif lti (a) ((f.length:Int)) then fbind (cIdx f a) fun j=>fbind (cIdx e (cw ((cw (h-(cw ((f.length:Int)-1))))+a))) fun k=>fbind (cNz g) fun _=>fbind (cNz g) fun _=>fbind (cIdx e (cw ((cw (h-(cw ((f.length:Int)-1))))+a))) fun l=>some (.inl (cw (a+1),(e.set (cw ((cw (h-(cw ((f.length:Int)-1))))+a):Int).toNat (Int.tmod (cw ((Int.tmod (cw (k-(cw (i*j)))) g)+g)) g))))else some (.inr (.inl (cw (h-1),e)))
theorem ZCC {F:Nat} (e:List Int) (f g a:Int)  (j:_):Le (Zlx F e f g a j) (ZfU e f g a j):=by
 obtain ⟨i,h⟩:=j;unfold Zlx ZfU;exact θ trivial
noncomputable def Zoo (F:Nat) (a:List Int) (h:Int):Int×List Int->Option ((Int×List Int) ⊕ (List Int))| (e,xs)=>bif lei ((cw ((a.length:Int)-1))) (e) then fbind (cIdx xs e) fun f=>lpF F (Zlx F a h e f) (0,xs)else fbind (cSl xs 0 (if ((xs.length:Int):Int)<(cw ((a.length:Int)-1)) then (xs.length:Int) else cw ((a.length:Int)-1))) fun g=>some (.inr (g))
theorem ZyI {F:Nat} (a:List Int) (e:Int)  (g:_):Le (Zoo F a e g) (Zb1 a e g):=by
 obtain ⟨f,xs⟩:=g;unfold Zoo Zb1;exact θ (@ZCC F)
noncomputable def Zns (F:Nat) (e f:List Int) (g:Int):Option (List Int):=fbind (Zod F e) fun a=>lpF F (Zoo F f g) (cw ((a.length:Int)-1),a)
theorem ZEJ {F:Nat} (a e:List Int) (f:Int)  :Le (Zns F a e f) (Zc2 a e f):=by
 unfold Zns Zc2;exact θ (And.intro (@ZBY F) (@ZyI F))
noncomputable def ZlQ (F:Nat) (a:Int):Option Bool:=some (!eqi (a) (0))
theorem ZBc {F:Nat} (a:Int)  :Le (ZlQ F a) (Zil a):=by
 unfold ZlQ Zil;exact θ trivial
noncomputable def Zpv (F:Nat) (a:List Int):Option Bool:=fbind (Zl2 F a (fun e=>ZlQ F e)) fun f=>some (!f)
theorem Zyf {F:Nat} (a:List Int)  :Le (Zpv F a) (ZkR a):=by
 unfold Zpv ZkR
 try simp only [<-cw_ok,<-Zt,<-Zo,<-Zm,<-Zk,<-Zl,<-Zv,<-Zp,GT.gt,GE.ge]
 repeat' (with_reducible first|exact Le.rfl|assumption|(refine ZxR _ _ _ ?_;intros)|exact ZBc _|exact Zu _ _ _|exact Zs _ _ _ _|(refine le_if ?_ ?_)|(refine Zn ?_ fun _=>?_)|(refine Zr ?_)|(refine Zq fun _=>?_))
noncomputable def Zmh (F:Nat) (a:List Int) (p1 e:Int):Int->Option ((Int) ⊕ ((Int) ⊕ (Bool)))| f=>fbind (Zg7 F p1 e 64) fun g=>bif lti (f) (g) then fbind (Zhj F f p1 e) fun h=>fbind (cApp 8 h [1]) fun i=>fbind (Zns F a i p1) fun j=>fbind (Zpv F j) fun k=>bif k then some (.inr (.inr (false)))else some (.inl (cw (f+1)))else some (.inr (.inl (cw (e+1))))
theorem ZGt {F:Nat} (a:List Int) (p1 e:Int)  (g:_):Le (Zmh F a p1 e g) (ZnT a p1 e g):=by
 unfold Zmh ZnT;exact θ (And.intro (@Znd F)<|And.intro (@Zr6 F)<|And.intro (@ZEJ F) (@Zyf F))
noncomputable def Zme (F:Nat) (a:List Int) (p1 f:Int):Int->Option ((Int) ⊕ (Bool))| e=>bif lei (cw (2*e)) ((cw (f-1))) then lpF F (Zmh F a p1 e) (0)else some (.inr (true))
theorem ZCE {F:Nat} (a:List Int) (p1 e:Int)  (g:_):Le (Zme F a p1 e g) (ZmH a p1 e g):=by
 unfold Zme ZmH;exact θ (@ZGt F)
noncomputable def ZiS (F:Nat) (a:List Int) (p1:Int):Option Bool:=fbind (ZfG F a) fun e=>lpF F (Zme F a p1 e) (1)
theorem ZuH {F:Nat} (a:List Int) (p1:Int)  :Le (ZiS F a p1) (Zf6 a p1):=by
 unfold ZiS Zf6;exact θ (And.intro (@ZpG F) (@ZCE F))
noncomputable def ZmD (F:Nat) (e:Int):Int×List Int->Option ((Int×List Int) ⊕ ((Int×List Int×Int) ⊕ (List Int)))| (a,factor3_2)=>fbind (cNz e) fun _=>bif eqi (Int.tmod a e) (0) then fbind (cApp 8 factor3_2 [e]) fun f=>fbind (cNz e) fun _=>some (.inl (cw (Int.tdiv a e),f))else some (.inr (.inl (a,factor3_2,cw (e+1))))
theorem ZEq {F:Nat} (a:Int)  (h:_):Le (ZmD F a h) (ZeS a h):=by
 obtain ⟨e,g⟩:=h;unfold ZmD ZeS;exact θ trivial
noncomputable def ZnD (F:Nat):Int×List Int×Int->Option ((Int×List Int×Int) ⊕ (List Int))| (a,factor3,e)=>bif lei (cw (e*e)) (a) then lpF F (ZmD F e) (a,factor3)else bif lti (1) (a) then fbind (cApp 8 factor3 [a]) fun f=>some (.inr (f))else some (.inr (factor3))
theorem ZzS {F:Nat}   (g:_):Le (ZnD F  g) (Zcd  g):=by
 obtain ⟨a,h,e⟩:=g;unfold ZnD Zcd;exact θ (@ZEq F)
noncomputable def Zj1 (F:Nat) (n0:Int):Option (List Int):=fbind (Zkn F n0 1 1000000) fun a=>bif !a then some (([]:List Int))else lpF F (ZnD F) (n0,([]:List Int),2)
theorem Zp4 {F:Nat} (n0:Int)  :Le (Zj1 F n0) (ZcK n0):=by
 unfold Zj1 ZcK
 try simp only [<-cw_ok,<-Zt,<-Zo,<-Zm,<-Zk,<-Zl,<-Zv,<-Zp,GT.gt,GE.ge]
 repeat' (with_reducible first|exact Le.rfl|assumption|exact ZqW _ _ _|exact ZzS  _|exact Zu _ _ _|exact Zs _ _ _ _|(refine le_if ?_ ?_)|(refine Zn ?_ fun _=>?_)|(refine Zr ?_)|(refine Zq fun _=>?_))
noncomputable def ZpT (F:Nat) (n0:Int):Option Bool:=fbind (Zj1 F n0) fun a=>some (eqi ((a.length:Int)) (1))
theorem ZHm {F:Nat} (n0:Int)  :Le (ZpT F n0) (ZkE n0):=by
 unfold ZpT ZkE;exact θ (@Zp4 F)
noncomputable def ZlG (F:Nat) (a:Zb):Int->Option ((Int) ⊕ (Bool))| e=>bif lti (e) ((a.Poly.length:Int)) then fbind (cIdx a.Poly e) fun f=>fbind (Zkn F f 0 (cw (a.Prime-1))) fun g=>bif !g then some (.inr (false))else some (.inl (cw (e+1)))else fbind (ZiS F a.Poly a.Prime) fun h=>some (.inr (h))
theorem ZE9 {F:Nat} (a:Zb)  (e:_):Le (ZlG F a e) (Zn2 a e):=by
 unfold ZlG Zn2;exact θ (And.intro (@ZqW F) (@ZuH F))
noncomputable def Zmg (F:Nat) (a:Zb):Option (Bool):=lpF F (ZlG F a) (0)
theorem Zy0 {F:Nat} (a:Zb)  :Le (Zmg F a) (ZhZ a):=by
 unfold Zmg ZhZ;exact θ (@ZE9 F)
noncomputable def ZnH (F:Nat) (a:Zb):Option (Bool):=fbind (ZfG F a.Poly) fun e=>bif !eqi (e) ((cw (a.Degree+1))) then some (false)else fbind (cIdx a.Poly a.Degree) fun f=>bif !eqi (f) (1) then some (false)else Zmg F a
theorem ZGr {F:Nat} (a:Zb)  :Le (ZnH F a) (ZkF a):=by
 unfold ZnH ZkF;exact θ (And.intro (@ZpG F) (@Zy0 F))
noncomputable def ZuO (F:Nat) (a:Zb):Option Bool:=fbind (ZpT F a.Prime) fun f=>bif !f then some (false)else bif lti (a.Degree) (1) then some (false)else fbind (Zg7 F a.Prime a.Degree 64) fun e=>bif lti (64) (e) then some (false)else ZnH F a
theorem Z9 {F:Nat} (a:Zb)  :Le (ZuO F a) (Zgo a):=by
 unfold ZuO Zgo;exact θ (And.intro (@ZHm F)<|And.intro (@Znd F) (@ZGr F))
noncomputable def Zoe (F:Nat) (a:List Int):Int->Option ((Int) ⊕ (Int×Int))| e=>bif lti (e) ((a.length:Int)) then fbind (cIdx a e) fun f=>fbind (cIdx a 0) fun g=>bif !eqi (f) (g) then some (.inr ((0,0)))else some (.inl (cw (e+1)))else bif eqi ((a.length:Int)) (0) then some (.inr ((0,0)))else fbind (ZfG F a) fun h=>fbind (cIdx a 0) fun i=>some (.inr ((i,h)))
theorem ZGm {F:Nat} (a:List Int)  (e:_):Le (Zoe F a e) (Zcb a e):=by
 unfold Zoe Zcb;exact θ (@ZpG F)
noncomputable def Zpf (F:Nat) (n0:Int):Option (Int×Int):=fbind (Zj1 F n0) fun a=>lpF F (Zoe F a) (0)
theorem ZtE {F:Nat} (n0:Int)  :Le (Zpf F n0) (ZcH n0):=by
 unfold Zpf ZcH;exact θ (And.intro (@Zp4 F) (@ZGm F))
noncomputable def ZmP (F:Nat) (a:Int×Int):Int->Option ((Int) ⊕ (Zb×Int))| e=>fbind (Zhj F e a.1 a.2) fun f=>fbind (cApp 8 f [1]) fun g=>fbind (ZiS F g a.1) fun h=>bif !h then some (.inl (cw (e+1)))else fbind (Zhj F e a.1 a.2) fun i=>fbind (cApp 8 i [1]) fun j=>some (.inr (((Zb.mk a.1 a.2 j),0)))
theorem Zzn {F:Nat} (a:Int×Int)  (e:_):Le (ZmP F a e) (Zln a e):=by
 unfold ZmP Zln;exact θ (And.intro (@Zr6 F) (@ZuH F))
noncomputable def Zna (F:Nat) (a:Int×Int):Option (Zb×Int):=lpF F (ZmP F a) (0)
theorem ZDM {F:Nat} (a:Int×Int)  :Le (Zna F a) (Zk6 a):=by
 unfold Zna Zk6;exact θ (@Zzn F)
noncomputable def ZuK (F:Nat) (a:Int):Option (Zb×Int):=fbind (Zpf F a) fun e=>bif eqi (e.1) (0) then some (((Zb.mk 0 0 ([]:List Int)),2))else bif lti (64) (a) then some (((Zb.mk 0 0 ([]:List Int)),2))else Zna F e
theorem ZB {F:Nat} (a:Int)  :Le (ZuK F a) (ZbM a):=by
 unfold ZuK ZbM;exact θ (And.intro (@ZtE F) (@ZDM F))
end Go.Proofs.YtahnjnfpjcfklaaGreatDoor
