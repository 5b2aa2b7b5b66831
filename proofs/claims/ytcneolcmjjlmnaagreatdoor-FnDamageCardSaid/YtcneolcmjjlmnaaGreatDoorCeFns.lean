import Derived.Test.YtcneolcmjjlmnaaGreatDoorPuEv
open Int renaming tmod->Jq,tdiv->Jw
open Option renaming some->Jg
open Bool renaming false->Jj
open List renaming length->Jk
namespace Go.Vc
set_option linter.unusedVariables false
set_option linter.unusedSimpArgs false
open Go
noncomputable instance {α:Type} [Frc α]:Frc (Jm α) where
 frc o k:=Option.rec (k none) (λa=>Frc.frc a λa=>k (Jg a)) o
 ok o k:=by cases o<;>first|rfl|exact Frc.ok _ _
noncomputable def cSl {α:Type} (xs:List α) (lo hi:Int):Jm (List α):=bif lei 0 lo&&(lei lo hi&&lei hi (len xs)) then Jg ((xs.take hi.toNat).drop lo.toNat) else none
theorem Zu {α:Type} (xs:List α) (lo hi:Int):gSl xs lo hi=cSl xs lo hi:=by
 unfold gSl cSl;rw [<-Zm,<-Zm,<-Zm,Zo7];by_cases h:0<=lo/\lo<=hi/\hi<=(Jk xs:Int)
 .rw [if_pos h,decide_eq_true h.1,decide_eq_true h.2.1,decide_eq_true h.2.2];rfl
 .rw [if_neg h];cases a:(decide (0<=lo)&&(decide (lo<=hi)&&decide (hi<=(Jk xs:Int)))) with
  | false=>rfl
  | true=>simp at a;exact absurd ⟨a.1,a.2.1,a.2.2⟩ h
noncomputable def insI (x:Int) (l:Jb):Jb:=List.rec [x] (λa t e=>bif lei x a then x::a::t else a::e) l
end Go.Vc
namespace Go.Proofs.YtcneolcmjjlmnaaGreatDoor
open Go Go.Vc
set_option linter.unusedVariables false
set_option linter.unusedSimpArgs false
set_option maxRecDepth 20000
noncomputable instance:Frc Zd where
 frc p k:=Zd.rec (λx0 x1 x2=>Frc.frc x0 λx0=>Frc.frc x1 λx1=>Frc.frc x2 λx2=>k (.mk x0 x1 x2)) p
 ok p k:=by cases p;show Frc.frc _ _=_;simp only [Frc.ok]
noncomputable instance:Frc Zz where
 frc p k:=Zz.rec (λx0 x1=>Frc.frc x0 λx0=>Frc.frc x1 λx1=>k (.mk x0 x1)) p
 ok p k:=by cases p;show Frc.frc _ _=_;simp only [Frc.ok]
theorem θ {p q:Prop} (g:q) (h:q->p:=by intro f;(try simp only [<-cw_ok,<-Zq,<-Zt,<-Zo,<-Zm,<-Zn,<-Zr,<-Zu,GT.gt,GE.ge]);(repeat' (with_reducible first|exact Le.rfl|assumption|apply f.1|apply f.2.1|apply f.2.2.1|apply f.2.2.2.1|apply f.2.2.2.2.1|apply f.2.2.2.2.2.1|apply f.2.2.2.2.2.2.1|apply f|apply f.2|apply f.2.2|apply f.2.2.2|apply f.2.2.2.2|apply f.2.2.2.2.2|apply f.2.2.2.2.2.2|apply f.2.2.2.2.2.2.2|exact Zw _ _ _|exact Zv _ _ _ _|(refine le_if ?_ ?_)|(refine Zp ?_ fun _=>?_)|(refine Zs ?_)|(refine Zx fun _=>?_)))):p:=h g
noncomputable def Zf9 (F:Nat) (n0 e a:Int):Jm Bool:=bif lei e n0 then Jg (lei n0 a)else Jg Jj
theorem ZoF {F:Nat} (n0 e a:Int)  :Le (Zf9 F n0 e a) (Zac n0 e a):=by
 unfold Zf9 Zac;exact θ trivial
noncomputable def Zpk (F:Nat) (f:Int):Int×Int->Jm ((Int×Int) ⊕ Int)| (a,e)=>bif lti 0 a then Jg (.inl (cw (a-1),cw (e*f)))else Jg (.inr e)
theorem ZIU {F:Nat} (a:Int)  (g:_):Le (Zpk F a g) (Zq0 a g):=by
 obtain ⟨e,f⟩:=g;unfold Zpk Zq0;exact θ trivial
noncomputable def ZiR (F:Nat) (a k1:Int):Jm Int:=lpF F (Zpk F a) (k1,1)
theorem Zrn {F:Nat} (a k1:Int)  :Le (ZiR F a k1) (Ze9 a k1):=by
 unfold ZiR Ze9;exact θ (@ZIU F)
noncomputable def Zpn (F:Nat) (a:Zd):Jm Int:=fbind (ZiR F a.Prime a.Degree) λe=>Jg e
theorem ZI3 {F:Nat} (a:Zd)  :Le (Zpn F a) (ZaH a):=by
 unfold Zpn ZaH;exact θ (@Zrn F)
noncomputable def Zkd (F:Nat) (a:Jb):Jm Jb:=fbind (cApp 8 ([]:Jb) a) λe=>Jg e
theorem ZEh {F:Nat} (a:Jb)  :Le (Zkd F a) (ZaD a):=by
 unfold Zkd ZaD;exact θ trivial
noncomputable def ZrQ (F:Nat) (p1:Int):Int×Int×Jb->Jm ((Int×Int×Jb) ⊕ Jb)| (a,e,f)=>bif lti 0 e then fbind (cNz p1) λ_=>fbind (cApp 8 f [Jq a p1]) λg=>fbind (cNz p1) λ_=>Jg (.inl (cw (Jw a p1),cw (e-1),g))else Jg (.inr f)
theorem ZNw {F:Nat} (p1:Int)  (g:_):Le (ZrQ F p1 g) (ZeP p1 g):=by
 obtain ⟨a,e,f⟩:=g;unfold ZrQ ZeP;exact θ trivial
noncomputable def ZkQ (F:Nat) (a0 p1 n2:Int):Jm Jb:=lpF F (ZrQ F p1) (a0,n2,([]:Jb))
theorem ZCR {F:Nat} (a0 p1 n2:Int)  :Le (ZkQ F a0 p1 n2) (Zbd a0 p1 n2):=by
 unfold ZkQ Zbd;exact θ (@ZNw F)
noncomputable def Zqv (F:Nat) (e:Jb) (p1:Int):Int×Int->Jm ((Int×Int) ⊕ Int)| (a,f)=>bif lei 0 f then fbind (cIdx e f) λg=>Jg (.inl (cw ((cw (a*p1))+g),cw (f-1)))else Jg (.inr a)
theorem ZOa {F:Nat} (a:Jb) (p1:Int)  (g:_):Le (Zqv F a p1 g) (ZeI a p1 g):=by
 obtain ⟨e,f⟩:=g;unfold Zqv ZeI;exact θ trivial
noncomputable def ZqH (F:Nat) (a:Jb) (p1:Int):Jm Int:=lpF F (Zqv F a p1) (0,cw ((Jk a:Int)-1))
theorem ZHL {F:Nat} (a:Jb) (p1:Int)  :Le (ZqH F a p1) (Zbw a p1):=by
 unfold ZqH Zbw;exact θ (@ZOa F)
noncomputable def Zps (F:Nat) (f:Jb) (h g i:Int):Int×Jb->Jm ((Int×Jb) ⊕ ((Int×Jb) ⊕ Jb))| (a,e)=>bif lti a ((Jk f:Int)) then fbind (cIdx e (cw ((cw ((cw (g-(Jk f:Int)))+1))+a))) λj=>fbind (cIdx f a) λk=>fbind (cNz h) λ_=>fbind (cIdx e (cw ((cw ((cw (g-(Jk f:Int)))+1))+a))) λl=>Jg (.inl (cw (a+1),(e.set (cw ((cw ((cw (g-(Jk f:Int)))+1))+a):Int).toNat (Jq (cw (j+(cw ((cw (h-i))*k)))) h))))else Jg (.inr (.inl (cw (g-1),e)))
theorem ZFX {F:Nat} (e:Jb) (f g a:Int)  (j:_):Le (Zps F e f g a j) (Zi4 e f g a j):=by
 obtain ⟨i,h⟩:=j;unfold Zps Zi4;exact θ trivial
noncomputable def Zq3 (F:Nat) (f:Jb):Jb->Jm (Jb ⊕ ((Int×Jb) ⊕ Jb))| a=>bif lei ((Jk f:Int)) ((Jk a:Int)) then fbind (cSl a 0 (cw ((Jk a:Int)-1))) λe=>Jg (.inl e)else Jg (.inr (.inr a))
theorem ZF4 {F:Nat} (a:Jb)  (e:_):Le (Zq3 F a e) (Zdt a e):=by
 unfold Zq3 Zdt;exact θ trivial
noncomputable def Zq9 (F:Nat) (a:Jb) (g:Int):Int×Jb->Jm ((Int×Jb) ⊕ Jb)| (e,xs)=>bif lei ((cw ((Jk a:Int)-1))) e then fbind (cIdx xs e) λf=>lpF F (Zps F a g e f) (0,xs)else lpF F (Zq3 F a) xs
theorem ZLN {F:Nat} (a:Jb) (e:Int)  (g:_):Le (Zq9 F a e g) (Zca a e g):=by
 obtain ⟨f,xs⟩:=g;unfold Zq9 Zca;exact θ (And.intro (@ZFX F) (@ZF4 F))
noncomputable def ZoV (F:Nat) (e f:Jb) (g:Int):Jm Jb:=fbind (Zkd F e) λa=>lpF F (Zq9 F f g) (cw ((Jk a:Int)-1),a)
theorem ZEE {F:Nat} (a e:Jb) (f:Int)  :Le (ZoV F a e f) (Zek a e f):=by
 unfold ZoV Zek;exact θ (And.intro (@ZEh F) (@ZLN F))
noncomputable def ZqQ (F:Nat) (a:Int):Int×Int->Jm ((Int×Int) ⊕ (Int ⊕ (Int×Int)))| (k5,e)=>bif lti 1 e then fbind (cNz a) λ_=>bif !eqi (Jq e a) 0 then Jg (.inr (.inr ((0,0))))else fbind (cNz a) λ_=>Jg (.inl (cw (k5+1),cw (Jw e a)))else Jg (.inr (.inr ((a,k5))))
theorem ZND {F:Nat} (a:Int)  (g:_):Le (ZqQ F a g) (ZsU a g):=by
 obtain ⟨k5,e⟩:=g;unfold ZqQ ZsU;exact θ trivial
noncomputable def Zo9 (F:Nat) (e:Int):Int->Jm (Int ⊕ (Int×Int))| a=>fbind (cNz a) λ_=>bif !eqi (Jq e a) 0 then Jg (.inl (cw (a+1)))else lpF F (ZqQ F a) (0,e)
theorem ZO8 {F:Nat} (a:Int)  (e:_):Le (Zo9 F a e) (Zoy a e):=by
 unfold Zo9 Zoy;exact θ (@ZND F)
noncomputable def ZdJ (F:Nat) (a:Int):Jm (Int×Int):=fbind (Zf9 F a 2 64) λr8=>bif !r8 then Jg ((0,0))else lpF F (Zo9 F a) 2
theorem Zi9 {F:Nat} (a:Int)  :Le (ZdJ F a) (Zct a):=by
 unfold ZdJ Zct;exact θ (And.intro (@ZoF F) (@ZO8 F))
noncomputable def ZoE (F:Nat) (a:Jb) (p1 e:Int):Int->Jm (Int ⊕ (Int ⊕ Bool))| f=>fbind (ZiR F p1 e) λg=>bif lti f g then fbind (ZkQ F f p1 e) λh=>fbind (cApp 8 h [1]) λi=>fbind (ZoV F a i p1) λj=>fbind (ZqH F j p1) λk=>bif eqi k 0 then Jg (.inr (.inr Jj))else Jg (.inl (cw (f+1)))else Jg (.inr (.inl (cw (e+1))))
theorem ZO6 {F:Nat} (a:Jb) (p1 e:Int)  (g:_):Le (ZoE F a p1 e g) (Zsh a p1 e g):=by
 unfold ZoE Zsh;exact θ (And.intro (@Zrn F)<|And.intro (@ZCR F)<|And.intro (@ZEE F) (@ZHL F))
noncomputable def ZoC (F:Nat) (a:Jb) (p1:Int):Int->Jm (Int ⊕ Bool)| e=>bif lei (cw (2*e)) ((cw ((Jk a:Int)-1))) then lpF F (ZoE F a p1 e) (0)else Jg (.inr true)
theorem ZL8 {F:Nat} (a:Jb) (p1:Int)  (e:_):Le (ZoC F a p1 e) (Zrb a p1 e):=by
 unfold ZoC Zrb;exact θ (@ZO6 F)
noncomputable def Zka (F:Nat) (a:Jb) (p1:Int):Jm Bool:=lpF F (ZoC F a p1) 1
theorem ZB7 {F:Nat} (a:Jb) (p1:Int)  :Le (Zka F a p1) (ZiY a p1):=by
 unfold Zka ZiY;exact θ (@ZL8 F)
noncomputable def Ztk (F:Nat) (e:Zd) (a:Int×Int):Int->Jm (Int ⊕ Bool)| f=>bif lti f ((Jk e.Poly:Int)) then fbind (cIdx e.Poly f) λg=>fbind (Zf9 F g 0 (cw (a.1-1))) λh=>bif !h then Jg (.inr Jj)else Jg (.inl (cw (f+1)))else fbind (Zka F e.Poly a.1) λi=>Jg (.inr i)
theorem ZFU {F:Nat} (e:Zd) (a:Int×Int)  (g:_):Le (Ztk F e a g) (ZrN e a g):=by
 unfold Ztk ZrN;exact θ (And.intro (@ZoF F) (@ZB7 F))
noncomputable def Zry (F:Nat) (a:Zd):Jm (Bool):=fbind (ZiR F a.Prime a.Degree) λf=>fbind (ZdJ F f) λe=>bif !eqi e.1 a.Prime then Jg (Jj)else lpF F (Ztk F a e) 0
theorem ZHb {F:Nat} (a:Zd)  :Le (Zry F a) (Zmz a):=by
 unfold Zry Zmz;exact θ (And.intro (@Zrn F)<|And.intro (@Zi9 F) (@ZFU F))
noncomputable def ZtO (F:Nat) (a:Zd):Jm Bool:=fbind (Zf9 F a.Prime 2 64) λe=>bif !e then Jg (Jj)else fbind (Zf9 F a.Degree 1 6) λf=>bif !f then Jg (Jj)else bif !eqi ((Jk a.Poly:Int)) ((cw (a.Degree+1))) then Jg (Jj)else fbind (cIdx a.Poly a.Degree) λg=>bif !eqi g 1 then Jg (Jj)else Zry F a
theorem ZFI {F:Nat} (a:Zd)  :Le (ZtO F a) (Zhl a):=by
 unfold ZtO Zhl;exact θ (And.intro (@ZoF F) (@ZHb F))
noncomputable def Zne (F:Nat) (a0 a:Jb):Jm (Int):=bif lti ((Jk a0:Int)) ((Jk a:Int)) then Jg ((-1))else bif lti ((Jk a:Int)) ((Jk a0:Int)) then Jg (1)else Jg 0
theorem ZH5 {F:Nat} (a0 a:Jb)  :Le (Zne F a0 a) (ZcX a0 a):=by
 unfold Zne ZcX;exact θ trivial
noncomputable def Zs5 (F:Nat) (a0 a:Jb) (i5:Int):Jm (Int ⊕ Int):=fbind (cIdx a0 i5) λe=>fbind (cIdx a i5) λf=>bif lti e f then Jg (.inr ((-1)))else fbind (cIdx a0 i5) λg=>fbind (cIdx a i5) λh=>bif lti h g then Jg (.inr 1)else Jg (.inl (cw (i5+1)))
theorem ZFZ {F:Nat} (a0 a:Jb) (i5:Int)  :Le (Zs5 F a0 a i5) (ZdL a0 a i5):=by
 unfold Zs5 ZdL;exact θ trivial
noncomputable def ZsW (F:Nat) (a0 a:Jb):Int->Jm (Int ⊕ Int)| i5=>bif lti i5 ((Jk a0:Int)) then bif lti i5 ((Jk a:Int)) then Zs5 F a0 a i5 else fmap (Zne F a0 a) λx=>.inr (x)else fmap (Zne F a0 a) λx=>.inr x
theorem ZIz {F:Nat} (a0 a:Jb)  (e:_):Le (ZsW F a0 a e) (ZbR a0 a e):=by
 unfold ZsW ZbR;exact θ (And.intro (@ZFZ F) (@ZH5 F))
noncomputable def Zqr (F:Nat) (a0 a:Jb):Jm Int:=lpF F (ZsW F a0 a) 0
theorem ZEC {F:Nat} (a0 a:Jb)  :Le (Zqr F a0 a) (Za0 a0 a):=by
 unfold Zqr Za0;exact θ (@ZIz F)
noncomputable def ZsL (F:Nat) (a:Int×Int):Int->Jm (Int ⊕ Zd)| f=>fbind (ZkQ F f a.1 a.2) λg=>fbind (cApp 8 g [1]) λe=>fbind (Zka F e a.1) λh=>bif h then Jg (.inr (Zd.mk a.1 a.2 e))else Jg (.inl (cw (f+1)))
theorem ZGD {F:Nat} (a:Int×Int)  (e:_):Le (ZsL F a e) (Zsm a e):=by
 unfold ZsL Zsm;exact θ (And.intro (@ZCR F) (@ZB7 F))
noncomputable def Zo4 (F:Nat) (a:Int):Jm Zd:=fbind (ZdJ F a) λe=>lpF F (ZsL F e) 0
theorem ZKj {F:Nat} (a:Int)  :Le (Zo4 F a) (Zcv a):=by
 unfold Zo4 Zcv;exact θ (And.intro (@Zi9 F) (@ZGD F))
noncomputable def ZlP (F:Nat) (e a:Ja) (f k5:Int):Jm ((Ja×Int) ⊕ Ja):=fbind (cSl a 0 k5) λg=>fbind (cApp 24 ([]:Ja) g) λh=>fbind (cIdx e f) λi=>fbind (Zkd F i) λj=>fbind (cApp 24 h [j]) λk=>fbind (cSl a k5 (Jk a:Int)) λl=>fbind (cApp 24 k l) λo=>Jg (.inl (o,cw (f+1)))
theorem ZON {F:Nat} (a e:Ja) (f k5:Int)  :Le (ZlP F a e f k5) (ZdN a e f k5):=by
 unfold ZlP ZdN;exact θ (@ZEh F)
noncomputable def ZsF (F:Nat) (e f:Ja) (g:Int):Int->Jm (Int ⊕ ((Ja×Int) ⊕ Ja))| a=>bif lti 0 a then fbind (cIdx f (cw (a-1))) λh=>fbind (cIdx e g) λi=>fbind (Zqr F h i) λj=>bif lti 0 j then Jg (.inl (cw (a-1)))else fmap (ZlP F e f g a) λx=>.inr (x)else fmap (ZlP F e f g a) λx=>.inr x
theorem ZHv {F:Nat} (a e:Ja) (f:Int)  (g:_):Le (ZsF F a e f g) (Zex a e f g):=by
 unfold ZsF Zex;exact θ (And.intro (@ZEC F) (@ZON F))
noncomputable def Zr9 (F:Nat) (e:Ja):Ja×Int->Jm ((Ja×Int) ⊕ Ja)| (a,f)=>bif lti f ((Jk e:Int)) then lpF F (ZsF F e a f) ((Jk a:Int))else Jg (.inr a)
theorem ZNF {F:Nat} (a:Ja)  (g:_):Le (Zr9 F a g) (ZdQ a g):=by
 obtain ⟨e,f⟩:=g;unfold Zr9 ZdQ;exact θ (@ZHv F)
noncomputable def Zj2 (F:Nat) (a:Ja):Jm Ja:=lpF F (Zr9 F a) (([]:Ja),0)
theorem ZGC {F:Nat} (a:Ja)  :Le (Zj2 F a) (ZaC a):=by
 unfold Zj2 ZaC;exact θ (@ZNF F)
noncomputable def Ziq (F:Nat) (f:Jb) (g:Int) (e:Jb) (a:Bool):Jm ((Jb×Bool×Int) ⊕ Jb):=fbind (cIdx f g) λh=>fbind (cApp 8 e [h]) λi=>Jg (.inl (i,a,cw (g+1)))
theorem ZMP {F:Nat} (f:Jb) (g:Int) (e:Jb) (a:Bool)  :Le (Ziq F f g e a) (ZbD f g e a):=by
 unfold Ziq ZbD;exact θ trivial
noncomputable def Zng (F:Nat) (a:Jb) (n1:Int) (e:Jb) (f:Bool) (g:Int) (h:Bool):Jm ((Jb×Bool×Int) ⊕ Jb):=bif h then fbind (cIdx a g) λi=>bif lti n1 i then fbind (cApp 8 e [n1]) λj=>Ziq F a g j true else Ziq F a g e true else Ziq F a g e f
theorem ZKc {F:Nat} (a:Jb) (n1:Int) (f:Jb) (e:Bool) (h:Int) (g:Bool)  :Le (Zng F a n1 f e h g) (Zcl a n1 f e h g):=by
 unfold Zng Zcl;exact θ (@ZMP F)
noncomputable def ZpX (F:Nat) (a:Jb) (n1:Int):Jb×Bool×Int->Jm ((Jb×Bool×Int) ⊕ Jb)| (f,e,g)=>bif lti g ((Jk a:Int)) then bif !e then fbind (cIdx a g) λh=>Zng F a n1 f e g (lei n1 h)else Zng F a n1 f e g Jj else bif !e then fbind (cApp 8 f [n1]) λi=>Jg (.inr i)else Jg (.inr f)
theorem ZEK {F:Nat} (a:Jb) (n1:Int)  (h:_):Le (ZpX F a n1 h) (ZaL a n1 h):=by
 obtain ⟨f,e,g⟩:=h;unfold ZpX ZaL;exact θ (@ZKc F)
noncomputable def Zly (F:Nat) (a:Jb) (n1:Int):Jm Jb:=lpF F (ZpX F a n1) (([]:Jb),Jj,0)
theorem ZMk {F:Nat} (a:Jb) (n1:Int)  :Le (Zly F a n1) (Za3 a n1):=by
 unfold Zly Za3;exact θ (@ZEK F)
noncomputable def Zed (F:Nat) (a0 f c2:Int):Jm Jb:=fbind (Zly F ([a0]:Jb) f) λa=>fbind (Zly F a c2) λe=>Jg e
theorem ZgK {F:Nat} (a0 a c2:Int)  :Le (Zed F a0 a c2) (Zdh a0 a c2):=by
 unfold Zed Zdh;exact θ (@ZMk F)
noncomputable def Zrg (F:Nat) (a h g:Int):Ja×Int->Jm ((Ja×Int) ⊕ ((Ja×Int) ⊕ ((Ja×Int) ⊕ Ja)))| (e,f)=>bif lti f 3 then fbind (cNz 3) λ_=>fbind (Zed F (cw (h+(cw ((cw ((cw (2*a))+1))*f)))) (cw (g+(cw ((cw ((cw (2*a))+1))*f)))) (cw ((Jq (cw ((cw (a+1))*(cw (h+g)))) (cw ((cw (2*a))+1)))+(cw ((cw ((cw (2*a))+1))*(Jq (cw (f+1)) 3)))))) λi=>fbind (cApp 24 e [i]) λj=>Jg (.inl (j,cw (f+1)))else Jg (.inr (.inl (e,cw (g+1))))
theorem ZMc {F:Nat} (a e f:Int)  (j:_):Le (Zrg F a e f j) (Zsd a e f j):=by
 obtain ⟨g,h⟩:=j;unfold Zrg Zsd;exact θ (@ZgK F)
noncomputable def Zpc (F:Nat) (e f:Int):Ja×Int->Jm ((Ja×Int) ⊕ ((Ja×Int) ⊕ Ja))| (a,g)=>bif lti g ((cw ((cw (2*e))+1))) then fbind (cNz (cw ((cw (2*e))+1))) λ_=>lpF F (Zrg F e f g) (a,0)else Jg (.inr (.inl (a,cw (f+1))))
theorem ZOp {F:Nat} (a e:Int)  (h:_):Le (Zpc F a e h) (ZqD a e h):=by
 obtain ⟨f,g⟩:=h;unfold Zpc ZqD;exact θ (@ZMc F)
noncomputable def Zti (F:Nat) (e:Int):Ja×Int->Jm ((Ja×Int) ⊕ Ja)| (f,a)=>bif lti a ((cw ((cw (2*e))+1))) then fbind (Zed F a (cw (a+(cw ((cw (2*e))+1)))) (cw (a+(cw (2*(cw ((cw (2*e))+1))))))) λg=>fbind (cApp 24 f [g]) λh=>lpF F (Zpc F e a) (h,cw (a+1))else Jg (.inr f)
theorem ZPC {F:Nat} (a:Int)  (g:_):Le (Zti F a g) (Zqn a g):=by
 obtain ⟨e,f⟩:=g;unfold Zti Zqn;exact θ (And.intro (@ZgK F) (@ZOp F))
noncomputable def Zth (F:Nat) (a:Int):Jm Ja:=lpF F (Zti F a) (([]:Ja),0)
theorem ZLs {F:Nat} (a:Int)  :Le (Zth F a) (Zof a):=by
 unfold Zth Zof;exact θ (@ZPC F)
noncomputable def Zs9 (F:Nat) (e g:Int):Ja×Int->Jm ((Ja×Int) ⊕ ((Ja×Int) ⊕ Ja))| (a,f)=>bif lti f 3 then fbind (cNz 3) λ_=>fbind (Zed F (cw (3*(cw (2*e)))) (cw ((cw (g+e))+(cw ((cw (2*e))*f)))) (cw (g+(cw ((cw (2*e))*(Jq (cw (f+1)) 3)))))) λh=>fbind (cApp 24 a [h]) λi=>Jg (.inl (i,cw (f+1)))else Jg (.inr (.inl (a,cw (g+1))))
theorem ZNn {F:Nat} (a e:Int)  (h:_):Le (Zs9 F a e h) (Ztr a e h):=by
 obtain ⟨f,g⟩:=h;unfold Zs9 Ztr;exact θ (@ZgK F)
noncomputable def Ztb (F:Nat) (f k i j:Int):Ja×Int->Jm ((Ja×Int) ⊕ ((Ja×Int) ⊕ ((Ja×Int) ⊕ ((Ja×Int) ⊕ Ja))))| (e,a)=>bif lti a 3 then fbind (cNz 3) λ_=>fbind (Zed F (cw (k+(cw ((cw (2*f))*a)))) (cw (i+(cw ((cw (2*f))*a)))) (cw (j+(cw ((cw (2*f))*(Jq (cw (a+1)) 3)))))) λg=>fbind (cApp 24 e [g]) λh=>Jg (.inl (h,cw (a+1)))else Jg (.inr (.inl (e,cw (i+1))))
theorem ZFm {F:Nat} (e f g a:Int)  (j:_):Le (Ztb F e f g a j) (Zqf e f g a j):=by
 obtain ⟨h,i⟩:=j;unfold Ztb Zqf;exact θ (@ZgK F)
noncomputable def ZkU (F:Nat) (f g:Int) (a:Ja) (h e:Int):Jm ((Ja×Int) ⊕ ((Ja×Int) ⊕ ((Ja×Int) ⊕ Ja))):=lpF F (Ztb F f g h e) (a,0)
theorem ZM7 {F:Nat} (f g:Int) (a:Ja) (h e:Int)  :Le (ZkU F f g a h e) (Zg2 f g a h e):=by
 unfold ZkU Zg2;exact θ (@ZFm F)
noncomputable def Ztv (F:Nat) (a f:Int):Ja×Int->Jm ((Ja×Int) ⊕ ((Ja×Int) ⊕ ((Ja×Int) ⊕ Ja)))| (e,g)=>bif lti g ((cw (2*a))) then fbind (cNz (cw (2*a))) λ_=>fbind (cNz 2) λ_=>fbind (cNz 2) λ_=>bif eqi (Jq (Jq (cw (f+g)) (cw (2*a))) 2) 1 then ZkU F a f e g (cw ((cw (Jw (Jq (cw (f+g)) (cw (2*a))) 2))+a))else ZkU F a f e g (cw (Jw (Jq (cw (f+g)) (cw (2*a))) 2))else Jg (.inr (.inl (e,cw (f+1))))
theorem ZLI {F:Nat} (a e:Int)  (h:_):Le (Ztv F a e h) (ZpQ a e h):=by
 obtain ⟨f,g⟩:=h;unfold Ztv ZpQ;exact θ (@ZM7 F)
noncomputable def ZsZ (F:Nat) (f:Int):Ja×Int->Jm ((Ja×Int) ⊕ ((Ja×Int) ⊕ Ja))| (a,e)=>bif lti e ((cw (2*f))) then lpF F (Ztv F f e) (a,cw (e+1))else Jg (.inr (.inr a))
theorem ZH2 {F:Nat} (a:Int)  (g:_):Le (ZsZ F a g) (ZqV a g):=by
 obtain ⟨e,f⟩:=g;unfold ZsZ ZqV;exact θ (@ZLI F)
noncomputable def Zpq (F:Nat) (a:Int):Ja×Int->Jm ((Ja×Int) ⊕ Ja)| (f,e)=>bif lti e a then fbind (Zed F e (cw (e+(cw (2*a)))) (cw (e+(cw (2*(cw (2*a))))))) λg=>fbind (cApp 24 f [g]) λh=>lpF F (Zs9 F a e) (h,0)else lpF F (ZsZ F a) (f,0)
theorem ZPu {F:Nat} (a:Int)  (g:_):Le (Zpq F a g) (Zp0 a g):=by
 obtain ⟨e,f⟩:=g;unfold Zpq Zp0;exact θ (And.intro (@ZgK F)<|And.intro (@ZNn F) (@ZH2 F))
noncomputable def ZqX (F:Nat) (a:Int):Jm Ja:=lpF F (Zpq F a) (([]:Ja),0)
theorem ZKt {F:Nat} (a:Int)  :Le (ZqX F a) (Zkv a):=by
 unfold ZqX Zkv;exact θ (@ZPu F)
noncomputable def ZoQ (F:Nat) (v0:Int):Jm Zz:=fbind (cNz 6) λ_=>bif eqi (Jq v0 6) 3 then fbind (cNz 6) λ_=>fbind (Zth F (cw (Jw (cw (v0-3)) 6))) λa=>fbind (Zj2 F a) λe=>Jg (Zz.mk v0 e)else fbind (cNz 6) λ_=>fbind (ZqX F (cw (Jw (cw (v0-1)) 6))) λf=>fbind (Zj2 F f) λg=>Jg (Zz.mk v0 g)
theorem ZMI {F:Nat} (v0:Int)  :Le (ZoQ F v0) (Zjh v0):=by
 unfold ZoQ Zjh;exact θ (And.intro (@ZLs F)<|And.intro (@ZGC F) (@ZKt F))
noncomputable def Zqa (F:Nat) (a0 f:Ja) (o k7 g:Int):Jb×Int->Jm ((Jb×Int) ⊕ ((Jb×Int) ⊕ ((Ja×Int) ⊕ ((Ja×Int) ⊕ Ja))))| (a,e)=>bif lti e ((Jk f:Int)) then fbind (cIdx a0 o) λh=>fbind (cIdx h g) λi=>fbind (cIdx f k7) λj=>fbind (cIdx j e) λk=>fbind (cApp 8 a [cw (i*k)]) λl=>Jg (.inl (l,cw (e+1)))else Jg (.inr (.inl (a,cw (g+1))))
theorem ZHO {F:Nat} (a0 a:Ja) (e k7 f:Int)  (j:_):Le (Zqa F a0 a e k7 f j) (Zto a0 a e k7 f j):=by
 obtain ⟨g,h⟩:=j;unfold Zqa Zto;exact θ trivial
noncomputable def ZpC (F:Nat) (a0 h:Ja) (i:Int) (a:Ja) (k7:Int):Jb×Int->Jm ((Jb×Int) ⊕ ((Ja×Int) ⊕ ((Ja×Int) ⊕ Ja)))| (e,f)=>bif lti f ((Jk a0:Int)) then lpF F (Zqa F a0 h i k7 f) (e,0)else fbind (cApp 24 a [e]) λg=>Jg (.inr (.inl (g,cw (k7+1))))
theorem ZMt {F:Nat} (a0 e:Ja) (f:Int) (a:Ja) (k7:Int)  (j:_):Le (ZpC F a0 e f a k7 j) (Zs2 a0 e f a k7 j):=by
 obtain ⟨g,h⟩:=j;unfold ZpC Zs2;exact θ (@ZHO F)
noncomputable def Zov (F:Nat) (a0 e:Ja) (f:Int):Ja×Int->Jm ((Ja×Int) ⊕ ((Ja×Int) ⊕ Ja))| (a,k7)=>bif lti k7 ((Jk e:Int)) then lpF F (ZpC F a0 e f a k7) (([]:Jb),0)else Jg (.inr (.inl (a,cw (f+1))))
theorem ZJ4 {F:Nat} (a0 a:Ja) (e:Int)  (g:_):Le (Zov F a0 a e g) (ZtE a0 a e g):=by
 obtain ⟨f,k7⟩:=g;unfold Zov ZtE;exact θ (@ZMt F)
noncomputable def ZrO (F:Nat) (a0 f:Ja):Ja×Int->Jm ((Ja×Int) ⊕ Ja)| (a,e)=>bif lti e ((Jk a0:Int)) then lpF F (Zov F a0 f e) (a,0)else Jg (.inr a)
theorem ZFz {F:Nat} (a0 a:Ja)  (g:_):Le (ZrO F a0 a g) (ZpA a0 a g):=by
 obtain ⟨e,f⟩:=g;unfold ZrO ZpA;exact θ (@ZJ4 F)
noncomputable def ZtK (F:Nat) (a0 a:Ja):Jm Ja:=lpF F (ZrO F a0 a) (([]:Ja),0)
theorem ZOP {F:Nat} (a0 a:Ja)  :Le (ZtK F a0 a) (Zj5 a0 a):=by
 unfold ZtK Zj5;exact θ (@ZFz F)
noncomputable def Zpe (F:Nat):Int×Ja->Jm ((Int×Ja) ⊕ Ja)| (a,e)=>bif lti 0 a then fbind (ZtK F ([([1,1]:Jb),([1,(-1)]:Jb)]) e) λf=>Jg (.inl (cw (a-1),f))else Jg (.inr e)
theorem ZEs {F:Nat}   (g:_):Le (Zpe F  g) (Zss  g):=by
 obtain ⟨a,e⟩:=g;unfold Zpe Zss;exact θ (@ZOP F)
noncomputable def ZrT (F:Nat) (k0:Int):Jm Ja:=lpF F (Zpe F) (k0,[([1]:Jb)])
theorem ZEW {F:Nat} (k0:Int)  :Le (ZrT F k0) (Zh3 k0):=by
 unfold ZrT Zh3
 try simp only [<-cw_ok,<-Zq,<-Zt,<-Zo,<-Zm,<-Zn,<-Zr,<-Zu,GT.gt,GE.ge]
 repeat' (with_reducible first|exact Le.rfl|assumption|exact ZEs  _|exact Zw _ _ _|exact Zv _ _ _ _|(refine le_if ?_ ?_)|(refine Zp ?_ λ_=>?_)|(refine Zs ?_)|(refine Zx λ_=>?_))
noncomputable def Ztf (F:Nat) (n0 a1 g:Int):Jb×Int->Jm ((Jb×Int) ⊕ Jb)| (a,e)=>bif lti e n0 then fbind (cNz n0) λ_=>fbind (cApp 8 a [Jq (cw ((cw (a1*e))+g)) n0]) λf=>Jg (.inl (f,cw (e+1)))else Jg (.inr a)
theorem ZN3 {F:Nat} (n0 a1 a:Int)  (g:_):Le (Ztf F n0 a1 a g) (ZoW n0 a1 a g):=by
 obtain ⟨e,f⟩:=g;unfold Ztf ZoW;exact θ trivial
noncomputable def ZqG (F:Nat) (n0 a1 a:Int):Jm Jb:=lpF F (Ztf F n0 a1 a) (([]:Jb),0)
theorem ZNS {F:Nat} (n0 a1 a:Int)  :Le (ZqG F n0 a1 a) (Zcs n0 a1 a):=by
 unfold ZqG Zcs;exact θ (@ZN3 F)
noncomputable def Zoe (F:Nat) (n0 e a:Int):Jm Bool:=bif lei e n0 then Jg (lei n0 a)else Jg Jj
theorem Zz3 {F:Nat} (n0 e a:Int)  :Le (Zoe F n0 e a) (ZV n0 e a):=by
 unfold Zoe ZV;exact θ trivial
noncomputable def Zsb (F:Nat) (e:Jb) (f:Int->Jm Bool):Int->Jm (Int ⊕ Int)| a=>bif lti a ((Jk e:Int)) then fbind (cIdx e a) λg=>fbind (f g) λh=>bif h then Jg (.inr a)else Jg (.inl (cw (a+1)))else Jg (.inr ((-1)))
theorem ZLn {F:Nat} (f:Jb) (a h:Int->Jm Bool) (e:∀g,Le (a g) (h g)) (j:_):Le (Zsb F f a j) (Zfs f h j):=by
 unfold Zsb Zfs
 try simp only [<-cw_ok,<-Zq,<-Zt,<-Zo,<-Zm,<-Zn,<-Zr,<-Zu,GT.gt,GE.ge]
 repeat' (with_reducible first|exact Le.rfl|assumption|exact Zw _ _ _|exact Zv _ _ _ _|(refine le_if ?_ ?_)|(refine Zp ?_ λ_=>?_)|(refine Zs ?_)|(refine Zx λ_=>?_))
 all_goals (first|exact e _|skip)
noncomputable def Zox (F:Nat) (e:Jb) (a:Int->Jm Bool):Jm Int:=lpF F (Zsb F e a) 0
theorem ZKI {F:Nat} (f:Jb) (a h:Int->Jm Bool) (e:∀g,Le (a g) (h g)):Le (Zox F f a) (Zn8 f h):=by
 unfold Zox Zn8
 try simp only [<-cw_ok,<-Zq,<-Zt,<-Zo,<-Zm,<-Zn,<-Zr,<-Zu,GT.gt,GE.ge]
 repeat' (with_reducible first|exact Le.rfl|assumption|(refine ZLn _ _ _ ?_ _;intros)|exact Zw _ _ _|exact Zv _ _ _ _|(refine le_if ?_ ?_)|(refine Zp ?_ λ_=>?_)|(refine Zs ?_)|(refine Zx λ_=>?_))
 all_goals (first|exact e _|skip)
noncomputable def Zrm (F:Nat) (e:Jb) (a:Int->Jm Bool):Jm Bool:=fbind (Zox F e a) λf=>Jg (lei 0 f)
theorem ZH0 {F:Nat} (f:Jb) (a h:Int->Jm Bool) (e:∀g,Le (a g) (h g)):Le (Zrm F f a) (ZaX f h):=by
 unfold Zrm ZaX
 try simp only [<-cw_ok,<-Zq,<-Zt,<-Zo,<-Zm,<-Zn,<-Zr,<-Zu,GT.gt,GE.ge]
 repeat' (with_reducible first|exact Le.rfl|assumption|(refine ZKI _ _ _ ?_;intros)|exact Zw _ _ _|exact Zv _ _ _ _|(refine le_if ?_ ?_)|(refine Zp ?_ λ_=>?_)|(refine Zs ?_)|(refine Zx λ_=>?_))
 all_goals (first|exact e _|skip)
noncomputable def ZtI (F:Nat) (a0:Jb):Jm Jb:=cApp 8 [] a0
theorem ZHh {F:Nat} (a0:Jb)  :Le (ZtI F a0) (Zb1 a0):=by
 unfold ZtI Zb1;exact θ trivial
noncomputable def Zh7 (F:Nat) (a:Jb):Jm Int:=Jg ((Jk a:Int))
theorem ZsT {F:Nat} (a:Jb)  :Le (Zh7 F a) (Z1 a):=by
 unfold Zh7 Z1;exact θ trivial
noncomputable def ZpS (F:Nat) (a e g:Int):Jm ((Int×Int) ⊕ Int):=Jg (.inl (cw (e-1),cw (g*a)))
theorem ZET {F:Nat} (a e g:Int)  :Le (ZpS F a e g) (Zfz a e g):=by
 unfold ZpS Zfz;exact θ trivial
noncomputable def Ztl (F:Nat) (e g:Int):Int×Int->Jm ((Int×Int) ⊕ Int)| (a,power7)=>bif lti 0 a then bif lei power7 g then ZpS F e a power7 else Jg (.inr power7)else Jg (.inr power7)
theorem ZGI {F:Nat} (a g:Int)  (h:_):Le (Ztl F a g h) (Zbq a g h):=by
 obtain ⟨e,j⟩:=h;unfold Ztl Zbq;exact θ (@ZET F)
noncomputable def ZgO (F:Nat) (a e g:Int):Jm Int:=lpF F (Ztl F a g) (e,1)
theorem ZoT {F:Nat} (a e g:Int)  :Le (ZgO F a e g) (Zbr a e g):=by
 unfold ZgO Zbr;exact θ (@ZGI F)
noncomputable def ZrS (F:Nat) (a:Zd):Jm Int:=fbind (ZgO F a.Prime a.Degree 64) λe=>Jg e
theorem ZG8 {F:Nat} (a:Zd)  :Le (ZrS F a) (Zbf a):=by
 unfold ZrS Zbf;exact θ (@ZoT F)
noncomputable def Zrk (F:Nat) (a:Int) (g:Jb):Int×Int×Jb->Jm ((Int×Int×Jb) ⊕ Jb)| (f,e,xs)=>bif lti e ((Jk g:Int)) then fbind (cNz a) λ_=>fbind (cIdx xs e) λh=>fbind (cNz a) λ_=>Jg (.inl (cw (Jw f a),cw (e+1),(xs.set (e:Int).toNat (Jq f a))))else Jg (.inr xs)
theorem ZPe {F:Nat} (a:Int) (e:Jb)  (h:_):Le (Zrk F a e h) (ZeE a e h):=by
 obtain ⟨f,g,xs⟩:=h;unfold Zrk ZeE;exact θ trivial
noncomputable def Zi8 (F:Nat) (n0 a g:Int):Jm Jb:=fbind (cMake 8 (0:Int) g g) λe=>lpF F (Zrk F a e) (n0,0,e)
theorem ZxI {F:Nat} (n0 a e:Int)  :Le (Zi8 F n0 a e) (ZaU n0 a e):=by
 unfold Zi8 ZaU;exact θ (@ZPe F)
noncomputable def Zpx (F:Nat) (f:Jb) (g h i:Int):Int×Jb->Jm ((Int×Jb) ⊕ ((Int×Jb) ⊕ Jb))| (a,e)=>bif lti a ((Jk f:Int)) then fbind (cIdx f a) λj=>fbind (cIdx e (cw ((cw (h-(cw ((Jk f:Int)-1))))+a))) λk=>fbind (cNz g) λ_=>fbind (cNz g) λ_=>fbind (cIdx e (cw ((cw (h-(cw ((Jk f:Int)-1))))+a))) λl=>Jg (.inl (cw (a+1),(e.set (cw ((cw (h-(cw ((Jk f:Int)-1))))+a):Int).toNat (Jq (cw ((Jq (cw (k-(cw (i*j)))) g)+g)) g))))else Jg (.inr (.inl (cw (h-1),e)))
theorem ZKp {F:Nat} (e:Jb) (f g a:Int)  (j:_):Le (Zpx F e f g a j) (Zik e f g a j):=by
 obtain ⟨i,h⟩:=j;unfold Zpx Zik;exact θ trivial
noncomputable def ZsE (F:Nat) (a:Jb) (h:Int):Int×Jb->Jm ((Int×Jb) ⊕ Jb)| (e,xs)=>bif lei ((cw ((Jk a:Int)-1))) e then fbind (cIdx xs e) λf=>lpF F (Zpx F a h e f) (0,xs)else fbind (cSl xs 0 (if (Jk xs:Int)<(cw ((Jk a:Int)-1)) then (Jk xs:Int) else cw ((Jk a:Int)-1))) λg=>Jg (.inr g)
theorem ZPi {F:Nat} (a:Jb) (e:Int)  (g:_):Le (ZsE F a e g) (Zcj a e g):=by
 obtain ⟨f,xs⟩:=g;unfold ZsE Zcj;exact θ (@ZKp F)
noncomputable def Ztt (F:Nat) (e f:Jb) (g:Int):Jm Jb:=fbind (ZtI F e) λa=>lpF F (ZsE F f g) (cw ((Jk a:Int)-1),a)
theorem ZGY {F:Nat} (a e:Jb) (f:Int)  :Le (Ztt F a e f) (Zec a e f):=by
 unfold Ztt Zec;exact θ (And.intro (@ZHh F) (@ZPi F))
noncomputable def ZpB (F:Nat) (x0:Int):Jm Bool:=Jg (!eqi x0 0)
theorem ZKN {F:Nat} (x0:Int)  :Le (ZpB F x0) (Zmq x0):=by
 unfold ZpB Zmq;exact θ trivial
noncomputable def ZsK (F:Nat) (a:Jb):Jm Bool:=fbind (Zrm F a (λe=>ZpB F e)) λf=>Jg (!f)
theorem ZPa {F:Nat} (a:Jb)  :Le (ZsK F a) (ZkO a):=by
 unfold ZsK ZkO
 try simp only [<-cw_ok,<-Zq,<-Zt,<-Zo,<-Zm,<-Zn,<-Zr,<-Zu,GT.gt,GE.ge]
 repeat' (with_reducible first|exact Le.rfl|assumption|(refine ZH0 _ _ _ ?_;intros)|exact ZKN _|exact Zw _ _ _|exact Zv _ _ _ _|(refine le_if ?_ ?_)|(refine Zp ?_ λ_=>?_)|(refine Zs ?_)|(refine Zx λ_=>?_))
noncomputable def Zqk (F:Nat) (a:Jb) (p1 e:Int):Int->Jm (Int ⊕ (Int ⊕ Bool))| f=>fbind (ZgO F p1 e 64) λg=>bif lti f g then fbind (Zi8 F f p1 e) λh=>fbind (cApp 8 h [1]) λi=>fbind (Ztt F a i p1) λj=>fbind (ZsK F j) λk=>bif k then Jg (.inr (.inr Jj))else Jg (.inl (cw (f+1)))else Jg (.inr (.inl (cw (e+1))))
theorem ZGQ {F:Nat} (a:Jb) (p1 e:Int)  (g:_):Le (Zqk F a p1 e g) (Zqs a p1 e g):=by
 unfold Zqk Zqs;exact θ (And.intro (@ZoT F)<|And.intro (@ZxI F)<|And.intro (@ZGY F) (@ZPa F))
noncomputable def Zs0 (F:Nat) (a:Jb) (p1 f:Int):Int->Jm (Int ⊕ Bool)| e=>bif lei (cw (2*e)) ((cw (f-1))) then lpF F (Zqk F a p1 e) (0)else Jg (.inr true)
theorem ZHf {F:Nat} (a:Jb) (p1 e:Int)  (g:_):Le (Zs0 F a p1 e g) (ZqZ a p1 e g):=by
 unfold Zs0 ZqZ;exact θ (@ZGQ F)
noncomputable def Zlc (F:Nat) (a:Jb) (p1:Int):Jm Bool:=fbind (Zh7 F a) λe=>lpF F (Zs0 F a p1 e) 1
theorem ZxO {F:Nat} (a:Jb) (p1:Int)  :Le (Zlc F a p1) (Zib a p1):=by
 unfold Zlc Zib;exact θ (And.intro (@ZsT F) (@ZHf F))
noncomputable def Ztx (F:Nat) (e:Int):Int×Jb->Jm ((Int×Jb) ⊕ ((Int×Jb×Int) ⊕ Jb))| (a,factor3_2)=>fbind (cNz e) λ_=>bif eqi (Jq a e) 0 then fbind (cApp 8 factor3_2 [e]) λf=>fbind (cNz e) λ_=>Jg (.inl (cw (Jw a e),f))else Jg (.inr (.inl (a,factor3_2,cw (e+1))))
theorem ZGL {F:Nat} (a:Int)  (h:_):Le (Ztx F a h) (Zf3 a h):=by
 obtain ⟨e,g⟩:=h;unfold Ztx Zf3;exact θ trivial
noncomputable def ZsS (F:Nat):Int×Jb×Int->Jm ((Int×Jb×Int) ⊕ Jb)| (a,factor3,e)=>bif lei (cw (e*e)) a then lpF F (Ztx F e) (a,factor3)else bif lti 1 a then fbind (cApp 8 factor3 [a]) λf=>Jg (.inr f)else Jg (.inr factor3)
theorem ZOY {F:Nat}   (g:_):Le (ZsS F  g) (Zcg  g):=by
 obtain ⟨a,h,e⟩:=g;unfold ZsS Zcg;exact θ (@ZGL F)
noncomputable def Zkh (F:Nat) (n0:Int):Jm Jb:=fbind (Zoe F n0 1 1000000) λa=>bif !a then Jg (([]:Jb))else lpF F (ZsS F) (n0,([]:Jb),2)
theorem ZCF {F:Nat} (n0:Int)  :Le (Zkh F n0) (Zdi n0):=by
 unfold Zkh Zdi
 try simp only [<-cw_ok,<-Zq,<-Zt,<-Zo,<-Zm,<-Zn,<-Zr,<-Zu,GT.gt,GE.ge]
 repeat' (with_reducible first|exact Le.rfl|assumption|exact Zz3 _ _ _|exact ZOY  _|exact Zw _ _ _|exact Zv _ _ _ _|(refine le_if ?_ ?_)|(refine Zp ?_ λ_=>?_)|(refine Zs ?_)|(refine Zx λ_=>?_))
noncomputable def ZqS (F:Nat) (n0:Int):Jm Bool:=fbind (Zkh F n0) λa=>Jg (eqi ((Jk a:Int)) 1)
theorem ZE0 {F:Nat} (n0:Int)  :Le (ZqS F n0) (Zmv n0):=by
 unfold ZqS Zmv;exact θ (@ZCF F)
noncomputable def ZrG (F:Nat) (a:Zd):Int->Jm (Int ⊕ Bool)| e=>bif lti e ((Jk a.Poly:Int)) then fbind (cIdx a.Poly e) λf=>fbind (Zoe F f 0 (cw (a.Prime-1))) λg=>bif !g then Jg (.inr Jj)else Jg (.inl (cw (e+1)))else fbind (Zlc F a.Poly a.Prime) λh=>Jg (.inr h)
theorem ZJP {F:Nat} (a:Zd)  (e:_):Le (ZrG F a e) (Zso a e):=by
 unfold ZrG Zso;exact θ (And.intro (@Zz3 F) (@ZxO F))
noncomputable def Zrv (F:Nat) (a:Zd):Jm (Bool):=lpF F (ZrG F a) 0
theorem ZES {F:Nat} (a:Zd)  :Le (Zrv F a) (Zn5 a):=by
 unfold Zrv Zn5;exact θ (@ZJP F)
noncomputable def ZoB (F:Nat) (a:Zd):Jm (Bool):=fbind (Zh7 F a.Poly) λe=>bif !eqi e ((cw (a.Degree+1))) then Jg (Jj)else fbind (cIdx a.Poly a.Degree) λf=>bif !eqi f 1 then Jg (Jj)else Zrv F a
theorem ZMA {F:Nat} (a:Zd)  :Le (ZoB F a) (ZlX a):=by
 unfold ZoB ZlX;exact θ (And.intro (@ZsT F) (@ZES F))
noncomputable def Zpg (F:Nat) (a:Zd):Jm Bool:=fbind (ZqS F a.Prime) λf=>bif !f then Jg (Jj)else bif lti a.Degree 1 then Jg (Jj)else fbind (ZgO F a.Prime a.Degree 64) λe=>bif lti 64 e then Jg (Jj)else ZoB F a
theorem ZPc {F:Nat} (a:Zd)  :Le (Zpg F a) (ZhO a):=by
 unfold Zpg ZhO;exact θ (And.intro (@ZE0 F)<|And.intro (@ZoT F) (@ZMA F))
noncomputable def Zr2 (F:Nat) (r8:Jb):Int->Jm (Int ⊕ (Int×Int))| a=>bif lti a ((Jk r8:Int)) then fbind (cIdx r8 a) λe=>fbind (cIdx r8 0) λf=>bif !eqi e f then Jg (.inr ((0,0)))else Jg (.inl (cw (a+1)))else bif eqi ((Jk r8:Int)) 0 then Jg (.inr ((0,0)))else fbind (Zh7 F r8) λg=>fbind (cIdx r8 0) λh=>Jg (.inr ((h,g)))
theorem ZK6 {F:Nat} (r8:Jb)  (e:_):Le (Zr2 F r8 e) (Zcd r8 e):=by
 unfold Zr2 Zcd;exact θ (@ZsT F)
noncomputable def ZoZ (F:Nat) (n0:Int):Jm (Int×Int):=fbind (Zkh F n0) λr8=>lpF F (Zr2 F r8) 0
theorem Zx7 {F:Nat} (n0:Int)  :Le (ZoZ F n0) (Zdc n0):=by
 unfold ZoZ Zdc;exact θ (And.intro (@ZCF F) (@ZK6 F))
noncomputable def Zpj (F:Nat) (a:Int×Int):Int->Jm (Int ⊕ (Zd×Int))| e=>fbind (Zi8 F e a.1 a.2) λf=>fbind (cApp 8 f [1]) λg=>fbind (Zlc F g a.1) λh=>bif !h then Jg (.inl (cw (e+1)))else fbind (Zi8 F e a.1 a.2) λi=>fbind (cApp 8 i [1]) λj=>Jg (.inr ((Zd.mk a.1 a.2 j,0)))
theorem ZF2 {F:Nat} (a:Int×Int)  (e:_):Le (Zpj F a e) (Zpb a e):=by
 unfold Zpj Zpb;exact θ (And.intro (@ZxI F) (@ZxO F))
noncomputable def ZoR (F:Nat) (a:Int×Int):Jm (Zd×Int):=lpF F (Zpj F a) 0
theorem ZOz {F:Nat} (a:Int×Int)  :Le (ZoR F a) (ZjK a):=by
 unfold ZoR ZjK;exact θ (@ZF2 F)
noncomputable def ZlJ (F:Nat) (a:Int):Jm (Zd×Int):=fbind (ZoZ F a) λe=>bif eqi e.1 0 then Jg (((Zd.mk 0 0 ([]:Jb)),2))else bif lti 64 a then Jg (((Zd.mk 0 0 ([]:Jb)),2))else ZoR F e
theorem Ztg {F:Nat} (a:Int)  :Le (ZlJ F a) (ZbI a):=by
 unfold ZlJ ZbI;exact θ (And.intro (@Zx7 F) (@ZOz F))
end Go.Proofs.YtcneolcmjjlmnaaGreatDoor
