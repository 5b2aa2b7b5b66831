import Derived.Test.YtcneolcmjjlmnaaGreatDoorPuTxt
open Int renaming fdiv->Yf,tmod->Jq,tdiv->Jw
open Option renaming some->Jg,none->Jh
open Bool renaming true->Ji,false->Jj
open List renaming length->Jk
open Go.IntKind renaming i64->Y
namespace Go.Proofs.YtcneolcmjjlmnaaGreatDoor
set_option linter.unusedSimpArgs false
open Go Go.Vc
set_option linter.unusedVariables false
structure Za where
 qcode:Jb
 qat:Int
 qseed:Int
structure ZE where
 Levels:Int
 Columns:Int
 Rows:Ja
structure Zd where
 Prime:Int
 Degree:Int
 Poly:Jb
structure ZM where
 Field:Zd
 Rows:Ja
structure Zz where
 Points:Int
 Blocks:Ja
structure Zf where
 Kind:Int
 Size:Int
 Rows:Ja
structure Zc where
 A:Int
 B:Int
structure Zb where
 Colors:Jb
 Edges:List Zc
structure Zal where
 Degree:Int
 Elements:Ja
structure Zh where
 Name:Jd
 Object:Zf
 Key:Jd
structure ZA where
 Items:List Zh
structure ZH where
 qg:Zb
 qnear:Ja
 qbest:Zb
 qperms:Ja
 qnodes:Int
 qleaves:Int
 qbudget:Int
 qfull:Bool
structure Z7 where
 qq:Int
 qadd:Ja
 qsub:Ja
 qmul:Ja
 qinv:Jb
structure Zag where
 qleft:Int
 qspent:Bool
structure ZI where
 qcounter:Zag
 qgraph:Zb
 qlists:Ja
 qnodes:Int
 qleaves:Int
 qform:Zb
 qbest:Ja
noncomputable section
def ZrA (a e:Jb):Jm Bool:=bif (Jk a:Int)>1048576 then Jg (Ji)else Jg ((Jk e:Int)>1048576)
def Zpw (a:Jb):Jm Za:=Jg (Za.mk a 0 0)
def Zgz (a:Za) (e:Int):Jm (Int×Za):=bif (Y.wrap (a.qat+1):Int)<=(Jk a.qcode:Int) then Jg ((e,(Za.mk a.qcode (Y.wrap (a.qat+1)) (IntKind.u64.wrap ((IntKind.u64.wrap ((IntKind.u64.wrap (a.qseed*6364136223846793005))+(IntKind.u64.wrap e)))+1442695040888963407)))))else(gNn 40).bind λ_=>Jg ((Y.wrap (IntKind.u64.wrap ((BitVec.ofInt IntKind.u64.bits (Yf (IntKind.u64.wrap ((IntKind.u64.wrap ((IntKind.u64.wrap (a.qseed*6364136223846793005))+(IntKind.u64.wrap e)))+1442695040888963407)) (2^min (40:Int).toNat IntKind.u64.bits))&&&BitVec.ofInt IntKind.u64.bits 255).toNat:Int)),(Za.mk a.qcode (Y.wrap (a.qat+1)) (IntKind.u64.wrap ((IntKind.u64.wrap ((IntKind.u64.wrap (a.qseed*6364136223846793005))+(IntKind.u64.wrap e)))+1442695040888963407)))))
def Zff (a:Za):Jm (Int×Za):=bif (a.qat:Int)<(Jk a.qcode:Int) then(gIdx a.qcode a.qat).bind λe=>Zgz a (Y.wrap e)else Zgz a 0
def ZG (a:Za) (n1:Int):Jm (Int×Za):=bif n1<=1 then Jg ((0,Za.mk a.qcode a.qat a.qseed))else(Zff (Za.mk a.qcode a.qat a.qseed)).bind λe=>bif n1>200 then(Zff (Za.mk a.qcode e.2.qat e.2.qseed)).bind λf=>(gNz n1).bind λ_=>Jg ((Jq (Y.wrap ((Y.wrap (e.1*256))+f.1)) n1,Za.mk a.qcode f.2.qat f.2.qseed))else(gNz n1).bind λ_=>Jg ((Jq e.1 n1,Za.mk a.qcode e.2.qat e.2.qseed))
def Zla (e:Za) (a:List Jd):Jm (Jd×Za):=(ZG (Za.mk e.qcode e.qat e.qseed) (Jk a:Int)).bind λf=>(gIdx a f.1).bind λg=>Jg ((g,Za.mk e.qcode f.2.qat f.2.qseed))
def Zac (n0 e a:Int):Jm Bool:=bif n0>=e then Jg (n0<=a)else Jg Jj
def ZgD (h g:Int):Jm Bool:=(Zac h 2 16).bind λa=>bif a then(Zac g 1 8).bind λe=>Jg (e)else Jg Jj
def Zfy (a:ZE) (e:Int):Int->Jm (Int ⊕ (Int ⊕ Bool))| f=>(gIdx a.Rows e).bind λg=>bif f<(Jk g:Int) then(gIdx a.Rows e).bind λh=>(gIdx h f).bind λi=>(Zac i 0 (Y.wrap (a.Levels-1))).bind λj=>bif !j then Jg (.inr (.inr Jj))else Jg (.inl (Y.wrap (f+1)))else Jg (.inr (.inl (Y.wrap (e+1))))
def Zgw (a:ZE):Int->Jm (Int ⊕ Bool)| e=>bif e<(Jk a.Rows:Int) then(gIdx a.Rows e).bind λf=>bif (Jk f:Int) !=a.Columns then Jg (.inr Jj)else loop (Zfy a e) (0)else Jg (.inr Ji)
def Zq4 (a:ZE):Jm (Bool):=loop (Zgw a) 0
def Zhy (a:ZE):Jm Bool:=(ZgD a.Levels a.Columns).bind λe=>bif !e then Jg (Jj)else bif (Jk a.Rows:Int)>256 then Jg (Jj)else Zq4 a
def Zq0 (f:Int):Int×Int->Jm ((Int×Int) ⊕ Int)| (a,e)=>bif a>0 then Jg (.inl (Y.wrap (a-1),Y.wrap (e*f)))else Jg (.inr e)
def Ze9 (a k1:Int):Jm Int:=loop (Zq0 a) (k1,1)
def ZaH (a:Zd):Jm Int:=(Ze9 a.Prime a.Degree).bind λe=>Jg e
def ZaD (a:Jb):Jm Jb:=(gApp 8 ([]:Jb) a).bind λe=>Jg e
def ZkM (f:Ja):Ja×Int->Jm ((Ja×Int) ⊕ Ja)| (a,e)=>bif e<(Jk f:Int) then(gIdx f e).bind λg=>(ZaD g).bind λh=>(gApp 24 a [h]).bind λi=>Jg (.inl (i,Y.wrap (e+1)))else Jg (.inr a)
def Zf5 (a:Ja):Jm Ja:=loop (ZkM a) (([]:Ja),0)
def ZeP (p1:Int):Int×Int×Jb->Jm ((Int×Int×Jb) ⊕ Jb)| (a,e,f)=>bif e>0 then(gNz p1).bind λ_=>(gApp 8 f [Jq a p1]).bind λg=>(gNz p1).bind λ_=>Jg (.inl (Y.wrap (Jw a p1),Y.wrap (e-1),g))else Jg (.inr f)
def Zbd (a0 p1 n2:Int):Jm Jb:=loop (ZeP p1) (a0,n2,([]:Jb))
def ZeI (e:Jb) (p1:Int):Int×Int->Jm ((Int×Int) ⊕ Int)| (a,f)=>bif f>=0 then(gIdx e f).bind λg=>Jg (.inl (Y.wrap ((Y.wrap (a*p1))+g),Y.wrap (f-1)))else Jg (.inr a)
def Zbw (a:Jb) (p1:Int):Jm Int:=loop (ZeI a p1) (0,Y.wrap ((Jk a:Int)-1))
def ZkX (e:Zd) (k3:Int) (f:Jb):Int×Jb->Jm ((Int×Jb) ⊕ Int)| (a,xs)=>bif a<(Jk xs:Int) then(gIdx xs a).bind λg=>(gIdx f a).bind λh=>(gNz e.Prime).bind λ_=>(gIdx xs a).bind λj=>Jg (.inl (Y.wrap (a+1),(xs.set a.toNat (Jq (Y.wrap (g+(Y.wrap (k3*h)))) e.Prime))))else(Zbw xs e.Prime).bind λi=>Jg (.inr i)
def Zc4 (a:Zd) (a1 g k3:Int):Jm Int:=(Zbd a1 a.Prime a.Degree).bind λe=>(Zbd g a.Prime a.Degree).bind λf=>loop (ZkX a k3 f) (0,e)
def Zi4 (f:Jb) (h g i:Int):Int×Jb->Jm ((Int×Jb) ⊕ ((Int×Jb) ⊕ Jb))| (a,e)=>bif a<(Jk f:Int) then(gIdx e (Y.wrap ((Y.wrap ((Y.wrap (g-(Jk f:Int)))+1))+a))).bind λj=>(gIdx f a).bind λk=>(gNz h).bind λ_=>(gIdx e (Y.wrap ((Y.wrap ((Y.wrap (g-(Jk f:Int)))+1))+a))).bind λl=>Jg (.inl (Y.wrap (a+1),(e.set (Y.wrap ((Y.wrap ((Y.wrap (g-(Jk f:Int)))+1))+a):Int).toNat (Jq (Y.wrap (j+(Y.wrap ((Y.wrap (h-i))*k)))) h))))else Jg (.inr (.inl (Y.wrap (g-1),e)))
def Zdt (f:Jb):Jb->Jm (Jb ⊕ ((Int×Jb) ⊕ Jb))| a=>bif (Jk a:Int)>=(Jk f:Int) then(gSl a 0 (Y.wrap ((Jk a:Int)-1))).bind λe=>Jg (.inl e)else Jg (.inr (.inr a))
def Zca (a:Jb) (g:Int):Int×Jb->Jm ((Int×Jb) ⊕ Jb)| (e,xs)=>bif e>=(Y.wrap ((Jk a:Int)-1)) then(gIdx xs e).bind λf=>loop (Zi4 a g e f) (0,xs)else loop (Zdt a) xs
def Zek (e f:Jb) (g:Int):Jm Jb:=(ZaD e).bind λa=>loop (Zca f g) (Y.wrap ((Jk a:Int)-1),a)
def ZoH (h:Zd) (i g:Jb) (f:Int):Int×Jb->Jm ((Int×Jb) ⊕ ((Int×Jb) ⊕ Int))| (a,e)=>bif a<(Jk g:Int) then(gIdx e (Y.wrap (f+a))).bind λj=>(gIdx i f).bind λk=>(gIdx g a).bind λl=>(gNz h.Prime).bind λ_=>(gIdx e (Y.wrap (f+a))).bind λo=>Jg (.inl (Y.wrap (a+1),(e.set (Y.wrap (f+a):Int).toNat (Jq (Y.wrap (j+(Y.wrap (k*l)))) h.Prime))))else Jg (.inr (.inl (Y.wrap (f+1),e)))
def ZfL (a:Zd) (e g:Jb):Int×Jb->Jm ((Int×Jb) ⊕ Int)| (f,xs)=>bif f<(Jk e:Int) then loop (ZoH a e g f) (0,xs)else(Zek xs a.Poly a.Prime).bind λh=>(Zbw h a.Prime).bind λi=>Jg (.inr i)
def Zb7 (a:Zd) (h i:Int):Jm Int:=(Zbd h a.Prime a.Degree).bind λe=>(Zbd i a.Prime a.Degree).bind λf=>(gMake 8 (0:Int) (Y.wrap ((Y.wrap (2*a.Degree))-1)) (Y.wrap ((Y.wrap (2*a.Degree))-1))).bind λg=>loop (ZfL a e f) (0,g)
def Zm3 (f:Zd) (v1 w2:Jb) (l:Int):Jb×Int->Jm ((Jb×Int) ⊕ Jb)| (e,a)=>bif a<(Jk v1:Int) then(gIdx w2 a).bind λg=>(Zb7 f g l).bind λh=>(gIdx v1 a).bind λi=>(Zc4 f i h (Y.wrap (f.Prime-1))).bind λj=>(gApp 8 e [j]).bind λk=>Jg (.inl (k,Y.wrap (a+1)))else Jg (.inr e)
def Zio (a:Zd) (v1 w2:Jb) (e:Int):Jm Jb:=loop (Zm3 a v1 w2 e) (([]:Jb),0)
def ZmK (i:Zd) (v1:Jb) (c2:Int):Jb×Int->Jm ((Jb×Int) ⊕ Jb)| (a,e)=>bif e<(Jk v1:Int) then(gIdx v1 e).bind λf=>(Zb7 i f c2).bind λg=>(gApp 8 a [g]).bind λh=>Jg (.inl (h,Y.wrap (e+1)))else Jg (.inr a)
def Zjt (a:Zd) (v1:Jb) (c2:Int):Jm Jb:=loop (ZmK a v1 c2) (([]:Jb),0)
def Zl9 (e:Zd) (a1:Int):Int->Jm (Int ⊕ Int)| a=>(Zb7 e a1 a).bind λf=>bif f !=1 then Jg (.inl (Y.wrap (a+1)))else Jg (.inr a)
def Zk3 (a:Zd) (a1:Int):Jm Int:=loop (Zl9 a a1) 1
def ZgU (r:Zd) (j:Jb) (f:Int) (k:Jb):Int×Ja->Jm ((Int×Ja) ⊕ ((Jb×Int×Ja) ⊕ (Ja×Jb)))| (e,a)=>bif e<(Jk a:Int) then bif e !=(Jk j:Int) then(gIdx a e).bind λl=>(gIdx a e).bind λo=>(gIdx o f).bind λg=>(Zio r l k g).bind λh=>(gIdx a e).bind λs=>Jg (.inl (Y.wrap (e+1),(a.set e.toNat h)))else Jg (.inl (Y.wrap (e+1),a))else(gApp 8 j [f]).bind λi=>Jg (.inr (.inl (i,Y.wrap (f+1),a)))
def ZaG (i:Zd) (e:Jb) (f:Int) (xs:Ja) (a:Int):Jm ((Jb×Int×Ja) ⊕ (Ja×Jb)):=bif a==(Jk xs:Int) then Jg (.inl (e,Y.wrap (f+1),xs))else(gIdx xs a).bind λj=>(gIdx j f).bind λk=>(Zk3 i k).bind λl=>(gIdx xs a).bind λo=>(Zjt i o l).bind λg=>(gIdx xs (Jk e:Int)).bind λh=>(gIdx xs a).bind λr=>(gIdx (xs.set a.toNat h) (Jk e:Int)).bind λs=>loop (ZgU i e f g) (0,((xs.set a.toNat h).set (Jk e:Int).toNat g))
def ZcJ (f:Zd) (g:Jb) (e:Int) (xs:Ja):Int->Jm (Int ⊕ ((Jb×Int×Ja) ⊕ (Ja×Jb)))| a=>bif a<(Jk xs:Int) then(gIdx xs a).bind λh=>(gIdx h e).bind λi=>bif i==0 then Jg (.inl (Y.wrap (a+1)))else(ZaG f g e xs a).map λx=>.inr (x)else(ZaG f g e xs a).map λx=>.inr x
def ZjL (f:Zd) (a:Jb) (e:Int) (xs:Ja):Jm ((Jb×Int×Ja) ⊕ (Ja×Jb)):=loop (ZcJ f a e xs) ((Jk a:Int))
def ZdV (f:Zd) (g:Int):Jb×Int×Ja->Jm ((Jb×Int×Ja) ⊕ (Ja×Jb))| (a,e,xs)=>bif e<g then bif (Jk a:Int)<(Jk xs:Int) then ZjL f a e xs else Jg (.inr ((xs,a)))else Jg (.inr ((xs,a)))
def Zqg (e:Zd) (f:Ja) (g:Int):Jm (Ja×Jb):=(Zf5 f).bind λa=>loop (ZdV e g) (([]:Jb),0,a)
def ZeY (h:Zd) (e:Ja):Jm Ja:=(gIdx e 0).bind λf=>(Zqg h e (Jk f:Int)).bind λa=>(gSl a.1 0 (Jk a.2:Int)).bind λg=>Jg g
def ZsU (a:Int):Int×Int->Jm ((Int×Int) ⊕ (Int ⊕ (Int×Int)))| (k5,e)=>bif e>1 then(gNz a).bind λ_=>bif (Jq e a:Int) !=0 then Jg (.inr (.inr ((0,0))))else(gNz a).bind λ_=>Jg (.inl (Y.wrap (k5+1),Y.wrap (Jw e a)))else Jg (.inr (.inr ((a,k5))))
def Zoy (e:Int):Int->Jm (Int ⊕ (Int×Int))| a=>(gNz a).bind λ_=>bif (Jq e a:Int) !=0 then Jg (.inl (Y.wrap (a+1)))else loop (ZsU a) (0,e)
def Zct (a:Int):Jm (Int×Int):=(Zac a 2 64).bind λr8=>bif !r8 then Jg ((0,0))else loop (Zoy a) 2
def Zsh (a:Jb) (p1 e:Int):Int->Jm (Int ⊕ (Int ⊕ Bool))| f=>(Ze9 p1 e).bind λg=>bif f<g then(Zbd f p1 e).bind λh=>(gApp 8 h [1]).bind λi=>(Zek a i p1).bind λj=>(Zbw j p1).bind λk=>bif k==0 then Jg (.inr (.inr Jj))else Jg (.inl (Y.wrap (f+1)))else Jg (.inr (.inl (Y.wrap (e+1))))
def Zrb (a:Jb) (p1:Int):Int->Jm (Int ⊕ Bool)| e=>bif (Y.wrap (2*e):Int)<=(Y.wrap ((Jk a:Int)-1)) then loop (Zsh a p1 e) (0)else Jg (.inr Ji)
def ZiY (a:Jb) (p1:Int):Jm Bool:=loop (Zrb a p1) 1
def ZrN (e:Zd) (a:Int×Int):Int->Jm (Int ⊕ Bool)| f=>bif f<(Jk e.Poly:Int) then(gIdx e.Poly f).bind λg=>(Zac g 0 (Y.wrap (a.1-1))).bind λh=>bif !h then Jg (.inr Jj)else Jg (.inl (Y.wrap (f+1)))else(ZiY e.Poly a.1).bind λi=>Jg (.inr i)
def Zmz (a:Zd):Jm (Bool):=(Ze9 a.Prime a.Degree).bind λf=>(Zct f).bind λe=>bif e.1 !=a.Prime then Jg (Jj)else loop (ZrN a e) 0
def Zhl (a:Zd):Jm Bool:=(Zac a.Prime 2 64).bind λe=>bif !e then Jg (Jj)else(Zac a.Degree 1 6).bind λf=>bif !f then Jg (Jj)else bif (Jk a.Poly:Int) !=(Y.wrap (a.Degree+1)) then Jg (Jj)else(gIdx a.Poly a.Degree).bind λg=>bif g !=1 then Jg (Jj)else Zmz a
def Zgm (v1:Jb) (r8:Int):Int->Jm (Int ⊕ Bool)| a=>bif a<(Jk v1:Int) then(gIdx v1 a).bind λe=>(Zac e 0 (Y.wrap (r8-1))).bind λf=>bif !f then Jg (.inr Jj)else Jg (.inl (Y.wrap (a+1)))else Jg (.inr Ji)
def Zoi (a:Zd) (v1:Jb):Jm Bool:=(ZaH a).bind λr8=>loop (Zgm v1 r8) 0
def Zim (i:Zd) (a:Ja):Int->Jm (Int ⊕ Bool)| i5=>bif i5<(Jk a:Int) then(gIdx a i5).bind λe=>(gIdx a 0).bind λf=>bif (Jk e:Int) !=(Jk f:Int) then Jg (.inr Jj)else(gIdx a i5).bind λg=>(Zoi i g).bind λh=>bif !h then Jg (.inr Jj)else Jg (.inl (Y.wrap (i5+1)))else Jg (.inr Ji)
def Zsu (a:Zd) (e:Ja):Jm (Bool):=loop (Zim a e) 0
def Zm6 (e:Zd) (a:Ja):Jm Bool:=(Zhl e).bind λh=>bif !h then Jg (Jj)else bif (Jk a:Int)==0 then Jg (Jj)else bif (Jk a:Int)>32 then Jg (Jj)else(gIdx a 0).bind λf=>bif (Jk f:Int)==0 then Jg (Jj)else(gIdx a 0).bind λg=>bif (Jk g:Int)>32 then Jg (Jj)else Zsu e a
def Zco (f:Int):Int×Int->Jm ((Int×Int) ⊕ Int)| (a,e)=>bif a>0 then bif (Y.wrap (e*f):Int)>4096 then Jg (.inr 0)else Jg (.inl (Y.wrap (a-1),Y.wrap (e*f)))else Jg (.inr e)
def Zeb (a k1:Int):Jm Int:=loop (Zco a) (k1,1)
def ZnI (a0 f:Jb):Int->Jm (Int ⊕ Bool)| i5=>bif i5<(Jk a0:Int) then(gIdx a0 i5).bind λa=>(gIdx f i5).bind λe=>bif a !=e then Jg (.inr Jj)else Jg (.inl (Y.wrap (i5+1)))else Jg (.inr Ji)
def Zhc (a0 a:Jb):Jm Bool:=bif (Jk a0:Int) !=(Jk a:Int) then Jg (Jj)else loop (ZnI a0 a) 0
def Zm7 (a0 g:Ja):Int->Jm (Int ⊕ Bool)| i5=>bif i5<(Jk a0:Int) then(gIdx a0 i5).bind λa=>(gIdx g i5).bind λe=>(Zhc a e).bind λf=>bif !f then Jg (.inr Jj)else Jg (.inl (Y.wrap (i5+1)))else Jg (.inr Ji)
def Zgu (a0 a:Ja):Jm Bool:=bif (Jk a0:Int) !=(Jk a:Int) then Jg (Jj)else loop (Zm7 a0 a) 0
def ZdT (a:ZM):Jm (Bool):=(ZaH (Zd.mk a.Field.Prime a.Field.Degree a.Field.Poly)).bind λe=>(Zeb e (Jk a.Rows:Int)).bind λf=>bif f==0 then Jg (Jj)else(ZeY (Zd.mk a.Field.Prime a.Field.Degree a.Field.Poly) a.Rows).bind λg=>(Zgu g a.Rows).bind λh=>Jg h
def ZaI (a:ZM):Jm Bool:=(Zm6 (Zd.mk a.Field.Prime a.Field.Degree a.Field.Poly) a.Rows).bind λe=>bif !e then Jg (Jj)else(gIdx a.Rows 0).bind λf=>bif (Jk f:Int)>32 then Jg (Jj)else bif (Jk a.Rows:Int)>8 then Jg (Jj)else ZdT a
def Zin (a:Jb) (n1:Int):Int->Jm (Int ⊕ Bool)| i5=>bif i5<(Jk a:Int) then(gIdx a i5).bind λe=>bif e==n1 then Jg (.inr Ji)else Jg (.inl (Y.wrap (i5+1)))else Jg (.inr Jj)
def ZhX (a:Jb) (n1:Int):Jm Bool:=loop (Zin a n1) 0
def ZhG (a:Jb):Int->Jm (Int ⊕ Bool)| e=>bif e<(Jk a:Int) then(gIdx a e).bind λf=>(Zac f 0 (Y.wrap ((Jk a:Int)-1))).bind λg=>bif !g then Jg (.inr Jj)else(gSl a 0 e).bind λh=>(gIdx a e).bind λi=>(ZhX h i).bind λj=>bif j then Jg (.inr Jj)else Jg (.inl (Y.wrap (e+1)))else Jg (.inr Ji)
def Zgf (a:Jb):Jm Bool:=bif (Jk a:Int)>32 then Jg (Jj)else loop (ZhG a) 0
def ZiB (a0:Ja) (f:Int):Jb×Int->Jm ((Jb×Int) ⊕ (Int ⊕ (Int ⊕ Bool)))| (a,e)=>bif e<(Jk a0:Int) then(gIdx a0 e).bind λg=>(gIdx g f).bind λh=>(gApp 8 a [h]).bind λi=>Jg (.inl (i,Y.wrap (e+1)))else(Zgf a).bind λj=>bif !j then Jg (.inr (.inr (.inr Jj)))else Jg (.inr (.inl (Y.wrap (f+1))))
def ZeQ (a0:Ja):Int->Jm (Int ⊕ (Int ⊕ Bool))| a=>bif a<(Jk a0:Int) then loop (ZiB a0 a) (([]:Jb),0)else Jg (.inr (.inr Ji))
def Zg5 (a0:Ja):Int->Jm (Int ⊕ Bool)| x4=>bif x4<(Jk a0:Int) then(gIdx a0 x4).bind λa=>bif (Jk a:Int) !=(Jk a0:Int) then Jg (.inr Jj)else(gIdx a0 x4).bind λe=>(Zgf e).bind λf=>bif !f then Jg (.inr Jj)else Jg (.inl (Y.wrap (x4+1)))else loop (ZeQ a0) 0
def Ztu (a0:Ja):Jm (Bool):=loop (Zg5 a0) 0
def ZiE (a0:Ja):Jm Bool:=bif (Jk a0:Int)<1 then Jg (Jj)else bif (Jk a0:Int)>10 then Jg (Jj)else Ztu a0
def ZcX (a0 a:Jb):Jm (Int):=bif (Jk a0:Int)<(Jk a:Int) then Jg ((-1))else bif (Jk a0:Int)>(Jk a:Int) then Jg (1)else Jg 0
def ZdL (a0 a:Jb) (i5:Int):Jm (Int ⊕ Int):=(gIdx a0 i5).bind λe=>(gIdx a i5).bind λf=>bif e<f then Jg (.inr ((-1)))else(gIdx a0 i5).bind λg=>(gIdx a i5).bind λh=>bif g>h then Jg (.inr 1)else Jg (.inl (Y.wrap (i5+1)))
def ZbR (a0 a:Jb):Int->Jm (Int ⊕ Int)| i5=>bif i5<(Jk a0:Int) then bif i5<(Jk a:Int) then ZdL a0 a i5 else(ZcX a0 a).map λx=>.inr (x)else(ZcX a0 a).map λx=>.inr x
def Za0 (a0 a:Jb):Jm Int:=loop (ZbR a0 a) 0
def ZfB (a:Jb) (g f:Int):Int->Jm (Int ⊕ Bool)| e=>bif e<(Jk a:Int) then(gIdx a e).bind λh=>(Zac h g f).bind λi=>bif !i then Jg (.inr Jj)else bif e>0 then(gIdx a (Y.wrap (e-1))).bind λj=>(gIdx a e).bind λk=>bif j>=k then Jg (.inr Jj)else Jg (.inl (Y.wrap (e+1)))else Jg (.inl (Y.wrap (e+1)))else Jg (.inr Ji)
def Zor (a:Jb) (f e:Int):Jm Bool:=loop (ZfB a f e) 0
def ZkR (a:Jb) (g:Int):Jm Bool:=bif (Jk a:Int)>0 then(Zor a 0 (Y.wrap (g-1))).bind λe=>Jg (e)else Jg Jj
def Ze6 (e:Zz):Int->Jm (Int ⊕ Bool)| a=>bif a<(Jk e.Blocks:Int) then(gIdx e.Blocks a).bind λf=>(ZkR f e.Points).bind λg=>bif !g then Jg (.inr Jj)else bif a>0 then(gIdx e.Blocks (Y.wrap (a-1))).bind λh=>(gIdx e.Blocks a).bind λi=>(Za0 h i).bind λj=>bif j>0 then Jg (.inr Jj)else Jg (.inl (Y.wrap (a+1)))else Jg (.inl (Y.wrap (a+1)))else Jg (.inr Ji)
def Zs1 (a:Zz):Jm (Bool):=loop (Ze6 a) 0
def ZkY (a:Zz):Jm Bool:=(Zac a.Points 1 32).bind λr8=>bif !r8 then Jg (Jj)else bif (Jk a.Blocks:Int)>128 then Jg (Jj)else Zs1 a
def ZnQ (a0 h:Jb):Int×Int->Jm ((Int×Int) ⊕ Int)| (a,e)=>bif e<(Jk a0:Int) then(gIdx a0 e).bind λf=>(gIdx h e).bind λg=>Jg (.inl (Y.wrap (a+(Y.wrap (f*g))),Y.wrap (e+1)))else Jg (.inr a)
def ZgS (a0 a:Jb):Jm Int:=loop (ZnQ a0 a) (0,0)
def Zbe (e:Ja) (f:Int):Int->Jm (Int ⊕ (Int ⊕ Bool))| a=>bif a<(Jk e:Int) then(gIdx e f).bind λg=>(gIdx g a).bind λh=>bif h !=1 then(gIdx e f).bind λi=>(gIdx i a).bind λj=>bif j !=(-1) then Jg (.inr (.inr Jj))else Jg (.inl (Y.wrap (a+1)))else Jg (.inl (Y.wrap (a+1)))else Jg (.inr (.inl (Y.wrap (f+1))))
def ZfO (f:Ja) (a:Int):Int->Jm (Int ⊕ (Int ⊕ (Int ⊕ Bool)))| e=>bif e<a then(gIdx f a).bind λg=>(gIdx f e).bind λh=>(ZgS g h).bind λi=>bif i !=0 then Jg (.inr (.inr (.inr Jj)))else Jg (.inl (Y.wrap (e+1)))else Jg (.inr (.inl (Y.wrap (a+1))))
def Zi7 (a:Ja):Int->Jm (Int ⊕ (Int ⊕ Bool))| e=>bif e<(Jk a:Int) then loop (ZfO a e) (0)else Jg (.inr (.inr Ji))
def ZjD (a:Ja):Int->Jm (Int ⊕ Bool)| e=>bif e<(Jk a:Int) then(gIdx a e).bind λf=>bif (Jk f:Int) !=(Jk a:Int) then Jg (.inr Jj)else loop (Zbe a e) (0)else loop (Zi7 a) 0
def Zqh (a:Ja):Jm (Bool):=loop (ZjD a) 0
def Zl1 (a:Ja):Jm Bool:=bif (Jk a:Int)<1 then Jg (Jj)else bif (Jk a:Int)>32 then Jg (Jj)else Zqh a
def ZlZ (a:Zf):Jm ZE:=bif (Jk a.Rows:Int)>0 then(gIdx a.Rows 0).bind λe=>Jg ((ZE.mk a.Size (Jk e:Int) a.Rows))else Jg (ZE.mk a.Size 0 a.Rows)
def Zsm (a:Int×Int):Int->Jm (Int ⊕ Zd)| f=>(Zbd f a.1 a.2).bind λg=>(gApp 8 g [1]).bind λe=>(ZiY e a.1).bind λh=>bif h then Jg (.inr (Zd.mk a.1 a.2 e))else Jg (.inl (Y.wrap (f+1)))
def Zcv (a:Int):Jm Zd:=(Zct a).bind λe=>loop (Zsm e) 0
def Zbi (e:Zf):Jm ZM:=(Zct e.Size).bind λf=>bif f.1==0 then Jg ((ZM.mk (Zd.mk 0 0 ([]:Jb)) ([]:Ja)))else(Zcv e.Size).bind λa=>Jg ((ZM.mk (Zd.mk a.Prime a.Degree a.Poly) e.Rows))
def ZjH (a:Jb):Int->Jm (Int ⊕ Bool)| e=>bif e<(Jk a:Int) then(gIdx a e).bind λf=>(Zac f 0 63).bind λg=>bif !g then Jg (.inr Jj)else Jg (.inl (Y.wrap (e+1)))else Jg (.inr Ji)
def Zkb (a:Jb):Jm Bool:=bif (Jk a:Int)>64 then Jg (Jj)else loop (ZjH a) 0
def Zna (a0 a:Zc):Jm Bool:=bif a0.A<a.A then Jg (Ji)else bif a0.A==a.A then Jg (a0.B<a.B)else Jg Jj
def Zef (f:Zb):Int->Jm (Int ⊕ Bool)| e=>bif e<(Jk f.Edges:Int) then(gIdx f.Edges e).bind λa=>(Zac a.A 0 (Y.wrap ((Jk f.Colors:Int)-1))).bind λg=>bif !g then Jg (.inr Jj)else(Zac a.B (Y.wrap (a.A+1)) (Y.wrap ((Jk f.Colors:Int)-1))).bind λh=>bif !h then Jg (.inr Jj)else bif e>0 then(gIdx f.Edges (Y.wrap (e-1))).bind λi=>(Zna i (Zc.mk a.A a.B)).bind λj=>bif !j then Jg (.inr Jj)else Jg (.inl (Y.wrap (e+1)))else Jg (.inl (Y.wrap (e+1)))else Jg (.inr Ji)
def ZtH (a:Zb):Jm (Bool):=loop (Zef a) 0
def ZfN (a:Zb):Jm Bool:=(Zkb a.Colors).bind λr8=>bif !r8 then Jg (Jj)else bif (Jk a.Edges:Int)>512 then Jg (Jj)else ZtH a
def ZhZ (e:Zf) (f:Jb):Int×List Zc->Jm ((Int×List Zc) ⊕ (Zb×Bool))| (a,xs)=>bif a<(Jk e.Rows:Int) then(gIdx e.Rows a).bind λg=>bif (Jk g:Int) !=2 then Jg (.inr (((Zb.mk ([]:Jb) ([]:List Zc)),Jj)))else(gIdx e.Rows a).bind λh=>(gIdx h 0).bind λi=>(gIdx e.Rows a).bind λj=>(gIdx j 1).bind λk=>(gApp 16 xs [(Zc.mk i k)]).bind λl=>Jg (.inl (Y.wrap (a+1),l))else(ZfN (Zb.mk f xs)).bind λo=>Jg (.inr ((Zb.mk f xs,o)))
def Zhz (a:Zf):Jm (Zb×Bool):=(Zac a.Size 0 64).bind λe=>bif !e then Jg (((Zb.mk ([]:Jb) ([]:List Zc)),Jj))else(gMake 8 (0:Int) a.Size a.Size).bind λf=>loop (ZhZ a f) (0,([]:List Zc))
def Zot (n0:Int):Jb×Int->Jm ((Jb×Int) ⊕ Jb)| (a,e)=>bif e<n0 then(gApp 8 a [e]).bind λf=>Jg (.inl (f,Y.wrap (e+1)))else Jg (.inr a)
def Zf2 (n0:Int):Jm Jb:=loop (Zot n0) (([]:Jb),0)
def ZmC (f j:Jb):Jb×Int->Jm ((Jb×Int) ⊕ Jb)| (a,e)=>bif e<(Jk f:Int) then(gIdx f e).bind λg=>(gIdx j g).bind λh=>(gApp 8 a [h]).bind λi=>Jg (.inl (i,Y.wrap (e+1)))else Jg (.inr a)
def ZlT (a e:Jb):Jm Jb:=loop (ZmC a e) (([]:Jb),0)
def ZbU (f:Ja) (p1:Jb):Int×Int->Jm ((Int×Int) ⊕ (Int×Bool))| (e,a)=>bif e<a then(gNz 2).bind λ_=>(gIdx f (Y.wrap (Jw (Y.wrap (e+a)) 2))).bind λh=>(Za0 h p1).bind λg=>bif g==0 then Jg (.inr ((Y.wrap (Jw (Y.wrap (e+a)) 2),Ji)))else bif g<0 then Jg (.inl (Y.wrap ((Y.wrap (Jw (Y.wrap (e+a)) 2))+1),a))else Jg (.inl (e,Y.wrap (Jw (Y.wrap (e+a)) 2)))else Jg (.inr ((e,Jj)))
def ZeV (a:Ja) (p1:Jb):Jm (Int×Bool):=loop (ZbU a p1) (0,(Jk a:Int))
def Zlx (a:Ja) (e:Int) (p2:Jb):Jm Ja:=(gSl a 0 e).bind λf=>(gApp 24 ([]:Ja) f).bind λg=>(gApp 24 g [p2]).bind λh=>(gSl a e (Jk a:Int)).bind λi=>(gApp 24 h i).bind λj=>Jg j
def Zbj (u:Ja) (g h:Int):Ja×Ja×Int->Jm ((Ja×Ja×Int) ⊕ ((Ja×Ja×Int) ⊕ (Ja×Bool)))| (e,a,k12)=>bif k12<(Jk u:Int) then(gIdx a h).bind λj=>(gIdx u k12).bind λk=>(ZlT j k).bind λf=>(ZeV e f).bind λi=>bif i.2 then Jg (.inl (e,a,Y.wrap (k12+1)))else bif (Jk e:Int)==g then Jg (.inr (.inr ((([]:Ja),Jj))))else(Zlx e i.1 f).bind λl=>(gApp 24 a [f]).bind λo=>Jg (.inl (l,o,Y.wrap (k12+1)))else Jg (.inr (.inl (e,a,Y.wrap (h+1))))
def Zel (g:Ja) (e:Int):Ja×Ja×Int->Jm ((Ja×Ja×Int) ⊕ (Ja×Bool))| (a,queue10,f)=>bif f<(Jk queue10:Int) then loop (Zbj g e f) (a,queue10,0)else Jg (.inr ((a,Ji)))
def ZcS (h:Int) (g:Ja) (a:Int):Jm (Ja×Bool):=(Zf2 h).bind λe=>loop (Zel g a) ([e],[e],0)
def Zde (u:Int) (a:Ja):Ja×Ja×Int->Jm ((Ja×Ja×Int) ⊕ (Ja×Bool))| (f,e,g)=>bif g<(Jk a:Int) then(gIdx a g).bind λj=>(ZeV e j).bind λk=>bif k.2 then Jg (.inl (f,e,Y.wrap (g+1)))else(gIdx a g).bind λl=>(ZaD l).bind λo=>(gApp 24 f [o]).bind λh=>(ZcS u h (Jk a:Int)).bind λi=>bif !i.2 then Jg (.inr ((([]:Ja),Jj)))else Jg (.inl (h,i.1,Y.wrap (g+1)))else(Zgu e a).bind λr=>Jg (.inr ((f,r)))
def Zn9 (g:Int) (a:Ja):Jm (Ja×Bool):=(ZcS g ([]:Ja) 1).bind λe=>loop (Zde g a) (([]:Ja),e.1,0)
def ZdY (a:Zal):Int->Jm (Int ⊕ Bool)| e=>bif e<(Jk a.Elements:Int) then(gIdx a.Elements e).bind λf=>(Zgf f).bind λg=>bif !g then Jg (.inr Jj)else(gIdx a.Elements e).bind λh=>bif (Jk h:Int) !=a.Degree then Jg (.inr Jj)else bif e>0 then(gIdx a.Elements (Y.wrap (e-1))).bind λi=>(gIdx a.Elements e).bind λj=>(Za0 i j).bind λk=>bif k>=0 then Jg (.inr Jj)else Jg (.inl (Y.wrap (e+1)))else Jg (.inl (Y.wrap (e+1)))else(Zn9 a.Degree a.Elements).bind λl=>Jg (.inr l.2)
def Ztc (a:Zal):Jm (Bool):=loop (ZdY a) 0
def Znd (a:Zal):Jm Bool:=(Zac a.Degree 1 32).bind λe=>bif !e then Jg (Jj)else bif (Jk a.Elements:Int)==0 then Jg (Jj)else bif (Jk a.Elements:Int)>720 then Jg (Jj)else Ztc a
def Zat (a:Zf):Jm Bool:=bif a.Kind==1 then(ZiE a.Rows).bind λh=>bif h then Jg ((Jk a.Rows:Int)==a.Size)else Jg (Jj)else bif a.Kind==2 then(ZkY (Zz.mk a.Size a.Rows)).bind λi=>Jg (i)else bif a.Kind==3 then(Zl1 a.Rows).bind λj=>bif j then Jg ((Jk a.Rows:Int)==a.Size)else Jg (Jj)else bif a.Kind==4 then(ZlZ a).bind λf=>bif (Jk a.Rows:Int)>0 then(Zhy (ZE.mk f.Levels f.Columns f.Rows)).bind λk=>Jg (k)else Jg (Jj)else bif a.Kind==5 then(Zbi a).bind λe=>(ZaI (ZM.mk (Zd.mk e.Field.Prime e.Field.Degree e.Field.Poly) e.Rows)).bind λl=>Jg (l)else bif a.Kind==6 then(Zhz a).bind λo=>Jg (o.2)else bif a.Kind==7 then(Znd (Zal.mk a.Size a.Rows)).bind λg=>Jg (g)else Jg Jj
def ZbA (a e:Int) (f:Ja):Jm (Zf×Int):=(Zf5 f).bind λg=>(Zat (Zf.mk a e g)).bind λh=>bif !h then Jg (((Zf.mk 0 0 ([]:Ja)),1))else Jg ((Zf.mk a e g,0))
def Zs4 (a0:Ja):Jm (Zf×Int):=(ZbA 1 (Jk a0:Int) a0).bind λa=>Jg ((Zf.mk a.1.Kind a.1.Size a.1.Rows,a.2))
def Zku (e j:Int):Ja×Int->Jm ((Ja×Int) ⊕ Ja)| (a,f)=>bif f<e then(gMake 8 (0:Int) j j).bind λg=>(gApp 24 a [g]).bind λh=>Jg (.inl (h,Y.wrap (f+1)))else Jg (.inr a)
def Zd2 (a e:Int):Jm Ja:=loop (Zku a e) (([]:Ja),0)
def ZDH (n0 x4:Int):Int×Ja->Jm ((Int×Ja) ⊕ ((Int×Ja) ⊕ Ja))| (e,a)=>bif e<n0 then(gIdx a x4).bind λf=>(gNz n0).bind λ_=>(gIdx f e).bind λg=>Jg (.inl (Y.wrap (e+1),(a.set x4.toNat (f.set e.toNat (Jq (Y.wrap (x4+e)) n0)))))else Jg (.inr (.inl (Y.wrap (x4+1),a)))
def ZAT (n0:Int):Int×Ja->Jm ((Int×Ja) ⊕ Ja)| (x4,xs)=>bif x4<n0 then loop (ZDH n0 x4) (0,xs)else Jg (.inr xs)
def Za5 (n0:Int):Jm Ja:=(Zd2 n0 n0).bind λr8=>loop (ZAT n0) (0,r8)
def ZaR (a:Za) (n1:Int):Jm (Bool×Za):=(ZG (Za.mk a.qcode a.qat a.qseed) n1).bind λe=>Jg ((e.1==0,Za.mk a.qcode e.2.qat e.2.qseed))
def Zt8 (i a:Ja) (g:Int):Int×Ja->Jm ((Int×Ja) ⊕ ((Int×Ja) ⊕ Ja))| (f,e)=>bif f<(Y.wrap ((Jk i:Int)*(Jk a:Int))) then(gIdx e g).bind λh=>(gNz (Jk a:Int)).bind λ_=>(gIdx i (Y.wrap (Jw g (Jk a:Int)))).bind λj=>(gNz (Jk a:Int)).bind λ_=>(gIdx j (Y.wrap (Jw f (Jk a:Int)))).bind λk=>(gNz (Jk a:Int)).bind λ_=>(gIdx a (Jq g (Jk a:Int))).bind λl=>(gNz (Jk a:Int)).bind λ_=>(gIdx l (Jq f (Jk a:Int))).bind λo=>(gIdx h f).bind λr=>Jg (.inl (Y.wrap (f+1),(e.set g.toNat (h.set f.toNat (Y.wrap ((Y.wrap ((Jk a:Int)*k))+o))))))else Jg (.inr (.inl (Y.wrap (g+1),e)))
def ZDk (a e:Ja):Int×Ja->Jm ((Int×Ja) ⊕ Ja)| (f,xs)=>bif f<(Y.wrap ((Jk a:Int)*(Jk e:Int))) then loop (Zt8 a e f) (0,xs)else Jg (.inr xs)
def Zdn (a e:Ja):Jm Ja:=(Zd2 (Y.wrap ((Jk a:Int)*(Jk e:Int))) (Y.wrap ((Jk a:Int)*(Jk e:Int)))).bind λf=>loop (ZDk a e) (0,f)
def Znl (a0:Ja):Ja×Int->Jm ((Ja×Int) ⊕ Ja)| (a,e)=>bif e<(Jk a0:Int) then(gIdx a0 e).bind λf=>(ZaD f).bind λg=>(gApp 24 a [g]).bind λh=>Jg (.inl (h,Y.wrap (e+1)))else Jg (.inr a)
def ZgF (a0:Ja):Jm Ja:=loop (Znl a0) (([]:Ja),0)
def Zpv (u:Ja) (e i:Int×Za) (f o:Int) (xs:Ja) (j g:Int) (k l:Jb):Int×Int->Jm ((Int×Int) ⊕ ((Int×Int×Ja) ⊕ (Ja×Za)))| (h,a)=>bif a<(Jk u:Int) then bif a !=f then(gIdx ((xs.set e.1.toNat (k.set f.toNat g)).set i.1.toNat (l.set f.toNat j)) e.1).bind λr=>(gIdx r a).bind λs=>bif s==g then Jg (.inl (a,Y.wrap (a+1)))else Jg (.inl (h,Y.wrap (a+1)))else Jg (.inl (h,Y.wrap (a+1)))else Jg (.inr (.inl (h,Y.wrap (o+1),((xs.set e.1.toNat (k.set f.toNat g)).set i.1.toNat (l.set f.toNat j)))))
def Zp9 (o:Za) (r:Ja) (a f g:Int×Za) (s:Int):Int×Int×Ja->Jm ((Int×Int×Ja) ⊕ (Ja×Za))| (e,k,xs)=>bif k<(Jk r:Int) then(gIdx xs a.1).bind λu=>(gIdx u e).bind λl=>(gIdx xs f.1).bind λv=>(gIdx v e).bind λh=>(gIdx xs a.1).bind λi=>(gIdx i e).bind λw=>(gIdx (xs.set a.1.toNat (i.set e.toNat h)) f.1).bind λj=>(gIdx j e).bind λx=>bif h==s then Jg (.inr ((((xs.set a.1.toNat (i.set e.toNat h)).set f.1.toNat (j.set e.toNat l)),Za.mk o.qcode g.2.qat g.2.qseed)))else loop (Zpv r a f e k xs l h i j) (0,0)else Jg (.inr ((xs,Za.mk o.qcode g.2.qat g.2.qseed)))
def ZlV (f:Za) (g:Ja):Jm (Ja×Za):=(ZgF g).bind λi=>(ZG (Za.mk f.qcode f.qat f.qseed) (Jk g:Int)).bind λe=>(ZG (Za.mk f.qcode e.2.qat e.2.qseed) (Jk g:Int)).bind λa=>bif e.1==a.1 then Jg ((i,Za.mk f.qcode a.2.qat a.2.qseed))else(ZG (Za.mk f.qcode a.2.qat a.2.qseed) (Jk g:Int)).bind λh=>(gIdx g e.1).bind λj=>(gIdx j h.1).bind λk=>loop (Zp9 f g e a h k) (h.1,0,i)
def Zmh (h:Za):Int×Int×Int×Jb->Jm ((Int×Int×Int×Jb) ⊕ (Jb×Za))| (e,q,f,xs)=>bif e>0 then(ZG (Za.mk h.qcode q f) (Y.wrap (e+1))).bind λa=>(gIdx xs e).bind λi=>(gIdx xs a.1).bind λg=>(gIdx xs e).bind λj=>(gIdx (xs.set e.toNat g) a.1).bind λk=>Jg (.inl (Y.wrap (e-1),a.2.qat,a.2.qseed,((xs.set e.toNat g).set a.1.toNat i)))else Jg (.inr ((xs,Za.mk h.qcode q f)))
def Zcb (a:Za) (n1:Int):Jm (Jb×Za):=(Zf2 n1).bind λe=>loop (Zmh a) (Y.wrap (n1-1),a.qat,a.qseed,e)
def ZCr (a0:Ja) (g u w:Jb) (f:Int):Int×Ja->Jm ((Int×Ja) ⊕ ((Int×Ja) ⊕ Ja))| (e,a)=>bif e<(Jk a0:Int) then(gIdx g f).bind λh=>(gIdx a h).bind λi=>(gIdx u e).bind λj=>(gIdx a0 f).bind λk=>(gIdx k e).bind λl=>(gIdx w l).bind λo=>(gIdx i j).bind λr=>Jg (.inl (Y.wrap (e+1),(a.set h.toNat (i.set j.toNat o))))else Jg (.inr (.inl (Y.wrap (f+1),a)))
def ZAw (a0:Ja) (a g h:Jb):Int×Ja->Jm ((Int×Ja) ⊕ Ja)| (e,xs)=>bif e<(Jk a0:Int) then loop (ZCr a0 a g h e) (0,xs)else Jg (.inr xs)
def Zkf (a0:Ja) (a g h:Jb):Jm Ja:=(Zd2 (Jk a0:Int) (Jk a0:Int)).bind λe=>loop (ZAw a0 a g h) (0,e)
def Ztn (e:Za) (o:Int):Ja×Int×Int×Int->Jm ((Ja×Int×Int×Int) ⊕ (Ja×Za))| (f,r,k,l)=>bif r>0 then(ZlV (Za.mk e.qcode k l) f).bind λg=>Jg (.inl (g.1,Y.wrap (r-1),g.2.qat,g.2.qseed))else(Zcb (Za.mk e.qcode k l) o).bind λh=>(Zcb (Za.mk e.qcode h.2.qat h.2.qseed) o).bind λi=>(Zcb (Za.mk e.qcode i.2.qat i.2.qseed) o).bind λj=>(ZaR (Za.mk e.qcode j.2.qat j.2.qseed) 5).bind λa=>bif a.1 then Jg (.inr ((f,Za.mk e.qcode a.2.qat a.2.qseed)))else(Zkf f h.1 i.1 j.1).bind λs=>Jg (.inr ((s,Za.mk e.qcode a.2.qat a.2.qseed)))
def Zbc (e:Za) (g:Int) (h:Ja) (q f:Int):Jm (Ja×Za):=(ZG (Za.mk e.qcode q f) 4).bind λa=>loop (Ztn e g) (h,a.1,a.2.qat,a.2.qseed)
def Zmd (a:Za) (e:Int):Jm (Ja×Za):=(Za5 e).bind λf=>bif e==4 then(ZaR (Za.mk a.qcode a.qat a.qseed) 2).bind λg=>bif g.1 then(Za5 2).bind λk=>(Za5 2).bind λl=>(Zdn k l).bind λo=>Zbc a e o g.2.qat g.2.qseed else Zbc a e f g.2.qat g.2.qseed else bif e==6 then(ZaR (Za.mk a.qcode a.qat a.qseed) 2).bind λh=>bif h.1 then(Za5 3).bind λr=>(Za5 2).bind λs=>(Zdn r s).bind λu=>Zbc a e u h.2.qat h.2.qseed else Zbc a e f h.2.qat h.2.qseed else bif e==8 then(ZaR (Za.mk a.qcode a.qat a.qseed) 2).bind λi=>bif i.1 then(Za5 2).bind λv=>(Za5 2).bind λw=>(Zdn v w).bind λx=>(Za5 2).bind λy=>(Zdn x y).bind λa2=>Zbc a e a2 i.2.qat i.2.qseed else Zbc a e f i.2.qat i.2.qseed else bif e==9 then(ZaR (Za.mk a.qcode a.qat a.qseed) 2).bind λj=>bif j.1 then(Za5 3).bind λa3=>(Za5 3).bind λa4=>(Zdn a3 a4).bind λa5=>Zbc a e a5 j.2.qat j.2.qseed else Zbc a e f j.2.qat j.2.qseed else Zbc a e f a.qat a.qseed
def Zr8 (a:Zz):Jm (Zf×Int):=(ZbA 2 a.Points a.Blocks).bind λr8=>Jg ((Zf.mk r8.1.Kind r8.1.Size r8.1.Rows,r8.2))
def ZdN (e a:Ja) (f k5:Int):Jm ((Ja×Int) ⊕ Ja):=(gSl a 0 k5).bind λg=>(gApp 24 ([]:Ja) g).bind λh=>(gIdx e f).bind λi=>(ZaD i).bind λj=>(gApp 24 h [j]).bind λk=>(gSl a k5 (Jk a:Int)).bind λl=>(gApp 24 k l).bind λo=>Jg (.inl (o,Y.wrap (f+1)))
def Zex (e f:Ja) (g:Int):Int->Jm (Int ⊕ ((Ja×Int) ⊕ Ja))| a=>bif a>0 then(gIdx f (Y.wrap (a-1))).bind λh=>(gIdx e g).bind λi=>(Za0 h i).bind λj=>bif j>0 then Jg (.inl (Y.wrap (a-1)))else(ZdN e f g a).map λx=>.inr (x)else(ZdN e f g a).map λx=>.inr x
def ZdQ (e:Ja):Ja×Int->Jm ((Ja×Int) ⊕ Ja)| (a,f)=>bif f<(Jk e:Int) then loop (Zex e a f) ((Jk a:Int))else Jg (.inr a)
def ZaC (a:Ja):Jm Ja:=loop (ZdQ a) (([]:Ja),0)
def ZbD (f:Jb) (g:Int) (e:Jb) (a:Bool):Jm ((Jb×Bool×Int) ⊕ Jb):=(gIdx f g).bind λh=>(gApp 8 e [h]).bind λi=>Jg (.inl (i,a,Y.wrap (g+1)))
def Zcl (a:Jb) (n1:Int) (e:Jb) (f:Bool) (g:Int) (h:Bool):Jm ((Jb×Bool×Int) ⊕ Jb):=bif h then(gIdx a g).bind λi=>bif i>n1 then(gApp 8 e [n1]).bind λj=>ZbD a g j Ji else ZbD a g e Ji else ZbD a g e f
def ZaL (a:Jb) (n1:Int):Jb×Bool×Int->Jm ((Jb×Bool×Int) ⊕ Jb)| (f,e,g)=>bif g<(Jk a:Int) then bif !e then(gIdx a g).bind λh=>Zcl a n1 f e g (h>=n1)else Zcl a n1 f e g Jj else bif !e then(gApp 8 f [n1]).bind λi=>Jg (.inr i)else Jg (.inr f)
def Za3 (a:Jb) (n1:Int):Jm Jb:=loop (ZaL a n1) (([]:Jb),Jj,0)
def Zdh (a0 f c2:Int):Jm Jb:=(Za3 ([a0]:Jb) f).bind λa=>(Za3 a c2).bind λe=>Jg e
def Zsd (a h g:Int):Ja×Int->Jm ((Ja×Int) ⊕ ((Ja×Int) ⊕ ((Ja×Int) ⊕ Ja)))| (e,f)=>bif f<3 then(gNz 3).bind λ_=>(Zdh (Y.wrap (h+(Y.wrap ((Y.wrap ((Y.wrap (2*a))+1))*f)))) (Y.wrap (g+(Y.wrap ((Y.wrap ((Y.wrap (2*a))+1))*f)))) (Y.wrap ((Jq (Y.wrap ((Y.wrap (a+1))*(Y.wrap (h+g)))) (Y.wrap ((Y.wrap (2*a))+1)))+(Y.wrap ((Y.wrap ((Y.wrap (2*a))+1))*(Jq (Y.wrap (f+1)) 3)))))).bind λi=>(gApp 24 e [i]).bind λj=>Jg (.inl (j,Y.wrap (f+1)))else Jg (.inr (.inl (e,Y.wrap (g+1))))
def ZqD (e f:Int):Ja×Int->Jm ((Ja×Int) ⊕ ((Ja×Int) ⊕ Ja))| (a,g)=>bif g<(Y.wrap ((Y.wrap (2*e))+1)) then(gNz (Y.wrap ((Y.wrap (2*e))+1))).bind λ_=>loop (Zsd e f g) (a,0)else Jg (.inr (.inl (a,Y.wrap (f+1))))
def Zqn (e:Int):Ja×Int->Jm ((Ja×Int) ⊕ Ja)| (f,a)=>bif a<(Y.wrap ((Y.wrap (2*e))+1)) then(Zdh a (Y.wrap (a+(Y.wrap ((Y.wrap (2*e))+1)))) (Y.wrap (a+(Y.wrap (2*(Y.wrap ((Y.wrap (2*e))+1))))))).bind λg=>(gApp 24 f [g]).bind λh=>loop (ZqD e a) (h,Y.wrap (a+1))else Jg (.inr f)
def Zof (a:Int):Jm Ja:=loop (Zqn a) (([]:Ja),0)
def Ztr (e g:Int):Ja×Int->Jm ((Ja×Int) ⊕ ((Ja×Int) ⊕ Ja))| (a,f)=>bif f<3 then(gNz 3).bind λ_=>(Zdh (Y.wrap (3*(Y.wrap (2*e)))) (Y.wrap ((Y.wrap (g+e))+(Y.wrap ((Y.wrap (2*e))*f)))) (Y.wrap (g+(Y.wrap ((Y.wrap (2*e))*(Jq (Y.wrap (f+1)) 3)))))).bind λh=>(gApp 24 a [h]).bind λi=>Jg (.inl (i,Y.wrap (f+1)))else Jg (.inr (.inl (a,Y.wrap (g+1))))
def Zqf (f k i j:Int):Ja×Int->Jm ((Ja×Int) ⊕ ((Ja×Int) ⊕ ((Ja×Int) ⊕ ((Ja×Int) ⊕ Ja))))| (e,a)=>bif a<3 then(gNz 3).bind λ_=>(Zdh (Y.wrap (k+(Y.wrap ((Y.wrap (2*f))*a)))) (Y.wrap (i+(Y.wrap ((Y.wrap (2*f))*a)))) (Y.wrap (j+(Y.wrap ((Y.wrap (2*f))*(Jq (Y.wrap (a+1)) 3)))))).bind λg=>(gApp 24 e [g]).bind λh=>Jg (.inl (h,Y.wrap (a+1)))else Jg (.inr (.inl (e,Y.wrap (i+1))))
def Zg2 (f g:Int) (a:Ja) (h e:Int):Jm ((Ja×Int) ⊕ ((Ja×Int) ⊕ ((Ja×Int) ⊕ Ja))):=loop (Zqf f g h e) (a,0)
def ZpQ (a f:Int):Ja×Int->Jm ((Ja×Int) ⊕ ((Ja×Int) ⊕ ((Ja×Int) ⊕ Ja)))| (e,g)=>bif g<(Y.wrap (2*a)) then(gNz (Y.wrap (2*a))).bind λ_=>(gNz 2).bind λ_=>(gNz 2).bind λ_=>bif (Jq (Jq (Y.wrap (f+g)) (Y.wrap (2*a))) 2:Int)==1 then Zg2 a f e g (Y.wrap ((Y.wrap (Jw (Jq (Y.wrap (f+g)) (Y.wrap (2*a))) 2))+a))else Zg2 a f e g (Y.wrap (Jw (Jq (Y.wrap (f+g)) (Y.wrap (2*a))) 2))else Jg (.inr (.inl (e,Y.wrap (f+1))))
def ZqV (f:Int):Ja×Int->Jm ((Ja×Int) ⊕ ((Ja×Int) ⊕ Ja))| (a,e)=>bif e<(Y.wrap (2*f)) then loop (ZpQ f e) (a,Y.wrap (e+1))else Jg (.inr (.inr a))
def Zp0 (a:Int):Ja×Int->Jm ((Ja×Int) ⊕ Ja)| (f,e)=>bif e<a then(Zdh e (Y.wrap (e+(Y.wrap (2*a)))) (Y.wrap (e+(Y.wrap (2*(Y.wrap (2*a))))))).bind λg=>(gApp 24 f [g]).bind λh=>loop (Ztr a e) (h,0)else loop (ZqV a) (f,0)
def Zkv (a:Int):Jm Ja:=loop (Zp0 a) (([]:Ja),0)
def Zjh (v0:Int):Jm Zz:=(gNz 6).bind λ_=>bif (Jq v0 6:Int)==3 then(gNz 6).bind λ_=>(Zof (Y.wrap (Jw (Y.wrap (v0-3)) 6))).bind λa=>(ZaC a).bind λe=>Jg (Zz.mk v0 e)else(gNz 6).bind λ_=>(Zkv (Y.wrap (Jw (Y.wrap (v0-1)) 6))).bind λf=>(ZaC f).bind λg=>Jg (Zz.mk v0 g)
def Zle (j a:Jb):Jb×Int->Jm ((Jb×Int) ⊕ Jb)| (e,f)=>bif f<(Jk a:Int) then(gIdx a f).bind λg=>(gIdx j g).bind λh=>(Za3 e h).bind λi=>Jg (.inl (i,Y.wrap (f+1)))else Jg (.inr e)
def ZmM (e a:Jb):Jm Jb:=loop (Zle e a) (([]:Jb),0)
def Zn3 (e:Zz) (p1:Jb):Ja×Int->Jm ((Ja×Int) ⊕ Zz)| (a,f)=>bif f<(Jk e.Blocks:Int) then(gIdx e.Blocks f).bind λg=>(ZmM p1 g).bind λh=>(gApp 24 a [h]).bind λi=>Jg (.inl (i,Y.wrap (f+1)))else(ZaC a).bind λj=>Jg (.inr (Zz.mk e.Points j))
def Zmj (a:Zz) (p1:Jb):Jm Zz:=loop (Zn3 a p1) (([]:Ja),0)
def ZaT (e:Za) (a:Jb):Jm (Int×Za):=(ZG (Za.mk e.qcode e.qat e.qseed) (Jk a:Int)).bind λf=>(gIdx a f.1).bind λg=>Jg ((g,Za.mk e.qcode f.2.qat f.2.qseed))
def ZsN (k:Za) (o:Int) (h:Ja) (l:Int):Jb×Int×Int×Int->Jm ((Jb×Int×Int×Int) ⊕ ((Ja×Int×Int×Int) ⊕ (Ja×Za)))| (a,k8,f,g)=>bif k8>0 then(ZG (Za.mk k.qcode f g) o).bind λe=>(Za3 a e.1).bind λi=>Jg (.inl (i,Y.wrap (k8-1),e.2.qat,e.2.qseed))else(gApp 24 h [a]).bind λj=>Jg (.inr (.inl (j,Y.wrap (l-1),f,g)))
def Zqd (g:Za) (j:Int):Ja×Int×Int×Int->Jm ((Ja×Int×Int×Int) ⊕ (Ja×Za))| (a,i,q,h)=>bif i>0 then(ZG (Za.mk g.qcode q h) j).bind λe=>(ZG (Za.mk g.qcode e.2.qat e.2.qseed) 4).bind λf=>loop (ZsN g j a i) (([e.1]:Jb),f.1,f.2.qat,f.2.qseed)else Jg (.inr ((a,Za.mk g.qcode q h)))
def Zjz (e:Za) (g:Int):Jm (Ja×Za):=(ZG (Za.mk e.qcode e.qat e.qseed) 9).bind λa=>loop (Zqd e g) (([]:Ja),a.1,a.2.qat,a.2.qseed)
def Zll (f:Int×Za) (g:Int):Ja×Int->Jm ((Ja×Int) ⊕ ((Ja×Int) ⊕ (Zz×Za)))| (a,e)=>bif e<(Y.wrap (3+f.1)) then(gApp 24 a [([g,e]:Jb)]).bind λh=>Jg (.inl (h,Y.wrap (e+1)))else Jg (.inr (.inl (a,Y.wrap (g+1))))
def ZrP (h:Za) (a:Int×Za):Ja×Int->Jm ((Ja×Int) ⊕ (Zz×Za))| (f,e)=>bif e<(Y.wrap (3+a.1)) then loop (Zll a e) (f,Y.wrap (e+1))else(ZaC f).bind λg=>Jg (.inr (((Zz.mk (Y.wrap (3+a.1)) g),Za.mk h.qcode a.2.qat a.2.qseed)))
def Zst (j:Ja) (f:Int):Jb×Int->Jm ((Jb×Int) ⊕ ((Ja×Int) ⊕ (Zz×Za)))| (e,a)=>bif a<(([1,3,4,5,9]:Jb).length:Int) then(gIdx ([1,3,4,5,9]:Jb) a).bind λg=>(gNz 11).bind λ_=>(Za3 e (Jq (Y.wrap (g+f)) 11)).bind λh=>Jg (.inl (h,Y.wrap (a+1)))else(gApp 24 j [e]).bind λi=>Jg (.inr (.inl (i,Y.wrap (f+1))))
def ZrE (h:Za) (a:Int×Za):Ja×Int->Jm ((Ja×Int) ⊕ (Zz×Za))| (e,f)=>bif f<11 then loop (Zst e f) (([]:Jb),0)else(ZaC e).bind λg=>Jg (.inr ((Zz.mk 11 g,Za.mk h.qcode a.2.qat a.2.qseed)))
def Zo6 (i:Ja) (e:Int):Jb×Int->Jm ((Jb×Int) ⊕ ((Ja×Int) ⊕ (Zz×Za)))| (f,a)=>bif a<(([0,1,3,9]:Jb).length:Int) then(gIdx ([0,1,3,9]:Jb) a).bind λj=>(gNz 13).bind λ_=>(Za3 f (Jq (Y.wrap (j+e)) 13)).bind λg=>Jg (.inl (g,Y.wrap (a+1)))else(gApp 24 i [f]).bind λh=>Jg (.inr (.inl (h,Y.wrap (e+1))))
def Zql (h:Za) (a:Int×Za):Ja×Int->Jm ((Ja×Int) ⊕ (Zz×Za))| (e,f)=>bif f<13 then loop (Zo6 e f) (([]:Jb),0)else(ZaC e).bind λg=>Jg (.inr ((Zz.mk 13 g,Za.mk h.qcode a.2.qat a.2.qseed)))
def ZjP (e:Za):Jm (Zz×Za):=(ZG (Za.mk e.qcode e.qat e.qseed) 4).bind λa=>bif a.1==0 then(ZaC ([([0,1,3]:Jb),([1,2,4]:Jb),([2,3,5]:Jb),([3,4,6]:Jb),([0,4,5]:Jb),([1,5,6]:Jb),([0,2,6]:Jb)])).bind λf=>Jg ((Zz.mk 7 f,Za.mk e.qcode a.2.qat a.2.qseed))else bif a.1==1 then(ZG (Za.mk e.qcode a.2.qat a.2.qseed) 4).bind λg=>loop (ZrP e g) (([]:Ja),0)else bif a.1==2 then loop (ZrE e a) (([]:Ja),0)else loop (Zql e a) (([]:Ja),0)
def ZlE (a:Za):Jm (Zz×Za):=(ZaR (Za.mk a.qcode a.qat a.qseed) 2).bind λe=>bif e.1 then(ZjP (Za.mk a.qcode e.2.qat e.2.qseed)).bind λg=>Jg ((Zz.mk g.1.Points g.1.Blocks,Za.mk a.qcode g.2.qat g.2.qseed))else(ZG (Za.mk a.qcode e.2.qat e.2.qseed) 9).bind λh=>(Zjz (Za.mk a.qcode h.2.qat h.2.qseed) (Y.wrap (1+h.1))).bind λf=>(ZaC f.1).bind λi=>Jg (((Zz.mk (Y.wrap (1+h.1)) i),Za.mk a.qcode f.2.qat f.2.qseed))
def ZsA (f:Za) (a:Int×Za):Ja->Jm (Ja ⊕ (Zz×Za))| xs=>bif (Jk xs:Int)<(Y.wrap (127+a.1)) then(gApp 24 xs [([0,1,2]:Jb)]).bind λe=>Jg (.inl e)else Jg (.inr ((Zz.mk 3 xs,Za.mk f.qcode a.2.qat a.2.qseed)))
def Zlq (a:Za):Jm (Zz×Za):=(ZlE (Za.mk a.qcode a.qat a.qseed)).bind λe=>(ZG (Za.mk a.qcode e.2.qat e.2.qseed) 24).bind λr8=>bif r8.1==0 then(ZaT (Za.mk a.qcode r8.2.qat r8.2.qseed) ([0,32,33]:Jb)).bind λf=>Jg ((Zz.mk f.1 e.1.Blocks,Za.mk a.qcode f.2.qat f.2.qseed))else bif r8.1==1 then(gApp 24 e.1.Blocks [([]:Jb)]).bind λg=>Jg ((Zz.mk e.1.Points g,Za.mk a.qcode r8.2.qat r8.2.qseed))else bif r8.1==2 then(gApp 24 e.1.Blocks [([0]:Jb)]).bind λh=>Jg ((Zz.mk e.1.Points h,Za.mk a.qcode r8.2.qat r8.2.qseed))else bif r8.1==3 then(gApp 24 e.1.Blocks [([e.1.Points]:Jb)]).bind λi=>Jg ((Zz.mk e.1.Points i,Za.mk a.qcode r8.2.qat r8.2.qseed))else bif r8.1==4 then(ZG (Za.mk a.qcode r8.2.qat r8.2.qseed) 3).bind λj=>loop (ZsA a j) (([]:Ja))else Jg ((Zz.mk e.1.Points e.1.Blocks,Za.mk a.qcode r8.2.qat r8.2.qseed))
def Zqc (i:Za) (f:Int×Za) (e:Ja×Za):Ja->Jm (Ja ⊕ (Zz×Za))| a=>bif (Jk a:Int)>6 then(gSl a 1 (Jk a:Int)).bind λg=>Jg (.inl g)else(ZaC a).bind λh=>Jg (.inr (((Zz.mk (Y.wrap (2+f.1)) h),Za.mk i.qcode e.2.qat e.2.qseed)))
def Zm8 (a:Za):Jm (Zz×Za):=(ZG (Za.mk a.qcode a.qat a.qseed) 4).bind λe=>bif e.1==0 then(Zjh 7).bind λi=>(Zcb (Za.mk a.qcode e.2.qat e.2.qseed) 7).bind λh=>(Zmj (Zz.mk i.Points i.Blocks) h.1).bind λj=>Jg ((Zz.mk j.Points j.Blocks,Za.mk a.qcode h.2.qat h.2.qseed))else bif e.1==1 then(Zlq (Za.mk a.qcode e.2.qat e.2.qseed)).bind λf=>Jg ((Zz.mk f.1.Points f.1.Blocks,Za.mk a.qcode f.2.qat f.2.qseed))else(ZG (Za.mk a.qcode e.2.qat e.2.qseed) 5).bind λg=>(Zjz (Za.mk a.qcode g.2.qat g.2.qseed) (Y.wrap (2+g.1))).bind λk=>loop (Zqc a g k) k.1
def ZpM (e:Ja):Jm (Zf×Int):=(ZbA 3 (Jk e:Int) e).bind λa=>Jg ((Zf.mk a.1.Kind a.1.Size a.1.Rows,a.2))
def Zto (a0 f:Ja) (o k7 g:Int):Jb×Int->Jm ((Jb×Int) ⊕ ((Jb×Int) ⊕ ((Ja×Int) ⊕ ((Ja×Int) ⊕ Ja))))| (a,e)=>bif e<(Jk f:Int) then(gIdx a0 o).bind λh=>(gIdx h g).bind λi=>(gIdx f k7).bind λj=>(gIdx j e).bind λk=>(gApp 8 a [Y.wrap (i*k)]).bind λl=>Jg (.inl (l,Y.wrap (e+1)))else Jg (.inr (.inl (a,Y.wrap (g+1))))
def Zs2 (a0 h:Ja) (i:Int) (a:Ja) (k7:Int):Jb×Int->Jm ((Jb×Int) ⊕ ((Ja×Int) ⊕ ((Ja×Int) ⊕ Ja)))| (e,f)=>bif f<(Jk a0:Int) then loop (Zto a0 h i k7 f) (e,0)else(gApp 24 a [e]).bind λg=>Jg (.inr (.inl (g,Y.wrap (k7+1))))
def ZtE (a0 e:Ja) (f:Int):Ja×Int->Jm ((Ja×Int) ⊕ ((Ja×Int) ⊕ Ja))| (a,k7)=>bif k7<(Jk e:Int) then loop (Zs2 a0 e f a k7) (([]:Jb),0)else Jg (.inr (.inl (a,Y.wrap (f+1))))
def ZpA (a0 f:Ja):Ja×Int->Jm ((Ja×Int) ⊕ Ja)| (a,e)=>bif e<(Jk a0:Int) then loop (ZtE a0 f e) (a,0)else Jg (.inr a)
def Zj5 (a0 a:Ja):Jm Ja:=loop (ZpA a0 a) (([]:Ja),0)
def Zss:Int×Ja->Jm ((Int×Ja) ⊕ Ja)| (a,e)=>bif a>0 then(Zj5 ([([1,1]:Jb),([1,(-1)]:Jb)]) e).bind λf=>Jg (.inl (Y.wrap (a-1),f))else Jg (.inr e)
def Zh3 (k0:Int):Jm Ja:=loop Zss (k0,[([1]:Jb)])
def ZlY (a0:ZE):Jm (Zf×Int):=(Zhy (ZE.mk a0.Levels a0.Columns a0.Rows)).bind λe=>bif !e then Jg (((Zf.mk 0 0 ([]:Ja)),1))else bif (Jk a0.Rows:Int)==0 then Jg (((Zf.mk 0 0 ([]:Ja)),6))else(ZbA 4 a0.Levels a0.Rows).bind λa=>Jg ((Zf.mk a.1.Kind a.1.Size a.1.Rows,a.2))
def ZnO (a0 a:Int):Jm Int:=bif a0<a then Jg (a0)else Jg a
def Zvu (e f:Int):Int×Int->Jm ((Int×Int) ⊕ Int)| (a,g)=>bif g<f then bif (Y.wrap (a*e):Int)>256 then Jg (.inr 257)else Jg (.inl (Y.wrap (a*e),Y.wrap (g+1)))else Jg (.inr a)
def ZeO (a e:Int):Jm Int:=loop (Zvu a e) (1,0)
def Zxh (a:Int):Int×Int×Jb->Jm ((Int×Int×Jb) ⊕ Jb)| (e,f,xs)=>bif f>=0 then(gNz a).bind λ_=>(gIdx xs f).bind λg=>(gNz a).bind λ_=>Jg (.inl (Y.wrap (Jw e a),Y.wrap (f-1),(xs.set f.toNat (Jq e a))))else Jg (.inr xs)
def ZiI (n0 e a:Int):Jm Jb:=(gMake 8 (0:Int) a a).bind λf=>loop (Zxh e) (n0,Y.wrap (a-1),f)
def Zie (a:Jb) (e f:Int):Jm ((Jb×Int) ⊕ ((Int×Ja) ⊕ ZE)):=(gApp 8 a [f]).bind λg=>Jg (.inl (g,Y.wrap (e+1)))
def ZzH (a:Zd) (g i:Jb) (h:Int):Int×Int->Jm ((Int×Int) ⊕ ((Jb×Int) ⊕ ((Int×Ja) ⊕ ZE)))| (e,f)=>bif f<(Jk g:Int) then(Zb7 (Zd.mk a.Prime a.Degree a.Poly) e h).bind λj=>(gIdx g f).bind λk=>(Zc4 (Zd.mk a.Prime a.Degree a.Poly) j k 1).bind λl=>Jg (.inl (l,Y.wrap (f+1)))else(Zie i h e).map λx=>.inr x
def Zve (k l:Int) (g:Zd) (h:Int) (xs:Ja) (f:Jb):Jb×Int->Jm ((Jb×Int) ⊕ ((Int×Ja) ⊕ ZE))| (e,a)=>bif a<l then(gIdx f 0).bind λi=>bif a<k then loop (ZzH g f e a) (0,0)else Zie e a i else(gApp 24 xs [e]).bind λj=>Jg (.inr (.inl (Y.wrap (h+1),j)))
def Zyc (e j f:Int) (g:Zd) (h:Int):Int×Ja->Jm ((Int×Ja) ⊕ ZE)| (a,xs)=>bif a<h then(ZiI a e j).bind λi=>loop (Zve e f g a xs i) (([]:Jb),0)else Jg (.inr (ZE.mk e f xs))
def Zl8 (a e h:Int):Jm ZE:=(Zcv a).bind λf=>(ZeO a e).bind λg=>loop (Zyc a e h f g) (0,([]:Ja))
def Zvo (a:List Ja) (f:Ja) (g:Int) (xs:Ja):Jb×Int->Jm ((Jb×Int) ⊕ ((Int×Ja) ⊕ ZE))| (e,h)=>bif h<(Jk a:Int) then(gIdx a h).bind λi=>(gNz (Jk f:Int)).bind λ_=>(gIdx i (Y.wrap (Jw g (Jk f:Int)))).bind λj=>(gNz (Jk f:Int)).bind λ_=>(gIdx j (Jq g (Jk f:Int))).bind λk=>(gApp 8 e [k]).bind λl=>Jg (.inl (l,Y.wrap (h+1)))else(gApp 24 xs [e]).bind λo=>Jg (.inr (.inl (Y.wrap (g+1),o)))
def ZyQ (e:List Ja) (a:Ja):Int×Ja->Jm ((Int×Ja) ⊕ ZE)| (f,xs)=>bif f<(Y.wrap ((Jk a:Int)*(Jk a:Int))) then(gNz (Jk a:Int)).bind λ_=>(gNz (Jk a:Int)).bind λ_=>loop (Zvo e a f xs) (([Y.wrap (Jw f (Jk a:Int)),Jq f (Jk a:Int)]:Jb),0)else Jg (.inr ((ZE.mk (Jk a:Int) (Y.wrap ((Jk e:Int)+2)) xs)))
def Zlh (a:List Ja):Jm ZE:=(gIdx a 0).bind λe=>loop (ZyQ a e) (0,([]:Ja))
def ZBQ (k:Int) (e:Zd) (h i:Int):Int×Ja->Jm ((Int×Ja) ⊕ ((Int×Ja) ⊕ Ja))| (f,a)=>bif f<k then(Zc4 (Zd.mk e.Prime e.Degree e.Poly) i f 1).bind λj=>(gIdx a h).bind λg=>(gIdx g f).bind λl=>Jg (.inl (Y.wrap (f+1),(a.set h.toNat (g.set f.toNat j))))else Jg (.inr (.inl (Y.wrap (h+1),a)))
def ZBE (f h:Int) (a:Zd):Int×Ja->Jm ((Int×Ja) ⊕ Ja)| (e,xs)=>bif e<f then(Zb7 (Zd.mk a.Prime a.Degree a.Poly) h e).bind λg=>loop (ZBQ f a e g) (0,xs)else Jg (.inr xs)
def Zop (a g:Int):Jm Ja:=(Zcv a).bind λe=>(Zd2 a a).bind λf=>loop (ZBE a g e) (0,f)
def Zum (f:Int):List Ja×Int->Jm ((List Ja×Int) ⊕ (List Ja))| (a,e)=>bif e<f then(Zop f e).bind λg=>(gApp 24 a [g]).bind λh=>Jg (.inl (h,Y.wrap (e+1)))else Jg (.inr a)
def ZlG (a:Int):Jm (List Ja):=loop (Zum a) (([]:List Ja),1)
def Zkr (e:Za) (l:Int):Jm ((List Ja)×Za):=(ZlG l).bind λr8=>(ZG (Za.mk e.qcode e.qat e.qseed) (Jk r8:Int)).bind λa=>(gSl r8 a.1 (Jk r8:Int)).bind λh=>(gApp 24 ([]:List Ja) h).bind λi=>(gSl r8 0 a.1).bind λj=>(gApp 24 i j).bind λg=>(ZG (Za.mk e.qcode a.2.qat a.2.qseed) (Jk g:Int)).bind λf=>(gSl g 0 (Y.wrap (f.1+1))).bind λk=>Jg ((k,Za.mk e.qcode f.2.qat f.2.qseed))
def ZCU (h j e:Int):Int×Ja->Jm ((Int×Ja) ⊕ (ZE×Int))| (a,xs)=>bif a<e then(ZiI a h j).bind λf=>(gApp 24 xs [f]).bind λg=>Jg (.inl (Y.wrap (a+1),g))else Jg (.inr ((ZE.mk h j xs,0)))
def ZjV (h g:Int):Jm (ZE×Int):=(ZgD h g).bind λe=>bif !e then Jg (((ZE.mk 0 0 ([]:Ja)),2))else(ZeO h g).bind λa=>bif a>256 then Jg (((ZE.mk 0 0 ([]:Ja)),5))else loop (ZCU h g a) (0,([]:Ja))
def Zlb (h:Za) (q g:Int) (xs:Ja) (a:Int×Za) (i:Bool):Jm (ZE×Za):=bif i then(gIdx xs 0).bind λf=>(ZaT (Za.mk h.qcode a.2.qat a.2.qseed) ([(-1),q,0]:Jb)).bind λe=>(gIdx f 0).bind λj=>Jg (((ZE.mk q g (xs.set (0:Int).toNat (f.set (0:Int).toNat e.1))),Za.mk h.qcode e.2.qat e.2.qseed))else Jg ((ZE.mk q g xs,Za.mk h.qcode a.2.qat a.2.qseed))
def ZpE (a:Ja) (g h:Int):Jm ((Int×Int×Ja) ⊕ (ZE×Za)):=(ZgF a).bind λe=>(gApp 24 a e).bind λf=>Jg (.inl (g,h,f))
def Zqx (g:Za) (q f:Int):Int×Int×Ja->Jm ((Int×Int×Ja) ⊕ (ZE×Za))| (h,i,e)=>(ZaR (Za.mk g.qcode h i) 2).bind λa=>bif a.1 then bif (Jk e:Int)>0 then bif (Jk e:Int)<140 then ZpE e a.2.qat a.2.qseed else Jg (.inr ((ZE.mk q f e,Za.mk g.qcode a.2.qat a.2.qseed)))else Jg (.inr ((ZE.mk q f e,Za.mk g.qcode a.2.qat a.2.qseed)))else Jg (.inr ((ZE.mk q f e,Za.mk g.qcode a.2.qat a.2.qseed)))
def Zcw (f:Za) (q e:Int) (xs:Ja) (i j:Int):Jm (ZE×Za):=(ZG (Za.mk f.qcode i j) 14).bind λa=>bif a.1==0 then(ZaT (Za.mk f.qcode a.2.qat a.2.qseed) ([1,16,17,2]:Jb)).bind λg=>Jg ((ZE.mk g.1 e xs,Za.mk f.qcode g.2.qat g.2.qseed))else bif a.1==1 then(ZaT (Za.mk f.qcode a.2.qat a.2.qseed) ([0,9,Y.wrap (e+1)]:Jb)).bind λh=>Jg ((ZE.mk q h.1 xs,Za.mk f.qcode h.2.qat h.2.qseed))else bif a.1==2 then bif (Jk xs:Int)>0 then Zlb f q e xs a (e>0)else Zlb f q e xs a Jj else bif a.1==3 then loop (Zqx f q e) (a.2.qat,a.2.qseed,xs)else Jg ((ZE.mk q e xs,Za.mk f.qcode a.2.qat a.2.qseed))
def ZzL (f:Za) (e:(List Ja)×Za) (a:ZE):Int->Jm (Int ⊕ (ZE×Za))| g=>bif g<(Jk a.Rows:Int) then Jh else(Zcw f a.Levels 8 a.Rows e.2.qat e.2.qseed).map λx=>.inr x
def Zsf (r:Za) (j k:Int×Za) (s:Int) (i:Ja):Jb×Int×Int×Int->Jm ((Jb×Int×Int×Int) ⊕ ((Int×Int×Int×Ja) ⊕ (ZE×Za)))| (g,h,a,e)=>bif h<(Y.wrap (k.1+1)) then(ZG (Za.mk r.qcode a e) (Y.wrap (j.1+2))).bind λf=>(gApp 8 g [f.1]).bind λl=>Jg (.inl (l,Y.wrap (h+1),f.2.qat,f.2.qseed))else(gApp 24 i [g]).bind λo=>Jg (.inr (.inl (Y.wrap (s-1),a,e,o)))
def Zrc (i:Za) (f g:Int×Za):Int×Int×Int×Ja->Jm ((Int×Int×Int×Ja) ⊕ (ZE×Za))| (j,h,a,e)=>bif j>0 then loop (Zsf i f g j e) (([]:Jb),0,h,a)else(Zcw i (Y.wrap (f.1+2)) (Y.wrap (g.1+1)) e h a).map λx=>.inr x
def Zkq (e:Za):Jm (ZE×Za):=(ZG (Za.mk e.qcode e.qat e.qseed) 4).bind λf=>(ZG (Za.mk e.qcode f.2.qat f.2.qseed) 5).bind λg=>(ZG (Za.mk e.qcode g.2.qat g.2.qseed) 5).bind λa=>bif a.1==0 then(ZaT (Za.mk e.qcode a.2.qat a.2.qseed) ([2,3,4,5]:Jb)).bind λh=>(ZnO h.1 3).bind λw=>(ZG (Za.mk e.qcode h.2.qat h.2.qseed) w).bind λi=>(ZG (Za.mk e.qcode i.2.qat i.2.qseed) (Y.wrap ((Y.wrap (h.1+2))-(Y.wrap (i.1+1))))).bind λo=>(Zl8 h.1 (Y.wrap (i.1+1)) (Y.wrap ((Y.wrap (i.1+1))+o.1))).bind λr=>Zcw e r.Levels r.Columns r.Rows o.2.qat o.2.qseed else bif a.1==1 then(ZaT (Za.mk e.qcode a.2.qat a.2.qseed) ([3,4,5,7]:Jb)).bind λs=>(Zkr (Za.mk e.qcode s.2.qat s.2.qseed) s.1).bind λl=>(Zlh l.1).bind λj=>bif j.Columns>8 then loop (ZzL e l j) (0)else Zcw e j.Levels j.Columns j.Rows l.2.qat l.2.qseed else bif a.1==2 then(ZeO (Y.wrap (f.1+2)) (Y.wrap (g.1+1))).bind λv=>bif v<=256 then(ZjV (Y.wrap (f.1+2)) (Y.wrap (g.1+1))).bind λk=>Zcw e k.1.Levels k.1.Columns k.1.Rows a.2.qat a.2.qseed else Zcw e (Y.wrap (f.1+2)) (Y.wrap (g.1+1)) ([]:Ja) a.2.qat a.2.qseed else(ZG (Za.mk e.qcode a.2.qat a.2.qseed) 12).bind λu=>loop (Zrc e f g) (u.1,u.2.qat,u.2.qseed,([]:Ja))
def ZoU (a0 a:Zd):Jm Bool:=bif a0.Prime==a.Prime then bif a0.Degree==a.Degree then(Zhc a0.Poly a.Poly).bind λe=>Jg (e)else Jg (Jj)else Jg Jj
def Zln (a:ZM):Jm (Zf×Int):=(ZaI (ZM.mk (Zd.mk a.Field.Prime a.Field.Degree a.Field.Poly) a.Rows)).bind λi=>bif !i then Jg (((Zf.mk 0 0 ([]:Ja)),1))else(ZaH (Zd.mk a.Field.Prime a.Field.Degree a.Field.Poly)).bind λf=>(Zcv f).bind λg=>(ZoU (Zd.mk a.Field.Prime a.Field.Degree a.Field.Poly) g).bind λh=>bif !h then Jg (((Zf.mk 0 0 ([]:Ja)),6))else(ZbA 5 f a.Rows).bind λe=>Jg ((Zf.mk e.1.Kind e.1.Size e.1.Rows,e.2))
def Zr1 (a:Za):Jm (Zd×Za):=(ZaT (Za.mk a.qcode a.qat a.qseed) ([2,2,3,4,5,7,8,9]:Jb)).bind λe=>(Zcv e.1).bind λf=>Jg ((Zd.mk f.Prime f.Degree f.Poly,Za.mk a.qcode e.2.qat e.2.qseed))
def Zif (a:Int) (e:Jb) (i f g:Int):Jm ((Int×Jb×Int×Int) ⊕ (Jb×Za)):=(gApp 8 e [i]).bind λh=>Jg (.inl (Y.wrap (a-1),h,f,g))
def Zp1 (i:Za) (j:Zd):Int×Jb×Int×Int->Jm ((Int×Jb×Int×Int) ⊕ (Jb×Za))| (e,f,q,h)=>bif e>0 then(ZaH (Zd.mk j.Prime j.Degree j.Poly)).bind λk=>(ZG (Za.mk i.qcode q h) k).bind λg=>(ZaR (Za.mk i.qcode g.2.qat g.2.qseed) 3).bind λa=>bif a.1 then Zif e f 0 a.2.qat a.2.qseed else Zif e f g.1 a.2.qat a.2.qseed else Jg (.inr ((f,Za.mk i.qcode q h)))
def Znw (a:Za) (e:Zd) (n2:Int):Jm (Jb×Za):=loop (Zp1 a e) (n2,([]:Jb),a.qat,a.qseed)
def ZiL (e:Ja) (a:Jb) (f g:Int):Jm ((Ja×Int×Int) ⊕ (Ja×Za)):=(gApp 24 e [a]).bind λh=>Jg (.inl (h,f,g))
def Zhv (s:Za) (e:Zd) (a:Ja) (i:Jb×Za) (j:Bool) (g h:Int):Jm ((Ja×Int×Int) ⊕ (Ja×Za)):=bif j then(gIdx a 0).bind λk=>(gIdx a 1).bind λl=>(ZaH (Zd.mk e.Prime e.Degree e.Poly)).bind λo=>(ZG (Za.mk s.qcode g h) o).bind λf=>(Zio (Zd.mk e.Prime e.Degree e.Poly) k l f.1).bind λr=>ZiL a r f.2.qat f.2.qseed else ZiL a i.1 g h
def ZoS (f:Za) (g:Zd) (i k:Int):Ja×Int×Int->Jm ((Ja×Int×Int) ⊕ (Ja×Za))| (a,q,j)=>bif (Jk a:Int)<i then(Znw (Za.mk f.qcode q j) (Zd.mk g.Prime g.Degree g.Poly) k).bind λe=>bif (Jk a:Int)>1 then(ZaR (Za.mk f.qcode e.2.qat e.2.qseed) 4).bind λh=>Zhv f g a e h.1 h.2.qat h.2.qseed else Zhv f g a e Jj e.2.qat e.2.qseed else Jg (.inr ((a,Za.mk f.qcode q j)))
def ZnL (e:Za) (f:Zd) (a g:Int):Jm (Ja×Za):=loop (ZoS e f a g) (([]:Ja),e.qat,e.qseed)
def Zq6 (a:Zd):Jm Zd:=(ZaD a.Poly).bind λe=>Jg (Zd.mk a.Prime a.Degree e)
def Zr4 (f:Zd) (e:Ja):Jm (ZM×Int):=(Zq6 f).bind λa=>Jg (((ZM.mk (Zd.mk a.Prime a.Degree a.Poly) e),0))
def ZoG (e:Zd) (a:Ja):Jm (ZM×Int):=bif (Jk a:Int)==0 then Jg (((ZM.mk (Zd.mk 0 0 ([]:Jb)) ([]:Ja)),6))else bif (Jk a:Int)>8 then Jg (((ZM.mk (Zd.mk 0 0 ([]:Jb)) ([]:Ja)),5))else(ZaH e).bind λf=>(Zeb f (Jk a:Int)).bind λg=>bif g==0 then Jg (((ZM.mk (Zd.mk 0 0 ([]:Jb)) ([]:Ja)),5))else Zr4 e a
def ZhJ (h:Za) (a:Zd×Za) (k4 j q k:Int):Jm (ZM×Za):=(ZnL (Za.mk h.qcode q k) (Zd.mk a.1.Prime a.1.Degree a.1.Poly) k4 j).bind λg=>(gIdx g.1 0).bind λi=>(ZG (Za.mk h.qcode g.2.qat g.2.qseed) j).bind λe=>(gIdx i e.1).bind λo=>(ZeY (Zd.mk a.1.Prime a.1.Degree a.1.Poly) (g.1.set (0:Int).toNat (i.set e.1.toNat 1))).bind λl=>(ZoG (Zd.mk a.1.Prime a.1.Degree a.1.Poly) l).bind λf=>bif f.2 !=0 then Jg (((ZM.mk (Zd.mk a.1.Prime a.1.Degree a.1.Poly) ([([1]:Jb)])),Za.mk h.qcode e.2.qat e.2.qseed))else Jg (((ZM.mk (Zd.mk f.1.Field.Prime f.1.Field.Degree f.1.Field.Poly) f.1.Rows),Za.mk h.qcode e.2.qat e.2.qseed))
def Zfr (g:Za) (h:Zd×Za) (a k:Int×Za) (l:Bool) (i j:Int):Jm (ZM×Za):=bif l then(ZG (Za.mk g.qcode i j) 3).bind λe=>(ZG (Za.mk g.qcode e.2.qat e.2.qseed) 6).bind λf=>ZhJ g h (Y.wrap ((Y.wrap (1+a.1))+e.1)) (Y.wrap ((Y.wrap ((Y.wrap ((Y.wrap (1+a.1))+e.1))+1))+f.1)) f.2.qat f.2.qseed else ZhJ g h (Y.wrap (1+a.1)) (Y.wrap ((Y.wrap (1+a.1))+k.1)) i j
def ZnH (f:Za):Jm (ZM×Za):=(Zr1 (Za.mk f.qcode f.qat f.qseed)).bind λe=>(ZG (Za.mk f.qcode e.2.qat e.2.qseed) 3).bind λg=>(ZG (Za.mk f.qcode g.2.qat g.2.qseed) 5).bind λa=>bif e.1.Prime==2 then bif e.1.Degree==1 then(ZaR (Za.mk f.qcode a.2.qat a.2.qseed) 2).bind λh=>Zfr f e g a h.1 h.2.qat h.2.qseed else Zfr f e g a Jj a.2.qat a.2.qseed else Zfr f e g a Jj a.2.qat a.2.qseed
def Zwy (f:Zb) (e:Ja):Int->Jm (Int ⊕ ((Ja×Int) ⊕ (Zf×Int)))| g=>bif g<(Jk f.Colors:Int) then(gIdx f.Colors g).bind λh=>bif h !=0 then Jg (.inr (.inr (((Zf.mk 0 0 ([]:Ja)),6))))else Jg (.inl (Y.wrap (g+1)))else(ZbA 6 (Jk f.Colors:Int) e).bind λa=>Jg (.inr (.inr ((Zf.mk a.1.Kind a.1.Size a.1.Rows,a.2))))
def Zw2 (e:Zb):Ja×Int->Jm ((Ja×Int) ⊕ (Zf×Int))| (a,i5)=>bif i5<(Jk e.Edges:Int) then(gIdx e.Edges i5).bind λf=>(gIdx e.Edges i5).bind λg=>(gApp 24 a [([f.A,g.B]:Jb)]).bind λh=>Jg (.inl (h,Y.wrap (i5+1)))else loop (Zwy e a) 0
def ZlS (a:Zb):Jm (Zf×Int):=(ZfN (Zb.mk a.Colors a.Edges)).bind λr8=>bif !r8 then Jg (((Zf.mk 0 0 ([]:Ja)),1))else loop (Zw2 a) (([]:Ja),0)
def Zfn (h:Zb):Int×List (List Bool)->Jm ((Int×List (List Bool)) ⊕ ((List (List Bool)×Int) ⊕ (List (List Bool))))| (g,xs)=>bif g<(Jk h.Edges:Int) then(gIdx h.Edges g).bind λa=>(gIdx xs a.A).bind λe=>(gIdx e a.B).bind λi=>(gIdx (xs.set a.A.toNat (e.set a.B.toNat Ji)) a.B).bind λf=>(gIdx f a.A).bind λj=>Jg (.inl (Y.wrap (g+1),((xs.set a.A.toNat (e.set a.B.toNat Ji)).set a.B.toNat (f.set a.A.toNat Ji))))else Jg (.inr (.inr xs))
def Zju (e:Zb):List (List Bool)×Int->Jm ((List (List Bool)×Int) ⊕ (List (List Bool)))| (a,i5)=>bif i5<(Jk e.Colors:Int) then(gMake 1 Jj (Jk e.Colors:Int) (Jk e.Colors:Int)).bind λf=>(gApp 24 a [f]).bind λg=>Jg (.inl (g,Y.wrap (i5+1)))else loop (Zfn e) (0,a)
def Zb4 (a:Zb):Jm (List (List Bool)):=loop (Zju a) (([]:List (List Bool)),0)
def Zet (j:Jb) (k:List (List Bool)) (f:Int):Int×List Zc->Jm ((Int×List Zc) ⊕ ((Int×List Zc) ⊕ Zb))| (e,a)=>bif e<(Jk j:Int) then(gIdx k f).bind λg=>(gIdx g e).bind λh=>bif h then(gApp 16 a [(Zc.mk f e)]).bind λi=>Jg (.inl (Y.wrap (e+1),i))else Jg (.inl (Y.wrap (e+1),a))else Jg (.inr (.inl (Y.wrap (f+1),a)))
def ZiH (g:Jb) (h:List (List Bool)) (e:Jb):Int×List Zc->Jm ((Int×List Zc) ⊕ Zb)| (a,xs)=>bif a<(Jk g:Int) then loop (Zet g h a) (Y.wrap (a+1),xs)else Jg (.inr (Zb.mk e xs))
def Zez (e:Jb) (g:List (List Bool)):Jm Zb:=(ZaD e).bind λa=>loop (ZiH e g a) (0,([]:List Zc))
def ZbK (f a:Int) (e:List (List Bool)) (h:Bool) (i j:Int):Jm ((Int×Int×Int×List (List Bool)) ⊕ ((Int×Int×Int×List (List Bool)) ⊕ ((Jb×Int×Int×Int) ⊕ (Zb×Za)))):=(gIdx e f).bind λg=>(gIdx g a).bind λk=>Jg (.inl (Y.wrap (a+1),i,j,(e.set f.toNat (g.set a.toNat h))))
def Zrd (l:Za) (o:Int) (i:Int×Za) (a:Int):Int×Int×Int×List (List Bool)->Jm ((Int×Int×Int×List (List Bool)) ⊕ ((Int×Int×Int×List (List Bool)) ⊕ ((Jb×Int×Int×Int) ⊕ (Zb×Za))))| (e,g,h,f)=>bif e<o then bif i.1==0 then bif e==(Y.wrap (a+1)) then ZbK a e f Ji g h else bif a==0 then ZbK a e f (e==(Y.wrap (o-1))) g h else ZbK a e f Jj g h else bif i.1==1 then(ZG (Za.mk l.qcode g h) 3).bind λj=>ZbK a e f (j.1==0) j.2.qat j.2.qseed else bif i.1==2 then(gNz 3).bind λ_=>ZbK a e f ((Jq (Y.wrap (e-a)) 3:Int)==1) g h else(ZG (Za.mk l.qcode g h) 2).bind λk=>ZbK a e f (k.1==0) k.2.qat k.2.qseed else Jg (.inr (.inl (Y.wrap (a+1),g,h,f)))
def ZtB (h:Za) (i:Int) (l:Jb) (j:Int×Za):Int×Int×Int×List (List Bool)->Jm ((Int×Int×Int×List (List Bool)) ⊕ ((Jb×Int×Int×Int) ⊕ (Zb×Za)))| (e,f,g,xs)=>bif e<i then loop (Zrd h i j e) (Y.wrap (e+1),f,g,xs)else(Zez l xs).bind λa=>bif (Jk a.Edges:Int)>512 then(gSl a.Edges 0 512).bind λk=>Jg (.inr (.inr ((Zb.mk a.Colors k,Za.mk h.qcode f g))))else Jg (.inr (.inr ((Zb.mk a.Colors a.Edges,Za.mk h.qcode f g))))
def Zs7 (g:Za) (i:Int) (j:Int×Za):Jb×Int×Int×Int->Jm ((Jb×Int×Int×Int) ⊕ (Zb×Za))| (h,k,q,f)=>bif k<i then(ZG (Za.mk g.qcode q f) (Y.wrap (j.1+1))).bind λa=>(gApp 8 h [a.1]).bind λl=>Jg (.inl (l,Y.wrap (k+1),a.2.qat,a.2.qseed))else(Zb4 (Zb.mk h ([]:List Zc))).bind λo=>(ZG (Za.mk g.qcode q f) 4).bind λe=>loop (ZtB g i h e) (0,e.2.qat,e.2.qseed,o)
def Zkx (e:Za) (f:Int):Jm (Zb×Za):=(ZG (Za.mk e.qcode e.qat e.qseed) 3).bind λa=>loop (Zs7 e f a) (([]:Jb),0,a.2.qat,a.2.qseed)
def Zyy (e:Za) (r8:Zb×Za):Int×Jb->Jm ((Int×Jb) ⊕ (Zb×Za))| (a,xs)=>bif a<(Jk xs:Int) then(gIdx xs a).bind λf=>Jg (.inl (Y.wrap (a+1),(xs.set a.toNat 0)))else Jg (.inr ((Zb.mk xs r8.1.Edges,Za.mk e.qcode r8.2.qat r8.2.qseed)))
def ZlM (a:Za):Jm (Zb×Za):=(ZG (Za.mk a.qcode a.qat a.qseed) 7).bind λe=>(Zkx (Za.mk a.qcode e.2.qat e.2.qseed) e.1).bind λr8=>loop (Zyy a r8) (0,r8.1.Colors)
def Zqq (a:Zal):Jm (Zf×Int):=(ZbA 7 a.Degree a.Elements).bind λr8=>Jg ((Zf.mk r8.1.Kind r8.1.Size r8.1.Rows,r8.2))
def ZoW (n0 a1 g:Int):Jb×Int->Jm ((Jb×Int) ⊕ Jb)| (a,e)=>bif e<n0 then(gNz n0).bind λ_=>(gApp 8 a [Jq (Y.wrap ((Y.wrap (a1*e))+g)) n0]).bind λf=>Jg (.inl (f,Y.wrap (e+1)))else Jg (.inr a)
def Zcs (n0 a1 a:Int):Jm Jb:=loop (ZoW n0 a1 a) (([]:Jb),0)
def Zjk (h:Za) (f:Int×Za):Ja×Int×Int×Int->Jm ((Ja×Int×Int×Int) ⊕ (Int×Ja×Za))| (a,k6,q,g)=>bif k6>0 then(Zcb (Za.mk h.qcode q g) (Y.wrap (1+f.1))).bind λe=>(gApp 24 a [e.1]).bind λi=>Jg (.inl (i,Y.wrap (k6-1),e.2.qat,e.2.qseed))else Jg (.inr ((Y.wrap (1+f.1),a,Za.mk h.qcode q g)))
def Zij (e:Za):Jm (Int×Ja×Za):=(ZG (Za.mk e.qcode e.qat e.qseed) 8).bind λr8=>(ZG (Za.mk e.qcode r8.2.qat r8.2.qseed) 4).bind λa=>bif a.1==0 then(Zcs (Y.wrap (1+r8.1)) 1 1).bind λj=>Jg ((Y.wrap (1+r8.1),[j],Za.mk e.qcode a.2.qat a.2.qseed))else bif a.1==1 then(Zcs (Y.wrap (1+r8.1)) 1 1).bind λk=>(Zcs (Y.wrap (1+r8.1)) (Y.wrap ((Y.wrap (1+r8.1))-1)) 0).bind λl=>Jg ((Y.wrap (1+r8.1),[k,l],Za.mk e.qcode a.2.qat a.2.qseed))else bif a.1==2 then(ZaT (Za.mk e.qcode a.2.qat a.2.qseed) ([5,7,11,13]:Jb)).bind λf=>(Zcs f.1 1 1).bind λo=>(ZaT (Za.mk e.qcode f.2.qat f.2.qseed) ([2,3,4]:Jb)).bind λg=>(Zcs f.1 g.1 0).bind λr=>Jg ((f.1,[o,r],Za.mk e.qcode g.2.qat g.2.qseed))else(ZG (Za.mk e.qcode a.2.qat a.2.qseed) 5).bind λh=>(ZG (Za.mk e.qcode h.2.qat h.2.qseed) 3).bind λi=>loop (Zjk e h) (([]:Ja),i.1,i.2.qat,i.2.qseed)
def Zi5 (g:Za) (a:Int×Ja×Za) (e:Ja):Jm (Zal×Za):=(ZaC e).bind λf=>Jg ((Zal.mk a.1 f,Za.mk g.qcode a.2.2.qat a.2.2.qseed))
def Zl2 (a:Za):Jm (Zal×Za):=(Zij (Za.mk a.qcode a.qat a.qseed)).bind λe=>(ZcS e.1 e.2.1 720).bind λf=>bif !f.2 then(Zf2 e.1).bind λg=>Zi5 a e ([g])else Zi5 a e f.1
def Za8 (f:Za) (h q g:Int) (xs:Ja) (a e:Int):Jm (Zf×Za):=bif h !=0 then Jg (((Zf.mk 2 3 ([([0,1,2]:Jb)])),Za.mk f.qcode a e))else Jg ((Zf.mk q g xs,Za.mk f.qcode a e))
def ZkN (e:Za):Jm (Zf×Za):=(ZG (Za.mk e.qcode e.qat e.qseed) 7).bind λa=>bif a.1==0 then(ZG (Za.mk e.qcode a.2.qat a.2.qseed) 5).bind λo=>(Zmd (Za.mk e.qcode o.2.qat o.2.qseed) (Y.wrap (1+o.1))).bind λr=>(Zs4 r.1).bind λf=>Za8 e f.2 f.1.Kind f.1.Size f.1.Rows r.2.qat r.2.qseed else bif a.1==1 then(Zm8 (Za.mk e.qcode a.2.qat a.2.qseed)).bind λs=>(Zr8 s.1).bind λg=>Za8 e g.2 g.1.Kind g.1.Size g.1.Rows s.2.qat s.2.qseed else bif a.1==2 then(ZG (Za.mk e.qcode a.2.qat a.2.qseed) 4).bind λu=>(Zh3 u.1).bind λa2=>(ZpM a2).bind λh=>Za8 e h.2 h.1.Kind h.1.Size h.1.Rows u.2.qat u.2.qseed else bif a.1==3 then(Zkq (Za.mk e.qcode a.2.qat a.2.qseed)).bind λv=>(ZlY v.1).bind λi=>Za8 e i.2 i.1.Kind i.1.Size i.1.Rows v.2.qat v.2.qseed else bif a.1==4 then(ZnH (Za.mk e.qcode a.2.qat a.2.qseed)).bind λw=>(Zln w.1).bind λj=>Za8 e j.2 j.1.Kind j.1.Size j.1.Rows w.2.qat w.2.qseed else bif a.1==5 then(ZlM (Za.mk e.qcode a.2.qat a.2.qseed)).bind λx=>(ZlS x.1).bind λk=>Za8 e k.2 k.1.Kind k.1.Size k.1.Rows x.2.qat x.2.qseed else bif a.1==6 then(Zl2 (Za.mk e.qcode a.2.qat a.2.qseed)).bind λy=>(Zqq y.1).bind λl=>Za8 e l.2 l.1.Kind l.1.Size l.1.Rows y.2.qat y.2.qseed else Za8 e 6 0 0 ([]:Ja) a.2.qat a.2.qseed
def Zbv (a:Int):Jm Bool:=bif a>=97 then Jg (a<=122)else Jg Jj
def Zea (a:Int):Jm Bool:=bif a>=48 then Jg (a<=57)else Jg Jj
def Zee (e:Jd):Int->Jm (Int ⊕ Bool)| a=>bif a<(e.size:Int) then(gSt e a).bind λf=>(Zbv (f.toNat:Int)).bind λg=>bif !g then(gSt e a).bind λh=>(Zea (h.toNat:Int)).bind λi=>bif !i then Jg (.inr Jj)else Jg (.inl (Y.wrap (a+1)))else Jg (.inl (Y.wrap (a+1)))else Jg (.inr Ji)
def Zrp (a:Jd):Jm (Bool):=loop (Zee a) 0
def ZiW (a:Jd):Jm Bool:=bif a.toList==(⟨#[]⟩:Jd).toList then Jg (Jj)else bif (a.size:Int)>10 then Jg (Jj)else(gSt a 0).bind λe=>(Zbv (e.toNat:Int)).bind λf=>bif !f then Jg (Jj)else Zrp a
def ZlH (x0:Zh):Jm Bool:=(ZiW x0.Name).bind λe=>bif e then(Zat (Zf.mk x0.Object.Kind x0.Object.Size x0.Object.Rows)).bind λa=>bif a then bif (x0.Key.size:Int)>0 then Jg ((x0.Key.size:Int)<=4000)else Jg (Jj)else Jg (Jj)else Jg Jj
def Zgi (a0 a:Zh):Jm Bool:=bif a0.Object.Kind==a.Object.Kind then Jg (a0.Key.toList==a.Key.toList)else Jg Jj
def ZhC (f:ZA) (a:Int):Int->Jm (Int ⊕ (Int ⊕ Bool))| e=>bif e<a then(gIdx f.Items a).bind λg=>(gIdx f.Items e).bind λh=>(Zgi g h).bind λi=>bif i then Jg (.inr (.inr Jj))else Jg (.inl (Y.wrap (e+1)))else Jg (.inr (.inl (Y.wrap (a+1))))
def ZhB (a:ZA) (e:Int):Jm (Int ⊕ Bool):=loop (ZhC a e) 0
def Zc2 (a:ZA):Int->Jm (Int ⊕ Bool)| e=>bif e<(Jk a.Items:Int) then(gIdx a.Items e).bind λf=>(ZlH f).bind λg=>bif !g then Jg (.inr Jj)else bif e>0 then(gIdx a.Items (Y.wrap (e-1))).bind λh=>(gIdx a.Items e).bind λi=>bif !(Op.bytesLess h.Name.toList i.Name.toList) then Jg (.inr Jj)else ZhB a e else ZhB a e else Jg (.inr ((Jk a.Items:Int)<=24))
def Zjv (a:ZA):Jm Bool:=loop (Zc2 a) 0
def Zlm (e:Int) (xs:Jb) (f:Int):Jm ((Int×Jb) ⊕ Zb):=(gApp 8 xs [f]).bind λa=>Jg (.inl (Y.wrap (e+1),a))
def ZcM (f:Ja) (g h a:Int) (e:List Zc) (i:Bool):Jm ((Int×List Zc) ⊕ ((Int×List Zc) ⊕ ((Int×List Zc) ⊕ ((Int×Jb) ⊕ ((Int×Jb) ⊕ Zb))))):=bif i then(gApp 16 e [(Zc.mk g (Y.wrap ((Y.wrap ((Y.wrap (3*(Jk f:Int)))+(Y.wrap (h*(Jk f:Int)))))+a)))]).bind λj=>Jg (.inl (Y.wrap (a+1),j))else Jg (.inl (Y.wrap (a+1),e))
def Zdg (h:Ja) (a e:Int):Int×List Zc->Jm ((Int×List Zc) ⊕ ((Int×List Zc) ⊕ ((Int×List Zc) ⊕ ((Int×Jb) ⊕ ((Int×Jb) ⊕ Zb)))))| (f,g)=>bif f<(Jk h:Int) then bif a==e then ZcM h a e f g Ji else bif a==(Y.wrap ((Jk h:Int)+f)) then ZcM h a e f g Ji else(gIdx h e).bind λi=>(gIdx i f).bind λj=>ZcM h a e f g (a==(Y.wrap ((Y.wrap (2*(Jk h:Int)))+j)))else Jg (.inr (.inl (Y.wrap (e+1),g)))
def Zho (g:Ja) (e:Int):Int×List Zc->Jm ((Int×List Zc) ⊕ ((Int×List Zc) ⊕ ((Int×Jb) ⊕ ((Int×Jb) ⊕ Zb))))| (f,a)=>bif f<(Jk g:Int) then loop (Zdg g e f) (0,a)else Jg (.inr (.inl (Y.wrap (e+1),a)))
def ZiZ (g:Ja) (f:Jb):Int×List Zc->Jm ((Int×List Zc) ⊕ ((Int×Jb) ⊕ ((Int×Jb) ⊕ Zb)))| (e,a)=>bif e<(Y.wrap (3*(Jk g:Int))) then loop (Zho g e) (0,a)else Jg (.inr (.inr (.inr (Zb.mk f a))))
def ZfG (e:Ja):Int×Jb->Jm ((Int×Jb) ⊕ ((Int×Jb) ⊕ Zb))| (f,a)=>bif f<(Y.wrap ((Jk e:Int)*(Jk e:Int))) then(gApp 8 a [3]).bind λg=>Jg (.inl (Y.wrap (f+1),g))else loop (ZiZ e a) (0,([]:List Zc))
def ZnD (a:Ja) (f:Bool):Int×Jb->Jm ((Int×Jb) ⊕ Zb)| (e,xs)=>bif e<(Y.wrap (3*(Jk a:Int))) then bif !f then(gNz (Jk a:Int)).bind λ_=>Zlm e xs (Y.wrap (Jw e (Jk a:Int)))else Zlm e xs 0 else loop (ZfG a) (0,xs)
def Zj1 (a:Ja) (e:Bool):Jm Zb:=loop (ZnD a e) (0,([]:Jb))
def Ziz (a0:Ja) (g:Bool):Jm (Zb×Int):=(ZiE a0).bind λe=>bif !e then Jg (((Zb.mk ([]:Jb) ([]:List Zc)),1))else bif (Jk a0:Int)>6 then Jg (((Zb.mk ([]:Jb) ([]:List Zc)),5))else(Zj1 a0 g).bind λa=>Jg ((Zb.mk a.Colors a.Edges,0))
def ZhI (f:Zz) (g:Int):Int×List Zc->Jm ((Int×List Zc) ⊕ ((Int×List Zc) ⊕ ((Int×Jb) ⊕ ((Int×Jb) ⊕ (Zb×Int)))))| (e,a)=>bif e<(Jk f.Blocks:Int) then(gIdx f.Blocks e).bind λh=>(ZhX h g).bind λi=>bif i then(gApp 16 a [(Zc.mk g (Y.wrap (f.Points+e)))]).bind λj=>Jg (.inl (Y.wrap (e+1),j))else Jg (.inl (Y.wrap (e+1),a))else Jg (.inr (.inl (Y.wrap (g+1),a)))
def Zfk (f:Zz) (e:Jb):Int×List Zc->Jm ((Int×List Zc) ⊕ ((Int×Jb) ⊕ ((Int×Jb) ⊕ (Zb×Int))))| (g,a)=>bif g<f.Points then loop (ZhI f g) (0,a)else bif (Jk a:Int)>512 then Jg (.inr (.inr (.inr (((Zb.mk ([]:Jb) ([]:List Zc)),5)))))else Jg (.inr (.inr (.inr ((Zb.mk e a,0)))))
def Zh0 (e:Zz):Int×Jb->Jm ((Int×Jb) ⊕ ((Int×Jb) ⊕ (Zb×Int)))| (f,a)=>bif f<(Jk e.Blocks:Int) then(gApp 8 a [1]).bind λg=>Jg (.inl (Y.wrap (f+1),g))else loop (Zfk e a) (0,([]:List Zc))
def Zir (a:Zz):Int×Jb->Jm ((Int×Jb) ⊕ (Zb×Int))| (e,xs)=>bif e<a.Points then(gApp 8 xs [0]).bind λf=>Jg (.inl (Y.wrap (e+1),f))else loop (Zh0 a) (0,xs)
def Zl0 (a:Zz):Jm (Zb×Int):=bif (Y.wrap (a.Points+(Jk a.Blocks:Int)):Int)>64 then Jg (((Zb.mk ([]:Jb) ([]:List Zc)),5))else loop (Zir a) (0,([]:Jb))
def Zfo (k:Zd) (a1 e:Jb):Int×Jb->Jm ((Int×Jb) ⊕ Jb)| (a,xs)=>bif a<(Jk a1:Int) then(gIdx e a).bind λf=>bif f==0 then(gIdx a1 a).bind λg=>(gIdx xs a).bind λl=>Jg (.inl (Y.wrap (a+1),(xs.set a.toNat g)))else(gIdx a1 a).bind λh=>(gIdx e a).bind λi=>(Zc4 k h i 1).bind λj=>(gIdx xs a).bind λo=>Jg (.inl (Y.wrap (a+1),(xs.set a.toNat j)))else Jg (.inr xs)
def ZlA (e:Zd) (a1 f:Jb):Jm Jb:=(gMake 8 (0:Int) (Jk a1:Int) (Jk a1:Int)).bind λa=>loop (Zfo e a1 f) (0,a)
def Zgv (f:ZM) (g:Int) (o r:Ja) (h:Int):Ja×Int->Jm ((Ja×Int) ⊕ ((Ja×Int) ⊕ ((Ja×Int) ⊕ ((Ja×Int) ⊕ Ja))))| (a,e)=>bif e<g then(gIdx o h).bind λi=>(gIdx r e).bind λj=>(ZlA (Zd.mk f.Field.Prime f.Field.Degree f.Field.Poly) i j).bind λk=>(gApp 24 a [k]).bind λl=>Jg (.inl (l,Y.wrap (e+1)))else Jg (.inr (.inl (a,Y.wrap (h+1))))
def Zhn (h:ZM) (a:Int) (e:Ja) (i:Int) (j:Ja):Ja×Int->Jm ((Ja×Int) ⊕ ((Ja×Int) ⊕ ((Ja×Int) ⊕ Ja)))| (f,g)=>bif g<(Jk e:Int) then loop (Zgv h a e j g) (f,0)else Jg (.inr (.inr (.inl (f,Y.wrap (i+1)))))
def Zhe (a:ZM) (e:Int) (l:Ja) (g:Int):Ja×Int->Jm ((Ja×Int) ⊕ ((Ja×Int) ⊕ Ja))| (h,f)=>bif f<e then(gIdx a.Rows g).bind λi=>(Zjt (Zd.mk a.Field.Prime a.Field.Degree a.Field.Poly) i f).bind λj=>(gApp 24 h [j]).bind λk=>Jg (.inl (k,Y.wrap (f+1)))else loop (Zhn a e l g h) (([]:Ja),0)
def Zgl (a:ZM) (e:Int):Ja×Int->Jm ((Ja×Int) ⊕ Ja)| (f,g)=>bif g<(Jk a.Rows:Int) then loop (Zhe a e f g) (([]:Ja),0)else Jg (.inr f)
def Zj3 (a:ZM):Jm Ja:=(gIdx a.Rows 0).bind λe=>(gMake 8 (0:Int) (Jk e:Int) (Jk e:Int)).bind λf=>(ZaH (Zd.mk a.Field.Prime a.Field.Degree a.Field.Poly)).bind λg=>loop (Zgl a g) ([f],0)
def ZfH (h:Jb) (f:Ja) (g:Int):Int×List Zc->Jm ((Int×List Zc) ⊕ ((Int×List Zc) ⊕ ((Int×Jb) ⊕ ((Int×Jb) ⊕ (Zb×Int)))))| (a,e)=>bif a<(Jk f:Int) then(gIdx f a).bind λi=>(gIdx i g).bind λj=>bif j==1 then(gApp 16 e [(Zc.mk g (Y.wrap ((Y.wrap ((Jk h:Int)+a))-1)))]).bind λk=>Jg (.inl (Y.wrap (a+1),k))else Jg (.inl (Y.wrap (a+1),e))else Jg (.inr (.inl (Y.wrap (g+1),e)))
def ZfR (e:Jb) (g:Ja) (f:Jb):Int×List Zc->Jm ((Int×List Zc) ⊕ ((Int×Jb) ⊕ ((Int×Jb) ⊕ (Zb×Int))))| (h,a)=>bif h<(Jk e:Int) then loop (ZfH e g h) (1,a)else bif (Jk a:Int)>512 then Jg (.inr (.inr (.inr (((Zb.mk ([]:Jb) ([]:List Zc)),5)))))else Jg (.inr (.inr (.inr ((Zb.mk f a,0)))))
def ZfD (f:Jb) (e:Ja):Int×Jb->Jm ((Int×Jb) ⊕ ((Int×Jb) ⊕ (Zb×Int)))| (g,a)=>bif g<(Jk e:Int) then(gApp 8 a [1]).bind λh=>Jg (.inl (Y.wrap (g+1),h))else loop (ZfR f e a) (0,([]:List Zc))
def Zfv (a:Jb) (e:Ja):Int×Jb->Jm ((Int×Jb) ⊕ (Zb×Int))| (f,xs)=>bif f<(Jk a:Int) then(gApp 8 xs [0]).bind λg=>Jg (.inl (Y.wrap (f+1),g))else loop (ZfD a e) (1,xs)
def Zhm (a:ZM):Jm (Zb×Int):=(ZaH (Zd.mk a.Field.Prime a.Field.Degree a.Field.Poly)).bind λg=>bif g !=2 then Jg (((Zb.mk ([]:Jb) ([]:List Zc)),6))else(gIdx a.Rows 0).bind λe=>(Zj3 a).bind λf=>bif (Y.wrap ((Y.wrap ((Jk e:Int)+(Jk f:Int)))-1):Int)>64 then Jg (((Zb.mk ([]:Jb) ([]:List Zc)),5))else loop (Zfv e f) (0,([]:Jb))
def ZcC (a:Zf):Jm (Zb×Int):=bif a.Kind==1 then(Ziz a.Rows Jj).bind λf=>Jg ((Zb.mk f.1.Colors f.1.Edges,f.2))else bif a.Kind==2 then(Zl0 (Zz.mk a.Size a.Rows)).bind λg=>Jg ((Zb.mk g.1.Colors g.1.Edges,g.2))else bif a.Kind==5 then(Zbi a).bind λe=>(Zhm (ZM.mk (Zd.mk e.Field.Prime e.Field.Degree e.Field.Poly) e.Rows)).bind λh=>Jg ((Zb.mk h.1.Colors h.1.Edges,h.2))else bif a.Kind==6 then(Zhz a).bind λi=>Jg ((Zb.mk i.1.Colors i.1.Edges,0))else Jg (((Zb.mk ([]:Jb) ([]:List Zc)),6))
def Zma (e:Int):Jm Bool:=(Zac e 1 20000).bind λa=>Jg a
def Ze0 (g:List (List Bool)) (f:Ja) (h:Int):Jb×Int->Jm ((Jb×Int) ⊕ ((Ja×Int) ⊕ Ja))| (a,e)=>bif e<(Jk g:Int) then(gIdx g h).bind λi=>(gIdx i e).bind λj=>bif j then(gApp 8 a [e]).bind λk=>Jg (.inl (k,Y.wrap (e+1)))else Jg (.inl (a,Y.wrap (e+1)))else(gApp 24 f [a]).bind λl=>Jg (.inr (.inl (l,Y.wrap (h+1))))
def ZmQ (e:List (List Bool)):Ja×Int->Jm ((Ja×Int) ⊕ Ja)| (a,f)=>bif f<(Jk e:Int) then loop (Ze0 e a f) (([]:Jb),0)else Jg (.inr a)
def ZnU (a:Zb):Jm Ja:=(Zb4 (Zb.mk a.Colors a.Edges)).bind λe=>loop (ZmQ e) (([]:Ja),0)
def ZnE (a:Jb):Jb×Int->Jm ((Jb×Int) ⊕ Int)| (e,f)=>bif f<(Jk a:Int) then(gIdx a f).bind λg=>(Za3 e g).bind λh=>Jg (.inl (h,Y.wrap (f+1)))else Jg (.inr ((Jk e:Int)))
def ZfZ (a:Jb):Jm Int:=loop (ZnE a) (([]:Jb),0)
def ZpK (k5:Int) (xs:Jb):Jm ((Int×Jb) ⊕ ((Jb×Int) ⊕ Jb)):=(gIdx xs k5).bind λe=>(gIdx xs (Y.wrap (k5-1))).bind λa=>(gIdx xs k5).bind λf=>(gIdx (xs.set k5.toNat a) (Y.wrap (k5-1))).bind λg=>Jg (.inl (Y.wrap (k5-1),((xs.set k5.toNat a).set (Y.wrap (k5-1):Int).toNat e)))
def ZfT (a:Int):Int×Jb->Jm ((Int×Jb) ⊕ ((Jb×Int) ⊕ Jb))| (k5,xs)=>bif k5>0 then(gIdx xs (Y.wrap (k5-1))).bind λe=>(gIdx xs k5).bind λf=>bif e>f then ZpK k5 xs else Jg (.inr (.inl (xs,Y.wrap (a+1))))else Jg (.inr (.inl (xs,Y.wrap (a+1))))
def ZnR (e:Jb):Jb×Int->Jm ((Jb×Int) ⊕ Jb)| (a,f)=>bif f<(Jk e:Int) then(gIdx e f).bind λg=>(gApp 8 a [g]).bind λh=>loop (ZfT f) ((Jk a:Int),h)else Jg (.inr a)
def Zmr (a:Jb):Jm Jb:=loop (ZnR a) (([]:Jb),0)
def Zdl (j:Ja) (f:Int) (e:Ja) (a:Bool):Jm ((Ja×Bool×Int) ⊕ Ja):=(gIdx j f).bind λg=>(gApp 24 e [g]).bind λh=>Jg (.inl (h,a,Y.wrap (f+1)))
def Zds (j:Ja) (x1:Jb) (a:Ja) (e:Bool) (f g:Int) (h:Bool):Jm ((Ja×Bool×Int) ⊕ Ja):=bif h then bif g>0 then(gApp 24 a [x1]).bind λi=>Zdl j f i Ji else Zdl j f a Ji else Zdl j f a e
def Za6 (j:Ja) (x1:Jb):Ja×Bool×Int->Jm ((Ja×Bool×Int) ⊕ Ja)| (e,a,g)=>bif g<(Jk j:Int) then(gIdx j g).bind λh=>(Za0 h x1).bind λf=>bif !a then Zds j x1 e a g f (f>=0)else Zds j x1 e a g f Jj else bif !a then(gApp 24 e [x1]).bind λi=>Jg (.inr i)else Jg (.inr e)
def Zsg (e:Ja) (x1:Jb):Jm Ja:=loop (Za6 e x1) (([]:Ja),Jj,0)
def Zid (f:Ja) (g:Jb) (w:Ja) (a:Int):Jb×Int->Jm ((Jb×Int) ⊕ ((Ja×Int) ⊕ Jb))| (h,e)=>(gIdx f a).bind λi=>bif e<(Jk i:Int) then(gIdx f a).bind λj=>(gIdx j e).bind λk=>(gIdx g k).bind λl=>(gApp 8 h [l]).bind λo=>Jg (.inl (o,Y.wrap (e+1)))else(gIdx g a).bind λr=>(Zmr h).bind λs=>(gApp 8 ([r]:Jb) s).bind λu=>(gApp 24 w [u]).bind λv=>Jg (.inr (.inl (v,Y.wrap (a+1))))
def Ze8 (l f:Ja) (g:Int):Jb×Int->Jm ((Jb×Int) ⊕ ((Jb×Int) ⊕ ((Ja×Int) ⊕ ((Ja×Int) ⊕ Jb))))| (a,e)=>bif e<(Jk f:Int) then(gIdx f e).bind λh=>(gIdx l g).bind λi=>(Za0 h i).bind λj=>bif j==0 then(gApp 8 a [e]).bind λk=>Jg (.inl (k,Y.wrap (e+1)))else Jg (.inl (a,Y.wrap (e+1)))else Jg (.inr (.inl (a,Y.wrap (g+1))))
def Zjr (g h f:Ja):Jb×Int->Jm ((Jb×Int) ⊕ ((Ja×Int) ⊕ ((Ja×Int) ⊕ Jb)))| (a,e)=>bif e<(Jk g:Int) then loop (Ze8 h f e) (a,0)else Jg (.inr (.inr (.inr a)))
def ZhR (f g:Ja):Ja×Int->Jm ((Ja×Int) ⊕ ((Ja×Int) ⊕ Jb))| (e,a)=>bif a<(Jk f:Int) then(gIdx g a).bind λh=>(Zsg e h).bind λi=>Jg (.inl (i,Y.wrap (a+1)))else loop (Zjr f g e) (([]:Jb),0)
def ZmA (a:Ja) (g:Jb):Ja×Int->Jm ((Ja×Int) ⊕ Jb)| (e,f)=>bif f<(Jk a:Int) then loop (Zid a g e f) (([]:Jb),0)else loop (ZhR a e) (([]:Ja),0)
def Zjg (a:Ja) (e:Jb):Jm Jb:=loop (ZmA a e) (([]:Ja),0)
def Ze7 (e:Ja):Int×Jb->Jm ((Int×Jb) ⊕ Jb)| (f,a)=>(ZfZ a).bind λg=>bif g>f then(ZfZ a).bind λh=>(Zjg e a).bind λi=>Jg (.inl (h,i))else Jg (.inr a)
def Zgy (a:Ja) (g:Jb):Jm Jb:=(ZfZ g).bind λr8=>(Zjg a g).bind λe=>loop (Ze7 a) (r8,e)
def ZcP (j:Jb) (h a e:Int) (f:Bool):Jm ((Int×Int) ⊕ ((Int×Int) ⊕ Int)):=bif f then(gIdx j h).bind λg=>Jg (.inl (g,Y.wrap (e+1)))else Jg (.inl (a,Y.wrap (e+1)))
def ZcU (j:Jb) (e:Int):Int×Int->Jm ((Int×Int) ⊕ ((Int×Int) ⊕ Int))| (a,f)=>bif f<e then(gIdx j e).bind λg=>(gIdx j f).bind λh=>bif g==h then bif a<0 then ZcP j e a f Ji else(gIdx j e).bind λi=>ZcP j e a f (i<a)else ZcP j e a f Jj else Jg (.inr (.inl (a,Y.wrap (e+1))))
def ZjT (g:Jb):Int×Int->Jm ((Int×Int) ⊕ Int)| (a,e)=>bif e<(Jk g:Int) then loop (ZcU g e) (a,0)else Jg (.inr a)
def Zj8 (e:Jb):Jm Int:=loop (ZjT e) ((-1),0)
def ZgW (s:Zb) (i xs:Jb):Int×List (List Bool)->Jm ((Int×List (List Bool)) ⊕ ((Int×Jb) ⊕ Zb))| (r,a)=>bif r<(Jk s.Edges:Int) then(gIdx s.Edges r).bind λe=>(gIdx i e.A).bind λf=>(gIdx a f).bind λg=>(gIdx i e.B).bind λh=>(gIdx g h).bind λu=>(gIdx i e.B).bind λj=>(gIdx (a.set f.toNat (g.set h.toNat Ji)) j).bind λk=>(gIdx i e.A).bind λl=>(gIdx k l).bind λv=>Jg (.inl (Y.wrap (r+1),((a.set f.toNat (g.set h.toNat Ji)).set j.toNat (k.set l.toNat Ji))))else(Zez xs a).bind λo=>Jg (.inr (.inr (Zb.mk o.Colors o.Edges)))
def Zob (g:Zb) (f:Jb):Int×Jb->Jm ((Int×Jb) ⊕ Zb)| (a,xs)=>bif a<(Jk f:Int) then(gIdx f a).bind λe=>(gIdx g.Colors a).bind λh=>(gIdx xs e).bind λj=>Jg (.inl (Y.wrap (a+1),(xs.set e.toNat h)))else(Zb4 (Zb.mk xs ([]:List Zc))).bind λi=>loop (ZgW g f xs) (0,i)
def Zjx (f:Zb) (a:Jb):Jm Zb:=(gMake 8 (0:Int) (Jk a:Int) (Jk a:Int)).bind λe=>loop (Zob f a) (0,e)
def ZkS (f:Zb):Jb×Int->Jm ((Jb×Int) ⊕ Jb)| (a,e)=>bif e<(Jk f.Edges:Int) then(gIdx f.Edges e).bind λg=>(gIdx f.Edges e).bind λh=>(gApp 8 a ([g.A,h.B]:Jb)).bind λi=>Jg (.inl (i,Y.wrap (e+1)))else Jg (.inr a)
def Zjl (a:Zb):Jm Jb:=loop (ZkS a) (([]:Jb),0)
def ZhY (e h1:Zb):Jm Int:=(Za0 e.Colors h1.Colors).bind λa=>bif a !=0 then Jg (a)else(Zjl (Zb.mk e.Colors e.Edges)).bind λf=>(Zjl (Zb.mk h1.Colors h1.Edges)).bind λg=>(Za0 f g).bind λh=>Jg h
def Zd0 (a:ZH) (i:Jb) (j:Int) (xs:Jb) (e:List Zc) (f:Ja):Jm (ZH):=bif j<=0 then(ZaD i).bind λg=>(gApp 24 f [g]).bind λh=>Jg ((ZH.mk (Zb.mk a.qg.Colors a.qg.Edges) a.qnear (Zb.mk xs e) h a.qnodes (Y.wrap (a.qleaves+1)) a.qbudget a.qfull))else Jg ((ZH.mk (Zb.mk a.qg.Colors a.qg.Edges) a.qnear (Zb.mk xs e) f a.qnodes (Y.wrap (a.qleaves+1)) a.qbudget a.qfull))
def ZdF (a:ZH) (g:Jb) (e:Zb) (f:Int):Jm (ZH):=bif f<0 then Zd0 a g f e.Colors e.Edges ([]:Ja)else Zd0 a g f a.qbest.Colors a.qbest.Edges a.qperms
def ZhU (f:Jb) (g e:Int):Jm ((Jb×Int) ⊕ ((Int×Int×Int×Int×Bool×Jb×List Zc×Ja) ⊕ ZH)):=(gApp 8 f [e]).bind λa=>Jg (.inl (a,Y.wrap (g+1)))
def Zdb (w:ZH->Jb->Jm ZH) (g:ZH) (o:Jb) (r q s u:Int) (h:Jb) (i:List Zc) (j:Ja) (v:Bool):Jb×Int->Jm ((Jb×Int) ⊕ ((Int×Int×Int×Int×Bool×Jb×List Zc×Ja) ⊕ ZH))| (k,e)=>bif e<(Jk o:Int) then(gIdx o e).bind λf=>bif e==r then ZhU k e (Y.wrap ((Y.wrap ((Y.wrap (2*f))+1))-1))else ZhU k e (Y.wrap ((Y.wrap (2*f))+1))else(Zgy g.qnear k).bind λl=>(w (ZH.mk (Zb.mk g.qg.Colors g.qg.Edges) g.qnear (Zb.mk h i) j (Y.wrap (q+1)) s u v) l).bind λa=>Jg (.inr (.inl (Y.wrap (r+1),a.qnodes,a.qleaves,a.qbudget,a.qfull,a.qbest.Colors,a.qbest.Edges,a.qperms)))
def ZeG (o:ZH->Jb->Jm ZH) (h:ZH) (k:Jb) (l q i j:Int) (a:Jb) (e:List Zc) (f:Ja) (g:Bool):Jm ((Int×Int×Int×Int×Bool×Jb×List Zc×Ja) ⊕ ZH):=bif g then Jg (.inr ((ZH.mk (Zb.mk h.qg.Colors h.qg.Edges) h.qnear (Zb.mk a e) f q i j g)))else loop (Zdb o h k l q i j a e f g) (([]:Jb),0)
def Zbz (u:ZH->Jb->Jm ZH) (i:ZH) (l:Jb) (o:Int):Int×Int×Int×Int×Bool×Jb×List Zc×Ja->Jm ((Int×Int×Int×Int×Bool×Jb×List Zc×Ja) ⊕ ZH)| (j,q,h,g,k,a,e,f)=>bif j<(Jk l:Int) then(gIdx l j).bind λr=>bif r !=o then Jg (.inl (Y.wrap (j+1),q,h,g,k,a,e,f))else bif q==g then ZeG u i l j q h g a e f Ji else ZeG u i l j q h g a e f k else Jg (.inr ((ZH.mk (Zb.mk i.qg.Colors i.qg.Edges) i.qnear (Zb.mk a e) f q h g k)))
def q_spec_l22Find_run (j:ZH->Jb->Jm ZH) (a:ZH) (f:Jb):Jm ZH:=(Zj8 f).bind λg=>bif g<0 then(Zjx (Zb.mk a.qg.Colors a.qg.Edges) f).bind λe=>bif (Jk a.qperms:Int)>0 then(ZhY (Zb.mk e.Colors e.Edges) (Zb.mk a.qbest.Colors a.qbest.Edges)).bind λh=>ZdF a f e h else ZdF a f e (-1)else loop (Zbz j a f g) (0,a.qnodes,a.qleaves,a.qbudget,a.qfull,a.qbest.Colors,a.qbest.Edges,a.qperms)
def pn_spec_l22Find_run:Nat->(ZH->Jb->Jm ZH)| 0=>(λ_ _=>Jh)| n+1=>q_spec_l22Find_run (pn_spec_l22Find_run n)
def Zra:ZH->Jb->Jm ZH:=(pn_spec_l22Find_run fuel)
def ZpN (e:Zb) (g:Int):Jm ZH:=(ZnU (Zb.mk e.Colors e.Edges)).bind λr8=>(Zgy r8 e.Colors).bind λf=>(Zra (ZH.mk (Zb.mk e.Colors e.Edges) r8 (Zb.mk ([]:Jb) ([]:List Zc)) ([]:Ja) 0 0 g Jj) f).bind λa=>Jg ((ZH.mk (Zb.mk e.Colors e.Edges) r8 (Zb.mk a.qbest.Colors a.qbest.Edges) a.qperms a.qnodes a.qleaves a.qbudget a.qfull))
def Zmo (e:Zb) (g:Int):Jm (ZH×Int):=(ZfN (Zb.mk e.Colors e.Edges)).bind λr8=>bif !r8 then Jg (((ZH.mk (Zb.mk ([]:Jb) ([]:List Zc)) ([]:Ja) (Zb.mk ([]:Jb) ([]:List Zc)) ([]:Ja) 0 0 0 Jj),1))else(Zma g).bind λf=>bif !f then Jg (((ZH.mk (Zb.mk ([]:Jb) ([]:List Zc)) ([]:Ja) (Zb.mk ([]:Jb) ([]:List Zc)) ([]:Ja) 0 0 0 Jj),2))else(ZpN (Zb.mk e.Colors e.Edges) g).bind λa=>bif a.qfull then Jg (((ZH.mk (Zb.mk ([]:Jb) ([]:List Zc)) ([]:Ja) (Zb.mk ([]:Jb) ([]:List Zc)) ([]:Ja) 0 0 0 Jj),5))else Jg (((ZH.mk (Zb.mk a.qg.Colors a.qg.Edges) a.qnear (Zb.mk a.qbest.Colors a.qbest.Edges) a.qperms a.qnodes a.qleaves a.qbudget a.qfull),0))
def ZhH (a:Jb) (k4 f:Int):Jm ((Jb×Int) ⊕ Jd):=(gApp 1 ([IntKind.u8.wrap (Y.wrap (48+f))]:Jb) a).bind λe=>(gNz 10).bind λ_=>Jg (.inl (e,Y.wrap (Jw k4 10)))
def ZbP (n0:Int):Jb×Int->Jm ((Jb×Int) ⊕ Jd)| (a,k4)=>bif k4 !=0 then(gNz 10).bind λ_=>bif (Jq k4 10:Int)<0 then ZhH a k4 (Y.wrap (0-(Jq k4 10)))else ZhH a k4 (Jq k4 10)else bif (Jk a:Int)==0 then Jg (.inr (⟨#[48]⟩))else bif n0<0 then(gByt a).bind λe=>(gFit (⟨#[45]⟩:Jd) e).bind λ_=>Jg (.inr ((⟨#[45]⟩:Jd)++e))else(gByt a).bind λf=>Jg (.inr f)
def Zck (n0:Int):Jm Jd:=loop (ZbP n0) (([]:Jb),n0)
def ZhE (e:Jb) (g:Int) (a:Jd):Jm ((Jd×Int) ⊕ Jd):=(gIdx e g).bind λh=>(Zck h).bind λf=>(gFit a f).bind λ_=>Jg (.inl (a++f,Y.wrap (g+1)))
def ZdU (a:Jb):Jd×Int->Jm ((Jd×Int) ⊕ Jd)| (e,f)=>bif f<(Jk a:Int) then(gIdx a f).bind λg=>(Zac g (-999999999) 999999999).bind λh=>bif !h then Jg (.inr (⟨#[]⟩))else bif f>0 then(gFit e (⟨#[44]⟩:Jd)).bind λ_=>ZhE a f (e++(⟨#[44]⟩:Jd))else ZhE a f e else Jg (.inr e)
def ZgR (a:Jb):Jm Jd:=bif (Jk a:Int)>100 then Jg (⟨#[]⟩)else bif (Jk a:Int)==0 then Jg (⟨#[45]⟩)else loop (ZdU a) (⟨#[]⟩,0)
def ZgB (h:Zb) (g:Int) (a:Jd):Jm ((Jd×Int) ⊕ Jd):=(gIdx h.Edges g).bind λi=>(Zck i.A).bind λe=>(gIdx h.Edges g).bind λj=>(Zck j.B).bind λf=>(gFit e (⟨#[45]⟩:Jd)).bind λ_=>(gFit (e++(⟨#[45]⟩:Jd):Jd) f).bind λ_=>(gFit a ((e++(⟨#[45]⟩:Jd):Jd)++f:Jd)).bind λ_=>Jg (.inl (a++((e++(⟨#[45]⟩:Jd):Jd)++f:Jd),Y.wrap (g+1)))
def Zge (f:Zb):Jd×Int->Jm ((Jd×Int) ⊕ Jd)| (a,e)=>bif e<(Jk f.Edges:Int) then bif e>0 then(gFit a (⟨#[44]⟩:Jd)).bind λ_=>ZgB f e (a++(⟨#[44]⟩:Jd))else ZgB f e a else Jg (.inr a)
def ZlL (a:Zb):Jm Jd:=(ZgR a.Colors).bind λe=>(gFit e (⟨#[59]⟩:Jd)).bind λ_=>loop (Zge a) (e++(⟨#[59]⟩:Jd),0)
def ZeU (e:Zb) (g:Int):Jm (Jd×Int):=(Zmo (Zb.mk e.Colors e.Edges) g).bind λa=>bif a.2 !=0 then Jg ((⟨#[]⟩,a.2))else(ZlL (Zb.mk a.1.qbest.Colors a.1.qbest.Edges)).bind λf=>Jg ((f,0))
def Zlj (e:Zf) (h:Int):Jm (Jd×Int):=(Zat (Zf.mk e.Kind e.Size e.Rows)).bind λr8=>bif !r8 then Jg ((⟨#[]⟩,1))else(Zac h 1 20000).bind λg=>bif !g then Jg ((⟨#[]⟩,2))else(ZcC (Zf.mk e.Kind e.Size e.Rows)).bind λa=>bif a.2 !=0 then Jg ((⟨#[]⟩,a.2))else(ZeU (Zb.mk a.1.Colors a.1.Edges) h).bind λf=>Jg ((f.1,f.2))
def ZjN (e:Zf) (g:Int):Jm (Jd×Int):=(Zlj e g).bind λa=>bif a.2 !=0 then Jg ((⟨#[]⟩,a.2))else bif (a.1.size:Int)>4000 then Jg ((⟨#[]⟩,5))else Jg ((a.1,0))
def Zdw (e:ZA) (a:Jd):Int->Jm (Int ⊕ Int)| i5=>bif i5<(Jk e.Items:Int) then(gIdx e.Items i5).bind λf=>bif f.Name.toList==a.toList then Jg (.inr i5)else Jg (.inl (Y.wrap (i5+1)))else Jg (.inr ((-1)))
def Zmu (e:ZA) (a:Jd):Jm Int:=loop (Zdw e a) 0
def ZeC (x0:Zh):Jm Zh:=(Zf5 x0.Object.Rows).bind λa=>Jg ((Zh.mk x0.Name (Zf.mk x0.Object.Kind x0.Object.Size a) x0.Key))
def Zfh (j:ZA) (f:Int) (a:Bool) (e:List Zh):Jm ((Bool×Int×List Zh) ⊕ (ZA×Int)):=(gIdx j.Items f).bind λg=>(ZeC g).bind λh=>(gApp 72 e [h]).bind λi=>Jg (.inl (a,Y.wrap (f+1),i))
def Zfi (a:ZA) (i:Zh) (j:Bool) (e:Int) (xs:List Zh) (f:Bool):Jm ((Bool×Int×List Zh) ⊕ (ZA×Int)):=bif f then(ZeC i).bind λg=>(gApp 72 xs [g]).bind λh=>Zfh a e Ji h else Zfh a e j xs
def Zfl (a:List Zh):Jm ((Bool×Int×List Zh) ⊕ (ZA×Int)):=bif (Jk a:Int)>24 then Jg (.inr (((ZA.mk ([]:List Zh)),5)))else Jg (.inr ((ZA.mk a,0)))
def Zbo (e:ZA) (a:Zh):Bool×Int×List Zh->Jm ((Bool×Int×List Zh) ⊕ (ZA×Int))| (g,f,xs)=>bif f<(Jk e.Items:Int) then(gIdx e.Items f).bind λi=>(Zgi i a).bind λj=>bif j then Jg (.inr (((ZA.mk ([]:List Zh)),6)))else bif !g then(gIdx e.Items f).bind λh=>Zfi e a g f xs (!(Op.bytesLess h.Name.toList (a.Name.toList)||h.Name.toList==a.Name.toList))else Zfi e a g f xs Jj else bif !g then(ZeC a).bind λk=>(gApp 72 xs [k]).bind λl=>Zfl l else Zfl xs
def ZeZ (a:ZA) (e:Zh):Jm (ZA×Int):=(Zmu a e.Name).bind λf=>bif f>=0 then Jg (((ZA.mk ([]:List Zh)),4))else loop (Zbo a e) (Jj,0,([]:List Zh))
def ZdM (h:ZA) (f:Jd) (a:Zf) (j:Int):Jm (ZA×Int):=(ZjN (Zf.mk a.Kind a.Size a.Rows) j).bind λe=>bif e.2 !=0 then Jg (((ZA.mk ([]:List Zh)),e.2))else(ZeZ (ZA.mk h.Items) (Zh.mk f (Zf.mk a.Kind a.Size a.Rows) e.1)).bind λg=>Jg ((ZA.mk g.1.Items,g.2))
def ZhS (f:ZA) (a:Jd) (e:Zf) (j:Int):Jm (ZA×Int):=(Zjv (ZA.mk f.Items)).bind λg=>bif !g then Jg (((ZA.mk ([]:List Zh)),1))else(ZiW a).bind λh=>bif !h then Jg (((ZA.mk ([]:List Zh)),1))else(Zat (Zf.mk e.Kind e.Size e.Rows)).bind λi=>bif !i then Jg (((ZA.mk ([]:List Zh)),1))else ZdM f a e j
def ZqB (h:Za):Int×Int×Int×List Zh->Jm ((Int×Int×Int×List Zh) ⊕ (ZA×Za))| (k4,q,f,xs)=>bif k4>0 then(Zla (Za.mk h.qcode q f) ([⟨#[97]⟩,⟨#[98,55]⟩,⟨#[102,97,110,111]⟩,⟨#[122,101,114,111]⟩,⟨#[109]⟩,⟨#[99,121,99]⟩]:List Jd)).bind λe=>(ZkN (Za.mk h.qcode e.2.qat e.2.qseed)).bind λa=>(ZhS (ZA.mk xs) e.1 (Zf.mk a.1.Kind a.1.Size a.1.Rows) 250).bind λg=>bif g.2==0 then Jg (.inl (Y.wrap (k4-1),a.2.qat,a.2.qseed,g.1.Items))else Jg (.inl (Y.wrap (k4-1),a.2.qat,a.2.qseed,xs))else Jg (.inr ((ZA.mk xs,Za.mk h.qcode q f)))
def Zn7 (e:Za):Jm (ZA×Za):=(ZG (Za.mk e.qcode e.qat e.qseed) 6).bind λa=>loop (ZqB e) (a.1,a.2.qat,a.2.qseed,([]:List Zh))
def ZlW (a:Jb):Jm ZA:=(Zpw a).bind λe=>(Zn7 (Za.mk e.qcode e.qat e.qseed)).bind λf=>Jg (ZA.mk f.1.Items)
def Zlk:Jm (List Jd):=Jg (([⟨#[]⟩,⟨#[115,113,117,97,114,101]⟩,⟨#[100,101,115,105,103,110]⟩,⟨#[104,97,100,97,109,97,114,100]⟩,⟨#[97,114,114,97,121]⟩,⟨#[99,111,100,101]⟩,⟨#[103,114,97,112,104]⟩,⟨#[103,114,111,117,112]⟩]:List Jd))
def Zgg (h:Zf) (f:Int) (a:Jd):Jm ((Jd×Int) ⊕ Jd):=(gIdx h.Rows f).bind λg=>(ZgR g).bind λe=>(gFit a e).bind λ_=>Jg (.inl (a++e,Y.wrap (f+1)))
def Zc9 (f:Zf):Jd×Int->Jm ((Jd×Int) ⊕ Jd)| (a,e)=>bif e<(Jk f.Rows:Int) then bif e>0 then(gFit a (⟨#[47]⟩:Jd)).bind λ_=>Zgg f e (a++(⟨#[47]⟩:Jd))else Zgg f e a else Jg (.inr a)
def Zj0 (f:Zf):Jm Jd:=(Zlk).bind λg=>(gIdx g f.Kind).bind λa=>(Zck f.Size).bind λe=>(gFit a (⟨#[32]⟩:Jd)).bind λ_=>(gFit (a++(⟨#[32]⟩:Jd):Jd) e).bind λ_=>(gFit ((a++(⟨#[32]⟩:Jd):Jd)++e:Jd) (⟨#[32]⟩:Jd)).bind λ_=>bif (Jk f.Rows:Int)==0 then(gFit (((a++(⟨#[32]⟩:Jd):Jd)++e:Jd)++(⟨#[32]⟩:Jd):Jd) (⟨#[110,111,110,101]⟩:Jd)).bind λ_=>Jg ((((a++(⟨#[32]⟩:Jd):Jd)++e:Jd)++(⟨#[32]⟩:Jd):Jd)++(⟨#[110,111,110,101]⟩:Jd))else loop (Zc9 f) (((a++(⟨#[32]⟩:Jd):Jd)++e:Jd)++(⟨#[32]⟩:Jd),0)
def ZdP (i5:Int):Int×Int->Jm ((Int×Int) ⊕ ((Int×Int) ⊕ Int))| (a,k6)=>bif k6<8 then(gNn 1).bind λ_=>bif a>=32768 then Jg (.inl (Y.wrap ((BitVec.ofInt IntKind.i64.bits (Y.wrap ((BitVec.ofInt IntKind.i64.bits (Y.wrap (a*2^min (1:Int).toNat IntKind.i64.bits))&&&BitVec.ofInt IntKind.i64.bits 65535).toNat:Int))^^^BitVec.ofInt IntKind.i64.bits 4129).toNat:Int),Y.wrap (k6+1)))else Jg (.inl (Y.wrap ((BitVec.ofInt IntKind.i64.bits (Y.wrap (a*2^min (1:Int).toNat IntKind.i64.bits))&&&BitVec.ofInt IntKind.i64.bits 65535).toNat:Int),Y.wrap (k6+1)))else Jg (.inr (.inl (a,Y.wrap (i5+1))))
def ZnG (e:Jd):Int×Int->Jm ((Int×Int) ⊕ Int)| (a,i5)=>bif i5<(e.size:Int) then(gSt e i5).bind λf=>(gNn 8).bind λ_=>loop (ZdP i5) (Y.wrap ((BitVec.ofInt IntKind.i64.bits a^^^BitVec.ofInt IntKind.i64.bits (Y.wrap ((Y.wrap (f.toNat:Int))*2^min (8:Int).toNat IntKind.i64.bits))).toNat:Int),0)else Jg (.inr a)
def Zgs (a:Jd) (x1:Int):Jm Int:=loop (ZnG a) (x1,0)
def Znr (x0:Zh):Jm Jd:=(Zj0 (Zf.mk x0.Object.Kind x0.Object.Size x0.Object.Rows)).bind λa=>(gFit x0.Name (⟨#[32]⟩:Jd)).bind λ_=>(gFit (x0.Name++(⟨#[32]⟩:Jd):Jd) a).bind λ_=>(gFit ((x0.Name++(⟨#[32]⟩:Jd):Jd)++a:Jd) (⟨#[32]⟩:Jd)).bind λ_=>(Zgs ((x0.Name++(⟨#[32]⟩:Jd):Jd)++a) 65535).bind λf=>(Zck f).bind λe=>(gFit (((x0.Name++(⟨#[32]⟩:Jd):Jd)++a:Jd)++(⟨#[32]⟩:Jd):Jd) e).bind λ_=>Jg ((((x0.Name++(⟨#[32]⟩:Jd):Jd)++a:Jd)++(⟨#[32]⟩:Jd):Jd)++e)
def ZkP (g:ZA):Jd×Int->Jm ((Jd×Int) ⊕ Jd)| (a,f)=>bif f<(Jk g.Items:Int) then(gIdx g.Items f).bind λh=>(Znr h).bind λe=>(gFit e (⟨#[10]⟩:Jd)).bind λ_=>(gFit a (e++(⟨#[10]⟩:Jd):Jd)).bind λ_=>Jg (.inl (a++(e++(⟨#[10]⟩:Jd):Jd),Y.wrap (f+1)))else Jg (.inr a)
def Znv (e:ZA):Jm Jd:=(Zck (Jk e.Items:Int)).bind λa=>(gFit (⟨#[99,97,116,97,108,111,103,32]⟩:Jd) a).bind λ_=>(gFit ((⟨#[99,97,116,97,108,111,103,32]⟩:Jd)++a:Jd) (⟨#[10]⟩:Jd)).bind λ_=>loop (ZkP e) (((⟨#[99,97,116,97,108,111,103,32]⟩:Jd)++a:Jd)++(⟨#[10]⟩:Jd),0)
def Zia (a:ZA):Jm (Jd×Int):=(Zjv (ZA.mk a.Items)).bind λe=>bif !e then Jg ((⟨#[]⟩,1))else(Znv (ZA.mk a.Items)).bind λf=>Jg ((f,0))
def ZqI (a:Jb) (k1 n2:Int):Jm (Int):=(gIdx a k1).bind λe=>(gNz n2).bind λ_=>Jg (Jq (Y.wrap e) n2)
def Zfj (a:Jb) (k1 n2:Int):Jm Int:=bif n2<=1 then Jg (0)else bif k1>=(Jk a:Int) then Jg (0)else ZqI a k1 n2
def ZV (n0 e a:Int):Jm Bool:=bif n0>=e then Jg (n0<=a)else Jg Jj
def ZfC (n0:Int):Jm Bool:=(ZV n0 1 20000).bind λa=>Jg a
def Zd4 (a g:Jd):Jm Bool:=bif (a.size:Int)>=(g.size:Int) then(gStSl a (Y.wrap ((a.size:Int)-(g.size:Int))) a.size).bind λe=>Jg (e.toList==g.toList)else Jg Jj
def Zg9 (a g:Jd):Jm Bool:=(Zd4 a g).bind λe=>Jg e
def Zbb (e a:Jd):Jm (List Jd):=if e.size<4294967281/\1<=a.size then Jg (Go.Lib.splitB a 0 (Go.Lib.countB e a) e) else Jh
def Zp8 (a g:Jd):Jm Jd:=(Zd4 a g).bind λf=>bif f then(gStSl a 0 (Y.wrap ((a.size:Int)-(g.size:Int)))).bind λe=>Jg (e)else Jg a
def Zlg (a g:Jd):Jm Jd:=(Zp8 a g).bind λe=>Jg e
def ZnB (a g:Jd):Jm Bool:=bif (a.size:Int)>=(g.size:Int) then(gStSl a 0 (g.size:Int)).bind λe=>Jg (e.toList==g.toList)else Jg Jj
def ZnC (a g:Jd):Jm Jd:=(ZnB a g).bind λf=>bif f then(gStSl a (g.size:Int) a.size).bind λe=>Jg (e)else Jg a
def ZcB (a g:Jd):Jm Jd:=(ZnC a g).bind λe=>Jg e
def Zke (e a:Int):Jm Jd:=if a=10/\-9223372036854775808<=e/\e<=9223372036854775807 then Jg (itoaB e) else Jh
def ZbE (n0:Int):Jm Jd:=(Zke n0 10).bind λa=>Jg a
def Zer (e:Jd):Jm Int->Jm (Int×Bool)| none=>Jg (0,Jj)| some n=>(ZbE n).bind λa=>bif !(a.toList==e.toList) then Jg (0,Jj)else Jg (n,Ji)
def Zem (a:Jd):Jm (Int×Bool):=(ZcB a ⟨#[45]⟩).bind λr8=>bif (r8.size:Int)<1 then Jg (0,Jj)else bif (r8.size:Int)>18 then Jg (0,Jj)else(gPars a).bind λq=>Zer a q
def Zg4 (a:List Jd):Jm Int:=Jg ((Jk a:Int))
def Zep (a:List Jd) (e:Int×Bool) (f:Bool):Jm ((List Jd)×Int):=bif f then Jg ((([]:List Jd),9))else(Zg4 a).bind λg=>bif (Y.wrap (g-1):Int)<e.1 then Jg ((([]:List Jd),11))else(Zg4 a).bind λh=>bif (Y.wrap (h-1):Int)>e.1 then Jg ((([]:List Jd),9))else(gSl a 1 (Jk a:Int)).bind λi=>Jg ((i,0))
def ZbJ (g:Jd):Jm ((List Jd)×Int):=(Zg9 g ⟨#[10]⟩).bind λr8=>bif !r8 then Jg ((([]:List Jd),11))else(Zlg g ⟨#[10]⟩).bind λh=>(Zbb h ⟨#[10]⟩).bind λe=>(gIdx e 0).bind λi=>(ZcB i ⟨#[99,97,116,97,108,111,103,32]⟩).bind λj=>(Zem j).bind λa=>bif !a.2 then Zep e a Ji else(ZV a.1 0 24).bind λk=>bif !k then Zep e a Ji else(ZbE a.1).bind λf=>(gIdx e 0).bind λl=>(gFit (⟨#[99,97,116,97,108,111,103,32]⟩:Jd) f).bind λ_=>Zep e a (!(l.toList==((⟨#[99,97,116,97,108,111,103,32]⟩:Jd)++f:Jd).toList))
def ZfS (e:Jd) (c1:Int):Int->Jm (Int ⊕ Int)| i5=>bif i5>=0 then(gSt e i5).bind λa=>bif (a.toNat:Int)==c1 then Jg (.inr i5)else Jg (.inl (Y.wrap (i5-1)))else Jg (.inr ((-1)))
def Zm9 (a:Jd) (c1:Int):Jm Int:=loop (ZfS a c1) (Y.wrap ((a.size:Int)-1))
def Zfg (a:Jd) (c1:Int):Jm Int:=(Zm9 a c1).bind λe=>Jg e
def ZdG (f:Int):Int×Int->Jm ((Int×Int) ⊕ ((Int×Int) ⊕ Int))| (a,e)=>bif e<8 then(gNn 1).bind λ_=>bif (Y.wrap (a*2^min (1:Int).toNat IntKind.i64.bits):Int)>=65536 then Jg (.inl (Y.wrap ((BitVec.ofInt IntKind.i64.bits (Y.wrap ((BitVec.ofInt IntKind.i64.bits (Y.wrap (a*2^min (1:Int).toNat IntKind.i64.bits))^^^BitVec.ofInt IntKind.i64.bits 4129).toNat:Int))&&&BitVec.ofInt IntKind.i64.bits 65535).toNat:Int),Y.wrap (e+1)))else Jg (.inl (Y.wrap (a*2^min (1:Int).toNat IntKind.i64.bits),Y.wrap (e+1)))else Jg (.inr (.inl (a,Y.wrap (f+1))))
def Zon (f:Jd):Int×Int->Jm ((Int×Int) ⊕ Int)| (a,e)=>bif e<((byts f).length:Int) then(gIdx (byts f) e).bind λg=>(gNn 8).bind λ_=>loop (ZdG e) (Y.wrap ((BitVec.ofInt IntKind.i64.bits a^^^BitVec.ofInt IntKind.i64.bits (Y.wrap ((Y.wrap g)*2^min (8:Int).toNat IntKind.i64.bits))).toNat:Int),0)else Jg (.inr a)
def Ze1 (a:Jd) (g:Int):Jm Int:=(ZV g 0 65535).bind λe=>bif !e then Jg (0)else loop (Zon a) (g,0)
def Zg1 (e a:Jd):Jm (Jd×Jd×Bool):=if e.size<4294967281 then Jg (cut3 e a) else Jh
def Zhs (e:List Jd) (v1:Jd):Int->Jm (Int ⊕ Int)| a=>bif a<(Jk e:Int) then(gIdx e a).bind λf=>bif v1.toList==f.toList then Jg (.inr a)else Jg (.inl (Y.wrap (a+1)))else Jg (.inr ((-1)))
def Zp5 (a:List Jd) (v1:Jd):Jm Int:=loop (Zhs a v1) 0
def Zih:Jm (List Jd):=Jg (([⟨#[115,113,117,97,114,101]⟩,⟨#[100,101,115,105,103,110]⟩,⟨#[104,97,100,97,109,97,114,100]⟩,⟨#[97,114,114,97,121]⟩,⟨#[99,111,100,101]⟩,⟨#[103,114,97,112,104]⟩,⟨#[103,114,111,117,112]⟩]:List Jd))
def Zg8 (e:Jd):Jm (Int×Bool):=(Zih).bind λf=>(Zp5 f e).bind λa=>Jg ((Y.wrap (a+1),decide (a>=0)))
def Zeu (x0:List Jd) (s1:Jd):Jm Jd:=if (Jk x0)<=140737488355328/\(joinB x0 s1).size<=140737488355328 then Jg (joinB x0 s1) else Jh
def Zfs (e:Jb) (f:Int->Jm Bool):Int->Jm (Int ⊕ Int)| a=>bif a<(Jk e:Int) then(gIdx e a).bind λg=>(f g).bind λh=>bif h then Jg (.inr a)else Jg (.inl (Y.wrap (a+1)))else Jg (.inr ((-1)))
def Zn8 (e:Jb) (a:Int->Jm Bool):Jm Int:=loop (Zfs e a) 0
def ZaX (e:Jb) (a:Int->Jm Bool):Jm Bool:=(Zn8 e a).bind λf=>Jg (f>=0)
def Zfd (n0:Int):Jm Bool:=(ZV n0 (-999999999) 999999999).bind λa=>Jg (!a)
def Zjy (a:Jb):List Jd×Int->Jm ((List Jd×Int) ⊕ Jd)| (words3,e)=>bif e<(Jk a:Int) then(gIdx a e).bind λf=>(ZbE f).bind λg=>(gApp 16 words3 [g]).bind λh=>Jg (.inl (h,Y.wrap (e+1)))else(Zeu words3 ⟨#[44]⟩).bind λi=>Jg (.inr i)
def ZnT (a:Jb):Jm Jd:=bif (Jk a:Int)==0 then Jg (⟨#[45]⟩)else loop (Zjy a) (([]:List Jd),0)
def ZeN (a:Jb):Jm Jd:=bif (Jk a:Int)>100 then Jg (⟨#[]⟩)else(ZaX a (λf=>Zfd f)).bind λe=>bif e then Jg (⟨#[]⟩)else ZnT a
def ZfV (k:Jd) (f:List Jd):Jb×Int->Jm ((Jb×Int) ⊕ (Jb×Bool))| (a,e)=>bif e<(Jk f:Int) then(gIdx f e).bind λg=>(Zem g).bind λh=>(gApp 8 a [h.1]).bind λi=>Jg (.inl (i,Y.wrap (e+1)))else(ZeN a).bind λj=>bif !(j.toList==k.toList) then Jg (.inr ((([]:Jb),Jj)))else Jg (.inr ((a,Ji)))
def Zk0 (a:Jd):Jm (Jb×Bool):=bif a.toList==(⟨#[45]⟩:Jd).toList then Jg ((([]:Jb),Ji))else(Zbb a ⟨#[44]⟩).bind λe=>loop (ZfV a e) (([]:Jb),0)
def Z0 (a:Ja):Jm Int:=Jg ((Jk a:Int))
def Zc8 (e:Ja) (f:Jb->Jm Bool):Int->Jm (Int ⊕ Int)| a=>bif a<(Jk e:Int) then(gIdx e a).bind λg=>(f g).bind λh=>bif h then Jg (.inr a)else Jg (.inl (Y.wrap (a+1)))else Jg (.inr ((-1)))
def Zjq (e:Ja) (a:Jb->Jm Bool):Jm Int:=loop (Zc8 e a) 0
def Zgq (e:Ja) (a:Jb->Jm Bool):Jm Bool:=(Zjq e a).bind λf=>Jg (f>=0)
def Zb1 (a0:Jb):Jm Jb:=gApp 8 [] a0
def Zc1 (x0:Jb):Jm Jb:=if (Jk x0)<4611686018427387904 then Jg (sortI x0) else Jh
def Zi1 (g e:Jb):Int->Jm (Int ⊕ Bool)| a=>bif a<(Jk e:Int) then(gIdx e a).bind λf=>bif f !=a then Jg (.inr Jj)else Jg (.inl (Y.wrap (a+1)))else Jg (.inr ((Jk g:Int)<=32))
def Zh2 (a:Jb):Jm Bool:=(Zb1 a).bind λe=>(Zc1 e).bind λf=>loop (Zi1 a f) 0
def Z1 (a:Jb):Jm Int:=Jg ((Jk a:Int))
def ZpL (a:Jb) (f:Int):Jm Bool:=(Z1 a).bind λg=>bif g !=f then Jg (Ji)else(Zh2 a).bind λe=>Jg (!e)
def Zic (g:Int) (a:Ja):Jm Bool:=(Zgq a (λe=>ZpL e g)).bind λf=>Jg (!f)
def ZgM (a0:Ja) (e:Int):Jb×Int->Jm ((Jb×Int) ⊕ (Int ⊕ Bool))| (column5,a)=>bif a<(Jk a0:Int) then(gIdx a0 a).bind λf=>(gIdx f e).bind λg=>(gApp 8 column5 [g]).bind λh=>Jg (.inl (h,Y.wrap (a+1)))else(Zh2 column5).bind λi=>bif !i then Jg (.inr (.inr Jj))else Jg (.inr (.inl (Y.wrap (e+1))))
def Znf (a0:Ja):Int->Jm (Int ⊕ Bool)| a=>bif a<(Jk a0:Int) then loop (ZgM a0 a) (([]:Jb),0)else Jg (.inr Ji)
def Zq1 (a0:Ja):Jm (Bool):=loop (Znf a0) 0
def Zjb (a0:Ja):Jm Bool:=(Z0 a0).bind λr8=>(ZV r8 1 10).bind λa=>bif !a then Jg (Jj)else(Zic r8 a0).bind λe=>bif !e then Jg (Jj)else Zq1 a0
def Zc0 (a:Jb) (n1:Int):Int×Int->Jm ((Int×Int) ⊕ Bool)| (g,e)=>bif e<(Jk a:Int) then(gIdx a e).bind λf=>bif f<=g then Jg (.inr Jj)else bif f>=n1 then Jg (.inr Jj)else Jg (.inl (f,Y.wrap (e+1)))else(ZV n1 0 32).bind λh=>Jg (.inr h)
def ZnW (a:Jb) (n1:Int):Jm Bool:=loop (Zc0 a n1) ((-1),0)
def ZnS (e:Jb) (g:Int):Jm Bool:=bif (Jk e:Int)>0 then(ZnW e g).bind λa=>Jg (a)else Jg Jj
def ZjQ (a:Jb) (e:Int):Jm Bool:=(ZnS a e).bind λf=>Jg (!f)
def Zsv (h:Ja) (g:Int):Jm Bool:=(ZV g 1 32).bind λe=>bif e then(Zgq h (λf=>ZjQ f g)).bind λa=>Jg (!a)else Jg Jj
def Zgb (x0:Ja) (a:Jb->Jb->Jm Int):Int->Jm (Int ⊕ Bool)| i5=>bif i5>0 then(gIdx x0 i5).bind λe=>(gIdx x0 (Y.wrap (i5-1))).bind λf=>(a e f).bind λg=>bif g<0 then Jg (.inr Jj)else Jg (.inl (Y.wrap (i5-1)))else Jg (.inr Ji)
def ZmT (x0:Ja) (a:Jb->Jb->Jm Int):Jm Bool:=loop (Zgb x0 a) (Y.wrap ((Jk x0:Int)-1))
def Zdj (x0:Int):Jm Bool:=Jg (x0 !=x0)
def ZbG (x0 e:Int):Jm Int:=(Zdj x0).bind λr8=>(Zdj e).bind λa=>bif r8 then bif a then Jg (0)else Jg ((-1))else bif a then Jg (1)else bif x0<e then Jg ((-1))else bif x0>e then Jg (1)else Jg 0
def ZbM (f s1:Jb):Int->Jm (Int ⊕ Int)| a=>bif a<(Jk f:Int) then(gIdx f a).bind λg=>bif a>=(Jk s1:Int) then Jg (.inr 1)else(gIdx s1 a).bind λh=>(ZbG g h).bind λe=>bif e !=0 then Jg (.inr e)else Jg (.inl (Y.wrap (a+1)))else bif (Jk f:Int)<(Jk s1:Int) then Jg (.inr ((-1)))else Jg (.inr 0)
def Zam (a s1:Jb):Jm Int:=loop (ZbM a s1) 0
def Zhj (a:Zz):Jm Bool:=(Zsv a.Blocks a.Points).bind λf=>bif f then bif (Jk a.Blocks:Int)<=128 then(ZmT a.Blocks (λg h=>Zam g h)).bind λe=>Jg (e)else Jg (Jj)else Jg Jj
def Zoq (j:Ja):Ja×Int->Jm ((Ja×Int) ⊕ Ja)| (a,e)=>bif e<(Jk j:Int) then(gIdx j e).bind λf=>(Zb1 f).bind λg=>(gApp 24 a [g]).bind λh=>Jg (.inl (h,Y.wrap (e+1)))else Jg (.inr a)
def ZcW (e:Ja):Jm Ja:=loop (Zoq e) (([]:Ja),0)
def ZdS (a:Zf):Jm Zz:=(ZcW a.Rows).bind λe=>Jg (Zz.mk a.Size e)
def Zl4 (x0:Int):Jm Bool:=bif x0 !=1 then Jg (x0 !=(-1))else Jg Jj
def ZfE (f:Jb) (g:Int) (h:Jb):Int×Int->Jm ((Int×Int) ⊕ (Int ⊕ (Int ⊕ Bool)))| (e,a)=>bif a<(Jk f:Int) then(gIdx f a).bind λi=>(gIdx h a).bind λj=>Jg (.inl (Y.wrap (e+(Y.wrap (i*j))),Y.wrap (a+1)))else bif e !=0 then Jg (.inr (.inr (.inr Jj)))else Jg (.inr (.inl (Y.wrap (g+1))))
def ZgE (f:Int) (g:Jb) (e:Ja):Int->Jm (Int ⊕ (Int ⊕ Bool))| a=>bif a<(Jk e:Int) then(gIdx e a).bind λh=>loop (ZfE g a h) (0,0)else Jg (.inr (.inl (Y.wrap (f+1))))
def Zj6 (g:Ja) (a:Int) (e:Jb):Jm (Int ⊕ Bool):=(gSl g 0 a).bind λf=>loop (ZgE a e f) 0
def ZdH (g:Ja) (f:Int):Int->Jm (Int ⊕ Bool)| a=>bif a<(Jk g:Int) then(gIdx g a).bind λe=>(Z1 e).bind λh=>bif h !=f then Jg (.inr Jj)else(ZaX e (λk=>Zl4 k)).bind λi=>bif i then Jg (.inr Jj)else Zj6 g a e else(ZV f 1 32).bind λj=>Jg (.inr j)
def ZkW (a:Ja):Jm Bool:=(Z0 a).bind λe=>loop (ZdH a e) 0
def ZtP (h g:Int):Jm Bool:=(ZV h 2 16).bind λa=>bif a then(ZV g 1 8).bind λe=>Jg (e)else Jg Jj
def ZkV (x0:Int) (a:ZE):Jm Bool:=(ZV x0 0 (Y.wrap (a.Levels-1))).bind λr8=>Jg (!r8)
def Zgo (a0:ZE):Int->Jm (Int ⊕ Bool)| a=>bif a<(Jk a0.Rows:Int) then(gIdx a0.Rows a).bind λe=>(Z1 e).bind λf=>bif f !=a0.Columns then Jg (.inr Jj)else(ZaX e (λh=>ZkV h (ZE.mk a0.Levels a0.Columns a0.Rows))).bind λg=>bif g then Jg (.inr Jj)else Jg (.inl (Y.wrap (a+1)))else Jg (.inr Ji)
def ZqW (a0:ZE):Jm (Bool):=loop (Zgo a0) 0
def ZmJ (a0:ZE):Jm Bool:=(ZtP a0.Levels a0.Columns).bind λa=>bif !a then Jg (Jj)else bif (Jk a0.Rows:Int)>256 then Jg (Jj)else ZqW a0
def Zhd (a:Zf):Jm ZE:=(ZcW a.Rows).bind λr8=>bif (Jk a.Rows:Int)>0 then(gIdx a.Rows 0).bind λe=>(Z1 e).bind λf=>Jg (ZE.mk a.Size f r8)else Jg (ZE.mk a.Size 0 r8)
def Zfz (a e g:Int):Jm ((Int×Int) ⊕ Int):=Jg (.inl (Y.wrap (e-1),Y.wrap (g*a)))
def Zbq (e g:Int):Int×Int->Jm ((Int×Int) ⊕ Int)| (a,power7)=>bif a>0 then bif power7<=g then Zfz e a power7 else Jg (.inr power7)else Jg (.inr power7)
def Zbr (a e g:Int):Jm Int:=loop (Zbq a g) (e,1)
def Zbf (a:Zd):Jm Int:=(Zbr a.Prime a.Degree 64).bind λe=>Jg e
def ZeE (a:Int) (g:Jb):Int×Int×Jb->Jm ((Int×Int×Jb) ⊕ Jb)| (f,e,xs)=>bif e<(Jk g:Int) then(gNz a).bind λ_=>(gIdx xs e).bind λh=>(gNz a).bind λ_=>Jg (.inl (Y.wrap (Jw f a),Y.wrap (e+1),(xs.set e.toNat (Jq f a))))else Jg (.inr xs)
def ZaU (n0 a g:Int):Jm Jb:=(gMake 8 (0:Int) g g).bind λe=>loop (ZeE a e) (n0,0,e)
def Zik (f:Jb) (g h i:Int):Int×Jb->Jm ((Int×Jb) ⊕ ((Int×Jb) ⊕ Jb))| (a,e)=>bif a<(Jk f:Int) then(gIdx f a).bind λj=>(gIdx e (Y.wrap ((Y.wrap (h-(Y.wrap ((Jk f:Int)-1))))+a))).bind λk=>(gNz g).bind λ_=>(gNz g).bind λ_=>(gIdx e (Y.wrap ((Y.wrap (h-(Y.wrap ((Jk f:Int)-1))))+a))).bind λl=>Jg (.inl (Y.wrap (a+1),(e.set (Y.wrap ((Y.wrap (h-(Y.wrap ((Jk f:Int)-1))))+a):Int).toNat (Jq (Y.wrap ((Jq (Y.wrap (k-(Y.wrap (i*j)))) g)+g)) g))))else Jg (.inr (.inl (Y.wrap (h-1),e)))
def Zcj (a:Jb) (h:Int):Int×Jb->Jm ((Int×Jb) ⊕ Jb)| (e,xs)=>bif e>=(Y.wrap ((Jk a:Int)-1)) then(gIdx xs e).bind λf=>loop (Zik a h e f) (0,xs)else(gSl xs 0 (if (Jk xs:Int)<(Y.wrap ((Jk a:Int)-1)) then (Jk xs:Int) else Y.wrap ((Jk a:Int)-1))).bind λg=>Jg (.inr g)
def Zec (e f:Jb) (g:Int):Jm Jb:=(Zb1 e).bind λa=>loop (Zcj f g) (Y.wrap ((Jk a:Int)-1),a)
def Zmq (x0:Int):Jm Bool:=Jg (x0 !=0)
def ZkO (a:Jb):Jm Bool:=(ZaX a (λe=>Zmq e)).bind λf=>Jg (!f)
def Zqs (a:Jb) (p1 e:Int):Int->Jm (Int ⊕ (Int ⊕ Bool))| f=>(Zbr p1 e 64).bind λg=>bif f<g then(ZaU f p1 e).bind λh=>(gApp 8 h [1]).bind λi=>(Zec a i p1).bind λj=>(ZkO j).bind λk=>bif k then Jg (.inr (.inr Jj))else Jg (.inl (Y.wrap (f+1)))else Jg (.inr (.inl (Y.wrap (e+1))))
def ZqZ (a:Jb) (p1 f:Int):Int->Jm (Int ⊕ Bool)| e=>bif (Y.wrap (2*e):Int)<=(Y.wrap (f-1)) then loop (Zqs a p1 e) (0)else Jg (.inr Ji)
def Zib (a:Jb) (p1:Int):Jm Bool:=(Z1 a).bind λe=>loop (ZqZ a p1 e) 1
def Zf3 (e:Int):Int×Jb->Jm ((Int×Jb) ⊕ ((Int×Jb×Int) ⊕ Jb))| (a,factor3_2)=>(gNz e).bind λ_=>bif (Jq a e:Int)==0 then(gApp 8 factor3_2 [e]).bind λf=>(gNz e).bind λ_=>Jg (.inl (Y.wrap (Jw a e),f))else Jg (.inr (.inl (a,factor3_2,Y.wrap (e+1))))
def Zcg:Int×Jb×Int->Jm ((Int×Jb×Int) ⊕ Jb)| (a,factor3,e)=>bif (Y.wrap (e*e):Int)<=a then loop (Zf3 e) (a,factor3)else bif a>1 then(gApp 8 factor3 [a]).bind λf=>Jg (.inr f)else Jg (.inr factor3)
def Zdi (n0:Int):Jm Jb:=(ZV n0 1 1000000).bind λa=>bif !a then Jg (([]:Jb))else loop Zcg (n0,([]:Jb),2)
def Zmv (n0:Int):Jm Bool:=(Zdi n0).bind λa=>Jg ((Jk a:Int)==1)
def Zso (a:Zd):Int->Jm (Int ⊕ Bool)| e=>bif e<(Jk a.Poly:Int) then(gIdx a.Poly e).bind λf=>(ZV f 0 (Y.wrap (a.Prime-1))).bind λg=>bif !g then Jg (.inr Jj)else Jg (.inl (Y.wrap (e+1)))else(Zib a.Poly a.Prime).bind λh=>Jg (.inr h)
def Zn5 (a:Zd):Jm (Bool):=loop (Zso a) 0
def ZlX (a:Zd):Jm (Bool):=(Z1 a.Poly).bind λe=>bif e !=(Y.wrap (a.Degree+1)) then Jg (Jj)else(gIdx a.Poly a.Degree).bind λf=>bif f !=1 then Jg (Jj)else Zn5 a
def ZhO (a:Zd):Jm Bool:=(Zmv a.Prime).bind λf=>bif !f then Jg (Jj)else bif a.Degree<1 then Jg (Jj)else(Zbr a.Prime a.Degree 64).bind λe=>bif e>64 then Jg (Jj)else ZlX a
def Zf6 (x0 a:Int):Jm Bool:=(ZV x0 0 (Y.wrap (a-1))).bind λe=>Jg (!e)
def Zrj (e:Int) (a:Jb):Jm Bool:=(ZaX a (λf=>Zf6 f e)).bind λg=>Jg (!g)
def Zh9 (a:Jb) (f:Ja) (g:Int):Jm Bool:=(gIdx f 0).bind λh=>bif (Jk a:Int) !=(Jk h:Int) then Jg (Ji)else(Zrj g a).bind λe=>Jg (!e)
def Zts (a:Zd) (e:Ja):Jm (Bool):=(Zbf (Zd.mk a.Prime a.Degree a.Poly)).bind λf=>(Zgq e (λh=>Zh9 h e f)).bind λg=>Jg (!g)
def Zgr (a:Zd) (e:Ja):Jm Bool:=(ZhO (Zd.mk a.Prime a.Degree a.Poly)).bind λk=>bif !k then Jg (Jj)else(Z0 e).bind λf=>(ZV f 1 32).bind λg=>bif !g then Jg (Jj)else(gIdx e 0).bind λh=>(Z1 h).bind λi=>(ZV i 1 32).bind λj=>bif !j then Jg (Jj)else Zts a e
def ZNW (g:Jb) (a:Int):Int×Int->Jm ((Int×Int) ⊕ Int)| (e,k6)=>bif k6>=0 then(gIdx g k6).bind λf=>Jg (.inl (Y.wrap ((Y.wrap (e*a))+f),Y.wrap (k6-1)))else Jg (.inr e)
def Znc (e:Jb) (a:Int):Jm Int:=loop (ZNW e a) (0,Y.wrap ((Jk e:Int)-1))
def ZmS (e:Zd) (f:Int) (g h:Jb):Int×Jb->Jm ((Int×Jb) ⊕ Int)| (a,xs)=>bif a<(Jk g:Int) then(gIdx xs a).bind λi=>(gIdx h a).bind λj=>(gNz e.Prime).bind λ_=>(gIdx xs a).bind λl=>Jg (.inl (Y.wrap (a+1),(xs.set a.toNat (Jq (Y.wrap ((Y.wrap (i+(Y.wrap (f*j))))+e.Prime)) e.Prime))))else(Znc xs e.Prime).bind λk=>Jg (.inr k)
def Zjo (a:Zd) (a1 h e:Int):Jm Int:=(ZaU a1 a.Prime a.Degree).bind λf=>(ZaU h a.Prime a.Degree).bind λg=>loop (ZmS a e f g) (0,f)
def Zo1 (h:Zd) (i g:Jb) (f:Int):Int×Jb->Jm ((Int×Jb) ⊕ ((Int×Jb) ⊕ Int))| (a,e)=>bif a<(Jk g:Int) then(gIdx e (Y.wrap (f+a))).bind λj=>(gIdx i f).bind λk=>(gIdx g a).bind λl=>(gNz h.Prime).bind λ_=>(gIdx e (Y.wrap (f+a))).bind λo=>Jg (.inl (Y.wrap (a+1),(e.set (Y.wrap (f+a):Int).toNat (Jq (Y.wrap (j+(Y.wrap (k*l)))) h.Prime))))else Jg (.inr (.inl (Y.wrap (f+1),e)))
def Zf7 (a:Zd) (e g:Jb):Int×Jb->Jm ((Int×Jb) ⊕ Int)| (f,xs)=>bif f<(Jk e:Int) then loop (Zo1 a e g f) (0,xs)else(Zec xs a.Poly a.Prime).bind λh=>(Znc h a.Prime).bind λi=>Jg (.inr i)
def Zm0 (a:Zd) (h i:Int):Jm Int:=(ZaU h a.Prime a.Degree).bind λe=>(ZaU i a.Prime a.Degree).bind λf=>(gMake 8 (0:Int) (Y.wrap (2*a.Degree)) (Y.wrap (2*a.Degree))).bind λg=>loop (Zf7 a e f) (0,g)
def Zp2 (h:Int) (a e f:Ja) (g:Jb):Jm ((Int×Ja×Ja×Ja×Jb) ⊕ Z7):=Jg (.inl (Y.wrap (h+1),a,e,f,g))
def Zfc (h:Zd) (u j:Int) (xs r s:Ja):Int×Jb×Jb×Jb×Jb->Jm ((Int×Jb×Jb×Jb×Jb) ⊕ ((Int×Ja×Ja×Ja×Jb) ⊕ Z7))| (a,i,f,g,e)=>bif a<u then(Zjo (Zd.mk h.Prime h.Degree h.Poly) j a 1).bind λl=>(Zjo (Zd.mk h.Prime h.Degree h.Poly) j a (-1)).bind λo=>(Zm0 (Zd.mk h.Prime h.Degree h.Poly) j a).bind λk=>(gIdx f a).bind λa3=>(gIdx g a).bind λa4=>(gIdx e a).bind λa5=>(gIdx (e.set a.toNat k) a).bind λv=>bif v==1 then(gIdx i j).bind λa6=>Jg (.inl (Y.wrap (a+1),(i.set j.toNat a),(f.set a.toNat l),(g.set a.toNat o),(e.set a.toNat k)))else Jg (.inl (Y.wrap (a+1),i,(f.set a.toNat l),(g.set a.toNat o),(e.set a.toNat k)))else(gApp 24 xs [f]).bind λw=>(gApp 24 r [g]).bind λy=>(gApp 24 s [e]).bind λa2=>(Zp2 j w y a2 i).map λx=>.inr x
def Zjp (l:Zd) (a:Int):Int×Ja×Ja×Ja×Jb->Jm ((Int×Ja×Ja×Ja×Jb) ⊕ Z7)| (h,xs,e,f,g)=>bif h<a then(gMake 8 (0:Int) a a).bind λi=>(gMake 8 (0:Int) a a).bind λj=>(gMake 8 (0:Int) a a).bind λk=>loop (Zfc l a h xs e f) (0,g,i,j,k)else Jg (.inr (Z7.mk a xs e f g))
def Zjn (e:Zd):Jm Z7:=(Zbf (Zd.mk e.Prime e.Degree e.Poly)).bind λa=>(gMake 8 (0:Int) a a).bind λf=>loop (Zjp e a) (0,([]:Ja),([]:Ja),([]:Ja),f)
def Zgh (a:Jb) (e:Int):Jm Bool:=(gIdx a e).bind λf=>Jg (f !=0)
def ZcQ (f:Z7) (e:Jb) (u:Int):Int×Jb->Jm ((Int×Jb) ⊕ Jb)| (a,xs)=>bif a<(Jk e:Int) then(gIdx e a).bind λg=>(gIdx xs a).bind λh=>(gIdx f.qadd h).bind λi=>(gIdx f.qmul u).bind λj=>(gIdx j g).bind λk=>(gIdx i k).bind λl=>(gIdx xs a).bind λo=>Jg (.inl (Y.wrap (a+1),(xs.set a.toNat l)))else Jg (.inr xs)
def Zc7 (f:Z7) (e a:Jb) (g:Int):Jm Jb:=loop (ZcQ f a g) (0,e)
def ZeT (e:Jb) (f:Int) (xs:Ja):Jm (Ja×Jb×Int):=(gSl xs 0 (Jk e:Int)).bind λa=>Jg ((a,e,f))
def Zja (g:Int) (a:Jb) (e:Int) (f:Ja):Jm ((Jb×Int×Int×Ja) ⊕ (Ja×Jb×Int)):=Jg (.inl (a,e,Y.wrap (g+1),f))
def Zga (f:Z7) (g:Jb) (s a:Int) (e:Ja) (h:Jb) (i:Bool):Jm ((Int×Ja) ⊕ ((Int×Ja) ⊕ ((Jb×Int×Int×Ja) ⊕ (Ja×Jb×Int)))):=bif i then(gIdx e (Jk g:Int)).bind λj=>(gIdx f.qsub 0).bind λk=>(gIdx h s).bind λl=>(gIdx k l).bind λo=>(gNe a (Jk g:Int)).bind λu=>(Zc7 (Z7.mk f.qq f.qadd f.qsub f.qmul f.qinv) h j o).bind λr=>Jg (.inl (Y.wrap (a+1),(e.set a.toNat r)))else Jg (.inl (Y.wrap (a+1),e))
def Zdd (o:Z7) (f:Jb) (g j:Int) (k:Ja):Int×Ja->Jm ((Int×Ja) ⊕ ((Int×Ja) ⊕ ((Jb×Int×Int×Ja) ⊕ (Ja×Jb×Int))))| (e,a)=>bif e<(Jk k:Int) then(gIdx a e).bind λh=>bif e !=(Jk f:Int) then(gIdx h g).bind λl=>Zga o f g e a h (l !=0)else Zga o f g e a h Jj else(gApp 8 f [g]).bind λi=>bif (Jk i:Int)==(Jk a:Int) then(ZeT i j a).map λx=>.inr (.inr (.inr x))else(Zja g i j a).map λx=>.inr (.inr x)
def Zlp (i:Z7) (f:Jb) (o r s:Int) (u:Jb):Int×Ja->Jm ((Int×Ja) ⊕ ((Jb×Int×Int×Ja) ⊕ (Ja×Jb×Int)))| (g,a)=>bif g<(Jk u:Int) then(gIdx a (Jk f:Int)).bind λe=>(gIdx e g).bind λv=>(gIdx a (Jk f:Int)).bind λh=>(gIdx i.qinv r).bind λj=>(gIdx i.qmul j).bind λk=>(gIdx k v).bind λl=>(gIdx h g).bind λw=>Jg (.inl (Y.wrap (g+1),(a.set (Jk f:Int).toNat (h.set g.toNat l))))else loop (Zdd i f o s a) (0,a)
def ZgZ (i:Z7) (a:Jb) (f h:Int) (e:Ja):Jm ((Jb×Int×Int×Ja) ⊕ (Ja×Jb×Int)):=(gIdx e (Jk a:Int)).bind λj=>(gIdx j f).bind λg=>(gIdx i.qmul h).bind λk=>(gIdx k g).bind λl=>(gIdx e (Jk a:Int)).bind λo=>loop (Zlp i a f g l o) (0,e)
def Zi0 (h:Z7) (a:Jb) (i g:Int) (e:Ja):Jm ((Jb×Int×Int×Ja) ⊕ (Ja×Jb×Int)):=(gSl e (Jk a:Int) (Jk e:Int)).bind λk=>(Zjq k (λh=>Zgh h g)).bind λf=>bif f<0 then Zja g a 0 e else bif f>0 then(gIdx e (Y.wrap ((Jk a:Int)+f))).bind λj=>(gIdx e (Jk a:Int)).bind λl=>(gIdx e (Jk a:Int)).bind λs=>(gIdx (e.set (Jk a:Int).toNat j) (Y.wrap ((Jk a:Int)+f))).bind λu=>(gIdx h.qsub 0).bind λo=>(gIdx o i).bind λr=>ZgZ h a g r ((e.set (Jk a:Int).toNat j).set (Y.wrap ((Jk a:Int)+f):Int).toNat l)else ZgZ h a g i e
def Zce (i:Z7):Jb×Int×Int×Ja->Jm ((Jb×Int×Int×Ja) ⊕ (Ja×Jb×Int))| (e,f,g,a)=>bif (Jk a:Int)>0 then(gIdx a 0).bind λh=>bif g<(Jk h:Int) then Zi0 i e f g a else(ZeT e f a).map λx=>.inr (x)else(ZeT e f a).map λx=>.inr x
def ZjU (e:Z7) (f:Ja):Jm (Ja×Jb×Int):=(ZcW f).bind λa=>loop (Zce e) (([]:Jb),1,0,a)
def ZjI (e s1:Ja) (f:Jb->Jb->Jm Bool):Int->Jm (Int ⊕ Bool)| a=>bif a<(Jk e:Int) then(gIdx e a).bind λg=>(gIdx s1 a).bind λh=>(f g h).bind λi=>bif !i then Jg (.inr Jj)else Jg (.inl (Y.wrap (a+1)))else Jg (.inr Ji)
def ZpZ (a s1:Ja) (e:Jb->Jb->Jm Bool):Jm Bool:=bif (Jk a:Int) !=(Jk s1:Int) then Jg (Jj)else loop (ZjI a s1 e) 0
def ZjM (e s1:Jb):Int->Jm (Int ⊕ Bool)| a=>bif a<(Jk e:Int) then(gIdx e a).bind λf=>(gIdx s1 a).bind λg=>bif f !=g then Jg (.inr Jj)else Jg (.inl (Y.wrap (a+1)))else Jg (.inr Ji)
def Zdp (a s1:Jb):Jm Bool:=bif (Jk a:Int) !=(Jk s1:Int) then Jg (Jj)else loop (ZjM a s1) 0
def Zme (a0 a:Ja):Jm Bool:=(ZpZ a0 a (λe f=>Zdp e f)).bind λg=>Jg g
def Zq8 (a:ZM):Jm (Bool):=(Zjn (Zd.mk a.Field.Prime a.Field.Degree a.Field.Poly)).bind λe=>(ZjU e a.Rows).bind λf=>(Zme f.1 a.Rows).bind λg=>Jg g
def Zb8 (a:ZM):Jm Bool:=(Zgr (Zd.mk a.Field.Prime a.Field.Degree a.Field.Poly) a.Rows).bind λe=>bif !e then Jg (Jj)else bif (Jk a.Rows:Int)>8 then Jg (Jj)else(Zbf (Zd.mk a.Field.Prime a.Field.Degree a.Field.Poly)).bind λf=>(Z0 a.Rows).bind λg=>(Zbr f g 4096).bind λh=>bif h>4096 then Jg (Jj)else Zq8 a
def Zcd (r8:Jb):Int->Jm (Int ⊕ (Int×Int))| a=>bif a<(Jk r8:Int) then(gIdx r8 a).bind λe=>(gIdx r8 0).bind λf=>bif e !=f then Jg (.inr ((0,0)))else Jg (.inl (Y.wrap (a+1)))else bif (Jk r8:Int)==0 then Jg (.inr ((0,0)))else(Z1 r8).bind λg=>(gIdx r8 0).bind λh=>Jg (.inr ((h,g)))
def Zdc (n0:Int):Jm (Int×Int):=(Zdi n0).bind λr8=>loop (Zcd r8) 0
def Zpb (a:Int×Int):Int->Jm (Int ⊕ (Zd×Int))| e=>(ZaU e a.1 a.2).bind λf=>(gApp 8 f [1]).bind λg=>(Zib g a.1).bind λh=>bif !h then Jg (.inl (Y.wrap (e+1)))else(ZaU e a.1 a.2).bind λi=>(gApp 8 i [1]).bind λj=>Jg (.inr ((Zd.mk a.1 a.2 j,0)))
def ZjK (a:Int×Int):Jm (Zd×Int):=loop (Zpb a) 0
def ZbI (a:Int):Jm (Zd×Int):=(Zdc a).bind λe=>bif e.1==0 then Jg (((Zd.mk 0 0 ([]:Jb)),2))else bif a>64 then Jg (((Zd.mk 0 0 ([]:Jb)),2))else ZjK e
def ZbN (a:Zf):Jm ZM:=(ZbI a.Size).bind λr8=>(ZcW a.Rows).bind λe=>Jg ((ZM.mk (Zd.mk r8.1.Prime r8.1.Degree r8.1.Poly) e))
def Zc3 (a:Jb):Int->Jm (Int ⊕ Int)| f=>bif f<(Jk a:Int) then(gIdx a f).bind λe=>bif e !=0 then Jg (.inr e)else Jg (.inl (Y.wrap (f+1)))else Jg (.inr 0)
def ZfF (a:Jb):Jm Int:=loop (Zc3 a) 0
def Zbp (a0 a:Zc):Jm Int:=(ZbG a0.A a.A).bind λg=>(ZbG a0.B a.B).bind λe=>(ZfF ([g,e]:Jb)).bind λf=>Jg f
def Zp4 (n0:Int):Jm Bool:=(ZV n0 0 63).bind λa=>Jg a
def ZoP (n0:Int):Jm Bool:=(Zp4 n0).bind λa=>Jg (!a)
def Zol (e:Jb):Jm Bool:=bif (Jk e:Int)<=64 then(ZaX e (λa=>ZoP a)).bind λr8=>Jg (!r8)else Jg Jj
def ZbW (e:Zb):Int->Jm (Int ⊕ Bool)| f=>bif f<(Jk e.Edges:Int) then(gIdx e.Edges f).bind λa=>bif a.A<0 then Jg (.inr Jj)else bif a.A>=a.B then Jg (.inr Jj)else(Z1 e.Colors).bind λg=>bif a.B>=g then Jg (.inr Jj)else bif f>0 then(gIdx e.Edges (Y.wrap (f-1))).bind λh=>(Zbp h (Zc.mk a.A a.B)).bind λi=>bif i>=0 then Jg (.inr Jj)else Jg (.inl (Y.wrap (f+1)))else Jg (.inl (Y.wrap (f+1)))else(Zol e.Colors).bind λj=>bif j then Jg (.inr ((Jk e.Edges:Int)<=512))else Jg (.inr Jj)
def Zf4 (a:Zb):Jm Bool:=loop (ZbW a) 0
def ZdB (g:Zf) (f:Jb):Int×List Zc->Jm ((Int×List Zc) ⊕ (Zb×Bool))| (a,xs)=>bif a<(Jk g.Rows:Int) then(gIdx g.Rows a).bind λe=>bif (Jk e:Int) !=2 then Jg (.inr (((Zb.mk ([]:Jb) ([]:List Zc)),Jj)))else(gIdx e 0).bind λh=>(gIdx e 1).bind λi=>(gApp 16 xs [(Zc.mk h i)]).bind λj=>Jg (.inl (Y.wrap (a+1),j))else(Zf4 (Zb.mk f xs)).bind λk=>Jg (.inr ((Zb.mk f xs,k)))
def Zhp (a:Zf):Jm (Zb×Bool):=(ZV a.Size 0 64).bind λf=>bif !f then Jg (((Zb.mk ([]:Jb) ([]:List Zc)),Jj))else(gMake 8 (0:Int) a.Size a.Size).bind λe=>loop (ZdB a e) (0,([]:List Zc))
def Zk6 (e:Jb):Int×Jb->Jm ((Int×Jb) ⊕ Jb)| (a,xs)=>bif a<(Jk e:Int) then(gIdx xs a).bind λf=>Jg (.inl (Y.wrap (a+1),(xs.set a.toNat a)))else Jg (.inr xs)
def ZjZ (n0:Int):Jm Jb:=(gMake 8 (0:Int) n0 n0).bind λa=>loop (Zk6 a) (0,a)
def ZnJ (e:Jb):Int×Jb->Jm ((Int×Jb) ⊕ Jd)| (a,xs)=>bif a<(Jk e:Int) then(gIdx e a).bind λf=>(gIdx xs a).bind λh=>Jg (.inl (Y.wrap (a+1),(xs.set a.toNat (IntKind.u8.wrap f))))else(gByt xs).bind λg=>Jg (.inr g)
def Zhi (a:Jb):Jm Jd:=(gMake 1 (0:Int) (Jk a:Int) (Jk a:Int)).bind λe=>loop (ZnJ a) (0,e)
def Znn (g h i:Jb):Int×Jb->Jm ((Int×Jb) ⊕ Jb)| (a,xs)=>bif a<(Jk i:Int) then(gIdx g a).bind λe=>(gIdx h e).bind λf=>(gIdx xs a).bind λj=>Jg (.inl (Y.wrap (a+1),(xs.set a.toNat f)))else Jg (.inr xs)
def Zkl (a f:Jb):Jm Jb:=(gMake 8 (0:Int) (Jk a:Int) (Jk a:Int)).bind λe=>loop (Znn a f e) (0,e)
open Classical in
def Zf0 (x0:Ja) (e:Jb->Jb->Jm Int):Jm Ja:=if (∀a∈x0,∀c∈x0,e a c=Jg (lexC a c))/\(Jk x0)<4611686018427387904 then Jg (sortRows x0) else Jh
def Zdf (k:Ja) (k8:Int):Ja×Int×List (Jd×Bool)->Jm ((Ja×Int×List (Jd×Bool)) ⊕ ((Ja×Int×List (Jd×Bool)) ⊕ (Ja×Bool)))| (elemen6_2,e,a)=>bif e<(Jk k:Int) then(gIdx k e).bind λh=>(gIdx elemen6_2 k8).bind λi=>(Zkl i h).bind λf=>(Zhi f).bind λg=>bif !(mpGet a g Jj) then(gApp 24 elemen6_2 [f]).bind λj=>Jg (.inl (j,Y.wrap (e+1),(mpSet a g Ji)))else Jg (.inl (elemen6_2,Y.wrap (e+1),a))else bif (Jk elemen6_2:Int)>720 then Jg (.inr (.inr ((([]:Ja),Jj))))else Jg (.inr (.inl (elemen6_2,Y.wrap (k8+1),a)))
def Zd8 (g:Ja):Ja×Int×List (Jd×Bool)->Jm ((Ja×Int×List (Jd×Bool)) ⊕ (Ja×Bool))| (elemen6,k8,mp)=>bif k8<(Jk elemen6:Int) then loop (Zdf g k8) (elemen6,0,mp)else(Zf0 elemen6 (λe f=>Zam e f)).bind λa=>Jg (.inr ((a,Ji)))
def ZeK (h:Int) (g:Ja):Jm (Ja×Bool):=(ZjZ h).bind λa=>(gIdx ([a]) 0).bind λe=>(Zhi e).bind λf=>loop (Zd8 g) ([a],0,(mpSet ([]:List (Jd×Bool)) f Ji))
def ZbX (x0:Ja) (k:Jb) (f:Jb->Jb->Jm Int):Int×Int->Jm ((Int×Int) ⊕ (Int×Bool))| (a,e)=>bif a<e then(gNn 1).bind λ_=>(gIdx x0 (Y.wrap (Yf (IntKind.u64.wrap (Y.wrap (a+e))) (2^min (1:Int).toNat IntKind.u64.bits)))).bind λg=>(f g k).bind λh=>bif h<0 then Jg (.inl (Y.wrap ((Y.wrap (Yf (IntKind.u64.wrap (Y.wrap (a+e))) (2^min (1:Int).toNat IntKind.u64.bits)))+1),e))else Jg (.inl (a,Y.wrap (Yf (IntKind.u64.wrap (Y.wrap (a+e))) (2^min (1:Int).toNat IntKind.u64.bits))))else bif a<(Jk x0:Int) then(gIdx x0 a).bind λi=>(f i k).bind λj=>Jg (.inr ((a,j==0)))else Jg (.inr ((a,Jj)))
def ZdX (x0:Ja) (e:Jb) (a:Jb->Jb->Jm Int):Jm (Int×Bool):=loop (ZbX x0 e a) (0,(Jk x0:Int))
def Zmn (j:Int) (h:Ja) (f:Int) (g:Jb):Jm ((Ja×Ja×Bool×Int) ⊕ (Ja×Ja×Bool)):=(gApp 24 h [g]).bind λa=>(ZeK j a).bind λe=>Jg (.inl (a,e.1,e.2,Y.wrap (f+1)))
def Za2 (l:Int) (k:Ja):Ja×Ja×Bool×Int->Jm ((Ja×Ja×Bool×Int) ⊕ (Ja×Ja×Bool))| (genera7,a,f,e)=>bif e<(Jk k:Int) then(gIdx k e).bind λg=>(ZdX a g (λi j=>Zam i j)).bind λh=>bif h.2 then Jg (.inl (genera7,a,f,Y.wrap (e+1)))else bif !f then Jg (.inl (genera7,a,f,Y.wrap (e+1)))else Zmn l genera7 e g else Jg (.inr ((genera7,a,f)))
def ZkJ (e:Int) (g:Ja):Jm (Ja×Ja×Bool):=(ZeK e ([]:Ja)).bind λa=>loop (Za2 e g) (([]:Ja),a.1,a.2,0)
def Zf8 (a:Zal):Int->Jm (Int ⊕ Bool)| e=>bif e<(Jk a.Elements:Int) then(gIdx a.Elements (Y.wrap (e-1))).bind λg=>(gIdx a.Elements e).bind λh=>(Zam g h).bind λi=>bif i>=0 then Jg (.inr Jj)else Jg (.inl (Y.wrap (e+1)))else(ZkJ a.Degree a.Elements).bind λf=>bif f.2.2 then Jg (.inr ((Jk f.2.1:Int)==(Jk a.Elements:Int)))else Jg (.inr Jj)
def ZsH (a:Zal):Jm (Bool):=loop (Zf8 a) 1
def ZmO (a:Zal):Jm Bool:=(ZV a.Degree 1 32).bind λf=>bif !f then Jg (Jj)else bif (Jk a.Elements:Int)<1 then Jg (Jj)else bif (Jk a.Elements:Int)>720 then Jg (Jj)else(Zic a.Degree a.Elements).bind λe=>bif !e then Jg (Jj)else ZsH a
def ZhK (a:Zf):Jm Zal:=(ZcW a.Rows).bind λe=>Jg (Zal.mk a.Size e)
def Zar (a:Zf):Jm Bool:=bif a.Kind==1 then(Z0 a.Rows).bind λe=>bif e==a.Size then(Zjb a.Rows).bind λf=>Jg (f)else Jg (Jj)else bif a.Kind==2 then(ZdS (Zf.mk a.Kind a.Size a.Rows)).bind λg=>(Zhj g).bind λh=>Jg (h)else bif a.Kind==3 then(Z0 a.Rows).bind λi=>bif i==a.Size then(ZkW a.Rows).bind λj=>Jg (j)else Jg (Jj)else bif a.Kind==4 then bif (Jk a.Rows:Int)>0 then(Zhd (Zf.mk a.Kind a.Size a.Rows)).bind λk=>(ZmJ k).bind λl=>Jg (l)else Jg (Jj)else bif a.Kind==5 then(ZbN (Zf.mk a.Kind a.Size a.Rows)).bind λo=>(Zb8 o).bind λr=>Jg (r)else bif a.Kind==6 then(Zhp (Zf.mk a.Kind a.Size a.Rows)).bind λs=>Jg (s.2)else bif a.Kind==7 then(ZhK (Zf.mk a.Kind a.Size a.Rows)).bind λu=>(ZmO u).bind λv=>Jg (v)else Jg Jj
def Zfm (a:Int):Jm Bool:=(ZV a 1 7).bind λe=>Jg e
def ZdO (a:Int):Jm Jd:=(Zfm a).bind λe=>bif !e then Jg (⟨#[]⟩)else(Zih).bind λf=>(gIdx f (Y.wrap (a-1))).bind λg=>Jg g
def ZdW (g:Zf) (e:Jd):Jm Jd:=(ZdO g.Kind).bind λa=>(ZbE g.Size).bind λf=>(gFit a (⟨#[32]⟩:Jd)).bind λ_=>(gFit (a++(⟨#[32]⟩:Jd):Jd) f).bind λ_=>(gFit ((a++(⟨#[32]⟩:Jd):Jd)++f:Jd) (⟨#[32]⟩:Jd)).bind λ_=>(gFit (((a++(⟨#[32]⟩:Jd):Jd)++f:Jd)++(⟨#[32]⟩:Jd):Jd) e).bind λ_=>Jg ((((a++(⟨#[32]⟩:Jd):Jd)++f:Jd)++(⟨#[32]⟩:Jd):Jd)++e)
def Zb3 (e:Zf):List Jd×Int->Jm ((List Jd×Int) ⊕ Jd)| (words4,a)=>bif a<(Jk e.Rows:Int) then(gIdx e.Rows a).bind λf=>(ZeN f).bind λg=>(gApp 16 words4 [g]).bind λh=>Jg (.inl (h,Y.wrap (a+1)))else(Zeu words4 ⟨#[47]⟩).bind λi=>(ZdW e i).map λx=>.inr x
def Zc5 (a:Zf):Jm Jd:=(Zar (Zf.mk a.Kind a.Size a.Rows)).bind λr8=>bif !r8 then Jg (⟨#[]⟩)else bif (Jk a.Rows:Int)>0 then loop (Zb3 a) (([]:List Jd),0)else ZdW a ⟨#[110,111,110,101]⟩
def ZhL (h:Jd) (a e:Int×Bool) (xs:Ja):Jm (Zf×Bool):=(Zar (Zf.mk a.1 e.1 xs)).bind λf=>bif !f then Jg (((Zf.mk 0 0 ([]:Ja)),Jj))else(Zc5 (Zf.mk a.1 e.1 xs)).bind λg=>bif !(g.toList==h.toList) then Jg (((Zf.mk 0 0 ([]:Ja)),Jj))else Jg ((Zf.mk a.1 e.1 xs,Ji))
def Zgx (l:Jd) (g h:Int×Bool) (f:List Jd):Int×Ja->Jm ((Int×Ja) ⊕ (Zf×Bool))| (a,e)=>bif a<(Jk f:Int) then(gIdx f a).bind λi=>(Zk0 i).bind λj=>(gApp 24 e [j.1]).bind λk=>Jg (.inl (Y.wrap (a+1),k))else(ZhL l g h e).map λx=>.inr x
def Zdq (g:Jd):Jm (Zf×Bool):=(Zbb g ⟨#[32]⟩).bind λa=>bif (Jk a:Int) !=3 then Jg (((Zf.mk 0 0 ([]:Ja)),Jj))else(gIdx a 0).bind λh=>(Zg8 h).bind λe=>(gIdx a 1).bind λi=>(Zem i).bind λf=>(gIdx a 2).bind λj=>bif !(j.toList==(⟨#[110,111,110,101]⟩:Jd).toList) then(gIdx a 2).bind λk=>(Zbb k ⟨#[47]⟩).bind λl=>loop (Zgx g e f l) (0,([]:Ja))else ZhL g e f ([]:Ja)
def Zbl (a:Int) (e g:Bool):Jm (Int ⊕ Bool):=bif !e then bif a==0 then Jg (.inr Jj)else bif !g then Jg (.inr Jj)else Jg (.inl (Y.wrap (a+1)))else Jg (.inl (Y.wrap (a+1)))
def Zbx (a e:Int) (g:Bool):Jm (Int ⊕ Bool):=bif e>=48 then Zbl a g (e<=57)else Zbl a g Jj
def ZbY (f:Jd):Int->Jm (Int ⊕ Bool)| a=>bif a<((byts f).length:Int) then(gIdx (byts f) a).bind λe=>bif e>=97 then Zbx a e (e<=122)else Zbx a e Jj else Jg (.inr Ji)
def Zsz (a:Jd):Jm (Bool):=loop (ZbY a) 0
def ZjW (a:Jd):Jm Bool:=bif (a.size:Int)<1 then Jg (Jj)else bif (a.size:Int)>10 then Jg (Jj)else Zsz a
def ZtF (e:Jd×Jd×Bool) (a:Zf×Bool):Jm (Jd×Zf×Int):=Jg ((e.1,Zf.mk a.1.Kind a.1.Size a.1.Rows,0))
def Zgc (e:Jd) (g:Int):Jm (Jd×Zf×Int):=(gStSl e 0 g).bind λh=>(Zg1 h ⟨#[32]⟩).bind λa=>(Zdq a.2.1).bind λf=>bif !f.2 then Jg ((⟨#[]⟩,(Zf.mk 0 0 ([]:Ja)),9))else(ZjW a.1).bind λi=>bif !i then Jg ((⟨#[]⟩,(Zf.mk 0 0 ([]:Ja)),9))else ZtF a f
def ZaF (a:Jd):Jm (Jd×Zf×Int):=(Zfg a 32).bind λe=>bif e<0 then Jg ((⟨#[]⟩,(Zf.mk 0 0 ([]:Ja)),10))else(gStSl a 0 e).bind λf=>(Ze1 f 65535).bind λg=>(ZbE g).bind λh=>(gStSl a (Y.wrap (e+1)) a.size).bind λi=>bif !(i.toList==h.toList) then Jg ((⟨#[]⟩,(Zf.mk 0 0 ([]:Ja)),10))else Zgc a e
open Classical in
def Zhg (x0:List Zc) (e:Zc->Zc->Jm Int):Jm (List Zc):=if (∃g:Zc->Zc->Int,(∀a c,e a c=Jg (g a c))/\CmpOk g)/\(Jk x0)<4611686018427387904 then Jg (sortC (λa c=>(e a c).getD 0) x0) else Jh
def Zhu (x0:List Zc):Jm (List Zc):=if (Jk x0)<4611686018427387904 then cptL (λ(a b:Zc)=>Jg (a.A==b.A&&a.B==b.B)) x0 else Jh
def ZlC (l:List Zc):List Zc×Int->Jm ((List Zc×Int) ⊕ (List Zc))| (e,f)=>bif f<(Jk l:Int) then(gIdx l f).bind λa=>(gApp 16 e [(Zc.mk (if a.B<a.A then a.B else a.A) (if a.B>a.A then a.B else a.A))]).bind λg=>Jg (.inl (g,Y.wrap (f+1)))else(Zhg e (λj k=>Zbp j k)).bind λh=>(Zhu h).bind λi=>Jg (.inr i)
def Zhr (e:List Zc):Jm (List Zc):=loop (ZlC e) (([]:List Zc),0)
def Ztz (e:Jb) (g:List Zc):Jm (Zb×Int):=(Zhr g).bind λa=>Jg ((Zb.mk e a,0))
def ZhT (e:Jb) (g:List Zc):Jm (Zb×Int):=bif (Jk e:Int)>64 then Jg (((Zb.mk ([]:Jb) ([]:List Zc)),5))else bif (Jk g:Int)>512 then Jg (((Zb.mk ([]:Jb) ([]:List Zc)),5))else Ztz e g
def Zjm (f:Jb) (a g:Int):Jm ((Jb×Int) ⊕ (Zb×Int)):=(gApp 8 f [g]).bind λe=>Jg (.inl (e,Y.wrap (a+1)))
def Zmb (k:Ja) (a f:Int):List Zc×Int->Jm ((List Zc×Int) ⊕ ((List Zc×Int) ⊕ ((Jb×Int) ⊕ (Zb×Int))))| (g,e)=>bif e<a then(gIdx k f).bind λh=>(gIdx h e).bind λi=>(gApp 16 g ([(Zc.mk f (Y.wrap ((Y.wrap ((Y.wrap (3*a))+(Y.wrap (a*f))))+e))),(Zc.mk (Y.wrap (a+e)) (Y.wrap ((Y.wrap ((Y.wrap (3*a))+(Y.wrap (a*f))))+e))),(Zc.mk (Y.wrap ((Y.wrap (2*a))+i)) (Y.wrap ((Y.wrap ((Y.wrap (3*a))+(Y.wrap (a*f))))+e)))]:List Zc)).bind λj=>Jg (.inl (j,Y.wrap (e+1)))else Jg (.inr (.inl (g,Y.wrap (f+1))))
def ZhV (h:Ja) (e:Int) (i:Jb):List Zc×Int->Jm ((List Zc×Int) ⊕ ((Jb×Int) ⊕ (Zb×Int)))| (f,g)=>bif g<e then loop (Zmb h e g) (f,0)else(ZhT i f).bind λa=>Jg (.inr (.inr ((Zb.mk a.1.Colors a.1.Edges,a.2))))
def Zjd (g:Ja) (h:Bool) (a:Int):Jb×Int->Jm ((Jb×Int) ⊕ (Zb×Int))| (f,e)=>bif e<(Y.wrap ((Y.wrap (3*a))+(Y.wrap (a*a)))) then(gNz a).bind λ_=>bif h then bif e<(Y.wrap (3*a)) then Zjm f e 0 else Zjm f e (if (3:Int)<(Y.wrap (Jw e a)) then 3 else Y.wrap (Jw e a))else Zjm f e (if (3:Int)<(Y.wrap (Jw e a)) then 3 else Y.wrap (Jw e a))else loop (ZhV g a f) (([]:List Zc),0)
def Zfp (e:Ja) (g:Bool):Jm (Zb×Int):=(Zjb e).bind λf=>bif !f then Jg (((Zb.mk ([]:Jb) ([]:List Zc)),1))else(Z0 e).bind λa=>bif a>6 then Jg (((Zb.mk ([]:Jb) ([]:List Zc)),5))else loop (Zjd e g a) (([]:Jb),0)
def Zog (g a:Int):Int×Jb->Jm ((Int×Jb) ⊕ Jb)| (k6,xs)=>bif k6<(Y.wrap (g+a)) then(gIdx xs k6).bind λe=>Jg (.inl (Y.wrap (k6+1),(xs.set k6.toNat 1)))else Jg (.inr xs)
def Zoh (g a:Int):Jm Jb:=(gMake 8 (0:Int) (Y.wrap (g+a)) (Y.wrap (g+a))).bind λe=>loop (Zog g a) (g,e)
def Zix (j f:Int) (g:Jb):List Zc×Int->Jm ((List Zc×Int) ⊕ ((List Zc×Int) ⊕ (Zb×Int)))| (a,e)=>bif e<(Jk g:Int) then(gIdx g e).bind λh=>(gApp 16 a [(Zc.mk h (Y.wrap (j+f)))]).bind λi=>Jg (.inl (i,Y.wrap (e+1)))else Jg (.inr (.inl (a,Y.wrap (f+1))))
def ZlU (j:Int) (a:Ja):List Zc×Int->Jm ((List Zc×Int) ⊕ (Zb×Int))| (edges6,e)=>bif e<(Jk a:Int) then(gIdx a e).bind λg=>loop (Zix j e g) (edges6,0)else(Z0 a).bind λh=>(Zoh j h).bind λi=>(ZhT i edges6).bind λf=>Jg (.inr ((Zb.mk f.1.Colors f.1.Edges,f.2)))
def Zjs (e:Int) (a:Ja):Jm (Zb×Int):=loop (ZlU e a) (([]:List Zc),0)
def ZqO (e:Zz):Jm (Zb×Int):=(Zhj (Zz.mk e.Points e.Blocks)).bind λf=>bif !f then Jg (((Zb.mk ([]:Jb) ([]:List Zc)),1))else(Zjs e.Points e.Blocks).bind λa=>Jg ((Zb.mk a.1.Colors a.1.Edges,a.2))
def ZhW (e:Z7) (f:Ja) (j:Jb):Int×Jb->Jm ((Int×Jb) ⊕ Jb)| (a,xs)=>bif a<(Jk j:Int) then(gIdx j a).bind λg=>(gIdx f a).bind λh=>(Zc7 (Z7.mk e.qq e.qadd e.qsub e.qmul e.qinv) xs h g).bind λi=>Jg (.inl (Y.wrap (a+1),i))else Jg (.inr xs)
def Znj (g:Z7) (a:Ja) (h:Jb):Jm Jb:=(gIdx a 0).bind λe=>(gMake 8 (0:Int) (Jk e:Int) (Jk e:Int)).bind λf=>loop (ZhW g a h) (0,f)
def Zmx:Int×Int×Jb->Jm ((Int×Int×Jb) ⊕ Jb)| (a,e,xs)=>bif a<e then(gIdx xs e).bind λf=>(gIdx xs a).bind λg=>(gIdx xs a).bind λh=>(gIdx (xs.set a.toNat f) e).bind λi=>Jg (.inl (Y.wrap (a+1),Y.wrap (e-1),((xs.set a.toNat f).set e.toNat g)))else Jg (.inr xs)
def ZkI (a:Jb):Jm Jb:=loop Zmx (0,Y.wrap ((Jk a:Int)-1),a)
def ZjY (n0 a g:Int):Jm Jb:=(ZaU n0 a g).bind λe=>(ZkI e).bind λf=>Jg f
def ZiK (k:ZM) (a:Z7) (f g:Int):Ja×Int->Jm ((Ja×Int) ⊕ Ja)| (words5,e)=>bif e<g then(ZjY e a.qq f).bind λh=>(Znj (Z7.mk a.qq a.qadd a.qsub a.qmul a.qinv) k.Rows h).bind λi=>(gApp 24 words5 [i]).bind λj=>Jg (.inl (j,Y.wrap (e+1)))else Jg (.inr words5)
def ZmW (a:ZM):Jm Ja:=(Zjn (Zd.mk a.Field.Prime a.Field.Degree a.Field.Poly)).bind λf=>(Z0 a.Rows).bind λe=>(Zbr f.qq e 4096).bind λg=>loop (ZiK a f e g) (([]:Ja),0)
def ZjA (a:Jb):Jb×Int->Jm ((Jb×Int) ⊕ Jb)| (suppor3,e)=>bif e<(Jk a:Int) then(gIdx a e).bind λf=>bif f !=0 then(gApp 8 suppor3 [e]).bind λg=>Jg (.inl (g,Y.wrap (e+1)))else Jg (.inl (suppor3,Y.wrap (e+1)))else Jg (.inr suppor3)
def Zlo (a:Jb):Jm Jb:=loop (ZjA a) (([]:Jb),0)
def Zsw (a:ZM):Jm Int:=(gIdx a.Rows 0).bind λe=>(Z1 e).bind λf=>Jg f
def ZgP (f:ZM) (g:Ja):Ja×Int->Jm ((Ja×Int) ⊕ (Zb×Int))| (suppor4,a)=>bif a<(Jk g:Int) then(gIdx g a).bind λh=>(Zlo h).bind λi=>(gApp 24 suppor4 [i]).bind λj=>Jg (.inl (j,Y.wrap (a+1)))else(Zsw (ZM.mk (Zd.mk f.Field.Prime f.Field.Degree f.Field.Poly) f.Rows)).bind λk=>(Zjs k suppor4).bind λe=>Jg (.inr ((Zb.mk e.1.Colors e.1.Edges,e.2)))
def ZjF (a:ZM):Jm (Zb×Int):=(Zb8 (ZM.mk (Zd.mk a.Field.Prime a.Field.Degree a.Field.Poly) a.Rows)).bind λr8=>bif !r8 then Jg (((Zb.mk ([]:Jb) ([]:List Zc)),1))else(Zbf (Zd.mk a.Field.Prime a.Field.Degree a.Field.Poly)).bind λf=>bif f !=2 then Jg (((Zb.mk ([]:Jb) ([]:List Zc)),6))else(ZmW (ZM.mk (Zd.mk a.Field.Prime a.Field.Degree a.Field.Poly) a.Rows)).bind λe=>(gSl e 1 (Jk e:Int)).bind λg=>loop (ZgP a g) (([]:Ja),0)
def ZrF (a:Zf) (e:Int):Jm Int:=(Zar (Zf.mk a.Kind a.Size a.Rows)).bind λf=>bif !f then Jg (1)else bif a.Kind !=e then Jg (6)else Jg 0
def ZsQ (a:Zf):Jm (Zb×Int):=(ZrF (Zf.mk a.Kind a.Size a.Rows) 6).bind λr8=>bif r8 !=0 then Jg (((Zb.mk ([]:Jb) ([]:List Zc)),r8))else(Zhp (Zf.mk a.Kind a.Size a.Rows)).bind λe=>Jg ((Zb.mk e.1.Colors e.1.Edges,0))
def Zdm (a:Zf):Jm (Zb×Int):=bif a.Kind==1 then(Zfp a.Rows Jj).bind λe=>Jg ((Zb.mk e.1.Colors e.1.Edges,e.2))else bif a.Kind==2 then(ZdS (Zf.mk a.Kind a.Size a.Rows)).bind λi=>(ZqO i).bind λf=>Jg ((Zb.mk f.1.Colors f.1.Edges,f.2))else bif a.Kind==5 then(ZbN (Zf.mk a.Kind a.Size a.Rows)).bind λj=>(ZjF j).bind λg=>Jg ((Zb.mk g.1.Colors g.1.Edges,g.2))else bif a.Kind==6 then(ZsQ (Zf.mk a.Kind a.Size a.Rows)).bind λh=>Jg ((Zb.mk h.1.Colors h.1.Edges,h.2))else Jg (((Zb.mk ([]:Jb) ([]:List Zc)),6))
def ZiS (xs:Ja):Int×Ja->Jm ((Int×Ja) ⊕ ((Int×Ja) ⊕ Ja))| (e,a)=>bif e<(Jk xs:Int) then(gIdx a e).bind λf=>(Zc1 f).bind λg=>Jg (.inl (Y.wrap (e+1),(a.set e.toNat g)))else Jg (.inr (.inr a))
def ZkL (g:Zb):Int×Ja->Jm ((Int×Ja) ⊕ Ja)| (e,xs)=>bif e<(Jk g.Edges:Int) then(gIdx g.Edges e).bind λa=>(gIdx xs a.A).bind λh=>(gApp 8 h [a.B]).bind λf=>(gIdx (xs.set a.A.toNat f) a.B).bind λi=>(gApp 8 i [a.A]).bind λj=>Jg (.inl (Y.wrap (e+1),((xs.set a.A.toNat f).set a.B.toNat j)))else loop (ZiS xs) (0,xs)
def ZmV (a:Zb):Jm Ja:=(gMake 24 ([]:Jb) (Jk a.Colors:Int) (Jk a.Colors:Int)).bind λe=>loop (ZkL a) (0,e)
def ZmE (a0:Ja):Jm Ja:=gApp 24 [] a0
def Zh8 (x0:Ja) (a:Jb->Jb->Jm Bool):Jm Ja:=if (Jk x0)<4611686018427387904 then cptL a x0 else Jh
def Zip (r:Jb) (a:Int) (xs:Ja) (g:Int) (f:Jb):Jb×Int->Jm ((Jb×Int) ⊕ ((Int×Ja) ⊕ Jb))| (h,e)=>bif e<(Jk f:Int) then(gIdx f e).bind λi=>(gIdx r i).bind λj=>(gApp 8 h [j]).bind λk=>Jg (.inl (k,Y.wrap (e+1)))else(Zc1 h).bind λl=>(gApp 8 ([g]:Jb) l).bind λo=>(gIdx xs a).bind λs=>Jg (.inr (.inl (Y.wrap (a+1),(xs.set a.toNat o))))
def Zjf (f:Ja) (g:Jb) (xs h:Ja):Int×Jb->Jm ((Int×Jb) ⊕ ((Int×Ja) ⊕ Jb))| (a,e)=>bif a<(Jk xs:Int) then(gIdx xs a).bind λi=>(ZdX h i (λf g=>Zam f g)).bind λj=>(gIdx e a).bind λk=>Jg (.inl (Y.wrap (a+1),(e.set a.toNat j.1)))else Jg (.inr (.inr e))
def ZmZ (f:Ja) (a:Jb):Int×Ja->Jm ((Int×Ja) ⊕ Jb)| (e,xs)=>bif e<(Jk a:Int) then(gIdx a e).bind λg=>(gIdx f e).bind λh=>loop (Zip a e xs g h) (([]:Jb),0)else(ZmE xs).bind λi=>(Zf0 i (λf a=>Zam f a)).bind λj=>(Zh8 j (λf a=>Zdp f a)).bind λk=>(gMake 8 (0:Int) (Jk a:Int) (Jk a:Int)).bind λl=>loop (Zjf f a xs k) (0,l)
def ZkA (f:Ja) (a:Jb):Jm Jb:=(gMake 24 ([]:Jb) (Jk a:Int) (Jk a:Int)).bind λe=>loop (ZmZ f a) (0,e)
def ZmP (x0:Jb):Jm Jb:=if (Jk x0)<4611686018427387904 then cptL (λ(a b:Int)=>Jg (a==b)) x0 else Jh
def Zh1 (g:Jb):Jm Int:=(Zb1 g).bind λa=>(Zc1 a).bind λe=>(ZmP e).bind λf=>Jg ((Jk f:Int))
def ZeW (g:Ja):Jb->Jm (Jb ⊕ Jb)| a=>(ZkA g a).bind λr8=>(Zh1 r8).bind λe=>(Zh1 a).bind λf=>bif e==f then Jg (.inr r8)else Jg (.inl r8)
def ZjJ (g:Ja) (e:Jb):Jm Jb:=loop (ZeW g) e
def ZcD (h:Jb) (e:Int):Jb×Int->Jm ((Jb×Int) ⊕ (Int ⊕ Jb))| (vertic4,a)=>bif a<(Jk h:Int) then(gIdx h a).bind λf=>bif f==e then(gApp 8 vertic4 [a]).bind λg=>Jg (.inl (g,Y.wrap (a+1)))else Jg (.inl (vertic4,Y.wrap (a+1)))else bif (Jk vertic4:Int)>1 then Jg (.inr (.inr vertic4))else Jg (.inr (.inl (Y.wrap (e+1))))
def ZiC (e:Jb):Int->Jm (Int ⊕ Jb)| a=>bif a<(Jk e:Int) then loop (ZcD e a) (([]:Jb),0)else Jg (.inr (([]:Jb)))
def ZkE (e:Jb):Jm Jb:=loop (ZiC e) 0
def Zi3 (g:Zb) (p1 xs:Jb):Int×List Zc->Jm ((Int×List Zc) ⊕ ((Int×Jb) ⊕ Zb))| (a,e)=>bif a<(Jk g.Edges:Int) then(gIdx g.Edges a).bind λf=>(gIdx p1 f.A).bind λh=>(gIdx p1 f.B).bind λi=>(gApp 16 e [(Zc.mk h i)]).bind λj=>Jg (.inl (Y.wrap (a+1),j))else(Zhr e).bind λk=>Jg (.inr (.inr (Zb.mk xs k)))
def ZmF (f:Zb) (p1:Jb):Int×Jb->Jm ((Int×Jb) ⊕ Zb)| (a,xs)=>bif a<(Jk f.Colors:Int) then(gIdx f.Colors a).bind λg=>(gIdx p1 a).bind λe=>(gIdx xs e).bind λh=>Jg (.inl (Y.wrap (a+1),(xs.set e.toNat g)))else loop (Zi3 f p1 xs) (0,([]:List Zc))
def ZiA (a:Zb) (p1:Jb):Jm Zb:=(gMake 8 (0:Int) (Jk a.Colors:Int) (Jk a.Colors:Int)).bind λe=>loop (ZmF a p1) (0,e)
def Zoj (h:List Zc):Jb×Int->Jm ((Jb×Int) ⊕ Jb)| (a,f)=>bif f<(Jk h:Int) then(gIdx h f).bind λe=>(gApp 8 a ([e.A,e.B]:Jb)).bind λg=>Jg (.inl (g,Y.wrap (f+1)))else Jg (.inr a)
def ZhM (e:List Zc):Jm Jb:=loop (Zoj e) (([]:Jb),0)
def Zh5 (e h1:Zb):Jm Int:=(Zam e.Colors h1.Colors).bind λa=>bif a !=0 then Jg (a)else(ZhM e.Edges).bind λf=>(ZhM h1.Edges).bind λg=>(Zam f g).bind λh=>Jg h
def Zdu (x0:ZI) (p1:Jb) (g:Int) (xs:Jb) (a:List Zc) (e:Ja):Jm (ZI):=bif g<=0 then(gApp 24 e [p1]).bind λf=>Jg ((ZI.mk (Zag.mk x0.qcounter.qleft x0.qcounter.qspent) (Zb.mk x0.qgraph.Colors x0.qgraph.Edges) x0.qlists x0.qnodes (Y.wrap (x0.qleaves+1)) (Zb.mk xs a) f))else Jg ((ZI.mk (Zag.mk x0.qcounter.qleft x0.qcounter.qspent) (Zb.mk x0.qgraph.Colors x0.qgraph.Edges) x0.qlists x0.qnodes (Y.wrap (x0.qleaves+1)) (Zb.mk xs a) e))
def Zd9 (x0:ZI) (p1:Jb) (a:Zb) (e:Int):Jm (ZI):=bif e<0 then Zdu x0 p1 e a.Colors a.Edges ([]:Ja)else Zdu x0 p1 e x0.qform.Colors x0.qform.Edges x0.qbest
def ZgN (x0:ZI) (p1:Jb):Jm ZI:=(ZiA (Zb.mk x0.qgraph.Colors x0.qgraph.Edges) p1).bind λa=>bif (Jk x0.qbest:Int)>0 then(Zh5 (Zb.mk a.Colors a.Edges) (Zb.mk x0.qform.Colors x0.qform.Edges)).bind λe=>Zd9 x0 p1 a e else Zd9 x0 p1 a (-1)
def Zmk (a:Zag):Jm (Bool×Zag):=bif (a.qleft:Int)==0 then Jg ((Jj,Zag.mk a.qleft Ji))else Jg ((Ji,(Zag.mk (Y.wrap (a.qleft-1)) a.qspent)))
def ZfQ (a3:ZI->Jb->Jm ZI) (h:ZI) (k:Jb) (l o r:Int) (xs:Jb) (i:List Zc) (j:Ja) (g s:Int) (u:Bool):Int×Jb->Jm ((Int×Jb) ⊕ ((Int×Int×Bool×Int×Int×Jb×List Zc×Ja) ⊕ ZI))| (f,a)=>bif f<(Jk k:Int) then(gIdx k f).bind λv=>(gIdx a f).bind λy=>Jg (.inl (Y.wrap (f+1),(a.set f.toNat (Y.wrap ((Y.wrap (2*v))+1)))))else(gIdx a g).bind λw=>(gIdx a g).bind λa2=>(ZjJ h.qlists (a.set g.toNat (Y.wrap (w-1)))).bind λx=>(a3 (ZI.mk (Zag.mk s u) (Zb.mk h.qgraph.Colors h.qgraph.Edges) h.qlists (Y.wrap (o+1)) r (Zb.mk xs i) j) x).bind λe=>Jg (.inr (.inl (Y.wrap (l+1),e.qcounter.qleft,e.qcounter.qspent,e.qnodes,e.qleaves,e.qform.Colors,e.qform.Edges,e.qbest)))
def ZqY (u:ZI->Jb->Jm ZI) (r:ZI) (a:Jb) (g h i:Int) (xs:Jb) (e:List Zc) (f:Ja) (j k:Int) (l:Bool):Jm ((Int×Int×Bool×Int×Int×Jb×List Zc×Ja) ⊕ ZI):=(gMake 8 (0:Int) (Jk a:Int) (Jk a:Int)).bind λo=>loop (ZfQ u r a g h i xs e f j k l) (0,o)
def ZcR (u:ZI->Jb->Jm ZI) (a:ZI) (r l:Jb):Int×Int×Bool×Int×Int×Jb×List Zc×Ja->Jm ((Int×Int×Bool×Int×Int×Jb×List Zc×Ja) ⊕ ZI)| (k,q,h,i,j,xs,e,f)=>bif k<(Jk l:Int) then(gIdx l k).bind λo=>bif h then Jg (.inr ((ZI.mk (Zag.mk q h) (Zb.mk a.qgraph.Colors a.qgraph.Edges) a.qlists i j (Zb.mk xs e) f)))else(Zmk (Zag.mk q h)).bind λg=>bif !g.1 then Jg (.inr ((ZI.mk (Zag.mk g.2.qleft g.2.qspent) (Zb.mk a.qgraph.Colors a.qgraph.Edges) a.qlists i j (Zb.mk xs e) f)))else ZqY u a r k i j xs e f o g.2.qleft g.2.qspent else Jg (.inr ((ZI.mk (Zag.mk q h) (Zb.mk a.qgraph.Colors a.qgraph.Edges) a.qlists i j (Zb.mk xs e) f)))
def q_impl_explorer_search (h:ZI->Jb->Jm ZI) (a:ZI) (g:Jb):Jm ZI:=(ZkE g).bind λf=>bif (Jk f:Int)==0 then(ZgN (ZI.mk (Zag.mk a.qcounter.qleft a.qcounter.qspent) (Zb.mk a.qgraph.Colors a.qgraph.Edges) a.qlists a.qnodes a.qleaves (Zb.mk a.qform.Colors a.qform.Edges) a.qbest) g).bind λe=>Jg ((ZI.mk (Zag.mk e.qcounter.qleft e.qcounter.qspent) (Zb.mk a.qgraph.Colors a.qgraph.Edges) a.qlists e.qnodes e.qleaves (Zb.mk e.qform.Colors e.qform.Edges) e.qbest))else loop (ZcR h a g f) (0,a.qcounter.qleft,a.qcounter.qspent,a.qnodes,a.qleaves,a.qform.Colors,a.qform.Edges,a.qbest)
def pn_impl_explorer_search:Nat->(ZI->Jb->Jm ZI)| 0=>(λ_ _=>Jh)| n+1=>q_impl_explorer_search (pn_impl_explorer_search n)
def Zqe:ZI->Jb->Jm ZI:=(pn_impl_explorer_search fuel)
def Zmg (e:Zb) (j:Int):Jm ((Jm ZI)×Int):=(Zf4 (Zb.mk e.Colors e.Edges)).bind λr8=>bif !r8 then Jg ((Jh,1))else(ZfC j).bind λg=>bif !g then Jg ((Jh,2))else(ZmV (Zb.mk e.Colors e.Edges)).bind λf=>(ZjJ f e.Colors).bind λh=>(Zqe (ZI.mk (Zag.mk j Jj) (Zb.mk e.Colors e.Edges) f 0 0 (Zb.mk ([]:Jb) ([]:List Zc)) ([]:Ja)) h).bind λa=>bif a.qcounter.qspent then Jg ((Jh,5))else Jg (((Jg (ZI.mk (Zag.mk a.qcounter.qleft a.qcounter.qspent) (Zb.mk e.Colors e.Edges) f a.qnodes a.qleaves (Zb.mk a.qform.Colors a.qform.Edges) a.qbest)),0))
def Zm2 (f:Zb) (j:Int):Jm (Zb×Jb×Int):=(Zmg (Zb.mk f.Colors f.Edges) j).bind λg=>(match g with| (Jh,a)=>bif a !=0 then Jg ((Zb.mk ([]:Jb) ([]:List Zc),([]:Jb),a))else Jh| (Jg e,a)=>bif a !=0 then Jg ((Zb.mk ([]:Jb) ([]:List Zc),([]:Jb),a))else(gIdx e.qbest 0).bind λh=>Jg ((e.qform,h,0)))
def Zhf (j:Zb):List Jd×Int->Jm ((List Jd×Int) ⊕ Jd)| (words3,a)=>bif a<(Jk j.Edges:Int) then(gIdx j.Edges a).bind λg=>(ZbE g.A).bind λe=>(ZbE g.B).bind λh=>(gFit e (⟨#[45]⟩:Jd)).bind λ_=>(gFit (e++(⟨#[45]⟩:Jd):Jd) h).bind λ_=>(gApp 16 words3 [(e++(⟨#[45]⟩:Jd):Jd)++h]).bind λk=>Jg (.inl (k,Y.wrap (a+1)))else(ZeN j.Colors).bind λf=>(gFit f (⟨#[59]⟩:Jd)).bind λ_=>(Zeu words3 ⟨#[44]⟩).bind λi=>(gFit (f++(⟨#[59]⟩:Jd):Jd) i).bind λ_=>Jg (.inr ((f++(⟨#[59]⟩:Jd):Jd)++i))
def ZkF (a:Zb):Jm Jd:=(Zf4 (Zb.mk a.Colors a.Edges)).bind λe=>bif !e then Jg (⟨#[]⟩)else loop (Zhf a) (([]:List Jd),0)
def ZfY (e:Zb) (g:Int):Jm (Jd×Int):=(Zm2 (Zb.mk e.Colors e.Edges) g).bind λa=>bif a.2.2 !=0 then Jg ((⟨#[]⟩,a.2.2))else(ZkF (Zb.mk a.1.Colors a.1.Edges)).bind λf=>Jg ((f,0))
def Zlr (e:Zf) (j:Int):Jm (Jd×Int):=(Zar (Zf.mk e.Kind e.Size e.Rows)).bind λh=>bif !h then Jg ((⟨#[]⟩,1))else(ZfC j).bind λg=>bif !g then Jg ((⟨#[]⟩,2))else(Zdm (Zf.mk e.Kind e.Size e.Rows)).bind λa=>bif a.2 !=0 then Jg ((⟨#[]⟩,a.2))else(ZfY (Zb.mk a.1.Colors a.1.Edges) j).bind λf=>Jg ((f.1,f.2))
def Zks (e:Zf) (g:Int):Jm (Jd×Int):=(Zlr (Zf.mk e.Kind e.Size e.Rows) g).bind λa=>bif a.2 !=0 then Jg ((⟨#[]⟩,a.2))else bif (a.1.size:Int)>4000 then Jg ((⟨#[]⟩,5))else Jg ((a.1,0))
def ZmI (e:List Zh) (f:Zh->Jm Bool):Int->Jm (Int ⊕ Int)| a=>bif a<(Jk e:Int) then(gIdx e a).bind λg=>(f g).bind λh=>bif h then Jg (.inr a)else Jg (.inl (Y.wrap (a+1)))else Jg (.inr ((-1)))
def Zrt (e:List Zh) (a:Zh->Jm Bool):Jm Int:=loop (ZmI e a) 0
def Zro (x0 a:Zh):Jm Bool:=bif x0.Object.Kind==a.Object.Kind then Jg (x0.Key.toList==a.Key.toList)else Jg Jj
def Zmc (a e:Zh):Jm Bool:=(Zro e (Zh.mk a.Name (Zf.mk a.Object.Kind a.Object.Size a.Object.Rows) a.Key)).bind λf=>Jg f
def Zl6 (g:List Zh) (x1:Zh):Jm Int:=(Zrt g (λa=>Zmc a (Zh.mk x1.Name (Zf.mk x1.Object.Kind x1.Object.Size x1.Object.Rows) x1.Key))).bind λe=>Jg e
def ZhF (i f:Int) (xs:List Zh) (a:Jd×Zf×Int):Jm ((Int×List Zh) ⊕ (ZA×Int)):=(Zks (Zf.mk a.2.1.Kind a.2.1.Size a.2.1.Rows) i).bind λe=>bif e.2 !=0 then Jg (.inr (((ZA.mk ([]:List Zh)),e.2)))else(Zl6 xs (Zh.mk a.1 (Zf.mk a.2.1.Kind a.2.1.Size a.2.1.Rows) e.1)).bind λg=>bif g>=0 then Jg (.inr (((ZA.mk ([]:List Zh)),6)))else(gApp 72 xs [(Zh.mk a.1 (Zf.mk a.2.1.Kind a.2.1.Size a.2.1.Rows) e.1)]).bind λh=>Jg (.inl (Y.wrap (f+1),h))
def ZeL (h:Int) (f:(List Jd)×Int):Int×List Zh->Jm ((Int×List Zh) ⊕ (ZA×Int))| (a,xs)=>bif a<(Jk f.1:Int) then(gIdx f.1 a).bind λi=>(ZaF i).bind λe=>bif e.2.2 !=0 then Jg (.inr (((ZA.mk ([]:List Zh)),e.2.2)))else bif a>0 then(gIdx xs (Y.wrap (a-1))).bind λg=>bif Op.bytesLess e.1.toList (g.Name.toList)||e.1.toList==g.Name.toList then Jg (.inr (((ZA.mk ([]:List Zh)),7)))else ZhF h a xs e else ZhF h a xs e else Jg (.inr ((ZA.mk xs,0)))
def ZnX (g:Jd) (e:Int):Jm (ZA×Int):=(ZfC e).bind λf=>bif !f then Jg (((ZA.mk ([]:List Zh)),2))else(ZbJ g).bind λa=>bif a.2 !=0 then Jg (((ZA.mk ([]:List Zh)),a.2))else loop (ZeL e a) (0,([]:List Zh))
def ZpH (f a:Jb):Jm Bool:=(ZrA f a).bind λi=>bif i then Jg (Ji)else(ZlW f).bind λj=>(Zia (ZA.mk j.Items)).bind λe=>(Zfj a 0 256).bind λg=>(Zfj a 1 256).bind λh=>(gNz ((byts e.1).length:Int)).bind λ_=>(Zfj a 2 255).bind λk=>(gIdx (byts e.1) (Jq (Y.wrap ((Y.wrap (256*g))+h)) ((byts e.1).length:Int))).bind λl=>(gIdx (byts e.1) (Jq (Y.wrap ((Y.wrap (256*g))+h)) ((byts e.1).length:Int))).bind λs=>(gByt ((byts e.1).set (Jq (Y.wrap ((Y.wrap (256*g))+h)) ((byts e.1).length:Int):Int).toNat (IntKind.u8.wrap ((BitVec.ofInt IntKind.u8.bits l^^^BitVec.ofInt IntKind.u8.bits (IntKind.u8.wrap (Y.wrap (1+k)))).toNat:Int)))).bind λo=>(ZnX o 400).bind λr=>Jg (r.2 !=0)
end
end Go.Proofs.YtcneolcmjjlmnaaGreatDoor
