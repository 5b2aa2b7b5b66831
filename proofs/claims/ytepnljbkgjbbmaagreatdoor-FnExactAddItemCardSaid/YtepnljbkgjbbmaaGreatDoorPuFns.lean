import Derived.Test.YtepnljbkgjbbmaaGreatDoorPuTxt
open Go.IntKind renaming i64->ε
namespace Go.Proofs.YtepnljbkgjbbmaaGreatDoor
set_option linter.unusedSimpArgs false
open Go Go.Vc
set_option linter.unusedVariables false
structure Z1 where
 Kind:Int
 Size:Int
 Rows:List (List Int)
structure Zal where
 Name:ByteArray
 Object:Z1
 Key:ByteArray
structure Zae where
 Items:List Zal
structure Zg where
 Kind:Int
 Size:Int
 Rows:List (List Int)
structure Zd where
 Name:ByteArray
 Object:Zg
 Key:ByteArray
structure Zi where
 Items:List Zd
structure Zaf where
 Points:Int
 Blocks:List (List Int)
structure Zai where
 Levels:Int
 Columns:Int
 Rows:List (List Int)
structure Ze where
 Prime:Int
 Degree:Int
 Poly:List Int
structure ZZ where
 Field:Ze
 Rows:List (List Int)
structure Zb where
 A:Int
 B:Int
structure Za where
 Colors:List Int
 Edges:List Zb
structure ZaB where
 Degree:Int
 Elements:List (List Int)
structure Zz where
 qg:Za
 qnear:List (List Int)
 qbest:Za
 qperms:List (List Int)
 qnodes:Int
 qleaves:Int
 qbudget:Int
 qfull:Bool
structure Z2 where
 qq:Int
 qadd:List (List Int)
 qsub:List (List Int)
 qmul:List (List Int)
 qinv:List Int
structure Zad where
 qleft:Int
 qspent:Bool
structure Zu where
 qcounter:Zad
 qgraph:Za
 qlists:List (List Int)
 qnodes:Int
 qleaves:Int
 qform:Za
 qbest:List (List Int)
noncomputable section
def Zey (c:List Int) (a:Int):Option Int:=
 bif decide ((ε.wrap (a-(c.length:Int)):Int)<0) then
 some ((-1))
 else
 some (ε.wrap (a-(c.length:Int)))
def Zls (f:List (List Int)):Int×Int->Option ((Int×Int) ⊕ (Int))
 | (a,e)=>
 bif decide (e<(f.length:Int)) then
 (gIdx f e).bind fun g=>
 (Zey g a).bind fun c=>
 bif decide (c<0) then
 some (.inr ((-1)))
 else
 some (.inl (c,ε.wrap (e+1)))
 else
 some (.inr (a))
def Zk4 (c:List (List Int)) (a:Int):Option Int:=
 bif decide ((ε.wrap (a-(c.length:Int)):Int)<0) then
 some ((-1))
 else
 loop (Zls c) (ε.wrap (a-(c.length:Int)),0)
def Zfg (c:Z1) (a:Int):Option Int:=
 (Zk4 c.Rows a).bind fun r8=>
 bif decide (r8<0) then
 some ((-1))
 else
 some (r8)
def ZeH (a:Zal) (c:Int):Option Int:=
 bif decide ((ε.wrap (c-(a.Name.size:Int)):Int)<0) then
 some ((-1))
 else
 (Zfg (Z1.mk a.Object.Kind a.Object.Size a.Object.Rows) (ε.wrap (c-(a.Name.size:Int)))).bind fun e=>
 bif decide (e<0) then
 some ((-1))
 else
 bif decide ((ε.wrap (e-(a.Key.size:Int)):Int)<0) then
 some ((-1))
 else
 some (ε.wrap (e-(a.Key.size:Int)))
def Zkz (f:List Zal):Int×Int->Option ((Int×Int) ⊕ (Int))
 | (a,e)=>
 bif decide (e<(f.length:Int)) then
 (gIdx f e).bind fun g=>
 (ZeH g a).bind fun c=>
 bif decide (c<0) then
 some (.inr ((-1)))
 else
 some (.inl (c,ε.wrap (e+1)))
 else
 some (.inr (a))
def Zkr (c:List Zal) (a:Int):Option Int:=
 bif decide ((ε.wrap (a-(c.length:Int)):Int)<0) then
 some ((-1))
 else
 loop (Zkz c) (ε.wrap (a-(c.length:Int)),0)
def ZlF (c:Zae) (a:Int):Option Int:=
 (Zkr c.Items a).bind fun r8=>
 bif decide (r8<0) then
 some ((-1))
 else
 some (r8)
def Zj7 (c:List Int):Int×List Int->Option ((Int×List Int) ⊕ (List Int))
 | (a,xs)=>
 bif decide (a<(c.length:Int)) then
 (gIdx c a).bind fun e=>
 (gIdx xs a).bind fun f=>
 some (.inl (ε.wrap (a+1),(xs.set a.toNat e)))
 else
 some (.inr (xs))
def ZgK (a:List Int):Option (List Int):=
 (gMake 8 (0:Int) (a.length:Int) (a.length:Int)).bind fun c=>
 loop (Zj7 a) (0,c)
def ZiX (c:List (List Int)):Int×List (List Int)->Option ((Int×List (List Int)) ⊕ (List (List Int)))
 | (a,xs)=>
 bif decide (a<(c.length:Int)) then
 (gIdx c a).bind fun e=>
 (ZgK e).bind fun f=>
 (gIdx xs a).bind fun g=>
 some (.inl (ε.wrap (a+1),(xs.set a.toNat f)))
 else
 some (.inr (xs))
def Zgg (a:List (List Int)):Option (List (List Int)):=
 (gMake 24 ([]:List Int) (a.length:Int) (a.length:Int)).bind fun c=>
 loop (ZiX a) (0,c)
def Zcl (a:Z1):Option Zg:=
 (Zgg a.Rows).bind fun c=>
 some ((Zg.mk a.Kind a.Size c))
def Zf0 (a:Zal):Option Zd:=
 (Zcl (Z1.mk a.Object.Kind a.Object.Size a.Object.Rows)).bind fun c=>
 some ((Zd.mk a.Name (Zg.mk c.Kind c.Size c.Rows) a.Key))
def Zlk (c:List Zal):Int×List Zd->Option ((Int×List Zd) ⊕ (List Zd))
 | (a,xs)=>
 bif decide (a<(c.length:Int)) then
 (gIdx c a).bind fun e=>
 (Zf0 e).bind fun f=>
 (gIdx xs a).bind fun g=>
 some (.inl (ε.wrap (a+1),(xs.set a.toNat f)))
 else
 some (.inr (xs))
def Zf6 (a:List Zal):Option (List Zd):=
 (gMake 72 (Zd.mk (⟨#[]⟩:ByteArray) (Zg.mk (0:Int) (0:Int) ([]:List (List Int))) (⟨#[]⟩:ByteArray)) (a.length:Int) (a.length:Int)).bind fun c=>
 loop (Zlk a) (0,c)
def Zd3 (a:Zae):Option Zi:=
 (Zf6 a.Items).bind fun c=>
 some ((Zi.mk c))
def ZkM (c g:List Int):Int->Option ((Int) ⊕ (Bool))
 | a=>
 bif decide (a<(c.length:Int)) then
 (gIdx c a).bind fun e=>
 (gIdx g a).bind fun f=>
 bif e !=f then
 some (.inr (false))
 else
 some (.inl (ε.wrap (a+1)))
 else
 some (.inr (true))
def Zia (a c:List Int):Option Bool:=
 bif ((a.length:Int):Int) !=(c.length:Int) then
 some (false)
 else
 loop (ZkM a c) (0)
def Zkf (c h:List (List Int)):Int->Option ((Int) ⊕ (Bool))
 | a=>
 bif decide (a<(c.length:Int)) then
 (gIdx c a).bind fun e=>
 (gIdx h a).bind fun f=>
 (Zia e f).bind fun g=>
 bif !g then
 some (.inr (false))
 else
 some (.inl (ε.wrap (a+1)))
 else
 some (.inr (true))
def Zkh (a c:List (List Int)):Option Bool:=
 bif ((a.length:Int):Int) !=(c.length:Int) then
 some (false)
 else
 loop (Zkf a c) (0)
def Zhn (a c:Zg):Option Bool:=
 bif a.Kind !=c.Kind then
 some (false)
 else
 bif a.Size !=c.Size then
 some (false)
 else
 (Zkh a.Rows c.Rows).bind fun e=>
 bif !e then
 some (false)
 else
 some (true)
def Zh6 (a c:Zd):Option Bool:=
 bif !(a.Name.toList==c.Name.toList) then
 some (false)
 else
 (Zhn (Zg.mk a.Object.Kind a.Object.Size a.Object.Rows) (Zg.mk c.Object.Kind c.Object.Size c.Object.Rows)).bind fun e=>
 bif !e then
 some (false)
 else
 bif !(a.Key.toList==c.Key.toList) then
 some (false)
 else
 some (true)
def ZiM (c h:List Zd):Int->Option ((Int) ⊕ (Bool))
 | a=>
 bif decide (a<(c.length:Int)) then
 (gIdx c a).bind fun e=>
 (gIdx h a).bind fun f=>
 (Zh6 e f).bind fun g=>
 bif !g then
 some (.inr (false))
 else
 some (.inl (ε.wrap (a+1)))
 else
 some (.inr (true))
def Zi2 (a c:List Zd):Option Bool:=
 bif ((a.length:Int):Int) !=(c.length:Int) then
 some (false)
 else
 loop (ZiM a c) (0)
def Zds (a c:Zi):Option Bool:=
 (Zi2 a.Items c.Items).bind fun e=>
 bif !e then
 some (false)
 else
 some (true)
def Zk3:Int×Int×List Int->Option ((Int×Int×List Int) ⊕ (Int×(List Int)))
 | (a,c,xs)=>
 bif decide (c<(xs.length:Int)) then
 (gIdx xs c).bind fun e=>
 some (.inl (ε.wrap (a+1),ε.wrap (c+1),(xs.set c.toNat a)))
 else
 some (.inr ((a,xs)))
def Zlv (a:List Int) (k1:Int):Option (Int×(List Int)):=
 loop (Zk3) (k1,0,a)
def ZjF:Int×Int×List (List Int)->Option ((Int×Int×List (List Int)) ⊕ (Int×(List (List Int))))
 | (a,c,xs)=>
 bif decide (c<(xs.length:Int)) then
 (gIdx xs c).bind fun f=>
 (Zlv f a).bind fun e=>
 some (.inl (e.1,ε.wrap (c+1),(xs.set c.toNat e.2)))
 else
 some (.inr ((a,xs)))
def Zgd (a:List (List Int)) (k1:Int):Option (Int×(List (List Int))):=
 loop (ZjF) (k1,0,a)
def ZgX:Int×ByteArray->Option ((Int×ByteArray) ⊕ (ByteArray))
 | (c,a)=>
 bif decide (c>0) then
 (gNz 10).bind fun _=>
 (gByt ([IntKind.u8.wrap (ε.wrap (48+(Int.tmod c 10)))]:List Int)).bind fun e=>
 (gFit e a).bind fun _=>
 (gNz 10).bind fun _=>
 some (.inl (ε.wrap (Int.tdiv c 10),e++a))
 else
 (gFit (⟨#[109]⟩:ByteArray) a).bind fun _=>
 some (.inr ((⟨#[109]⟩:ByteArray)++a))
def Zb8 (k0:Int):Option ByteArray:=
 bif decide (k0<=0) then
 some (⟨#[109,48]⟩)
 else
 loop (ZgX) (k0,⟨#[]⟩)
def ZfB:Int×Int×List Zd->Option ((Int×Int×List Zd) ⊕ (Int×(List Zd)))
 | (e,c,xs)=>
 bif decide (c<(xs.length:Int)) then
 (Zb8 e).bind fun i=>
 (gIdx xs c).bind fun g=>
 (gIdx (xs.set c.toNat (Zd.mk i g.Object g.Key)) c).bind fun a=>
 (gIdx ((xs.set c.toNat (Zd.mk i g.Object g.Key)).set c.toNat (Zd.mk a.Name (Zg.mk (ε.wrap (e+1)) a.Object.Size a.Object.Rows) a.Key)) c).bind fun f=>
 (gIdx (((xs.set c.toNat (Zd.mk i g.Object g.Key)).set c.toNat (Zd.mk a.Name (Zg.mk (ε.wrap (e+1)) a.Object.Size a.Object.Rows) a.Key)).set c.toNat (Zd.mk f.Name (Zg.mk f.Object.Kind (ε.wrap ((ε.wrap (e+1))+1)) f.Object.Rows) f.Key)) c).bind fun h=>
 (Zgd h.Object.Rows (ε.wrap ((ε.wrap ((ε.wrap (e+1))+1))+1))).bind fun j=>
 (Zb8 j.1).bind fun l=>
 (gIdx ((((xs.set c.toNat (Zd.mk i g.Object g.Key)).set c.toNat (Zd.mk a.Name (Zg.mk (ε.wrap (e+1)) a.Object.Size a.Object.Rows) a.Key)).set c.toNat (Zd.mk f.Name (Zg.mk f.Object.Kind (ε.wrap ((ε.wrap (e+1))+1)) f.Object.Rows) f.Key)).set c.toNat (Zd.mk h.Name (Zg.mk h.Object.Kind h.Object.Size j.2) h.Key)) c).bind fun k=>
 some (.inl (ε.wrap (j.1+1),ε.wrap (c+1),(((((xs.set c.toNat (Zd.mk i g.Object g.Key)).set c.toNat (Zd.mk a.Name (Zg.mk (ε.wrap (e+1)) a.Object.Size a.Object.Rows) a.Key)).set c.toNat (Zd.mk f.Name (Zg.mk f.Object.Kind (ε.wrap ((ε.wrap (e+1))+1)) f.Object.Rows) f.Key)).set c.toNat (Zd.mk h.Name (Zg.mk h.Object.Kind h.Object.Size j.2) h.Key)).set c.toNat (Zd.mk k.Name k.Object l))))
 else
 some (.inr ((e,xs)))
def Zny (a:List Zd) (k1:Int):Option (Int×(List Zd)):=
 loop (ZfB) (k1,0,a)
def Zgv (a:Zi) (k1:Int):Option (Int×Zi):=
 (Zny a.Items k1).bind fun r8=>
 some ((r8.1,(Zi.mk r8.2)))
def Zj8 (a:Zg) (k1:Int):Option (Int×Zg):=
 (Zgd a.Rows k1).bind fun r8=>
 some ((r8.1,(Zg.mk a.Kind a.Size r8.2)))
def Zfr (a c:Zd):Option Bool:=
 bif a.Object.Kind==c.Object.Kind then
 some (a.Key.toList==c.Key.toList)
 else
 some (false)
def Z3 (n0 c a:Int):Option Bool:=
 bif decide (n0>=c) then
 some (decide (n0<=a))
 else
 some (false)
def ZhV (a:List Int) (n1:Int):Int->Option ((Int) ⊕ (Bool))
 | c=>
 bif decide (c<(a.length:Int)) then
 (gIdx a c).bind fun e=>
 bif e==n1 then
 some (.inr (true))
 else
 some (.inl (ε.wrap (c+1)))
 else
 some (.inr (false))
def ZhG (a:List Int) (n1:Int):Option Bool:=
 loop (ZhV a n1) (0)
def Zil (a:List Int):Int->Option ((Int) ⊕ (Bool))
 | c=>
 bif decide (c<(a.length:Int)) then
 (gIdx a c).bind fun e=>
 (Z3 e 0 (ε.wrap ((a.length:Int)-1))).bind fun f=>
 bif !f then
 some (.inr (false))
 else
 (gSl a 0 c).bind fun g=>
 (gIdx a c).bind fun h=>
 (ZhG g h).bind fun i=>
 bif i then
 some (.inr (false))
 else
 some (.inl (ε.wrap (c+1)))
 else
 some (.inr (true))
def ZeV (a:List Int):Option Bool:=
 bif decide (((a.length:Int):Int)>32) then
 some (false)
 else
 loop (Zil a) (0)
def ZeU (e:List (List Int)) (f:Int):List Int×Int->Option ((List Int×Int) ⊕ ((Int) ⊕ ((Int) ⊕ (Bool))))
 | (a,c)=>
 bif decide (c<(e.length:Int)) then
 (gIdx e c).bind fun g=>
 (gIdx g f).bind fun h=>
 (gApp 8 a [h]).bind fun i=>
 some (.inl (i,ε.wrap (c+1)))
 else
 (ZeV a).bind fun j=>
 bif !j then
 some (.inr (.inr (.inr (false))))
 else
 some (.inr (.inl (ε.wrap (f+1))))
def ZfL (a:List (List Int)):Int->Option ((Int) ⊕ ((Int) ⊕ (Bool)))
 | c=>
 bif decide (c<(a.length:Int)) then
 loop (ZeU a c) (([]:List Int),0)
 else
 some (.inr (.inr (true)))
def Zgx (a:List (List Int)):Int->Option ((Int) ⊕ (Bool))
 | x4=>
 bif decide (x4<(a.length:Int)) then
 (gIdx a x4).bind fun c=>
 bif ((c.length:Int):Int) !=(a.length:Int) then
 some (.inr (false))
 else
 (gIdx a x4).bind fun e=>
 (ZeV e).bind fun f=>
 bif !f then
 some (.inr (false))
 else
 some (.inl (ε.wrap (x4+1)))
 else
 loop (ZfL a) (0)
def Zpu (a:List (List Int)):Option (Bool):=
 loop (Zgx a) (0)
def Zhe (a:List (List Int)):Option Bool:=
 bif decide (((a.length:Int):Int)<1) then
 some (false)
 else
 bif decide (((a.length:Int):Int)>10) then
 some (false)
 else
 Zpu a
def ZfC (a:List Int) (f e:Int):Int->Option ((Int) ⊕ (Bool))
 | c=>
 bif decide (c<(a.length:Int)) then
 (gIdx a c).bind fun g=>
 (Z3 g f e).bind fun h=>
 bif !h then
 some (.inr (false))
 else
 bif decide (c>0) then
 (gIdx a (ε.wrap (c-1))).bind fun i=>
 (gIdx a c).bind fun j=>
 bif decide (i>=j) then
 some (.inr (false))
 else
 some (.inl (ε.wrap (c+1)))
 else
 some (.inl (ε.wrap (c+1)))
 else
 some (.inr (true))
def ZiI (a:List Int) (e c:Int):Option Bool:=
 loop (ZfC a e c) (0)
def Zjb (a:List Int) (e:Int):Option Bool:=
 bif decide (((a.length:Int):Int)>0) then
 (ZiI a 0 (ε.wrap (e-1))).bind fun c=>
 some (c)
 else
 some (false)
def Zee (a c:List Int):Option (Int):=
 bif decide (((a.length:Int):Int)<(c.length:Int)) then
 some ((-1))
 else
 bif decide (((a.length:Int):Int)>(c.length:Int)) then
 some (1)
 else
 some (0)
def ZhX (c e:List Int) (a:Int):Option ((Int) ⊕ (Int)):=
 (gIdx c a).bind fun f=>
 (gIdx e a).bind fun g=>
 bif decide (f<g) then
 some (.inr ((-1)))
 else
 (gIdx c a).bind fun h=>
 (gIdx e a).bind fun i=>
 bif decide (h>i) then
 some (.inr (1))
 else
 some (.inl (ε.wrap (a+1)))
def Zcs (a c:List Int):Int->Option ((Int) ⊕ (Int))
 | e=>
 bif decide (e<(a.length:Int)) then
 bif decide (e<(c.length:Int)) then
 ZhX a c e
 else
 (Zee a c).map fun x=>.inr (x)
 else
 (Zee a c).map fun x=>.inr (x)
def ZbD (a c:List Int):Option Int:=
 loop (Zcs a c) (0)
def Zew (c:Zaf):Int->Option ((Int) ⊕ (Bool))
 | a=>
 bif decide (a<(c.Blocks.length:Int)) then
 (gIdx c.Blocks a).bind fun e=>
 (Zjb e c.Points).bind fun f=>
 bif !f then
 some (.inr (false))
 else
 bif decide (a>0) then
 (gIdx c.Blocks (ε.wrap (a-1))).bind fun g=>
 (gIdx c.Blocks a).bind fun h=>
 (ZbD g h).bind fun i=>
 bif decide (i>0) then
 some (.inr (false))
 else
 some (.inl (ε.wrap (a+1)))
 else
 some (.inl (ε.wrap (a+1)))
 else
 some (.inr (true))
def Zps (a:Zaf):Option (Bool):=
 loop (Zew a) (0)
def Zk7 (a:Zaf):Option Bool:=
 (Z3 a.Points 1 32).bind fun r8=>
 bif !r8 then
 some (false)
 else
 bif decide (((a.Blocks.length:Int):Int)>128) then
 some (false)
 else
 Zps a
def Zkw (e h:List Int):Int×Int->Option ((Int×Int) ⊕ (Int))
 | (a,c)=>
 bif decide (c<(e.length:Int)) then
 (gIdx e c).bind fun f=>
 (gIdx h c).bind fun g=>
 some (.inl (ε.wrap (a+(ε.wrap (f*g))),ε.wrap (c+1)))
 else
 some (.inr (a))
def ZgY (a c:List Int):Option Int:=
 loop (Zkw a c) (0,0)
def Za4 (c:List (List Int)) (e:Int):Int->Option ((Int) ⊕ ((Int) ⊕ (Bool)))
 | a=>
 bif decide (a<(c.length:Int)) then
 (gIdx c e).bind fun f=>
 (gIdx f a).bind fun g=>
 bif g !=1 then
 (gIdx c e).bind fun h=>
 (gIdx h a).bind fun i=>
 bif i !=(-1) then
 some (.inr (.inr (false)))
 else
 some (.inl (ε.wrap (a+1)))
 else
 some (.inl (ε.wrap (a+1)))
 else
 some (.inr (.inl (ε.wrap (e+1))))
def Zep (e:List (List Int)) (a:Int):Int->Option ((Int) ⊕ ((Int) ⊕ ((Int) ⊕ (Bool))))
 | c=>
 bif decide (c<a) then
 (gIdx e a).bind fun f=>
 (gIdx e c).bind fun g=>
 (ZgY f g).bind fun h=>
 bif h !=0 then
 some (.inr (.inr (.inr (false))))
 else
 some (.inl (ε.wrap (c+1)))
 else
 some (.inr (.inl (ε.wrap (a+1))))
def Zg4 (a:List (List Int)):Int->Option ((Int) ⊕ ((Int) ⊕ (Bool)))
 | c=>
 bif decide (c<(a.length:Int)) then
 loop (Zep a c) (0)
 else
 some (.inr (.inr (true)))
def Zha (a:List (List Int)):Int->Option ((Int) ⊕ (Bool))
 | c=>
 bif decide (c<(a.length:Int)) then
 (gIdx a c).bind fun e=>
 bif ((e.length:Int):Int) !=(a.length:Int) then
 some (.inr (false))
 else
 loop (Za4 a c) (0)
 else
 loop (Zg4 a) (0)
def ZnO (a:List (List Int)):Option (Bool):=
 loop (Zha a) (0)
def Zlw (a:List (List Int)):Option Bool:=
 bif decide (((a.length:Int):Int)<1) then
 some (false)
 else
 bif decide (((a.length:Int):Int)>32) then
 some (false)
 else
 ZnO a
def ZkA (a:Zg):Option Zai:=
 bif decide (((a.Rows.length:Int):Int)>0) then
 (gIdx a.Rows 0).bind fun c=>
 some ((Zai.mk a.Size (c.length:Int) a.Rows))
 else
 some ((Zai.mk a.Size 0 a.Rows))
def ZmY (g e:Int):Option Bool:=
 (Z3 g 2 16).bind fun a=>
 bif a then
 (Z3 e 1 8).bind fun c=>
 some (c)
 else
 some (false)
def Zfj (a:Zai) (c:Int):Int->Option ((Int) ⊕ ((Int) ⊕ (Bool)))
 | e=>
 (gIdx a.Rows c).bind fun f=>
 bif decide (e<(f.length:Int)) then
 (gIdx a.Rows c).bind fun g=>
 (gIdx g e).bind fun h=>
 (Z3 h 0 (ε.wrap (a.Levels-1))).bind fun i=>
 bif !i then
 some (.inr (.inr (false)))
 else
 some (.inl (ε.wrap (e+1)))
 else
 some (.inr (.inl (ε.wrap (c+1))))
def ZgM (a:Zai):Int->Option ((Int) ⊕ (Bool))
 | c=>
 bif decide (c<(a.Rows.length:Int)) then
 (gIdx a.Rows c).bind fun e=>
 bif ((e.length:Int):Int) !=a.Columns then
 some (.inr (false))
 else
 loop (Zfj a c) (0)
 else
 some (.inr (true))
def Zn4 (a:Zai):Option (Bool):=
 loop (ZgM a) (0)
def ZjD (a:Zai):Option Bool:=
 (ZmY a.Levels a.Columns).bind fun c=>
 bif !c then
 some (false)
 else
 bif decide (((a.Rows.length:Int):Int)>256) then
 some (false)
 else
 Zn4 a
def Zoc (a:Int):Int×Int->Option ((Int×Int) ⊕ ((Int) ⊕ (Int×Int)))
 | (e,c)=>
 bif decide (c>1) then
 (gNz a).bind fun _=>
 bif (Int.tmod c a:Int) !=0 then
 some (.inr (.inr ((0,0))))
 else
 (gNz a).bind fun _=>
 some (.inl (ε.wrap (e+1),ε.wrap (Int.tdiv c a)))
 else
 some (.inr (.inr ((a,e))))
def Zpq (c:Int):Int->Option ((Int) ⊕ (Int×Int))
 | a=>
 (gNz a).bind fun _=>
 bif (Int.tmod c a:Int) !=0 then
 some (.inl (ε.wrap (a+1)))
 else
 loop (Zoc a) (0,c)
def ZbU (a:Int):Option (Int×Int):=
 (Z3 a 2 64).bind fun r8=>
 bif !r8 then
 some ((0,0))
 else
 loop (Zpq a) (2)
def Zdt (p1:Int):Int×Int×List Int->Option ((Int×Int×List Int) ⊕ (List Int))
 | (a,c,e)=>
 bif decide (c>0) then
 (gNz p1).bind fun _=>
 (gApp 8 e [Int.tmod a p1]).bind fun f=>
 (gNz p1).bind fun _=>
 some (.inl (ε.wrap (Int.tdiv a p1),ε.wrap (c-1),f))
 else
 some (.inr (e))
def Zbe (a p1 n2:Int):Option (List Int):=
 loop (Zdt p1) (a,n2,([]:List Int))
def ZpY (e:Int):Int×Int->Option ((Int×Int) ⊕ (Int))
 | (a,c)=>
 bif decide (a>0) then
 some (.inl (ε.wrap (a-1),ε.wrap (c*e)))
 else
 some (.inr (c))
def Zed (a k1:Int):Option Int:=
 loop (ZpY a) (k1,1)
def ZaY (a:List Int):Option (List Int):=
 (gApp 8 ([]:List Int) a).bind fun c=>
 some (c)
def Zfk (e:List Int) (g f h:Int):Int×List Int->Option ((Int×List Int) ⊕ ((Int×List Int) ⊕ (List Int)))
 | (a,c)=>
 bif decide (a<(e.length:Int)) then
 (gIdx c (ε.wrap ((ε.wrap ((ε.wrap (f-(e.length:Int)))+1))+a))).bind fun i=>
 (gIdx e a).bind fun j=>
 (gNz g).bind fun _=>
 (gIdx c (ε.wrap ((ε.wrap ((ε.wrap (f-(e.length:Int)))+1))+a))).bind fun k=>
 some (.inl (ε.wrap (a+1),(c.set (ε.wrap ((ε.wrap ((ε.wrap (f-(e.length:Int)))+1))+a):Int).toNat (Int.tmod (ε.wrap (i+(ε.wrap ((ε.wrap (g-h))*j)))) g))))
 else
 some (.inr (.inl (ε.wrap (f-1),c)))
def ZcU (e:List Int):List Int->Option ((List Int) ⊕ ((Int×List Int) ⊕ (List Int)))
 | a=>
 bif decide (((a.length:Int):Int)>=(e.length:Int)) then
 (gSl a 0 (ε.wrap ((a.length:Int)-1))).bind fun c=>
 some (.inl (c))
 else
 some (.inr (.inr (a)))
def Zbv (a:List Int) (f:Int):Int×List Int->Option ((Int×List Int) ⊕ (List Int))
 | (c,xs)=>
 bif decide (c>=(ε.wrap ((a.length:Int)-1))) then
 (gIdx xs c).bind fun e=>
 loop (Zfk a f c e) (0,xs)
 else
 loop (ZcU a) (xs)
def ZdX (c e:List Int) (f:Int):Option (List Int):=
 (ZaY c).bind fun a=>
 loop (Zbv e f) (ε.wrap ((a.length:Int)-1),a)
def ZeS (c:List Int) (p1:Int):Int×Int->Option ((Int×Int) ⊕ (Int))
 | (a,e)=>
 bif decide (e>=0) then
 (gIdx c e).bind fun f=>
 some (.inl (ε.wrap ((ε.wrap (a*p1))+f),ε.wrap (e-1)))
 else
 some (.inr (a))
def Zbi (a:List Int) (p1:Int):Option Int:=
 loop (ZeS a p1) (0,ε.wrap ((a.length:Int)-1))
def ZmM (a:List Int) (p1 c:Int):Int->Option ((Int) ⊕ ((Int) ⊕ (Bool)))
 | e=>
 (Zed p1 c).bind fun f=>
 bif decide (e<f) then
 (Zbe e p1 c).bind fun g=>
 (gApp 8 g [1]).bind fun h=>
 (ZdX a h p1).bind fun i=>
 (Zbi i p1).bind fun j=>
 bif j==0 then
 some (.inr (.inr (false)))
 else
 some (.inl (ε.wrap (e+1)))
 else
 some (.inr (.inl (ε.wrap (c+1))))
def Zpl (a:List Int) (p1:Int):Int->Option ((Int) ⊕ (Bool))
 | c=>
 bif decide ((ε.wrap (2*c):Int)<=(ε.wrap ((a.length:Int)-1))) then
 loop (ZmM a p1 c) (0)
 else
 some (.inr (true))
def Zhw (a:List Int) (p1:Int):Option Bool:=
 loop (Zpl a p1) (1)
def ZnS (a:Int×Int):Int->Option ((Int) ⊕ (Ze))
 | e=>
 (Zbe e a.1 a.2).bind fun f=>
 (gApp 8 f [1]).bind fun c=>
 (Zhw c a.1).bind fun g=>
 bif g then
 some (.inr ((Ze.mk a.1 a.2 c)))
 else
 some (.inl (ε.wrap (e+1)))
def ZgV (a:Int):Option Ze:=
 (ZbU a).bind fun c=>
 loop (ZnS c) (0)
def Zbs (c:Zg):Option ZZ:=
 (ZbU c.Size).bind fun e=>
 bif e.1==0 then
 some ((ZZ.mk (Ze.mk 0 0 ([]:List Int)) ([]:List (List Int))))
 else
 (ZgV c.Size).bind fun a=>
 some ((ZZ.mk (Ze.mk a.Prime a.Degree a.Poly) c.Rows))
def Zpg (c:Ze) (a:Int×Int):Int->Option ((Int) ⊕ (Bool))
 | e=>
 bif decide (e<(c.Poly.length:Int)) then
 (gIdx c.Poly e).bind fun f=>
 (Z3 f 0 (ε.wrap (a.1-1))).bind fun g=>
 bif !g then
 some (.inr (false))
 else
 some (.inl (ε.wrap (e+1)))
 else
 (Zhw c.Poly a.1).bind fun h=>
 some (.inr (h))
def Zk9 (a:Ze):Option (Bool):=
 (Zed a.Prime a.Degree).bind fun e=>
 (ZbU e).bind fun c=>
 bif c.1 !=a.Prime then
 some (false)
 else
 loop (Zpg a c) (0)
def Zg3 (a:Ze):Option Bool:=
 (Z3 a.Prime 2 64).bind fun c=>
 bif !c then
 some (false)
 else
 (Z3 a.Degree 1 6).bind fun e=>
 bif !e then
 some (false)
 else
 bif ((a.Poly.length:Int):Int) !=(ε.wrap (a.Degree+1)) then
 some (false)
 else
 (gIdx a.Poly a.Degree).bind fun f=>
 bif f !=1 then
 some (false)
 else
 Zk9 a
def Za8 (a:Ze):Option Int:=
 (Zed a.Prime a.Degree).bind fun c=>
 some (c)
def ZfW (v1:List Int) (r8:Int):Int->Option ((Int) ⊕ (Bool))
 | a=>
 bif decide (a<(v1.length:Int)) then
 (gIdx v1 a).bind fun c=>
 (Z3 c 0 (ε.wrap (r8-1))).bind fun e=>
 bif !e then
 some (.inr (false))
 else
 some (.inl (ε.wrap (a+1)))
 else
 some (.inr (true))
def ZlD (a:Ze) (v1:List Int):Option Bool:=
 (Za8 a).bind fun r8=>
 loop (ZfW v1 r8) (0)
def Zh2 (i:Ze) (a:List (List Int)):Int->Option ((Int) ⊕ (Bool))
 | c=>
 bif decide (c<(a.length:Int)) then
 (gIdx a c).bind fun e=>
 (gIdx a 0).bind fun f=>
 bif ((e.length:Int):Int) !=(f.length:Int) then
 some (.inr (false))
 else
 (gIdx a c).bind fun g=>
 (ZlD i g).bind fun h=>
 bif !h then
 some (.inr (false))
 else
 some (.inl (ε.wrap (c+1)))
 else
 some (.inr (true))
def Zm9 (a:Ze) (c:List (List Int)):Option (Bool):=
 loop (Zh2 a c) (0)
def ZkG (c:Ze) (a:List (List Int)):Option Bool:=
 (Zg3 c).bind fun g=>
 bif !g then
 some (false)
 else
 bif ((a.length:Int):Int)==0 then
 some (false)
 else
 bif decide (((a.length:Int):Int)>32) then
 some (false)
 else
 (gIdx a 0).bind fun e=>
 bif ((e.length:Int):Int)==0 then
 some (false)
 else
 (gIdx a 0).bind fun f=>
 bif decide (((f.length:Int):Int)>32) then
 some (false)
 else
 Zm9 c a
def ZbB (e:Int):Int×Int->Option ((Int×Int) ⊕ (Int))
 | (a,c)=>
 bif decide (a>0) then
 bif decide ((ε.wrap (c*e):Int)>4096) then
 some (.inr (0))
 else
 some (.inl (ε.wrap (a-1),ε.wrap (c*e)))
 else
 some (.inr (c))
def ZjP (a k1:Int):Option Int:=
 loop (ZbB a) (k1,1)
def Zky (c g:List Int):Int->Option ((Int) ⊕ (Bool))
 | a=>
 bif decide (a<(c.length:Int)) then
 (gIdx c a).bind fun e=>
 (gIdx g a).bind fun f=>
 bif e !=f then
 some (.inr (false))
 else
 some (.inl (ε.wrap (a+1)))
 else
 some (.inr (true))
def Zmj (a c:List Int):Option Bool:=
 bif ((a.length:Int):Int) !=(c.length:Int) then
 some (false)
 else
 loop (Zky a c) (0)
def ZkI (c h:List (List Int)):Int->Option ((Int) ⊕ (Bool))
 | a=>
 bif decide (a<(c.length:Int)) then
 (gIdx c a).bind fun e=>
 (gIdx h a).bind fun f=>
 (Zmj e f).bind fun g=>
 bif !g then
 some (.inr (false))
 else
 some (.inl (ε.wrap (a+1)))
 else
 some (.inr (true))
def ZgI (a c:List (List Int)):Option Bool:=
 bif ((a.length:Int):Int) !=(c.length:Int) then
 some (false)
 else
 loop (ZkI a c) (0)
def ZhM (e:List (List Int)):List (List Int)×Int->Option ((List (List Int)×Int) ⊕ (List (List Int)))
 | (a,c)=>
 bif decide (c<(e.length:Int)) then
 (gIdx e c).bind fun f=>
 (ZaY f).bind fun g=>
 (gApp 24 a [g]).bind fun h=>
 some (.inl (h,ε.wrap (c+1)))
 else
 some (.inr (a))
def ZhF (a:List (List Int)):Option (List (List Int)):=
 loop (ZhM a) (([]:List (List Int)),0)
def Zi6 (g:Ze) (h f:List Int) (e:Int):Int×List Int->Option ((Int×List Int) ⊕ ((Int×List Int) ⊕ (Int)))
 | (a,c)=>
 bif decide (a<(f.length:Int)) then
 (gIdx c (ε.wrap (e+a))).bind fun i=>
 (gIdx h e).bind fun j=>
 (gIdx f a).bind fun k=>
 (gNz g.Prime).bind fun _=>
 (gIdx c (ε.wrap (e+a))).bind fun l=>
 some (.inl (ε.wrap (a+1),(c.set (ε.wrap (e+a):Int).toNat (Int.tmod (ε.wrap (i+(ε.wrap (j*k)))) g.Prime))))
 else
 some (.inr (.inl (ε.wrap (e+1),c)))
def ZdA (a:Ze) (c f:List Int):Int×List Int->Option ((Int×List Int) ⊕ (Int))
 | (e,xs)=>
 bif decide (e<(c.length:Int)) then
 loop (Zi6 a c f e) (0,xs)
 else
 (ZdX xs a.Poly a.Prime).bind fun g=>
 (Zbi g a.Prime).bind fun h=>
 some (.inr (h))
def ZfU (a:Ze) (g h:Int):Option Int:=
 (Zbe g a.Prime a.Degree).bind fun c=>
 (Zbe h a.Prime a.Degree).bind fun e=>
 (gMake 8 (0:Int) (ε.wrap ((ε.wrap (2*a.Degree))-1)) (ε.wrap ((ε.wrap (2*a.Degree))-1))).bind fun f=>
 loop (ZdA a c e) (0,f)
def ZgS (h:Ze) (v1:List Int) (c2:Int):List Int×Int->Option ((List Int×Int) ⊕ (List Int))
 | (a,c)=>
 bif decide (c<(v1.length:Int)) then
 (gIdx v1 c).bind fun e=>
 (ZfU h e c2).bind fun f=>
 (gApp 8 a [f]).bind fun g=>
 some (.inl (g,ε.wrap (c+1)))
 else
 some (.inr (a))
def ZgC (a:Ze) (v1:List Int) (c2:Int):Option (List Int):=
 loop (ZgS a v1 c2) (([]:List Int),0)
def Zkn (c:Ze) (e:Int):Int->Option ((Int) ⊕ (Int))
 | a=>
 (ZfU c e a).bind fun f=>
 bif f !=1 then
 some (.inl (ε.wrap (a+1)))
 else
 some (.inr (a))
def Zjd (a:Ze) (c:Int):Option Int:=
 loop (Zkn a c) (1)
def Zgu (c:Ze) (k3:Int) (e:List Int):Int×List Int->Option ((Int×List Int) ⊕ (Int))
 | (a,xs)=>
 bif decide (a<(xs.length:Int)) then
 (gIdx xs a).bind fun f=>
 (gIdx e a).bind fun g=>
 (gNz c.Prime).bind fun _=>
 (gIdx xs a).bind fun i=>
 some (.inl (ε.wrap (a+1),(xs.set a.toNat (Int.tmod (ε.wrap (f+(ε.wrap (k3*g)))) c.Prime))))
 else
 (Zbi xs c.Prime).bind fun h=>
 some (.inr (h))
def Zin (a:Ze) (f g k3:Int):Option Int:=
 (Zbe f a.Prime a.Degree).bind fun c=>
 (Zbe g a.Prime a.Degree).bind fun e=>
 loop (Zgu a k3 e) (0,c)
def Ziq (e:Ze) (v1 w2:List Int) (k:Int):List Int×Int->Option ((List Int×Int) ⊕ (List Int))
 | (c,a)=>
 bif decide (a<(v1.length:Int)) then
 (gIdx w2 a).bind fun f=>
 (ZfU e f k).bind fun g=>
 (gIdx v1 a).bind fun h=>
 (Zin e h g (ε.wrap (e.Prime-1))).bind fun i=>
 (gApp 8 c [i]).bind fun j=>
 some (.inl (j,ε.wrap (a+1)))
 else
 some (.inr (c))
def Zjt (a:Ze) (v1 w2:List Int) (c:Int):Option (List Int):=
 loop (Ziq a v1 w2 c) (([]:List Int),0)
def ZfH (o:Ze) (i:List Int) (e:Int) (j:List Int):Int×List (List Int)->Option ((Int×List (List Int)) ⊕ ((List Int×Int×List (List Int)) ⊕ ((List (List Int))×(List Int))))
 | (c,a)=>
 bif decide (c<(a.length:Int)) then
 bif c !=(i.length:Int) then
 (gIdx a c).bind fun k=>
 (gIdx a c).bind fun l=>
 (gIdx l e).bind fun f=>
 (Zjt o k j f).bind fun g=>
 (gIdx a c).bind fun p=>
 some (.inl (ε.wrap (c+1),(a.set c.toNat g)))
 else
 some (.inl (ε.wrap (c+1),a))
 else
 (gApp 8 i [e]).bind fun h=>
 some (.inr (.inl (h,ε.wrap (e+1),a)))
def ZaF (h:Ze) (c:List Int) (e:Int) (xs:List (List Int)) (a:Int):Option ((List Int×Int×List (List Int)) ⊕ ((List (List Int))×(List Int))):=
 bif a==(xs.length:Int) then
 some (.inl (c,ε.wrap (e+1),xs))
 else
 (gIdx xs a).bind fun i=>
 (gIdx i e).bind fun j=>
 (Zjd h j).bind fun k=>
 (gIdx xs a).bind fun l=>
 (ZgC h l k).bind fun f=>
 (gIdx xs (c.length:Int)).bind fun g=>
 (gIdx xs a).bind fun o=>
 (gIdx (xs.set a.toNat g) (c.length:Int)).bind fun p=>
 loop (ZfH h c e f) (0,((xs.set a.toNat g).set ((c.length:Int):Int).toNat f))
def ZcZ (e:Ze) (f:List Int) (c:Int) (xs:List (List Int)):Int->Option ((Int) ⊕ ((List Int×Int×List (List Int)) ⊕ ((List (List Int))×(List Int))))
 | a=>
 bif decide (a<(xs.length:Int)) then
 (gIdx xs a).bind fun g=>
 (gIdx g c).bind fun h=>
 bif h==0 then
 some (.inl (ε.wrap (a+1)))
 else
 (ZaF e f c xs a).map fun x=>.inr (x)
 else
 (ZaF e f c xs a).map fun x=>.inr (x)
def Zkd (e:Ze) (a:List Int) (c:Int) (xs:List (List Int)):Option ((List Int×Int×List (List Int)) ⊕ ((List (List Int))×(List Int))):=
 loop (ZcZ e a c xs) ((a.length:Int))
def Zc1 (e:Ze) (f:Int):List Int×Int×List (List Int)->Option ((List Int×Int×List (List Int)) ⊕ ((List (List Int))×(List Int)))
 | (a,c,xs)=>
 bif decide (c<f) then
 bif decide (((a.length:Int):Int)<(xs.length:Int)) then
 Zkd e a c xs
 else
 some (.inr ((xs,a)))
 else
 some (.inr ((xs,a)))
def Zpb (c:Ze) (e:List (List Int)) (f:Int):Option ((List (List Int))×(List Int)):=
 (ZhF e).bind fun a=>
 loop (Zc1 c f) (([]:List Int),0,a)
def ZhN (g:Ze) (c:List (List Int)):Option (List (List Int)):=
 (gIdx c 0).bind fun e=>
 (Zpb g c (e.length:Int)).bind fun a=>
 (gSl a.1 0 (a.2.length:Int)).bind fun f=>
 some (f)
def Zdj (a:ZZ):Option (Bool):=
 (Za8 (Ze.mk a.Field.Prime a.Field.Degree a.Field.Poly)).bind fun c=>
 (ZjP c (a.Rows.length:Int)).bind fun e=>
 bif e==0 then
 some (false)
 else
 (ZhN (Ze.mk a.Field.Prime a.Field.Degree a.Field.Poly) a.Rows).bind fun f=>
 (ZgI f a.Rows).bind fun g=>
 some (g)
def ZaI (a:ZZ):Option Bool:=
 (ZkG (Ze.mk a.Field.Prime a.Field.Degree a.Field.Poly) a.Rows).bind fun c=>
 bif !c then
 some (false)
 else
 (gIdx a.Rows 0).bind fun e=>
 bif decide (((e.length:Int):Int)>32) then
 some (false)
 else
 bif decide (((a.Rows.length:Int):Int)>8) then
 some (false)
 else
 Zdj a
def Zl4 (a:List Int):Int->Option ((Int) ⊕ (Bool))
 | c=>
 bif decide (c<(a.length:Int)) then
 (gIdx a c).bind fun e=>
 (Z3 e 0 63).bind fun f=>
 bif !f then
 some (.inr (false))
 else
 some (.inl (ε.wrap (c+1)))
 else
 some (.inr (true))
def Zi8 (a:List Int):Option Bool:=
 bif decide (((a.length:Int):Int)>64) then
 some (false)
 else
 loop (Zl4 a) (0)
def Zlp (a c:Zb):Option Bool:=
 bif decide (a.A<c.A) then
 some (true)
 else
 bif a.A==c.A then
 some (decide (a.B<c.B))
 else
 some (false)
def ZdI (e:Za):Int->Option ((Int) ⊕ (Bool))
 | c=>
 bif decide (c<(e.Edges.length:Int)) then
 (gIdx e.Edges c).bind fun a=>
 (Z3 a.A 0 (ε.wrap ((e.Colors.length:Int)-1))).bind fun f=>
 bif !f then
 some (.inr (false))
 else
 (Z3 a.B (ε.wrap (a.A+1)) (ε.wrap ((e.Colors.length:Int)-1))).bind fun g=>
 bif !g then
 some (.inr (false))
 else
 bif decide (c>0) then
 (gIdx e.Edges (ε.wrap (c-1))).bind fun h=>
 (Zlp h (Zb.mk a.A a.B)).bind fun i=>
 bif !i then
 some (.inr (false))
 else
 some (.inl (ε.wrap (c+1)))
 else
 some (.inl (ε.wrap (c+1)))
 else
 some (.inr (true))
def ZoM (a:Za):Option (Bool):=
 loop (ZdI a) (0)
def Ziv (a:Za):Option Bool:=
 (Zi8 a.Colors).bind fun r8=>
 bif !r8 then
 some (false)
 else
 bif decide (((a.Edges.length:Int):Int)>512) then
 some (false)
 else
 ZoM a
def Zfl (c:Zg) (e:List Int):Int×List Zb->Option ((Int×List Zb) ⊕ (Za×Bool))
 | (a,xs)=>
 bif decide (a<(c.Rows.length:Int)) then
 (gIdx c.Rows a).bind fun f=>
 bif ((f.length:Int):Int) !=2 then
 some (.inr (((Za.mk ([]:List Int) ([]:List Zb)),false)))
 else
 (gIdx c.Rows a).bind fun g=>
 (gIdx g 0).bind fun h=>
 (gIdx c.Rows a).bind fun i=>
 (gIdx i 1).bind fun j=>
 (gApp 16 xs [(Zb.mk h j)]).bind fun k=>
 some (.inl (ε.wrap (a+1),k))
 else
 (Ziv (Za.mk e xs)).bind fun l=>
 some (.inr (((Za.mk e xs),l)))
def Zgw (a:Zg):Option (Za×Bool):=
 (Z3 a.Size 0 64).bind fun c=>
 bif !c then
 some (((Za.mk ([]:List Int) ([]:List Zb)),false))
 else
 (gMake 8 (0:Int) a.Size a.Size).bind fun e=>
 loop (Zfl a e) (0,([]:List Zb))
def ZbA (e:List (List Int)) (p1:List Int):Int×Int->Option ((Int×Int) ⊕ (Int×Bool))
 | (c,a)=>
 bif decide (c<a) then
 (gNz 2).bind fun _=>
 (gIdx e (ε.wrap (Int.tdiv (ε.wrap (c+a)) 2))).bind fun g=>
 (ZbD g p1).bind fun f=>
 bif f==0 then
 some (.inr ((ε.wrap (Int.tdiv (ε.wrap (c+a)) 2),true)))
 else
 bif decide (f<0) then
 some (.inl (ε.wrap ((ε.wrap (Int.tdiv (ε.wrap (c+a)) 2))+1),a))
 else
 some (.inl (c,ε.wrap (Int.tdiv (ε.wrap (c+a)) 2)))
 else
 some (.inr ((c,false)))
def Ze6 (a:List (List Int)) (p1:List Int):Option (Int×Bool):=
 loop (ZbA a p1) (0,(a.length:Int))
def Zg6 (n0:Int):List Int×Int->Option ((List Int×Int) ⊕ (List Int))
 | (a,c)=>
 bif decide (c<n0) then
 (gApp 8 a [c]).bind fun e=>
 some (.inl (e,ε.wrap (c+1)))
 else
 some (.inr (a))
def ZiH (n0:Int):Option (List Int):=
 loop (Zg6 n0) (([]:List Int),0)
def Ziw (e i:List Int):List Int×Int->Option ((List Int×Int) ⊕ (List Int))
 | (a,c)=>
 bif decide (c<(e.length:Int)) then
 (gIdx e c).bind fun f=>
 (gIdx i f).bind fun g=>
 (gApp 8 a [g]).bind fun h=>
 some (.inl (h,ε.wrap (c+1)))
 else
 some (.inr (a))
def ZlT (a c:List Int):Option (List Int):=
 loop (Ziw a c) (([]:List Int),0)
def ZkT (a:List (List Int)) (c:Int) (p2:List Int):Option (List (List Int)):=
 (gSl a 0 c).bind fun e=>
 (gApp 24 ([]:List (List Int)) e).bind fun f=>
 (gApp 24 f [p2]).bind fun g=>
 (gSl a c (a.length:Int)).bind fun h=>
 (gApp 24 g h).bind fun i=>
 some (i)
def ZaW (r:List (List Int)) (g h:Int):List (List Int)×List (List Int)×Int->Option ((List (List Int)×List (List Int)×Int) ⊕ ((List (List Int)×List (List Int)×Int) ⊕ ((List (List Int))×Bool)))
 | (c,a,e)=>
 bif decide (e<(r.length:Int)) then
 (gIdx a h).bind fun j=>
 (gIdx r e).bind fun k=>
 (ZlT j k).bind fun f=>
 (Ze6 c f).bind fun i=>
 bif i.2 then
 some (.inl (c,a,ε.wrap (e+1)))
 else
 bif ((c.length:Int):Int)==g then
 some (.inr (.inr ((([]:List (List Int)),false))))
 else
 (ZkT c i.1 f).bind fun l=>
 (gApp 24 a [f]).bind fun o=>
 some (.inl (l,o,ε.wrap (e+1)))
 else
 some (.inr (.inl (c,a,ε.wrap (h+1))))
def ZcM (g:List (List Int)) (c:Int):List (List Int)×List (List Int)×Int->Option ((List (List Int)×List (List Int)×Int) ⊕ ((List (List Int))×Bool))
 | (a,queue10,e)=>
 bif decide (e<(queue10.length:Int)) then
 loop (ZaW g c e) (a,queue10,0)
 else
 some (.inr ((a,true)))
def ZdJ (g:Int) (e:List (List Int)) (a:Int):Option ((List (List Int))×Bool):=
 (ZiH g).bind fun c=>
 loop (ZcM e a) ([c],[c],0)
def ZbS (r:Int) (a:List (List Int)):List (List Int)×List (List Int)×Int->Option ((List (List Int)×List (List Int)×Int) ⊕ ((List (List Int))×Bool))
 | (e,c,f)=>
 bif decide (f<(a.length:Int)) then
 (gIdx a f).bind fun i=>
 (Ze6 c i).bind fun j=>
 bif j.2 then
 some (.inl (e,c,ε.wrap (f+1)))
 else
 (gIdx a f).bind fun k=>
 (ZaY k).bind fun l=>
 (gApp 24 e [l]).bind fun g=>
 (ZdJ r g (a.length:Int)).bind fun h=>
 bif !h.2 then
 some (.inr ((([]:List (List Int)),false)))
 else
 some (.inl (g,h.1,ε.wrap (f+1)))
 else
 (ZgI c a).bind fun o=>
 some (.inr ((e,o)))
def ZiF (e:Int) (a:List (List Int)):Option ((List (List Int))×Bool):=
 (ZdJ e ([]:List (List Int)) 1).bind fun c=>
 loop (ZbS e a) (([]:List (List Int)),c.1,0)
def ZdC (a:ZaB):Int->Option ((Int) ⊕ (Bool))
 | c=>
 bif decide (c<(a.Elements.length:Int)) then
 (gIdx a.Elements c).bind fun e=>
 (ZeV e).bind fun f=>
 bif !f then
 some (.inr (false))
 else
 (gIdx a.Elements c).bind fun g=>
 bif ((g.length:Int):Int) !=a.Degree then
 some (.inr (false))
 else
 bif decide (c>0) then
 (gIdx a.Elements (ε.wrap (c-1))).bind fun h=>
 (gIdx a.Elements c).bind fun i=>
 (ZbD h i).bind fun j=>
 bif decide (j>=0) then
 some (.inr (false))
 else
 some (.inl (ε.wrap (c+1)))
 else
 some (.inl (ε.wrap (c+1)))
 else
 (ZiF a.Degree a.Elements).bind fun k=>
 some (.inr (k.2))
def ZpT (a:ZaB):Option (Bool):=
 loop (ZdC a) (0)
def ZlK (a:ZaB):Option Bool:=
 (Z3 a.Degree 1 32).bind fun c=>
 bif !c then
 some (false)
 else
 bif ((a.Elements.length:Int):Int)==0 then
 some (false)
 else
 bif decide (((a.Elements.length:Int):Int)>720) then
 some (false)
 else
 ZpT a
def Zat (a:Zg):Option Bool:=
 bif a.Kind==1 then
 (Zhe a.Rows).bind fun g=>
 bif g then
 some (((a.Rows.length:Int):Int)==a.Size)
 else
 some (false)
 else
 bif a.Kind==2 then
 (Zk7 (Zaf.mk a.Size a.Rows)).bind fun h=>
 some (h)
 else
 bif a.Kind==3 then
 (Zlw a.Rows).bind fun i=>
 bif i then
 some (((a.Rows.length:Int):Int)==a.Size)
 else
 some (false)
 else
 bif a.Kind==4 then
 (ZkA a).bind fun e=>
 bif decide (((a.Rows.length:Int):Int)>0) then
 (ZjD (Zai.mk e.Levels e.Columns e.Rows)).bind fun j=>
 some (j)
 else
 some (false)
 else
 bif a.Kind==5 then
 (Zbs a).bind fun c=>
 (ZaI (ZZ.mk (Ze.mk c.Field.Prime c.Field.Degree c.Field.Poly) c.Rows)).bind fun k=>
 some (k)
 else
 bif a.Kind==6 then
 (Zgw a).bind fun l=>
 some (l.2)
 else
 bif a.Kind==7 then
 (ZlK (ZaB.mk a.Size a.Rows)).bind fun f=>
 some (f)
 else
 some (false)
def Zbn (a:Int):Option Bool:=
 bif decide (a>=97) then
 some (decide (a<=122))
 else
 some (false)
def Zdx (a:Int):Option Bool:=
 bif decide (a>=48) then
 some (decide (a<=57))
 else
 some (false)
def Zc7 (c:ByteArray):Int->Option ((Int) ⊕ (Bool))
 | a=>
 bif decide (a<(c.size:Int)) then
 (gSt c a).bind fun e=>
 (Zbn (e.toNat:Int)).bind fun f=>
 bif !f then
 (gSt c a).bind fun g=>
 (Zdx (g.toNat:Int)).bind fun h=>
 bif !h then
 some (.inr (false))
 else
 some (.inl (ε.wrap (a+1)))
 else
 some (.inl (ε.wrap (a+1)))
 else
 some (.inr (true))
def ZpZ (a:ByteArray):Option (Bool):=
 loop (Zc7 a) (0)
def ZhI (a:ByteArray):Option Bool:=
 bif a.toList==(⟨#[]⟩:ByteArray).toList then
 some (false)
 else
 bif decide (((a.size:Int):Int)>10) then
 some (false)
 else
 (gSt a 0).bind fun c=>
 (Zbn (c.toNat:Int)).bind fun e=>
 bif !e then
 some (false)
 else
 ZpZ a
def Zkg (x0:Zd):Option Bool:=
 (ZhI x0.Name).bind fun c=>
 bif c then
 (Zat (Zg.mk x0.Object.Kind x0.Object.Size x0.Object.Rows)).bind fun a=>
 bif a then
 bif decide (((x0.Key.size:Int):Int)>0) then
 some (decide (((x0.Key.size:Int):Int)<=4000))
 else
 some (false)
 else
 some (false)
 else
 some (false)
def ZgA (e:Zi) (a:Int):Int->Option ((Int) ⊕ ((Int) ⊕ (Bool)))
 | c=>
 bif decide (c<a) then
 (gIdx e.Items a).bind fun f=>
 (gIdx e.Items c).bind fun g=>
 (Zfr f g).bind fun h=>
 bif h then
 some (.inr (.inr (false)))
 else
 some (.inl (ε.wrap (c+1)))
 else
 some (.inr (.inl (ε.wrap (a+1))))
def Zg0 (a:Zi) (c:Int):Option ((Int) ⊕ (Bool)):=
 loop (ZgA a c) (0)
def Zca (a:Zi):Int->Option ((Int) ⊕ (Bool))
 | c=>
 bif decide (c<(a.Items.length:Int)) then
 (gIdx a.Items c).bind fun e=>
 (Zkg e).bind fun f=>
 bif !f then
 some (.inr (false))
 else
 bif decide (c>0) then
 (gIdx a.Items (ε.wrap (c-1))).bind fun g=>
 (gIdx a.Items c).bind fun h=>
 bif !(Op.bytesLess (g.Name.toList) (h.Name.toList)) then
 some (.inr (false))
 else
 Zg0 a c
 else
 Zg0 a c
 else
 some (.inr (decide (((a.Items.length:Int):Int)<=24)))
def Zjj (a:Zi):Option Bool:=
 loop (Zca a) (0)
def Zi5 (c:Int) (xs:List Int) (e:Int):Option ((Int×List Int) ⊕ (Za)):=
 (gApp 8 xs [e]).bind fun a=>
 some (.inl (ε.wrap (c+1),a))
def ZcB (e:List (List Int)) (f g a:Int) (c:List Zb) (h:Bool):Option ((Int×List Zb) ⊕ ((Int×List Zb) ⊕ ((Int×List Zb) ⊕ ((Int×List Int) ⊕ ((Int×List Int) ⊕ (Za)))))):=
 bif h then
 (gApp 16 c [(Zb.mk f (ε.wrap ((ε.wrap ((ε.wrap (3*(e.length:Int)))+(ε.wrap (g*(e.length:Int)))))+a)))]).bind fun i=>
 some (.inl (ε.wrap (a+1),i))
 else
 some (.inl (ε.wrap (a+1),c))
def Zb3 (g:List (List Int)) (a c:Int):Int×List Zb->Option ((Int×List Zb) ⊕ ((Int×List Zb) ⊕ ((Int×List Zb) ⊕ ((Int×List Int) ⊕ ((Int×List Int) ⊕ (Za))))))
 | (e,f)=>
 bif decide (e<(g.length:Int)) then
 bif a==c then
 ZcB g a c e f true
 else
 bif a==(ε.wrap ((g.length:Int)+e)) then
 ZcB g a c e f true
 else
 (gIdx g c).bind fun h=>
 (gIdx h e).bind fun i=>
 ZcB g a c e f (a==(ε.wrap ((ε.wrap (2*(g.length:Int)))+i)))
 else
 some (.inr (.inl (ε.wrap (c+1),f)))
def Zfp (f:List (List Int)) (c:Int):Int×List Zb->Option ((Int×List Zb) ⊕ ((Int×List Zb) ⊕ ((Int×List Int) ⊕ ((Int×List Int) ⊕ (Za)))))
 | (e,a)=>
 bif decide (e<(f.length:Int)) then
 loop (Zb3 f c e) (0,a)
 else
 some (.inr (.inl (ε.wrap (c+1),a)))
def Zfe (f:List (List Int)) (e:List Int):Int×List Zb->Option ((Int×List Zb) ⊕ ((Int×List Int) ⊕ ((Int×List Int) ⊕ (Za))))
 | (c,a)=>
 bif decide (c<(ε.wrap (3*(f.length:Int)))) then
 loop (Zfp f c) (0,a)
 else
 some (.inr (.inr (.inr ((Za.mk e a)))))
def ZdS (c:List (List Int)):Int×List Int->Option ((Int×List Int) ⊕ ((Int×List Int) ⊕ (Za)))
 | (e,a)=>
 bif decide (e<(ε.wrap ((c.length:Int)*(c.length:Int)))) then
 (gApp 8 a [3]).bind fun f=>
 some (.inl (ε.wrap (e+1),f))
 else
 loop (Zfe c a) (0,([]:List Zb))
def ZhK (a:List (List Int)) (e:Bool):Int×List Int->Option ((Int×List Int) ⊕ (Za))
 | (c,xs)=>
 bif decide (c<(ε.wrap (3*(a.length:Int)))) then
 bif !e then
 (gNz (a.length:Int)).bind fun _=>
 Zi5 c xs (ε.wrap (Int.tdiv c (a.length:Int)))
 else
 Zi5 c xs 0
 else
 loop (ZdS a) (0,xs)
def Zjv (a:List (List Int)) (c:Bool):Option Za:=
 loop (ZhK a c) (0,([]:List Int))
def Zhh (c:List (List Int)) (g:Bool):Option (Za×Int):=
 (Zhe c).bind fun e=>
 bif !e then
 some (((Za.mk ([]:List Int) ([]:List Zb)),1))
 else
 bif decide (((c.length:Int):Int)>6) then
 some (((Za.mk ([]:List Int) ([]:List Zb)),5))
 else
 (Zjv c g).bind fun a=>
 some (((Za.mk a.Colors a.Edges),0))
def Zde (e:Zaf) (f:Int):Int×List Zb->Option ((Int×List Zb) ⊕ ((Int×List Zb) ⊕ ((Int×List Int) ⊕ ((Int×List Int) ⊕ (Za×Int)))))
 | (c,a)=>
 bif decide (c<(e.Blocks.length:Int)) then
 (gIdx e.Blocks c).bind fun g=>
 (ZhG g f).bind fun h=>
 bif h then
 (gApp 16 a [(Zb.mk f (ε.wrap (e.Points+c)))]).bind fun i=>
 some (.inl (ε.wrap (c+1),i))
 else
 some (.inl (ε.wrap (c+1),a))
 else
 some (.inr (.inl (ε.wrap (f+1),a)))
def ZdK (e:Zaf) (c:List Int):Int×List Zb->Option ((Int×List Zb) ⊕ ((Int×List Int) ⊕ ((Int×List Int) ⊕ (Za×Int))))
 | (f,a)=>
 bif decide (f<e.Points) then
 loop (Zde e f) (0,a)
 else
 bif decide (((a.length:Int):Int)>512) then
 some (.inr (.inr (.inr (((Za.mk ([]:List Int) ([]:List Zb)),5)))))
 else
 some (.inr (.inr (.inr (((Za.mk c a),0)))))
def Zdi (c:Zaf):Int×List Int->Option ((Int×List Int) ⊕ ((Int×List Int) ⊕ (Za×Int)))
 | (e,a)=>
 bif decide (e<(c.Blocks.length:Int)) then
 (gApp 8 a [1]).bind fun f=>
 some (.inl (ε.wrap (e+1),f))
 else
 loop (ZdK c a) (0,([]:List Zb))
def ZeN (a:Zaf):Int×List Int->Option ((Int×List Int) ⊕ (Za×Int))
 | (c,xs)=>
 bif decide (c<a.Points) then
 (gApp 8 xs [0]).bind fun e=>
 some (.inl (ε.wrap (c+1),e))
 else
 loop (Zdi a) (0,xs)
def ZlM (a:Zaf):Option (Za×Int):=
 bif decide ((ε.wrap (a.Points+(a.Blocks.length:Int)):Int)>64) then
 some (((Za.mk ([]:List Int) ([]:List Zb)),5))
 else
 loop (ZeN a) (0,([]:List Int))
def ZdL (k:Ze) (c e:List Int):Int×List Int->Option ((Int×List Int) ⊕ (List Int))
 | (a,xs)=>
 bif decide (a<(c.length:Int)) then
 (gIdx e a).bind fun f=>
 bif f==0 then
 (gIdx c a).bind fun g=>
 (gIdx xs a).bind fun l=>
 some (.inl (ε.wrap (a+1),(xs.set a.toNat g)))
 else
 (gIdx c a).bind fun h=>
 (gIdx e a).bind fun i=>
 (Zin k h i 1).bind fun j=>
 (gIdx xs a).bind fun o=>
 some (.inl (ε.wrap (a+1),(xs.set a.toNat j)))
 else
 some (.inr (xs))
def Zkq (e:Ze) (a f:List Int):Option (List Int):=
 (gMake 8 (0:Int) (a.length:Int) (a.length:Int)).bind fun c=>
 loop (ZdL e a f) (0,c)
def Zfd (e:ZZ) (f:Int) (l o:List (List Int)) (g:Int):List (List Int)×Int->Option ((List (List Int)×Int) ⊕ ((List (List Int)×Int) ⊕ ((List (List Int)×Int) ⊕ ((List (List Int)×Int) ⊕ (List (List Int))))))
 | (a,c)=>
 bif decide (c<f) then
 (gIdx l g).bind fun h=>
 (gIdx o c).bind fun i=>
 (Zkq (Ze.mk e.Field.Prime e.Field.Degree e.Field.Poly) h i).bind fun j=>
 (gApp 24 a [j]).bind fun k=>
 some (.inl (k,ε.wrap (c+1)))
 else
 some (.inr (.inl (a,ε.wrap (g+1))))
def ZfT (g:ZZ) (a:Int) (c:List (List Int)) (h:Int) (i:List (List Int)):List (List Int)×Int->Option ((List (List Int)×Int) ⊕ ((List (List Int)×Int) ⊕ ((List (List Int)×Int) ⊕ (List (List Int)))))
 | (e,f)=>
 bif decide (f<(c.length:Int)) then
 loop (Zfd g a c i f) (e,0)
 else
 some (.inr (.inr (.inl (e,ε.wrap (h+1)))))
def ZeW (a:ZZ) (c:Int) (k:List (List Int)) (f:Int):List (List Int)×Int->Option ((List (List Int)×Int) ⊕ ((List (List Int)×Int) ⊕ (List (List Int))))
 | (g,e)=>
 bif decide (e<c) then
 (gIdx a.Rows f).bind fun h=>
 (ZgC (Ze.mk a.Field.Prime a.Field.Degree a.Field.Poly) h e).bind fun i=>
 (gApp 24 g [i]).bind fun j=>
 some (.inl (j,ε.wrap (e+1)))
 else
 loop (ZfT a c k f g) (([]:List (List Int)),0)
def ZeE (a:ZZ) (c:Int):List (List Int)×Int->Option ((List (List Int)×Int) ⊕ (List (List Int)))
 | (e,f)=>
 bif decide (f<(a.Rows.length:Int)) then
 loop (ZeW a c e f) (([]:List (List Int)),0)
 else
 some (.inr (e))
def ZjU (a:ZZ):Option (List (List Int)):=
 (gIdx a.Rows 0).bind fun c=>
 (gMake 8 (0:Int) (c.length:Int) (c.length:Int)).bind fun e=>
 (Za8 (Ze.mk a.Field.Prime a.Field.Degree a.Field.Poly)).bind fun f=>
 loop (ZeE a f) ([e],0)
def Zdu (g:List Int) (e:List (List Int)) (f:Int):Int×List Zb->Option ((Int×List Zb) ⊕ ((Int×List Zb) ⊕ ((Int×List Int) ⊕ ((Int×List Int) ⊕ (Za×Int)))))
 | (a,c)=>
 bif decide (a<(e.length:Int)) then
 (gIdx e a).bind fun h=>
 (gIdx h f).bind fun i=>
 bif i==1 then
 (gApp 16 c [(Zb.mk f (ε.wrap ((ε.wrap ((g.length:Int)+a))-1)))]).bind fun j=>
 some (.inl (ε.wrap (a+1),j))
 else
 some (.inl (ε.wrap (a+1),c))
 else
 some (.inr (.inl (ε.wrap (f+1),c)))
def Zd9 (c:List Int) (f:List (List Int)) (e:List Int):Int×List Zb->Option ((Int×List Zb) ⊕ ((Int×List Int) ⊕ ((Int×List Int) ⊕ (Za×Int))))
 | (g,a)=>
 bif decide (g<(c.length:Int)) then
 loop (Zdu c f g) (1,a)
 else
 bif decide (((a.length:Int):Int)>512) then
 some (.inr (.inr (.inr (((Za.mk ([]:List Int) ([]:List Zb)),5)))))
 else
 some (.inr (.inr (.inr (((Za.mk e a),0)))))
def Zdh (e:List Int) (c:List (List Int)):Int×List Int->Option ((Int×List Int) ⊕ ((Int×List Int) ⊕ (Za×Int)))
 | (f,a)=>
 bif decide (f<(c.length:Int)) then
 (gApp 8 a [1]).bind fun g=>
 some (.inl (ε.wrap (f+1),g))
 else
 loop (Zd9 e c a) (0,([]:List Zb))
def ZdP (a:List Int) (c:List (List Int)):Int×List Int->Option ((Int×List Int) ⊕ (Za×Int))
 | (e,xs)=>
 bif decide (e<(a.length:Int)) then
 (gApp 8 xs [0]).bind fun f=>
 some (.inl (ε.wrap (e+1),f))
 else
 loop (Zdh a c) (1,xs)
def Zf9 (a:ZZ):Option (Za×Int):=
 (Za8 (Ze.mk a.Field.Prime a.Field.Degree a.Field.Poly)).bind fun f=>
 bif f !=2 then
 some (((Za.mk ([]:List Int) ([]:List Zb)),6))
 else
 (gIdx a.Rows 0).bind fun c=>
 (ZjU a).bind fun e=>
 bif decide ((ε.wrap ((ε.wrap ((c.length:Int)+(e.length:Int)))-1):Int)>64) then
 some (((Za.mk ([]:List Int) ([]:List Zb)),5))
 else
 loop (ZdP c e) (0,([]:List Int))
def Zcn (a:Zg):Option (Za×Int):=
 bif a.Kind==1 then
 (Zhh a.Rows false).bind fun e=>
 some (((Za.mk e.1.Colors e.1.Edges),e.2))
 else
 bif a.Kind==2 then
 (ZlM (Zaf.mk a.Size a.Rows)).bind fun f=>
 some (((Za.mk f.1.Colors f.1.Edges),f.2))
 else
 bif a.Kind==5 then
 (Zbs a).bind fun c=>
 (Zf9 (ZZ.mk (Ze.mk c.Field.Prime c.Field.Degree c.Field.Poly) c.Rows)).bind fun g=>
 some (((Za.mk g.1.Colors g.1.Edges),g.2))
 else
 bif a.Kind==6 then
 (Zgw a).bind fun h=>
 some (((Za.mk h.1.Colors h.1.Edges),0))
 else
 some (((Za.mk ([]:List Int) ([]:List Zb)),6))
def Zi0 (e:Int):Option Bool:=
 (Z3 e 1 20000).bind fun a=>
 some (a)
def Zfy (g:Za):Int×List (List Bool)->Option ((Int×List (List Bool)) ⊕ ((List (List Bool)×Int) ⊕ (List (List Bool))))
 | (f,xs)=>
 bif decide (f<(g.Edges.length:Int)) then
 (gIdx g.Edges f).bind fun a=>
 (gIdx xs a.A).bind fun c=>
 (gIdx c a.B).bind fun h=>
 (gIdx (xs.set a.A.toNat (c.set a.B.toNat true)) a.B).bind fun e=>
 (gIdx e a.A).bind fun i=>
 some (.inl (ε.wrap (f+1),((xs.set a.A.toNat (c.set a.B.toNat true)).set a.B.toNat (e.set a.A.toNat true))))
 else
 some (.inr (.inr (xs)))
def Ziz (c:Za):List (List Bool)×Int->Option ((List (List Bool)×Int) ⊕ (List (List Bool)))
 | (a,e)=>
 bif decide (e<(c.Colors.length:Int)) then
 (gMake 1 false (c.Colors.length:Int) (c.Colors.length:Int)).bind fun f=>
 (gApp 24 a [f]).bind fun g=>
 some (.inl (g,ε.wrap (e+1)))
 else
 loop (Zfy c) (0,a)
def Zet (a:Za):Option (List (List Bool)):=
 loop (Ziz a) (([]:List (List Bool)),0)
def Zd1 (f:List (List Bool)) (e:List (List Int)) (g:Int):List Int×Int->Option ((List Int×Int) ⊕ ((List (List Int)×Int) ⊕ (List (List Int))))
 | (a,c)=>
 bif decide (c<(f.length:Int)) then
 (gIdx f g).bind fun h=>
 (gIdx h c).bind fun i=>
 bif i then
 (gApp 8 a [c]).bind fun j=>
 some (.inl (j,ε.wrap (c+1)))
 else
 some (.inl (a,ε.wrap (c+1)))
 else
 (gApp 24 e [a]).bind fun k=>
 some (.inr (.inl (k,ε.wrap (g+1))))
def Zhb (c:List (List Bool)):List (List Int)×Int->Option ((List (List Int)×Int) ⊕ (List (List Int)))
 | (a,e)=>
 bif decide (e<(c.length:Int)) then
 loop (Zd1 c a e) (([]:List Int),0)
 else
 some (.inr (a))
def ZiZ (a:Za):Option (List (List Int)):=
 (Zet (Za.mk a.Colors a.Edges)).bind fun c=>
 loop (Zhb c) (([]:List (List Int)),0)
def Zcz (e:List Int) (f:Int) (c:List Int) (a:Bool):Option ((List Int×Bool×Int) ⊕ (List Int)):=
 (gIdx e f).bind fun g=>
 (gApp 8 c [g]).bind fun h=>
 some (.inl (h,a,ε.wrap (f+1)))
def Zd2 (a:List Int) (n1:Int) (c:List Int) (e:Bool) (f:Int) (g:Bool):Option ((List Int×Bool×Int) ⊕ (List Int)):=
 bif g then
 (gIdx a f).bind fun h=>
 bif decide (h>n1) then
 (gApp 8 c [n1]).bind fun i=>
 Zcz a f i true
 else
 Zcz a f c true
 else
 Zcz a f c e
def ZaK (a:List Int) (n1:Int):List Int×Bool×Int->Option ((List Int×Bool×Int) ⊕ (List Int))
 | (e,c,f)=>
 bif decide (f<(a.length:Int)) then
 bif !c then
 (gIdx a f).bind fun g=>
 Zd2 a n1 e c f (decide (g>=n1))
 else
 Zd2 a n1 e c f false
 else
 bif !c then
 (gApp 8 e [n1]).bind fun h=>
 some (.inr (h))
 else
 some (.inr (e))
def Zoi (a:List Int) (n1:Int):Option (List Int):=
 loop (ZaK a n1) (([]:List Int),false,0)
def ZhP (a:List Int):List Int×Int->Option ((List Int×Int) ⊕ (Int))
 | (c,e)=>
 bif decide (e<(a.length:Int)) then
 (gIdx a e).bind fun f=>
 (Zoi c f).bind fun g=>
 some (.inl (g,ε.wrap (e+1)))
 else
 some (.inr ((c.length:Int)))
def ZfF (a:List Int):Option Int:=
 loop (ZhP a) (([]:List Int),0)
def Zor (a:Int) (xs:List Int):Option ((Int×List Int) ⊕ ((List Int×Int) ⊕ (List Int))):=
 (gIdx xs a).bind fun e=>
 (gIdx xs (ε.wrap (a-1))).bind fun c=>
 (gIdx xs a).bind fun f=>
 (gIdx (xs.set a.toNat c) (ε.wrap (a-1))).bind fun g=>
 some (.inl (ε.wrap (a-1),((xs.set a.toNat c).set (ε.wrap (a-1):Int).toNat e)))
def Zc8 (c:Int):Int×List Int->Option ((Int×List Int) ⊕ ((List Int×Int) ⊕ (List Int)))
 | (a,xs)=>
 bif decide (a>0) then
 (gIdx xs (ε.wrap (a-1))).bind fun e=>
 (gIdx xs a).bind fun f=>
 bif decide (e>f) then
 Zor a xs
 else
 some (.inr (.inl (xs,ε.wrap (c+1))))
 else
 some (.inr (.inl (xs,ε.wrap (c+1))))
def ZgN (c:List Int):List Int×Int->Option ((List Int×Int) ⊕ (List Int))
 | (a,e)=>
 bif decide (e<(c.length:Int)) then
 (gIdx c e).bind fun f=>
 (gApp 8 a [f]).bind fun g=>
 loop (Zc8 e) ((a.length:Int),g)
 else
 some (.inr (a))
def ZkX (a:List Int):Option (List Int):=
 loop (ZgN a) (([]:List Int),0)
def Zco (h:List (List Int)) (e:Int) (c:List (List Int)) (a:Bool):Option ((List (List Int)×Bool×Int) ⊕ (List (List Int))):=
 (gIdx h e).bind fun f=>
 (gApp 24 c [f]).bind fun g=>
 some (.inl (g,a,ε.wrap (e+1)))
def Zd8 (j:List (List Int)) (x1:List Int) (a:List (List Int)) (c:Bool) (e f:Int) (g:Bool):Option ((List (List Int)×Bool×Int) ⊕ (List (List Int))):=
 bif g then
 bif decide (f>0) then
 (gApp 24 a [x1]).bind fun h=>
 Zco j e h true
 else
 Zco j e a true
 else
 Zco j e a c
def ZaN (j:List (List Int)) (x1:List Int):List (List Int)×Bool×Int->Option ((List (List Int)×Bool×Int) ⊕ (List (List Int)))
 | (c,a,f)=>
 bif decide (f<(j.length:Int)) then
 (gIdx j f).bind fun g=>
 (ZbD g x1).bind fun e=>
 bif !a then
 Zd8 j x1 c a f e (decide (e>=0))
 else
 Zd8 j x1 c a f e false
 else
 bif !a then
 (gApp 24 c [x1]).bind fun h=>
 some (.inr (h))
 else
 some (.inr (c))
def ZnP (a:List (List Int)) (x1:List Int):Option (List (List Int)):=
 loop (ZaN a x1) (([]:List (List Int)),false,0)
def ZeR (e:List (List Int)) (f:List Int) (u:List (List Int)) (a:Int):List Int×Int->Option ((List Int×Int) ⊕ ((List (List Int)×Int) ⊕ (List Int)))
 | (g,c)=>
 (gIdx e a).bind fun h=>
 bif decide (c<(h.length:Int)) then
 (gIdx e a).bind fun i=>
 (gIdx i c).bind fun j=>
 (gIdx f j).bind fun k=>
 (gApp 8 g [k]).bind fun l=>
 some (.inl (l,ε.wrap (c+1)))
 else
 (gIdx f a).bind fun o=>
 (ZkX g).bind fun p=>
 (gApp 8 ([o]:List Int) p).bind fun r=>
 (gApp 24 u [r]).bind fun s=>
 some (.inr (.inl (s,ε.wrap (a+1))))
def Zdr (k e:List (List Int)) (f:Int):List Int×Int->Option ((List Int×Int) ⊕ ((List Int×Int) ⊕ ((List (List Int)×Int) ⊕ ((List (List Int)×Int) ⊕ (List Int)))))
 | (a,c)=>
 bif decide (c<(e.length:Int)) then
 (gIdx e c).bind fun g=>
 (gIdx k f).bind fun h=>
 (ZbD g h).bind fun i=>
 bif i==0 then
 (gApp 8 a [c]).bind fun j=>
 some (.inl (j,ε.wrap (c+1)))
 else
 some (.inl (a,ε.wrap (c+1)))
 else
 some (.inr (.inl (a,ε.wrap (f+1))))
def Ze9 (f g e:List (List Int)):List Int×Int->Option ((List Int×Int) ⊕ ((List (List Int)×Int) ⊕ ((List (List Int)×Int) ⊕ (List Int))))
 | (a,c)=>
 bif decide (c<(f.length:Int)) then
 loop (Zdr g e c) (a,0)
 else
 some (.inr (.inr (.inr (a))))
def Zef (e f:List (List Int)):List (List Int)×Int->Option ((List (List Int)×Int) ⊕ ((List (List Int)×Int) ⊕ (List Int)))
 | (c,a)=>
 bif decide (a<(e.length:Int)) then
 (gIdx f a).bind fun g=>
 (ZnP c g).bind fun h=>
 some (.inl (h,ε.wrap (a+1)))
 else
 loop (Ze9 e f c) (([]:List Int),0)
def ZhA (a:List (List Int)) (f:List Int):List (List Int)×Int->Option ((List (List Int)×Int) ⊕ (List Int))
 | (c,e)=>
 bif decide (e<(a.length:Int)) then
 loop (ZeR a f c e) (([]:List Int),0)
 else
 loop (Zef a c) (([]:List (List Int)),0)
def Zge (a:List (List Int)) (c:List Int):Option (List Int):=
 loop (ZhA a c) (([]:List (List Int)),0)
def Zdg (c:List (List Int)):Int×List Int->Option ((Int×List Int) ⊕ (List Int))
 | (e,a)=>
 (ZfF a).bind fun f=>
 bif decide (f>e) then
 (ZfF a).bind fun g=>
 (Zge c a).bind fun h=>
 some (.inl (g,h))
 else
 some (.inr (a))
def ZgJ (a:List (List Int)) (e:List Int):Option (List Int):=
 (ZfF e).bind fun r8=>
 (Zge a e).bind fun c=>
 loop (Zdg a) (r8,c)
def ZcW (h:List Int) (g a c:Int) (e:Bool):Option ((Int×Int) ⊕ ((Int×Int) ⊕ (Int))):=
 bif e then
 (gIdx h g).bind fun f=>
 some (.inl (f,ε.wrap (c+1)))
 else
 some (.inl (a,ε.wrap (c+1)))
def Zc0 (j:List Int) (c:Int):Int×Int->Option ((Int×Int) ⊕ ((Int×Int) ⊕ (Int)))
 | (a,e)=>
 bif decide (e<c) then
 (gIdx j c).bind fun f=>
 (gIdx j e).bind fun g=>
 bif f==g then
 bif decide (a<0) then
 ZcW j c a e true
 else
 (gIdx j c).bind fun h=>
 ZcW j c a e (decide (h<a))
 else
 ZcW j c a e false
 else
 some (.inr (.inl (a,ε.wrap (c+1))))
def Zl0 (e:List Int):Int×Int->Option ((Int×Int) ⊕ (Int))
 | (a,c)=>
 bif decide (c<(e.length:Int)) then
 loop (Zc0 e c) (a,0)
 else
 some (.inr (a))
def Zku (a:List Int):Option Int:=
 loop (Zl0 a) ((-1),0)
def ZdH (j:List Int) (k:List (List Bool)) (e:Int):Int×List Zb->Option ((Int×List Zb) ⊕ ((Int×List Zb) ⊕ (Za)))
 | (c,a)=>
 bif decide (c<(j.length:Int)) then
 (gIdx k e).bind fun f=>
 (gIdx f c).bind fun g=>
 bif g then
 (gApp 16 a [(Zb.mk e c)]).bind fun h=>
 some (.inl (ε.wrap (c+1),h))
 else
 some (.inl (ε.wrap (c+1),a))
 else
 some (.inr (.inl (ε.wrap (e+1),a)))
def Zho (e:List Int) (g:List (List Bool)) (c:List Int):Int×List Zb->Option ((Int×List Zb) ⊕ (Za))
 | (a,xs)=>
 bif decide (a<(e.length:Int)) then
 loop (ZdH e g a) (ε.wrap (a+1),xs)
 else
 some (.inr ((Za.mk c xs)))
def Zkv (e:List Int) (g:List (List Bool)):Option Za:=
 (ZaY e).bind fun a=>
 loop (Zho e g a) (0,([]:List Zb))
def ZeK (p:Za) (h xs:List Int):Int×List (List Bool)->Option ((Int×List (List Bool)) ⊕ ((Int×List Int) ⊕ (Za)))
 | (o,a)=>
 bif decide (o<(p.Edges.length:Int)) then
 (gIdx p.Edges o).bind fun c=>
 (gIdx h c.A).bind fun e=>
 (gIdx a e).bind fun f=>
 (gIdx h c.B).bind fun g=>
 (gIdx f g).bind fun r=>
 (gIdx h c.B).bind fun i=>
 (gIdx (a.set e.toNat (f.set g.toNat true)) i).bind fun j=>
 (gIdx h c.A).bind fun k=>
 (gIdx j k).bind fun s=>
 some (.inl (ε.wrap (o+1),((a.set e.toNat (f.set g.toNat true)).set i.toNat (j.set k.toNat true))))
 else
 (Zkv xs a).bind fun l=>
 some (.inr (.inr ((Za.mk l.Colors l.Edges))))
def Zij (f:Za) (e:List Int):Int×List Int->Option ((Int×List Int) ⊕ (Za))
 | (a,xs)=>
 bif decide (a<(e.length:Int)) then
 (gIdx e a).bind fun c=>
 (gIdx f.Colors a).bind fun g=>
 (gIdx xs c).bind fun i=>
 some (.inl (ε.wrap (a+1),(xs.set c.toNat g)))
 else
 (Zet (Za.mk xs ([]:List Zb))).bind fun h=>
 loop (ZeK f e xs) (0,h)
def Zf7 (e:Za) (a:List Int):Option Za:=
 (gMake 8 (0:Int) (a.length:Int) (a.length:Int)).bind fun c=>
 loop (Zij e a) (0,c)
def Zhp (e:Za):List Int×Int->Option ((List Int×Int) ⊕ (List Int))
 | (a,c)=>
 bif decide (c<(e.Edges.length:Int)) then
 (gIdx e.Edges c).bind fun f=>
 (gIdx e.Edges c).bind fun g=>
 (gApp 8 a ([f.A,g.B]:List Int)).bind fun h=>
 some (.inl (h,ε.wrap (c+1)))
 else
 some (.inr (a))
def ZhC (a:Za):Option (List Int):=
 loop (Zhp a) (([]:List Int),0)
def Zg2 (c h1:Za):Option Int:=
 (ZbD c.Colors h1.Colors).bind fun a=>
 bif a !=0 then
 some (a)
 else
 (ZhC (Za.mk c.Colors c.Edges)).bind fun e=>
 (ZhC (Za.mk h1.Colors h1.Edges)).bind fun f=>
 (ZbD e f).bind fun g=>
 some (g)
def Zd0 (a:Zz) (h:List Int) (i:Int) (xs:List Int) (c:List Zb) (e:List (List Int)):Option (Zz):=
 bif decide (i<=0) then
 (ZaY h).bind fun f=>
 (gApp 24 e [f]).bind fun g=>
 some ((Zz.mk (Za.mk a.qg.Colors a.qg.Edges) a.qnear (Za.mk xs c) g a.qnodes (ε.wrap (a.qleaves+1)) a.qbudget a.qfull))
 else
 some ((Zz.mk (Za.mk a.qg.Colors a.qg.Edges) a.qnear (Za.mk xs c) e a.qnodes (ε.wrap (a.qleaves+1)) a.qbudget a.qfull))
def Zd6 (a:Zz) (f:List Int) (c:Za) (e:Int):Option (Zz):=
 bif decide (e<0) then
 Zd0 a f e c.Colors c.Edges ([]:List (List Int))
 else
 Zd0 a f e a.qbest.Colors a.qbest.Edges a.qperms
def ZhQ (e:List Int) (f c:Int):Option ((List Int×Int) ⊕ ((Int×Int×Int×Int×Bool×List Int×List Zb×List (List Int)) ⊕ (Zz))):=
 (gApp 8 e [c]).bind fun a=>
 some (.inl (a,ε.wrap (f+1)))
def Zcx (u:Zz->(List Int)->Option Zz) (f:Zz) (l:List Int) (o q p r:Int) (g:List Int) (h:List Zb) (i:List (List Int)) (s:Bool):List Int×Int->Option ((List Int×Int) ⊕ ((Int×Int×Int×Int×Bool×List Int×List Zb×List (List Int)) ⊕ (Zz)))
 | (j,c)=>
 bif decide (c<(l.length:Int)) then
 (gIdx l c).bind fun e=>
 bif c==o then
 ZhQ j c (ε.wrap ((ε.wrap ((ε.wrap (2*e))+1))-1))
 else
 ZhQ j c (ε.wrap ((ε.wrap (2*e))+1))
 else
 (ZgJ f.qnear j).bind fun k=>
 (u (Zz.mk (Za.mk f.qg.Colors f.qg.Edges) f.qnear (Za.mk g h) i (ε.wrap (q+1)) p r s) k).bind fun a=>
 some (.inr (.inl (ε.wrap (o+1),a.qnodes,a.qleaves,a.qbudget,a.qfull,a.qbest.Colors,a.qbest.Edges,a.qperms)))
def ZeG (l:Zz->(List Int)->Option Zz) (g:Zz) (j:List Int) (k q h i:Int) (a:List Int) (c:List Zb) (e:List (List Int)) (f:Bool):Option ((Int×Int×Int×Int×Bool×List Int×List Zb×List (List Int)) ⊕ (Zz)):=
 bif f then
 some (.inr ((Zz.mk (Za.mk g.qg.Colors g.qg.Edges) g.qnear (Za.mk a c) e q h i f)))
 else
 loop (Zcx l g j k q h i a c e f) (([]:List Int),0)
def ZbH (r:Zz->(List Int)->Option Zz) (h:Zz) (k:List Int) (l:Int):Int×Int×Int×Int×Bool×List Int×List Zb×List (List Int)->Option ((Int×Int×Int×Int×Bool×List Int×List Zb×List (List Int)) ⊕ (Zz))
 | (i,q,g,f,j,a,c,e)=>
 bif decide (i<(k.length:Int)) then
 (gIdx k i).bind fun o=>
 bif o !=l then
 some (.inl (ε.wrap (i+1),q,g,f,j,a,c,e))
 else
 bif q==f then
 ZeG r h k i q g f a c e true
 else
 ZeG r h k i q g f a c e j
 else
 some (.inr ((Zz.mk (Za.mk h.qg.Colors h.qg.Edges) h.qnear (Za.mk a c) e q g f j)))
def q_spec_l22Find_run (h:Zz->(List Int)->Option Zz) (a:Zz) (e:List Int):Option Zz:=
 (Zku e).bind fun f=>
 bif decide (f<0) then
 (Zf7 (Za.mk a.qg.Colors a.qg.Edges) e).bind fun c=>
 bif decide (((a.qperms.length:Int):Int)>0) then
 (Zg2 (Za.mk c.Colors c.Edges) (Za.mk a.qbest.Colors a.qbest.Edges)).bind fun g=>
 Zd6 a e c g
 else
 Zd6 a e c (-1)
 else
 loop (ZbH h a e f) (0,a.qnodes,a.qleaves,a.qbudget,a.qfull,a.qbest.Colors,a.qbest.Edges,a.qperms)
def pn_spec_l22Find_run:Nat->(Zz->(List Int)->Option Zz)
 | 0=>(fun _ _=>none)
 | n+1=>q_spec_l22Find_run (pn_spec_l22Find_run n)
def ZmG:Zz->(List Int)->Option Zz:=(pn_spec_l22Find_run fuel)
def Zox (c:Za) (g:Int):Option Zz:=
 (ZiZ (Za.mk c.Colors c.Edges)).bind fun r8=>
 (ZgJ r8 c.Colors).bind fun e=>
 (ZmG (Zz.mk (Za.mk c.Colors c.Edges) r8 (Za.mk ([]:List Int) ([]:List Zb)) ([]:List (List Int)) 0 0 g false) e).bind fun a=>
 some ((Zz.mk (Za.mk c.Colors c.Edges) r8 (Za.mk a.qbest.Colors a.qbest.Edges) a.qperms a.qnodes a.qleaves a.qbudget a.qfull))
def Zl7 (c:Za) (g:Int):Option (Zz×Int):=
 (Ziv (Za.mk c.Colors c.Edges)).bind fun r8=>
 bif !r8 then
 some (((Zz.mk (Za.mk ([]:List Int) ([]:List Zb)) ([]:List (List Int)) (Za.mk ([]:List Int) ([]:List Zb)) ([]:List (List Int)) 0 0 0 false),1))
 else
 (Zi0 g).bind fun e=>
 bif !e then
 some (((Zz.mk (Za.mk ([]:List Int) ([]:List Zb)) ([]:List (List Int)) (Za.mk ([]:List Int) ([]:List Zb)) ([]:List (List Int)) 0 0 0 false),2))
 else
 (Zox (Za.mk c.Colors c.Edges) g).bind fun a=>
 bif a.qfull then
 some (((Zz.mk (Za.mk ([]:List Int) ([]:List Zb)) ([]:List (List Int)) (Za.mk ([]:List Int) ([]:List Zb)) ([]:List (List Int)) 0 0 0 false),5))
 else
 some (((Zz.mk (Za.mk a.qg.Colors a.qg.Edges) a.qnear (Za.mk a.qbest.Colors a.qbest.Edges) a.qperms a.qnodes a.qleaves a.qbudget a.qfull),0))
def Zhl (a:List Int) (e f:Int):Option ((List Int×Int) ⊕ (ByteArray)):=
 (gApp 1 ([IntKind.u8.wrap (ε.wrap (48+f))]:List Int) a).bind fun c=>
 (gNz 10).bind fun _=>
 some (.inl (c,ε.wrap (Int.tdiv e 10)))
def Za1 (n0:Int):List Int×Int->Option ((List Int×Int) ⊕ (ByteArray))
 | (a,c)=>
 bif c !=0 then
 (gNz 10).bind fun _=>
 bif decide ((Int.tmod c 10:Int)<0) then
 Zhl a c (ε.wrap (0-(Int.tmod c 10)))
 else
 Zhl a c (Int.tmod c 10)
 else
 bif ((a.length:Int):Int)==0 then
 some (.inr (⟨#[48]⟩))
 else
 bif decide (n0<0) then
 (gByt a).bind fun e=>
 (gFit (⟨#[45]⟩:ByteArray) e).bind fun _=>
 some (.inr ((⟨#[45]⟩:ByteArray)++e))
 else
 (gByt a).bind fun f=>
 some (.inr (f))
def ZfG (n0:Int):Option ByteArray:=
 loop (Za1 n0) (([]:List Int),n0)
def ZgR (c:List Int) (f:Int) (a:ByteArray):Option ((ByteArray×Int) ⊕ (ByteArray)):=
 (gIdx c f).bind fun g=>
 (ZfG g).bind fun e=>
 (gFit a e).bind fun _=>
 some (.inl (a++e,ε.wrap (f+1)))
def ZbY (a:List Int):ByteArray×Int->Option ((ByteArray×Int) ⊕ (ByteArray))
 | (c,e)=>
 bif decide (e<(a.length:Int)) then
 (gIdx a e).bind fun f=>
 (Z3 f (-999999999) 999999999).bind fun g=>
 bif !g then
 some (.inr (⟨#[]⟩))
 else
 bif decide (e>0) then
 (gFit c (⟨#[44]⟩:ByteArray)).bind fun _=>
 ZgR a e (c++(⟨#[44]⟩:ByteArray))
 else
 ZgR a e c
 else
 some (.inr (c))
def ZiV (a:List Int):Option ByteArray:=
 bif decide (((a.length:Int):Int)>100) then
 some (⟨#[]⟩)
 else
 bif ((a.length:Int):Int)==0 then
 some (⟨#[45]⟩)
 else
 loop (ZbY a) (⟨#[]⟩,0)
def ZgU (g:Za) (f:Int) (a:ByteArray):Option ((ByteArray×Int) ⊕ (ByteArray)):=
 (gIdx g.Edges f).bind fun h=>
 (ZfG h.A).bind fun c=>
 (gIdx g.Edges f).bind fun i=>
 (ZfG i.B).bind fun e=>
 (gFit c (⟨#[45]⟩:ByteArray)).bind fun _=>
 (gFit (c++(⟨#[45]⟩:ByteArray):ByteArray) e).bind fun _=>
 (gFit a ((c++(⟨#[45]⟩:ByteArray):ByteArray)++e:ByteArray)).bind fun _=>
 some (.inl (a++((c++(⟨#[45]⟩:ByteArray):ByteArray)++e:ByteArray),ε.wrap (f+1)))
def Zfw (e:Za):ByteArray×Int->Option ((ByteArray×Int) ⊕ (ByteArray))
 | (a,c)=>
 bif decide (c<(e.Edges.length:Int)) then
 bif decide (c>0) then
 (gFit a (⟨#[44]⟩:ByteArray)).bind fun _=>
 ZgU e c (a++(⟨#[44]⟩:ByteArray))
 else
 ZgU e c a
 else
 some (.inr (a))
def ZkV (a:Za):Option ByteArray:=
 (ZiV a.Colors).bind fun c=>
 (gFit c (⟨#[59]⟩:ByteArray)).bind fun _=>
 loop (Zfw a) (c++(⟨#[59]⟩:ByteArray),0)
def Zer (c:Za) (g:Int):Option (ByteArray×Int):=
 (Zl7 (Za.mk c.Colors c.Edges) g).bind fun a=>
 bif a.2 !=0 then
 some ((⟨#[]⟩,a.2))
 else
 (ZkV (Za.mk a.1.qbest.Colors a.1.qbest.Edges)).bind fun e=>
 some ((e,0))
def Zja (c:Zg) (g:Int):Option (ByteArray×Int):=
 (Zat (Zg.mk c.Kind c.Size c.Rows)).bind fun r8=>
 bif !r8 then
 some ((⟨#[]⟩,1))
 else
 (Z3 g 1 20000).bind fun f=>
 bif !f then
 some ((⟨#[]⟩,2))
 else
 (Zcn (Zg.mk c.Kind c.Size c.Rows)).bind fun a=>
 bif a.2 !=0 then
 some ((⟨#[]⟩,a.2))
 else
 (Zer (Za.mk a.1.Colors a.1.Edges) g).bind fun e=>
 some ((e.1,e.2))
def Zjx (c:Zg) (e:Int):Option (ByteArray×Int):=
 (Zja c e).bind fun a=>
 bif a.2 !=0 then
 some ((⟨#[]⟩,a.2))
 else
 bif decide (((a.1.size:Int):Int)>4000) then
 some ((⟨#[]⟩,5))
 else
 some ((a.1,0))
def ZdD (x0:Zd):Option Zd:=
 (ZhF x0.Object.Rows).bind fun a=>
 some ((Zd.mk x0.Name (Zg.mk x0.Object.Kind x0.Object.Size a) x0.Key))
def ZdQ (e:Zi) (a:ByteArray):Int->Option ((Int) ⊕ (Int))
 | c=>
 bif decide (c<(e.Items.length:Int)) then
 (gIdx e.Items c).bind fun f=>
 bif f.Name.toList==a.toList then
 some (.inr (c))
 else
 some (.inl (ε.wrap (c+1)))
 else
 some (.inr ((-1)))
def ZlC (c:Zi) (a:ByteArray):Option Int:=
 loop (ZdQ c a) (0)
def ZeX (i:Zi) (e:Int) (a:Bool) (c:List Zd):Option ((Bool×Int×List Zd) ⊕ (Zi×Int)):=
 (gIdx i.Items e).bind fun f=>
 (ZdD f).bind fun g=>
 (gApp 72 c [g]).bind fun h=>
 some (.inl (a,ε.wrap (e+1),h))
def ZeP (a:Zi) (h:Zd) (i:Bool) (c:Int) (xs:List Zd) (e:Bool):Option ((Bool×Int×List Zd) ⊕ (Zi×Int)):=
 bif e then
 (ZdD h).bind fun f=>
 (gApp 72 xs [f]).bind fun g=>
 ZeX a c true g
 else
 ZeX a c i xs
def ZfD (a:List Zd):Option ((Bool×Int×List Zd) ⊕ (Zi×Int)):=
 bif decide (((a.length:Int):Int)>24) then
 some (.inr (((Zi.mk ([]:List Zd)),5)))
 else
 some (.inr (((Zi.mk a),0)))
def ZaZ (c:Zi) (a:Zd):Bool×Int×List Zd->Option ((Bool×Int×List Zd) ⊕ (Zi×Int))
 | (f,e,xs)=>
 bif decide (e<(c.Items.length:Int)) then
 (gIdx c.Items e).bind fun h=>
 (Zfr h a).bind fun i=>
 bif i then
 some (.inr (((Zi.mk ([]:List Zd)),6)))
 else
 bif !f then
 (gIdx c.Items e).bind fun g=>
 ZeP c a f e xs (!(Op.bytesLess (g.Name.toList) (a.Name.toList)||g.Name.toList==a.Name.toList))
 else
 ZeP c a f e xs false
 else
 bif !f then
 (ZdD a).bind fun j=>
 (gApp 72 xs [j]).bind fun k=>
 ZfD k
 else
 ZfD xs
def ZfN (a:Zi) (c:Zd):Option (Zi×Int):=
 (ZlC a c.Name).bind fun e=>
 bif decide (e>=0) then
 some (((Zi.mk ([]:List Zd)),4))
 else
 loop (ZaZ a c) (false,0,([]:List Zd))
def ZdZ (g:Zi) (e:ByteArray) (a:Zg) (h:Int):Option (Zi×Int):=
 (Zjx (Zg.mk a.Kind a.Size a.Rows) h).bind fun c=>
 bif c.2 !=0 then
 some (((Zi.mk ([]:List Zd)),c.2))
 else
 (ZfN (Zi.mk g.Items) (Zd.mk e (Zg.mk a.Kind a.Size a.Rows) c.1)).bind fun f=>
 some (((Zi.mk f.1.Items),f.2))
def Zjz (e:Zi) (a:ByteArray) (c:Zg) (j:Int):Option (Zi×Int):=
 (Zjj (Zi.mk e.Items)).bind fun f=>
 bif !f then
 some (((Zi.mk ([]:List Zd)),1))
 else
 (ZhI a).bind fun g=>
 bif !g then
 some (((Zi.mk ([]:List Zd)),1))
 else
 (Zat (Zg.mk c.Kind c.Size c.Rows)).bind fun h=>
 bif !h then
 some (((Zi.mk ([]:List Zd)),1))
 else
 ZdZ e a c j
def Zch (c:List Zd) (e:Zd->Option Bool):Int->Option ((Int) ⊕ (Int))
 | a=>
 bif decide (a<(c.length:Int)) then
 (gIdx c a).bind fun f=>
 (e f).bind fun g=>
 bif g then
 some (.inr (a))
 else
 some (.inl (ε.wrap (a+1)))
 else
 some (.inr ((-1)))
def Zln (c:List Zd) (a:Zd->Option Bool):Option Int:=
 loop (Zch c a) (0)
def Zol (x0 a:Zd):Option Bool:=
 bif x0.Object.Kind==a.Object.Kind then
 some (x0.Key.toList==a.Key.toList)
 else
 some (false)
def Zcc (a c:Zd):Option Bool:=
 (Zol c (Zd.mk a.Name (Zg.mk a.Object.Kind a.Object.Size a.Object.Rows) a.Key)).bind fun e=>
 some (e)
def ZcT (e:List Zd) (x1:Zd):Option Int:=
 (Zln e (fun a=>Zcc a (Zd.mk x1.Name (Zg.mk x1.Object.Kind x1.Object.Size x1.Object.Rows) x1.Key))).bind fun c=>
 some (c)
def Z6 (a:List (List Int)):Option Int:=
 some ((a.length:Int))
def Zab (n0 c a:Int):Option Bool:=
 bif decide (n0>=c) then
 some (decide (n0<=a))
 else
 some (false)
def Zcm (c:List (List Int)) (e:(List Int)->Option Bool):Int->Option ((Int) ⊕ (Int))
 | a=>
 bif decide (a<(c.length:Int)) then
 (gIdx c a).bind fun f=>
 (e f).bind fun g=>
 bif g then
 some (.inr (a))
 else
 some (.inl (ε.wrap (a+1)))
 else
 some (.inr ((-1)))
def Zg8 (c:List (List Int)) (a:(List Int)->Option Bool):Option Int:=
 loop (Zcm c a) (0)
def Zii (c:List (List Int)) (a:(List Int)->Option Bool):Option Bool:=
 (Zg8 c a).bind fun e=>
 some (decide (e>=0))
def Zce (a:List Int):Option (List Int):=gApp 8 [] a
def ZcF (x0:List Int):Option (List Int):=if x0.length<4611686018427387904 then some (sortI x0) else none
def ZhH (f c:List Int):Int->Option ((Int) ⊕ (Bool))
 | a=>
 bif decide (a<(c.length:Int)) then
 (gIdx c a).bind fun e=>
 bif e !=a then
 some (.inr (false))
 else
 some (.inl (ε.wrap (a+1)))
 else
 some (.inr (decide (((f.length:Int):Int)<=32)))
def Zgs (a:List Int):Option Bool:=
 (Zce a).bind fun c=>
 (ZcF c).bind fun e=>
 loop (ZhH a e) (0)
def ZW (a:List Int):Option Int:=
 some ((a.length:Int))
def Zpv (a:List Int) (e:Int):Option Bool:=
 (ZW a).bind fun f=>
 bif f !=e then
 some (true)
 else
 (Zgs a).bind fun c=>
 some (!c)
def Zg5 (g:Int) (a:List (List Int)):Option Bool:=
 (Zii a (fun c=>Zpv c g)).bind fun e=>
 some (!e)
def ZeC (e:List (List Int)) (c:Int):List Int×Int->Option ((List Int×Int) ⊕ ((Int) ⊕ (Bool)))
 | (column5,a)=>
 bif decide (a<(e.length:Int)) then
 (gIdx e a).bind fun f=>
 (gIdx f c).bind fun g=>
 (gApp 8 column5 [g]).bind fun h=>
 some (.inl (h,ε.wrap (a+1)))
 else
 (Zgs column5).bind fun i=>
 bif !i then
 some (.inr (.inr (false)))
 else
 some (.inr (.inl (ε.wrap (c+1))))
def ZkS (c:List (List Int)):Int->Option ((Int) ⊕ (Bool))
 | a=>
 bif decide (a<(c.length:Int)) then
 loop (ZeC c a) (([]:List Int),0)
 else
 some (.inr (true))
def ZmJ (a:List (List Int)):Option (Bool):=
 loop (ZkS a) (0)
def ZhY (a:List (List Int)):Option Bool:=
 (Z6 a).bind fun r8=>
 (Zab r8 1 10).bind fun c=>
 bif !c then
 some (false)
 else
 (Zg5 r8 a).bind fun e=>
 bif !e then
 some (false)
 else
 ZmJ a
def Zc4 (a:List Int) (n1:Int):Int×Int->Option ((Int×Int) ⊕ (Bool))
 | (f,c)=>
 bif decide (c<(a.length:Int)) then
 (gIdx a c).bind fun e=>
 bif decide (e<=f) then
 some (.inr (false))
 else
 bif decide (e>=n1) then
 some (.inr (false))
 else
 some (.inl (e,ε.wrap (c+1)))
 else
 (Zab n1 0 32).bind fun g=>
 some (.inr (g))
def ZiT (a:List Int) (n1:Int):Option Bool:=
 loop (Zc4 a n1) ((-1),0)
def Zk0 (e:List Int) (g:Int):Option Bool:=
 bif decide (((e.length:Int):Int)>0) then
 (ZiT e g).bind fun a=>
 some (a)
 else
 some (false)
def Zjk (a:List Int) (c:Int):Option Bool:=
 (Zk0 a c).bind fun e=>
 some (!e)
def ZpA (h:List (List Int)) (g:Int):Option Bool:=
 (Zab g 1 32).bind fun c=>
 bif c then
 (Zii h (fun e=>Zjk e g)).bind fun a=>
 some (!a)
 else
 some (false)
def ZeM (x0:List (List Int)) (c:(List Int)->(List Int)->Option Int):Int->Option ((Int) ⊕ (Bool))
 | a=>
 bif decide (a>0) then
 (gIdx x0 a).bind fun e=>
 (gIdx x0 (ε.wrap (a-1))).bind fun f=>
 (c e f).bind fun g=>
 bif decide (g<0) then
 some (.inr (false))
 else
 some (.inl (ε.wrap (a-1)))
 else
 some (.inr (true))
def Zi1 (x0:List (List Int)) (a:(List Int)->(List Int)->Option Int):Option Bool:=
 loop (ZeM x0 a) (ε.wrap ((x0.length:Int)-1))
def ZcG (x0:Int):Option Bool:=
 some (x0 !=x0)
def Zbr (x0 c:Int):Option Int:=
 (ZcG x0).bind fun r8=>
 (ZcG c).bind fun a=>
 bif r8 then
 bif a then
 some (0)
 else
 some ((-1))
 else
 bif a then
 some (1)
 else
 bif decide (x0<c) then
 some ((-1))
 else
 bif decide (x0>c) then
 some (1)
 else
 some (0)
def Zby (e s1:List Int):Int->Option ((Int) ⊕ (Int))
 | a=>
 bif decide (a<(e.length:Int)) then
 (gIdx e a).bind fun f=>
 bif decide (a>=(s1.length:Int)) then
 some (.inr (1))
 else
 (gIdx s1 a).bind fun g=>
 (Zbr f g).bind fun c=>
 bif c !=0 then
 some (.inr (c))
 else
 some (.inl (ε.wrap (a+1)))
 else
 bif decide (((e.length:Int):Int)<(s1.length:Int)) then
 some (.inr ((-1)))
 else
 some (.inr (0))
def Zan (a s1:List Int):Option Int:=
 loop (Zby a s1) (0)
def Zg1 (a:Zaf):Option Bool:=
 (ZpA a.Blocks a.Points).bind fun e=>
 bif e then
 bif decide (((a.Blocks.length:Int):Int)<=128) then
 (Zi1 a.Blocks (fun f g=>Zan f g)).bind fun c=>
 some (c)
 else
 some (false)
 else
 some (false)
def ZhE (h:List (List Int)):List (List Int)×Int->Option ((List (List Int)×Int) ⊕ (List (List Int)))
 | (a,c)=>
 bif decide (c<(h.length:Int)) then
 (gIdx h c).bind fun e=>
 (Zce e).bind fun f=>
 (gApp 24 a [f]).bind fun g=>
 some (.inl (g,ε.wrap (c+1)))
 else
 some (.inr (a))
def ZbT (a:List (List Int)):Option (List (List Int)):=
 loop (ZhE a) (([]:List (List Int)),0)
def Zh7 (a:Zg):Option Zaf:=
 (ZbT a.Rows).bind fun c=>
 some ((Zaf.mk a.Size c))
def Zfu (c:List Int) (e:Int->Option Bool):Int->Option ((Int) ⊕ (Int))
 | a=>
 bif decide (a<(c.length:Int)) then
 (gIdx c a).bind fun f=>
 (e f).bind fun g=>
 bif g then
 some (.inr (a))
 else
 some (.inl (ε.wrap (a+1)))
 else
 some (.inr ((-1)))
def Zmh (c:List Int) (a:Int->Option Bool):Option Int:=
 loop (Zfu c a) (0)
def ZaU (c:List Int) (a:Int->Option Bool):Option Bool:=
 (Zmh c a).bind fun e=>
 some (decide (e>=0))
def ZkP (x0:Int):Option Bool:=
 bif x0 !=1 then
 some (x0 !=(-1))
 else
 some (false)
def ZfO (e:List Int) (f:Int) (g:List Int):Int×Int->Option ((Int×Int) ⊕ ((Int) ⊕ ((Int) ⊕ (Bool))))
 | (c,a)=>
 bif decide (a<(e.length:Int)) then
 (gIdx e a).bind fun h=>
 (gIdx g a).bind fun i=>
 some (.inl (ε.wrap (c+(ε.wrap (h*i))),ε.wrap (a+1)))
 else
 bif c !=0 then
 some (.inr (.inr (.inr (false))))
 else
 some (.inr (.inl (ε.wrap (f+1))))
def ZgZ (e:Int) (f:List Int) (c:List (List Int)):Int->Option ((Int) ⊕ ((Int) ⊕ (Bool)))
 | a=>
 bif decide (a<(c.length:Int)) then
 (gIdx c a).bind fun g=>
 loop (ZfO f a g) (0,0)
 else
 some (.inr (.inl (ε.wrap (e+1))))
def Zji (f:List (List Int)) (a:Int) (c:List Int):Option ((Int) ⊕ (Bool)):=
 (gSl f 0 a).bind fun e=>
 loop (ZgZ a c e) (0)
def ZdT (f:List (List Int)) (e:Int):Int->Option ((Int) ⊕ (Bool))
 | a=>
 bif decide (a<(f.length:Int)) then
 (gIdx f a).bind fun c=>
 (ZW c).bind fun g=>
 bif g !=e then
 some (.inr (false))
 else
 (ZaU c (fun j=>ZkP j)).bind fun h=>
 bif h then
 some (.inr (false))
 else
 Zji f a c
 else
 (Zab e 1 32).bind fun i=>
 some (.inr (i))
def Zld (a:List (List Int)):Option Bool:=
 (Z6 a).bind fun c=>
 loop (ZdT a c) (0)
def ZoX (g e:Int):Option Bool:=
 (Zab g 2 16).bind fun a=>
 bif a then
 (Zab e 1 8).bind fun c=>
 some (c)
 else
 some (false)
def Zli (x0:Int) (a:Zai):Option Bool:=
 (Zab x0 0 (ε.wrap (a.Levels-1))).bind fun r8=>
 some (!r8)
def ZiB (a:Zai):Int->Option ((Int) ⊕ (Bool))
 | c=>
 bif decide (c<(a.Rows.length:Int)) then
 (gIdx a.Rows c).bind fun e=>
 (ZW e).bind fun f=>
 bif f !=a.Columns then
 some (.inr (false))
 else
 (ZaU e (fun h=>Zli h (Zai.mk a.Levels a.Columns a.Rows))).bind fun g=>
 bif g then
 some (.inr (false))
 else
 some (.inl (ε.wrap (c+1)))
 else
 some (.inr (true))
def ZoJ (a:Zai):Option (Bool):=
 loop (ZiB a) (0)
def ZjM (a:Zai):Option Bool:=
 (ZoX a.Levels a.Columns).bind fun c=>
 bif !c then
 some (false)
 else
 bif decide (((a.Rows.length:Int):Int)>256) then
 some (false)
 else
 ZoJ a
def ZnW (a:Zg):Option Zai:=
 (ZbT a.Rows).bind fun r8=>
 bif decide (((a.Rows.length:Int):Int)>0) then
 (gIdx a.Rows 0).bind fun c=>
 (ZW c).bind fun e=>
 some ((Zai.mk a.Size e r8))
 else
 some ((Zai.mk a.Size 0 r8))
def ZfK (a c e:Int):Option ((Int×Int) ⊕ (Int)):=
 some (.inl (ε.wrap (c-1),ε.wrap (e*a)))
def ZaV (c e:Int):Int×Int->Option ((Int×Int) ⊕ (Int))
 | (a,power7)=>
 bif decide (a>0) then
 bif decide (power7<=e) then
 ZfK c a power7
 else
 some (.inr (power7))
 else
 some (.inr (power7))
def Zbo (a c e:Int):Option Int:=
 loop (ZaV a e) (c,1)
def Zba (a:Ze):Option Int:=
 (Zbo a.Prime a.Degree 64).bind fun c=>
 some (c)
def ZcR (a:Int) (f:List Int):Int×Int×List Int->Option ((Int×Int×List Int) ⊕ (List Int))
 | (e,c,xs)=>
 bif decide (c<(f.length:Int)) then
 (gNz a).bind fun _=>
 (gIdx xs c).bind fun g=>
 (gNz a).bind fun _=>
 some (.inl (ε.wrap (Int.tdiv e a),ε.wrap (c+1),(xs.set c.toNat (Int.tmod e a))))
 else
 some (.inr (xs))
def ZaT (n0 a e:Int):Option (List Int):=
 (gMake 8 (0:Int) e e).bind fun c=>
 loop (ZcR a c) (n0,0,c)
def Zev (e:List Int) (f g h:Int):Int×List Int->Option ((Int×List Int) ⊕ ((Int×List Int) ⊕ (List Int)))
 | (a,c)=>
 bif decide (a<(e.length:Int)) then
 (gIdx e a).bind fun i=>
 (gIdx c (ε.wrap ((ε.wrap (g-(ε.wrap ((e.length:Int)-1))))+a))).bind fun j=>
 (gNz f).bind fun _=>
 (gNz f).bind fun _=>
 (gIdx c (ε.wrap ((ε.wrap (g-(ε.wrap ((e.length:Int)-1))))+a))).bind fun k=>
 some (.inl (ε.wrap (a+1),(c.set (ε.wrap ((ε.wrap (g-(ε.wrap ((e.length:Int)-1))))+a):Int).toNat (Int.tmod (ε.wrap ((Int.tmod (ε.wrap (j-(ε.wrap (h*i)))) f)+f)) f))))
 else
 some (.inr (.inl (ε.wrap (g-1),c)))
def ZbI (a:List Int) (g:Int):Int×List Int->Option ((Int×List Int) ⊕ (List Int))
 | (c,xs)=>
 bif decide (c>=(ε.wrap ((a.length:Int)-1))) then
 (gIdx xs c).bind fun e=>
 loop (Zev a g c e) (0,xs)
 else
 (gSl xs 0 (if ((xs.length:Int):Int)<(ε.wrap ((a.length:Int)-1)) then (xs.length:Int) else ε.wrap ((a.length:Int)-1))).bind fun f=>
 some (.inr (f))
def Zdy (c e:List Int) (f:Int):Option (List Int):=
 (Zce c).bind fun a=>
 loop (ZbI e f) (ε.wrap ((a.length:Int)-1),a)
def Zl9 (x0:Int):Option Bool:=
 some (x0 !=0)
def ZjB (a:List Int):Option Bool:=
 (ZaU a (fun c=>Zl9 c)).bind fun e=>
 some (!e)
def Zmy (a:List Int) (p1 c:Int):Int->Option ((Int) ⊕ ((Int) ⊕ (Bool)))
 | e=>
 (Zbo p1 c 64).bind fun f=>
 bif decide (e<f) then
 (ZaT e p1 c).bind fun g=>
 (gApp 8 g [1]).bind fun h=>
 (Zdy a h p1).bind fun i=>
 (ZjB i).bind fun j=>
 bif j then
 some (.inr (.inr (false)))
 else
 some (.inl (ε.wrap (e+1)))
 else
 some (.inr (.inl (ε.wrap (c+1))))
def Zon (a:List Int) (p1 e:Int):Int->Option ((Int) ⊕ (Bool))
 | c=>
 bif decide ((ε.wrap (2*c):Int)<=(ε.wrap (e-1))) then
 loop (Zmy a p1 c) (0)
 else
 some (.inr (true))
def Zh1 (a:List Int) (p1:Int):Option Bool:=
 (ZW a).bind fun c=>
 loop (Zon a p1 c) (1)
def Zd4 (c:Int):Int×List Int->Option ((Int×List Int) ⊕ ((Int×List Int×Int) ⊕ (List Int)))
 | (a,factor3_2)=>
 (gNz c).bind fun _=>
 bif (Int.tmod a c:Int)==0 then
 (gApp 8 factor3_2 [c]).bind fun e=>
 (gNz c).bind fun _=>
 some (.inl (ε.wrap (Int.tdiv a c),e))
 else
 some (.inr (.inl (a,factor3_2,ε.wrap (c+1))))
def Zbu:Int×List Int×Int->Option ((Int×List Int×Int) ⊕ (List Int))
 | (a,factor3,c)=>
 bif decide ((ε.wrap (c*c):Int)<=a) then
 loop (Zd4 c) (a,factor3)
 else
 bif decide (a>1) then
 (gApp 8 factor3 [a]).bind fun e=>
 some (.inr (e))
 else
 some (.inr (factor3))
def ZcI (n0:Int):Option (List Int):=
 (Zab n0 1 1000000).bind fun a=>
 bif !a then
 some (([]:List Int))
 else
 loop (Zbu) (n0,([]:List Int),2)
def Zkl (n0:Int):Option Bool:=
 (ZcI n0).bind fun a=>
 some (((a.length:Int):Int)==1)
def Zoa (a:Ze):Int->Option ((Int) ⊕ (Bool))
 | c=>
 bif decide (c<(a.Poly.length:Int)) then
 (gIdx a.Poly c).bind fun e=>
 (Zab e 0 (ε.wrap (a.Prime-1))).bind fun f=>
 bif !f then
 some (.inr (false))
 else
 some (.inl (ε.wrap (c+1)))
 else
 (Zh1 a.Poly a.Prime).bind fun g=>
 some (.inr (g))
def ZlG (a:Ze):Option (Bool):=
 loop (Zoa a) (0)
def Zjr (a:Ze):Option (Bool):=
 (ZW a.Poly).bind fun c=>
 bif c !=(ε.wrap (a.Degree+1)) then
 some (false)
 else
 (gIdx a.Poly a.Degree).bind fun e=>
 bif e !=1 then
 some (false)
 else
 ZlG a
def Zhf (a:Ze):Option Bool:=
 (Zkl a.Prime).bind fun e=>
 bif !e then
 some (false)
 else
 bif decide (a.Degree<1) then
 some (false)
 else
 (Zbo a.Prime a.Degree 64).bind fun c=>
 bif decide (c>64) then
 some (false)
 else
 Zjr a
def Ze4 (x0 a:Int):Option Bool:=
 (Zab x0 0 (ε.wrap (a-1))).bind fun c=>
 some (!c)
def Zp2 (c:Int) (a:List Int):Option Bool:=
 (ZaU a (fun e=>Ze4 e c)).bind fun f=>
 some (!f)
def Zga (a:List Int) (e:List (List Int)) (f:Int):Option Bool:=
 (gIdx e 0).bind fun g=>
 bif ((a.length:Int):Int) !=(g.length:Int) then
 some (true)
 else
 (Zp2 f a).bind fun c=>
 some (!c)
def ZmD (a:Ze) (c:List (List Int)):Option (Bool):=
 (Zba (Ze.mk a.Prime a.Degree a.Poly)).bind fun e=>
 (Zii c (fun g=>Zga g c e)).bind fun f=>
 some (!f)
def Zjw (a:Ze) (c:List (List Int)):Option Bool:=
 (Zhf (Ze.mk a.Prime a.Degree a.Poly)).bind fun j=>
 bif !j then
 some (false)
 else
 (Z6 c).bind fun e=>
 (Zab e 1 32).bind fun f=>
 bif !f then
 some (false)
 else
 (gIdx c 0).bind fun g=>
 (ZW g).bind fun h=>
 (Zab h 1 32).bind fun i=>
 bif !i then
 some (false)
 else
 ZmD a c
def ZDR (g:List Int) (a:Int):Int×Int->Option ((Int×Int) ⊕ (Int))
 | (c,k6)=>
 bif decide (k6>=0) then
 (gIdx g k6).bind fun e=>
 some (.inl (ε.wrap ((ε.wrap (c*a))+e),ε.wrap (k6-1)))
 else
 some (.inr (c))
def Zk6 (e:List Int) (a:Int):Option Int:=
 loop (ZDR e a) (0,ε.wrap ((e.length:Int)-1))
def ZgG (c:Ze) (e:Int) (f g:List Int):Int×List Int->Option ((Int×List Int) ⊕ (Int))
 | (a,xs)=>
 bif decide (a<(f.length:Int)) then
 (gIdx xs a).bind fun h=>
 (gIdx g a).bind fun i=>
 (gNz c.Prime).bind fun _=>
 (gIdx xs a).bind fun k=>
 some (.inl (ε.wrap (a+1),(xs.set a.toNat (Int.tmod (ε.wrap ((ε.wrap (h+(ε.wrap (e*i))))+c.Prime)) c.Prime))))
 else
 (Zk6 xs c.Prime).bind fun j=>
 some (.inr (j))
def Zit (a:Ze) (g h c:Int):Option Int:=
 (ZaT g a.Prime a.Degree).bind fun e=>
 (ZaT h a.Prime a.Degree).bind fun f=>
 loop (ZgG a c e f) (0,e)
def Zjn (g:Ze) (h f:List Int) (e:Int):Int×List Int->Option ((Int×List Int) ⊕ ((Int×List Int) ⊕ (Int)))
 | (a,c)=>
 bif decide (a<(f.length:Int)) then
 (gIdx c (ε.wrap (e+a))).bind fun i=>
 (gIdx h e).bind fun j=>
 (gIdx f a).bind fun k=>
 (gNz g.Prime).bind fun _=>
 (gIdx c (ε.wrap (e+a))).bind fun l=>
 some (.inl (ε.wrap (a+1),(c.set (ε.wrap (e+a):Int).toNat (Int.tmod (ε.wrap (i+(ε.wrap (j*k)))) g.Prime))))
 else
 some (.inr (.inl (ε.wrap (e+1),c)))
def ZdM (a:Ze) (c f:List Int):Int×List Int->Option ((Int×List Int) ⊕ (Int))
 | (e,xs)=>
 bif decide (e<(c.length:Int)) then
 loop (Zjn a c f e) (0,xs)
 else
 (Zdy xs a.Poly a.Prime).bind fun g=>
 (Zk6 g a.Prime).bind fun h=>
 some (.inr (h))
def ZkU (a:Ze) (g h:Int):Option Int:=
 (ZaT g a.Prime a.Degree).bind fun c=>
 (ZaT h a.Prime a.Degree).bind fun e=>
 (gMake 8 (0:Int) (ε.wrap (2*a.Degree)) (ε.wrap (2*a.Degree))).bind fun f=>
 loop (ZdM a c e) (0,f)
def Zot (g:Int) (a c e:List (List Int)) (f:List Int):Option ((Int×List (List Int)×List (List Int)×List (List Int)×List Int) ⊕ (Z2)):=
 some (.inl (ε.wrap (g+1),a,c,e,f))
def Zec (g:Ze) (r i:Int) (xs o p:List (List Int)):Int×List Int×List Int×List Int×List Int->Option ((Int×List Int×List Int×List Int×List Int) ⊕ ((Int×List (List Int)×List (List Int)×List (List Int)×List Int) ⊕ (Z2)))
 | (a,h,e,f,c)=>
 bif decide (a<r) then
 (Zit (Ze.mk g.Prime g.Degree g.Poly) i a 1).bind fun k=>
 (Zit (Ze.mk g.Prime g.Degree g.Poly) i a (-1)).bind fun l=>
 (ZkU (Ze.mk g.Prime g.Degree g.Poly) i a).bind fun j=>
 (gIdx e a).bind fun y=>
 (gIdx f a).bind fun a0=>
 (gIdx c a).bind fun a1=>
 (gIdx (c.set a.toNat j) a).bind fun s=>
 bif s==1 then
 (gIdx h i).bind fun a2=>
 some (.inl (ε.wrap (a+1),(h.set i.toNat a),(e.set a.toNat k),(f.set a.toNat l),(c.set a.toNat j)))
 else
 some (.inl (ε.wrap (a+1),h,(e.set a.toNat k),(f.set a.toNat l),(c.set a.toNat j)))
 else
 (gApp 24 xs [e]).bind fun u=>
 (gApp 24 o [f]).bind fun v=>
 (gApp 24 p [c]).bind fun w=>
 (Zot i u v w h).map fun x=>.inr (x)
def ZgT (k:Ze) (a:Int):Int×List (List Int)×List (List Int)×List (List Int)×List Int->Option ((Int×List (List Int)×List (List Int)×List (List Int)×List Int) ⊕ (Z2))
 | (g,xs,c,e,f)=>
 bif decide (g<a) then
 (gMake 8 (0:Int) a a).bind fun h=>
 (gMake 8 (0:Int) a a).bind fun i=>
 (gMake 8 (0:Int) a a).bind fun j=>
 loop (Zec k a g xs c e) (0,f,h,i,j)
 else
 some (.inr ((Z2.mk a xs c e f)))
def Zh8 (c:Ze):Option Z2:=
 (Zba (Ze.mk c.Prime c.Degree c.Poly)).bind fun a=>
 (gMake 8 (0:Int) a a).bind fun e=>
 loop (ZgT c a) (0,([]:List (List Int)),([]:List (List Int)),([]:List (List Int)),e)
def ZfJ (a:List Int) (c:Int):Option Bool:=
 (gIdx a c).bind fun e=>
 some (e !=0)
def Zb7 (e:Z2) (c:List Int) (o:Int):Int×List Int->Option ((Int×List Int) ⊕ (List Int))
 | (a,xs)=>
 bif decide (a<(c.length:Int)) then
 (gIdx c a).bind fun f=>
 (gIdx xs a).bind fun g=>
 (gIdx e.qadd g).bind fun h=>
 (gIdx e.qmul o).bind fun i=>
 (gIdx i f).bind fun j=>
 (gIdx h j).bind fun k=>
 (gIdx xs a).bind fun l=>
 some (.inl (ε.wrap (a+1),(xs.set a.toNat k)))
 else
 some (.inr (xs))
def ZcL (e:Z2) (c a:List Int) (g:Int):Option (List Int):=
 loop (Zb7 e a g) (0,c)
def ZeY (c:List Int) (e:Int) (xs:List (List Int)):Option ((List (List Int))×(List Int)×Int):=
 (gSl xs 0 (c.length:Int)).bind fun a=>
 some ((a,c,e))
def Zht (f:Int) (a:List Int) (c:Int) (e:List (List Int)):Option ((List Int×Int×Int×List (List Int)) ⊕ ((List (List Int))×(List Int)×Int)):=
 some (.inl (a,c,ε.wrap (f+1),e))
def Zfb (e:Z2) (f:List Int) (p a:Int) (c:List (List Int)) (g:List Int) (h:Bool):Option ((Int×List (List Int)) ⊕ ((Int×List (List Int)) ⊕ ((List Int×Int×Int×List (List Int)) ⊕ ((List (List Int))×(List Int)×Int)))):=
 bif h then
 (gIdx c (f.length:Int)).bind fun i=>
 (gIdx e.qsub 0).bind fun j=>
 (gIdx g p).bind fun k=>
 (gIdx j k).bind fun l=>
 (gNe a (f.length:Int)).bind fun r=>
 (ZcL (Z2.mk e.qq e.qadd e.qsub e.qmul e.qinv) g i l).bind fun o=>
 some (.inl (ε.wrap (a+1),(c.set a.toNat o)))
 else
 some (.inl (ε.wrap (a+1),c))
def Zb9 (l:Z2) (e:List Int) (f i:Int) (j:List (List Int)):Int×List (List Int)->Option ((Int×List (List Int)) ⊕ ((Int×List (List Int)) ⊕ ((List Int×Int×Int×List (List Int)) ⊕ ((List (List Int))×(List Int)×Int))))
 | (c,a)=>
 bif decide (c<(j.length:Int)) then
 (gIdx a c).bind fun g=>
 bif c !=(e.length:Int) then
 (gIdx g f).bind fun k=>
 Zfb l e f c a g (k !=0)
 else
 Zfb l e f c a g false
 else
 (gApp 8 e [f]).bind fun h=>
 bif ((h.length:Int):Int)==(a.length:Int) then
 (ZeY h i a).map fun x=>.inr (.inr (.inr (x)))
 else
 (Zht f h i a).map fun x=>.inr (.inr (x))
def Zip (h:Z2) (c:List Int) (l o p:Int) (r:List Int):Int×List (List Int)->Option ((Int×List (List Int)) ⊕ ((List Int×Int×Int×List (List Int)) ⊕ ((List (List Int))×(List Int)×Int)))
 | (f,a)=>
 bif decide (f<(r.length:Int)) then
 (gIdx a (c.length:Int)).bind fun e=>
 (gIdx e f).bind fun s=>
 (gIdx a (c.length:Int)).bind fun g=>
 (gIdx h.qinv o).bind fun i=>
 (gIdx h.qmul i).bind fun j=>
 (gIdx j s).bind fun k=>
 (gIdx g f).bind fun u=>
 some (.inl (ε.wrap (f+1),(a.set ((c.length:Int):Int).toNat (g.set f.toNat k))))
 else
 loop (Zb9 h c l p a) (0,a)
def Zgj (h:Z2) (a:List Int) (e g:Int) (c:List (List Int)):Option ((List Int×Int×Int×List (List Int)) ⊕ ((List (List Int))×(List Int)×Int)):=
 (gIdx c (a.length:Int)).bind fun i=>
 (gIdx i e).bind fun f=>
 (gIdx h.qmul g).bind fun j=>
 (gIdx j f).bind fun k=>
 (gIdx c (a.length:Int)).bind fun l=>
 loop (Zip h a e f k l) (0,c)
def Zhr (g:Z2) (a:List Int) (h f:Int) (c:List (List Int)):Option ((List Int×Int×Int×List (List Int)) ⊕ ((List (List Int))×(List Int)×Int)):=
 (gSl c (a.length:Int) (c.length:Int)).bind fun j=>
 (Zg8 j (fun g=>ZfJ g f)).bind fun e=>
 bif decide (e<0) then
 Zht f a 0 c
 else
 bif decide (e>0) then
 (gIdx c (ε.wrap ((a.length:Int)+e))).bind fun i=>
 (gIdx c (a.length:Int)).bind fun k=>
 (gIdx c (a.length:Int)).bind fun p=>
 (gIdx (c.set ((a.length:Int):Int).toNat i) (ε.wrap ((a.length:Int)+e))).bind fun r=>
 (gIdx g.qsub 0).bind fun l=>
 (gIdx l h).bind fun o=>
 Zgj g a f o ((c.set ((a.length:Int):Int).toNat i).set (ε.wrap ((a.length:Int)+e):Int).toNat k)
 else
 Zgj g a f h c
def ZbV (h:Z2):List Int×Int×Int×List (List Int)->Option ((List Int×Int×Int×List (List Int)) ⊕ ((List (List Int))×(List Int)×Int))
 | (c,e,f,a)=>
 bif decide (((a.length:Int):Int)>0) then
 (gIdx a 0).bind fun g=>
 bif decide (f<(g.length:Int)) then
 Zhr h c e f a
 else
 (ZeY c e a).map fun x=>.inr (x)
 else
 (ZeY c e a).map fun x=>.inr (x)
def ZjO (c:Z2) (e:List (List Int)):Option ((List (List Int))×(List Int)×Int):=
 (ZbT e).bind fun a=>
 loop (ZbV c) (([]:List Int),1,0,a)
def ZiW (c s1:List (List Int)) (e:(List Int)->(List Int)->Option Bool):Int->Option ((Int) ⊕ (Bool))
 | a=>
 bif decide (a<(c.length:Int)) then
 (gIdx c a).bind fun f=>
 (gIdx s1 a).bind fun g=>
 (e f g).bind fun h=>
 bif !h then
 some (.inr (false))
 else
 some (.inl (ε.wrap (a+1)))
 else
 some (.inr (true))
def Zp4 (a s1:List (List Int)) (c:(List Int)->(List Int)->Option Bool):Option Bool:=
 bif ((a.length:Int):Int) !=(s1.length:Int) then
 some (false)
 else
 loop (ZiW a s1 c) (0)
def Zjp (c s1:List Int):Int->Option ((Int) ⊕ (Bool))
 | a=>
 bif decide (a<(c.length:Int)) then
 (gIdx c a).bind fun e=>
 (gIdx s1 a).bind fun f=>
 bif e !=f then
 some (.inr (false))
 else
 some (.inl (ε.wrap (a+1)))
 else
 some (.inr (true))
def ZcJ (a s1:List Int):Option Bool:=
 bif ((a.length:Int):Int) !=(s1.length:Int) then
 some (false)
 else
 loop (Zjp a s1) (0)
def ZjV (a c:List (List Int)):Option Bool:=
 (Zp4 a c (fun e f=>ZcJ e f)).bind fun g=>
 some (g)
def ZpP (a:ZZ):Option (Bool):=
 (Zh8 (Ze.mk a.Field.Prime a.Field.Degree a.Field.Poly)).bind fun c=>
 (ZjO c a.Rows).bind fun e=>
 (ZjV e.1 a.Rows).bind fun f=>
 some (f)
def ZdV (a:ZZ):Option Bool:=
 (Zjw (Ze.mk a.Field.Prime a.Field.Degree a.Field.Poly) a.Rows).bind fun c=>
 bif !c then
 some (false)
 else
 bif decide (((a.Rows.length:Int):Int)>8) then
 some (false)
 else
 (Zba (Ze.mk a.Field.Prime a.Field.Degree a.Field.Poly)).bind fun e=>
 (Z6 a.Rows).bind fun f=>
 (Zbo e f 4096).bind fun g=>
 bif decide (g>4096) then
 some (false)
 else
 ZpP a
def ZbW (r8:List Int):Int->Option ((Int) ⊕ (Int×Int))
 | a=>
 bif decide (a<(r8.length:Int)) then
 (gIdx r8 a).bind fun c=>
 (gIdx r8 0).bind fun e=>
 bif c !=e then
 some (.inr ((0,0)))
 else
 some (.inl (ε.wrap (a+1)))
 else
 bif ((r8.length:Int):Int)==0 then
 some (.inr ((0,0)))
 else
 (ZW r8).bind fun f=>
 (gIdx r8 0).bind fun g=>
 some (.inr ((g,f)))
def ZcX (n0:Int):Option (Int×Int):=
 (ZcI n0).bind fun r8=>
 loop (ZbW r8) (0)
def Zpn (a:Int×Int):Int->Option ((Int) ⊕ (Ze×Int))
 | c=>
 (ZaT c a.1 a.2).bind fun e=>
 (gApp 8 e [1]).bind fun f=>
 (Zh1 f a.1).bind fun g=>
 bif !g then
 some (.inl (ε.wrap (c+1)))
 else
 (ZaT c a.1 a.2).bind fun h=>
 (gApp 8 h [1]).bind fun i=>
 some (.inr (((Ze.mk a.1 a.2 i),0)))
def Zk1 (a:Int×Int):Option (Ze×Int):=
 loop (Zpn a) (0)
def ZbQ (a:Int):Option (Ze×Int):=
 (ZcX a).bind fun c=>
 bif c.1==0 then
 some (((Ze.mk 0 0 ([]:List Int)),2))
 else
 bif decide (a>64) then
 some (((Ze.mk 0 0 ([]:List Int)),2))
 else
 Zk1 c
def ZcY (a:Zg):Option ZZ:=
 (ZbQ a.Size).bind fun r8=>
 (ZbT a.Rows).bind fun c=>
 some ((ZZ.mk (Ze.mk r8.1.Prime r8.1.Degree r8.1.Poly) c))
def ZcN (a:List Int):Int->Option ((Int) ⊕ (Int))
 | e=>
 bif decide (e<(a.length:Int)) then
 (gIdx a e).bind fun c=>
 bif c !=0 then
 some (.inr (c))
 else
 some (.inl (ε.wrap (e+1)))
 else
 some (.inr (0))
def ZeF (a:List Int):Option Int:=
 loop (ZcN a) (0)
def Za0 (a c:Zb):Option Int:=
 (Zbr a.A c.A).bind fun g=>
 (Zbr a.B c.B).bind fun e=>
 (ZeF ([g,e]:List Int)).bind fun f=>
 some (f)
def Zod (n0:Int):Option Bool:=
 (Zab n0 0 63).bind fun a=>
 some (a)
def Zo1 (n0:Int):Option Bool:=
 (Zod n0).bind fun a=>
 some (!a)
def Zl2 (e:List Int):Option Bool:=
 bif decide (((e.length:Int):Int)<=64) then
 (ZaU e (fun a=>Zo1 a)).bind fun r8=>
 some (!r8)
 else
 some (false)
def Zbp (c:Za):Int->Option ((Int) ⊕ (Bool))
 | e=>
 bif decide (e<(c.Edges.length:Int)) then
 (gIdx c.Edges e).bind fun a=>
 bif decide (a.A<0) then
 some (.inr (false))
 else
 bif decide (a.A>=a.B) then
 some (.inr (false))
 else
 (ZW c.Colors).bind fun f=>
 bif decide (a.B>=f) then
 some (.inr (false))
 else
 bif decide (e>0) then
 (gIdx c.Edges (ε.wrap (e-1))).bind fun g=>
 (Za0 g (Zb.mk a.A a.B)).bind fun h=>
 bif decide (h>=0) then
 some (.inr (false))
 else
 some (.inl (ε.wrap (e+1)))
 else
 some (.inl (ε.wrap (e+1)))
 else
 (Zl2 c.Colors).bind fun i=>
 bif i then
 some (.inr (decide (((c.Edges.length:Int):Int)<=512)))
 else
 some (.inr (false))
def Zfc (a:Za):Option Bool:=
 loop (Zbp a) (0)
def Zcr (f:Zg) (e:List Int):Int×List Zb->Option ((Int×List Zb) ⊕ (Za×Bool))
 | (a,xs)=>
 bif decide (a<(f.Rows.length:Int)) then
 (gIdx f.Rows a).bind fun c=>
 bif ((c.length:Int):Int) !=2 then
 some (.inr (((Za.mk ([]:List Int) ([]:List Zb)),false)))
 else
 (gIdx c 0).bind fun g=>
 (gIdx c 1).bind fun h=>
 (gApp 16 xs [(Zb.mk g h)]).bind fun i=>
 some (.inl (ε.wrap (a+1),i))
 else
 (Zfc (Za.mk e xs)).bind fun j=>
 some (.inr (((Za.mk e xs),j)))
def Zgr (a:Zg):Option (Za×Bool):=
 (Zab a.Size 0 64).bind fun e=>
 bif !e then
 some (((Za.mk ([]:List Int) ([]:List Zb)),false))
 else
 (gMake 8 (0:Int) a.Size a.Size).bind fun c=>
 loop (Zcr a c) (0,([]:List Zb))
def Zgi (c:List Int):Int×List Int->Option ((Int×List Int) ⊕ (List Int))
 | (a,xs)=>
 bif decide (a<(c.length:Int)) then
 (gIdx xs a).bind fun e=>
 some (.inl (ε.wrap (a+1),(xs.set a.toNat a)))
 else
 some (.inr (xs))
def Zly (n0:Int):Option (List Int):=
 (gMake 8 (0:Int) n0 n0).bind fun a=>
 loop (Zgi a) (0,a)
def ZhS (c:List Int):Int×List Int->Option ((Int×List Int) ⊕ (ByteArray))
 | (a,xs)=>
 bif decide (a<(c.length:Int)) then
 (gIdx c a).bind fun e=>
 (gIdx xs a).bind fun g=>
 some (.inl (ε.wrap (a+1),(xs.set a.toNat (IntKind.u8.wrap e))))
 else
 (gByt xs).bind fun f=>
 some (.inr (f))
def Zgo (a:List Int):Option ByteArray:=
 (gMake 1 (0:Int) (a.length:Int) (a.length:Int)).bind fun c=>
 loop (ZhS a) (0,c)
def ZhT (f g h:List Int):Int×List Int->Option ((Int×List Int) ⊕ (List Int))
 | (a,xs)=>
 bif decide (a<(h.length:Int)) then
 (gIdx f a).bind fun c=>
 (gIdx g c).bind fun e=>
 (gIdx xs a).bind fun i=>
 some (.inl (ε.wrap (a+1),(xs.set a.toNat e)))
 else
 some (.inr (xs))
def Zju (a e:List Int):Option (List Int):=
 (gMake 8 (0:Int) (a.length:Int) (a.length:Int)).bind fun c=>
 loop (ZhT a e c) (0,c)
open Classical in
def Zei (x0:List (List Int)) (e:(List Int)->(List Int)->Option Int):Option (List (List Int)):=if (∀ a∈x0,∀ c∈x0,e a c=some (lexC a c))/\x0.length<4611686018427387904 then some (sortRows x0) else none
def Zck (k:List (List Int)) (g:Int):List (List Int)×Int×List (ByteArray×Bool)->Option ((List (List Int)×Int×List (ByteArray×Bool)) ⊕ ((List (List Int)×Int×List (ByteArray×Bool)) ⊕ ((List (List Int))×Bool)))
 | (elemen6_2,c,a)=>
 bif decide (c<(k.length:Int)) then
 (gIdx k c).bind fun h=>
 (gIdx elemen6_2 g).bind fun i=>
 (Zju i h).bind fun e=>
 (Zgo e).bind fun f=>
 bif !(mpGet a f false) then
 (gApp 24 elemen6_2 [e]).bind fun j=>
 some (.inl (j,ε.wrap (c+1),(mpSet a f true)))
 else
 some (.inl (elemen6_2,ε.wrap (c+1),a))
 else
 bif decide (((elemen6_2.length:Int):Int)>720) then
 some (.inr (.inr ((([]:List (List Int)),false))))
 else
 some (.inr (.inl (elemen6_2,ε.wrap (g+1),a)))
def ZcK (g:List (List Int)):List (List Int)×Int×List (ByteArray×Bool)->Option ((List (List Int)×Int×List (ByteArray×Bool)) ⊕ ((List (List Int))×Bool))
 | (elemen6,a,mp)=>
 bif decide (a<(elemen6.length:Int)) then
 loop (Zck g a) (elemen6,0,mp)
 else
 (Zei elemen6 (fun e f=>Zan e f)).bind fun c=>
 some (.inr ((c,true)))
def Zfh (g:Int) (h:List (List Int)):Option ((List (List Int))×Bool):=
 (Zly g).bind fun a=>
 (gIdx ([a]) 0).bind fun c=>
 (Zgo c).bind fun e=>
 loop (ZcK h) ([a],0,(mpSet ([]:List (ByteArray×Bool)) e true))
def ZbK (x0:List (List Int)) (j:List Int) (e:(List Int)->(List Int)->Option Int):Int×Int->Option ((Int×Int) ⊕ (Int×Bool))
 | (a,c)=>
 bif decide (a<c) then
 (gNn 1).bind fun _=>
 (gIdx x0 (ε.wrap (Int.fdiv (IntKind.u64.wrap (ε.wrap (a+c))) (2^min (1:Int).toNat IntKind.u64.bits)))).bind fun f=>
 (e f j).bind fun g=>
 bif decide (g<0) then
 some (.inl (ε.wrap ((ε.wrap (Int.fdiv (IntKind.u64.wrap (ε.wrap (a+c))) (2^min (1:Int).toNat IntKind.u64.bits)))+1),c))
 else
 some (.inl (a,ε.wrap (Int.fdiv (IntKind.u64.wrap (ε.wrap (a+c))) (2^min (1:Int).toNat IntKind.u64.bits))))
 else
 bif decide (a<(x0.length:Int)) then
 (gIdx x0 a).bind fun h=>
 (e h j).bind fun i=>
 some (.inr ((a,i==0)))
 else
 some (.inr ((a,false)))
def ZdE (x0:List (List Int)) (e:List Int) (a:(List Int)->(List Int)->Option Int):Option (Int×Bool):=
 loop (ZbK x0 e a) (0,(x0.length:Int))
def ZlP (g:Int) (h:List (List Int)) (e:Int) (f:List Int):Option ((List (List Int)×List (List Int)×Bool×Int) ⊕ ((List (List Int))×(List (List Int))×Bool)):=
 (gApp 24 h [f]).bind fun a=>
 (Zfh g a).bind fun c=>
 some (.inl (a,c.1,c.2,ε.wrap (e+1)))
def ZaL (k:Int) (j:List (List Int)):List (List Int)×List (List Int)×Bool×Int->Option ((List (List Int)×List (List Int)×Bool×Int) ⊕ ((List (List Int))×(List (List Int))×Bool))
 | (genera7,a,e,c)=>
 bif decide (c<(j.length:Int)) then
 (gIdx j c).bind fun f=>
 (ZdE a f (fun h i=>Zan h i)).bind fun g=>
 bif g.2 then
 some (.inl (genera7,a,e,ε.wrap (c+1)))
 else
 bif !e then
 some (.inl (genera7,a,e,ε.wrap (c+1)))
 else
 ZlP k genera7 c f
 else
 some (.inr ((genera7,a,e)))
def ZlR (e:Int) (g:List (List Int)):Option ((List (List Int))×(List (List Int))×Bool):=
 (Zfh e ([]:List (List Int))).bind fun a=>
 loop (ZaL e g) (([]:List (List Int)),a.1,a.2,0)
def Zft (a:ZaB):Int->Option ((Int) ⊕ (Bool))
 | c=>
 bif decide (c<(a.Elements.length:Int)) then
 (gIdx a.Elements (ε.wrap (c-1))).bind fun f=>
 (gIdx a.Elements c).bind fun g=>
 (Zan f g).bind fun h=>
 bif decide (h>=0) then
 some (.inr (false))
 else
 some (.inl (ε.wrap (c+1)))
 else
 (ZlR a.Degree a.Elements).bind fun e=>
 bif e.2.2 then
 some (.inr (((e.2.1.length:Int):Int)==(a.Elements.length:Int)))
 else
 some (.inr (false))
def Zm0 (a:ZaB):Option (Bool):=
 loop (Zft a) (1)
def Zll (a:ZaB):Option Bool:=
 (Zab a.Degree 1 32).bind fun e=>
 bif !e then
 some (false)
 else
 bif decide (((a.Elements.length:Int):Int)<1) then
 some (false)
 else
 bif decide (((a.Elements.length:Int):Int)>720) then
 some (false)
 else
 (Zg5 a.Degree a.Elements).bind fun c=>
 bif !c then
 some (false)
 else
 Zm0 a
def ZmB (a:Zg):Option ZaB:=
 (ZbT a.Rows).bind fun c=>
 some ((ZaB.mk a.Size c))
def Zb5 (a:Zg):Option Bool:=
 bif a.Kind==1 then
 (Z6 a.Rows).bind fun c=>
 bif c==a.Size then
 (ZhY a.Rows).bind fun e=>
 some (e)
 else
 some (false)
 else
 bif a.Kind==2 then
 (Zh7 (Zg.mk a.Kind a.Size a.Rows)).bind fun f=>
 (Zg1 f).bind fun g=>
 some (g)
 else
 bif a.Kind==3 then
 (Z6 a.Rows).bind fun h=>
 bif h==a.Size then
 (Zld a.Rows).bind fun i=>
 some (i)
 else
 some (false)
 else
 bif a.Kind==4 then
 bif decide (((a.Rows.length:Int):Int)>0) then
 (ZnW (Zg.mk a.Kind a.Size a.Rows)).bind fun j=>
 (ZjM j).bind fun k=>
 some (k)
 else
 some (false)
 else
 bif a.Kind==5 then
 (ZcY (Zg.mk a.Kind a.Size a.Rows)).bind fun l=>
 (ZdV l).bind fun o=>
 some (o)
 else
 bif a.Kind==6 then
 (Zgr (Zg.mk a.Kind a.Size a.Rows)).bind fun p=>
 some (p.2)
 else
 bif a.Kind==7 then
 (ZmB (Zg.mk a.Kind a.Size a.Rows)).bind fun r=>
 (Zll r).bind fun s=>
 some (s)
 else
 some (false)
def Za3 (a:Int) (e g:Bool):Option ((Int) ⊕ (Bool)):=
 bif !e then
 bif a==0 then
 some (.inr (false))
 else
 bif !g then
 some (.inr (false))
 else
 some (.inl (ε.wrap (a+1)))
 else
 some (.inl (ε.wrap (a+1)))
def Za2 (a c:Int) (e:Bool):Option ((Int) ⊕ (Bool)):=
 bif decide (c>=48) then
 Za3 a e (decide (c<=57))
 else
 Za3 a e false
def ZbM (e:ByteArray):Int->Option ((Int) ⊕ (Bool))
 | a=>
 bif decide (a<((byts e).length:Int)) then
 (gIdx (byts e) a).bind fun c=>
 bif decide (c>=97) then
 Za2 a c (decide (c<=122))
 else
 Za2 a c false
 else
 some (.inr (true))
def Zpp (a:ByteArray):Option (Bool):=
 loop (ZbM a) (0)
def Zgy (a:ByteArray):Option Bool:=
 bif decide (((a.size:Int):Int)<1) then
 some (false)
 else
 bif decide (((a.size:Int):Int)>10) then
 some (false)
 else
 Zpp a
def Zjc (x0:Zd):Option Bool:=
 (Zgy x0.Name).bind fun a=>
 bif a then
 (Zb5 (Zg.mk x0.Object.Kind x0.Object.Size x0.Object.Rows)).bind fun c=>
 bif c then
 bif decide (((x0.Key.size:Int):Int)>=1) then
 some (decide (((x0.Key.size:Int):Int)<=4000))
 else
 some (false)
 else
 some (false)
 else
 some (false)
def Zb4 (e:Zi):Int->Option ((Int) ⊕ (Bool))
 | c=>
 bif decide (c<(e.Items.length:Int)) then
 (gIdx e.Items c).bind fun a=>
 (Zjc (Zd.mk a.Name (Zg.mk a.Object.Kind a.Object.Size a.Object.Rows) a.Key)).bind fun i=>
 bif !i then
 some (.inr (false))
 else
 bif decide (c>0) then
 (gIdx e.Items (ε.wrap (c-1))).bind fun h=>
 bif Op.bytesLess (a.Name.toList) (h.Name.toList)||a.Name.toList==h.Name.toList then
 some (.inr (false))
 else
 (gSl e.Items 0 c).bind fun j=>
 (ZcT j (Zd.mk a.Name (Zg.mk a.Object.Kind a.Object.Size a.Object.Rows) a.Key)).bind fun k=>
 bif decide (k>=0) then
 some (.inr (false))
 else
 some (.inl (ε.wrap (c+1)))
 else
 (gSl e.Items 0 c).bind fun f=>
 (ZcT f (Zd.mk a.Name (Zg.mk a.Object.Kind a.Object.Size a.Object.Rows) a.Key)).bind fun g=>
 bif decide (g>=0) then
 some (.inr (false))
 else
 some (.inl (ε.wrap (c+1)))
 else
 some (.inr (decide (((e.Items.length:Int):Int)<=24)))
def ZkF (a:Zi):Option Bool:=
 loop (Zb4 a) (0)
def Zgn (n0:Int):Option Bool:=
 (Zab n0 1 20000).bind fun a=>
 some (a)
open Classical in
def Zhq (x0:List Zb) (e:Zb->Zb->Option Int):Option (List Zb):=if (∃ g:Zb->Zb->Int,(∀ a c,e a c=some (g a c))/\CmpOk g)/\x0.length<4611686018427387904 then some (sortC (fun a c=>(e a c).getD 0) x0) else none
def Zir (x0:List Zb):Option (List Zb):=if x0.length<4611686018427387904 then cptL (fun (a b:Zb)=>some (a.A==b.A&&a.B==b.B)) x0 else none
def Zgh (k:List Zb):List Zb×Int->Option ((List Zb×Int) ⊕ (List Zb))
 | (c,e)=>
 bif decide (e<(k.length:Int)) then
 (gIdx k e).bind fun a=>
 (gApp 16 c [(Zb.mk (if a.B<a.A then a.B else a.A) (if a.B>a.A then a.B else a.A))]).bind fun f=>
 some (.inl (f,ε.wrap (e+1)))
 else
 (Zhq c (fun i j=>Za0 i j)).bind fun g=>
 (Zir g).bind fun h=>
 some (.inr (h))
def Ziy (a:List Zb):Option (List Zb):=
 loop (Zgh a) (([]:List Zb),0)
def ZpN (e:List Int) (g:List Zb):Option (Za×Int):=
 (Ziy g).bind fun a=>
 some (((Za.mk e a),0))
def Zf8 (a:List Int) (e:List Zb):Option (Za×Int):=
 bif decide (((a.length:Int):Int)>64) then
 some (((Za.mk ([]:List Int) ([]:List Zb)),5))
 else
 bif decide (((e.length:Int):Int)>512) then
 some (((Za.mk ([]:List Int) ([]:List Zb)),5))
 else
 ZpN a e
def ZgP (e:List Int) (a f:Int):Option ((List Int×Int) ⊕ (Za×Int)):=
 (gApp 8 e [f]).bind fun c=>
 some (.inl (c,ε.wrap (a+1)))
def ZfI (j:List (List Int)) (a e:Int):List Zb×Int->Option ((List Zb×Int) ⊕ ((List Zb×Int) ⊕ ((List Int×Int) ⊕ (Za×Int))))
 | (f,c)=>
 bif decide (c<a) then
 (gIdx j e).bind fun g=>
 (gIdx g c).bind fun h=>
 (gApp 16 f ([(Zb.mk e (ε.wrap ((ε.wrap ((ε.wrap (3*a))+(ε.wrap (a*e))))+c))),(Zb.mk (ε.wrap (a+c)) (ε.wrap ((ε.wrap ((ε.wrap (3*a))+(ε.wrap (a*e))))+c))),(Zb.mk (ε.wrap ((ε.wrap (2*a))+h)) (ε.wrap ((ε.wrap ((ε.wrap (3*a))+(ε.wrap (a*e))))+c)))]:List Zb)).bind fun i=>
 some (.inl (i,ε.wrap (c+1)))
 else
 some (.inr (.inl (f,ε.wrap (e+1))))
def Zen (g:List (List Int)) (c:Int) (h:List Int):List Zb×Int->Option ((List Zb×Int) ⊕ ((List Int×Int) ⊕ (Za×Int)))
 | (e,f)=>
 bif decide (f<c) then
 loop (ZfI g c f) (e,0)
 else
 (Zf8 h e).bind fun a=>
 some (.inr (.inr (((Za.mk a.1.Colors a.1.Edges),a.2))))
def Zdd (f:List (List Int)) (g:Bool) (a:Int):List Int×Int->Option ((List Int×Int) ⊕ (Za×Int))
 | (e,c)=>
 bif decide (c<(ε.wrap ((ε.wrap (3*a))+(ε.wrap (a*a))))) then
 (gNz a).bind fun _=>
 bif g then
 bif decide (c<(ε.wrap (3*a))) then
 ZgP e c 0
 else
 ZgP e c (if (3:Int)<(ε.wrap (Int.tdiv c a)) then 3 else ε.wrap (Int.tdiv c a))
 else
 ZgP e c (if (3:Int)<(ε.wrap (Int.tdiv c a)) then 3 else ε.wrap (Int.tdiv c a))
 else
 loop (Zen f a e) (([]:List Zb),0)
def Zez (c:List (List Int)) (f:Bool):Option (Za×Int):=
 (ZhY c).bind fun e=>
 bif !e then
 some (((Za.mk ([]:List Int) ([]:List Zb)),1))
 else
 (Z6 c).bind fun a=>
 bif decide (a>6) then
 some (((Za.mk ([]:List Int) ([]:List Zb)),5))
 else
 loop (Zdd c f a) (([]:List Int),0)
def Zg7 (e a:Int):Int×List Int->Option ((Int×List Int) ⊕ (List Int))
 | (k6,xs)=>
 bif decide (k6<(ε.wrap (e+a))) then
 (gIdx xs k6).bind fun c=>
 some (.inl (ε.wrap (k6+1),(xs.set k6.toNat 1)))
 else
 some (.inr (xs))
def ZiO (e a:Int):Option (List Int):=
 (gMake 8 (0:Int) (ε.wrap (e+a)) (ε.wrap (e+a))).bind fun c=>
 loop (Zg7 e a) (e,c)
def Ze5 (j e:Int) (f:List Int):List Zb×Int->Option ((List Zb×Int) ⊕ ((List Zb×Int) ⊕ (Za×Int)))
 | (a,c)=>
 bif decide (c<(f.length:Int)) then
 (gIdx f c).bind fun g=>
 (gApp 16 a [(Zb.mk g (ε.wrap (j+e)))]).bind fun h=>
 some (.inl (h,ε.wrap (c+1)))
 else
 some (.inr (.inl (a,ε.wrap (e+1))))
def Zhj (j:Int) (a:List (List Int)):List Zb×Int->Option ((List Zb×Int) ⊕ (Za×Int))
 | (edges6,c)=>
 bif decide (c<(a.length:Int)) then
 (gIdx a c).bind fun f=>
 loop (Ze5 j c f) (edges6,0)
 else
 (Z6 a).bind fun g=>
 (ZiO j g).bind fun h=>
 (Zf8 h edges6).bind fun e=>
 some (.inr (((Za.mk e.1.Colors e.1.Edges),e.2)))
def ZgL (e:Int) (a:List (List Int)):Option (Za×Int):=
 loop (Zhj e a) (([]:List Zb),0)
def ZnC (c:Zaf):Option (Za×Int):=
 (Zg1 (Zaf.mk c.Points c.Blocks)).bind fun e=>
 bif !e then
 some (((Za.mk ([]:List Int) ([]:List Zb)),1))
 else
 (ZgL c.Points c.Blocks).bind fun a=>
 some (((Za.mk a.1.Colors a.1.Edges),a.2))
def Ze7 (c:Z2) (e:List (List Int)) (j:List Int):Int×List Int->Option ((Int×List Int) ⊕ (List Int))
 | (a,xs)=>
 bif decide (a<(j.length:Int)) then
 (gIdx j a).bind fun f=>
 (gIdx e a).bind fun g=>
 (ZcL (Z2.mk c.qq c.qadd c.qsub c.qmul c.qinv) xs g f).bind fun h=>
 some (.inl (ε.wrap (a+1),h))
 else
 some (.inr (xs))
def Zjo (f:Z2) (a:List (List Int)) (g:List Int):Option (List Int):=
 (gIdx a 0).bind fun c=>
 (gMake 8 (0:Int) (c.length:Int) (c.length:Int)).bind fun e=>
 loop (Ze7 f a g) (0,e)
def ZgH:Int×Int×List Int->Option ((Int×Int×List Int) ⊕ (List Int))
 | (a,c,xs)=>
 bif decide (a<c) then
 (gIdx xs c).bind fun e=>
 (gIdx xs a).bind fun f=>
 (gIdx xs a).bind fun g=>
 (gIdx (xs.set a.toNat e) c).bind fun h=>
 some (.inl (ε.wrap (a+1),ε.wrap (c-1),((xs.set a.toNat e).set c.toNat f)))
 else
 some (.inr (xs))
def Zml (a:List Int):Option (List Int):=
 loop (ZgH) (0,ε.wrap ((a.length:Int)-1),a)
def Zle (n0 a g:Int):Option (List Int):=
 (ZaT n0 a g).bind fun c=>
 (Zml c).bind fun e=>
 some (e)
def Ze0 (j:ZZ) (a:Z2) (e f:Int):List (List Int)×Int->Option ((List (List Int)×Int) ⊕ (List (List Int)))
 | (words5,c)=>
 bif decide (c<f) then
 (Zle c a.qq e).bind fun g=>
 (Zjo (Z2.mk a.qq a.qadd a.qsub a.qmul a.qinv) j.Rows g).bind fun h=>
 (gApp 24 words5 [h]).bind fun i=>
 some (.inl (i,ε.wrap (c+1)))
 else
 some (.inr (words5))
def ZiP (a:ZZ):Option (List (List Int)):=
 (Zh8 (Ze.mk a.Field.Prime a.Field.Degree a.Field.Poly)).bind fun e=>
 (Z6 a.Rows).bind fun c=>
 (Zbo e.qq c 4096).bind fun f=>
 loop (Ze0 a e c f) (([]:List (List Int)),0)
def Zfv (a:List Int):List Int×Int->Option ((List Int×Int) ⊕ (List Int))
 | (suppor3,c)=>
 bif decide (c<(a.length:Int)) then
 (gIdx a c).bind fun e=>
 bif e !=0 then
 (gApp 8 suppor3 [c]).bind fun f=>
 some (.inl (f,ε.wrap (c+1)))
 else
 some (.inl (suppor3,ε.wrap (c+1)))
 else
 some (.inr (suppor3))
def Zlu (a:List Int):Option (List Int):=
 loop (Zfv a) (([]:List Int),0)
def ZpW (a:ZZ):Option Int:=
 (gIdx a.Rows 0).bind fun c=>
 (ZW c).bind fun e=>
 some (e)
def Zem (e:ZZ) (f:List (List Int)):List (List Int)×Int->Option ((List (List Int)×Int) ⊕ (Za×Int))
 | (suppor4,a)=>
 bif decide (a<(f.length:Int)) then
 (gIdx f a).bind fun g=>
 (Zlu g).bind fun h=>
 (gApp 24 suppor4 [h]).bind fun i=>
 some (.inl (i,ε.wrap (a+1)))
 else
 (ZpW (ZZ.mk (Ze.mk e.Field.Prime e.Field.Degree e.Field.Poly) e.Rows)).bind fun j=>
 (ZgL j suppor4).bind fun c=>
 some (.inr (((Za.mk c.1.Colors c.1.Edges),c.2)))
def ZhU (a:ZZ):Option (Za×Int):=
 (ZdV (ZZ.mk (Ze.mk a.Field.Prime a.Field.Degree a.Field.Poly) a.Rows)).bind fun r8=>
 bif !r8 then
 some (((Za.mk ([]:List Int) ([]:List Zb)),1))
 else
 (Zba (Ze.mk a.Field.Prime a.Field.Degree a.Field.Poly)).bind fun e=>
 bif e !=2 then
 some (((Za.mk ([]:List Int) ([]:List Zb)),6))
 else
 (ZiP (ZZ.mk (Ze.mk a.Field.Prime a.Field.Degree a.Field.Poly) a.Rows)).bind fun c=>
 (gSl c 1 (c.length:Int)).bind fun f=>
 loop (Zem a f) (([]:List (List Int)),0)
def ZpK (a:Zg) (c:Int):Option Int:=
 (Zb5 (Zg.mk a.Kind a.Size a.Rows)).bind fun e=>
 bif !e then
 some (1)
 else
 bif a.Kind !=c then
 some (6)
 else
 some (0)
def Zmw (a:Zg):Option (Za×Int):=
 (ZpK (Zg.mk a.Kind a.Size a.Rows) 6).bind fun r8=>
 bif r8 !=0 then
 some (((Za.mk ([]:List Int) ([]:List Zb)),r8))
 else
 (Zgr (Zg.mk a.Kind a.Size a.Rows)).bind fun c=>
 some (((Za.mk c.1.Colors c.1.Edges),0))
def Zcp (a:Zg):Option (Za×Int):=
 bif a.Kind==1 then
 (Zez a.Rows false).bind fun c=>
 some (((Za.mk c.1.Colors c.1.Edges),c.2))
 else
 bif a.Kind==2 then
 (Zh7 (Zg.mk a.Kind a.Size a.Rows)).bind fun h=>
 (ZnC h).bind fun e=>
 some (((Za.mk e.1.Colors e.1.Edges),e.2))
 else
 bif a.Kind==5 then
 (ZcY (Zg.mk a.Kind a.Size a.Rows)).bind fun i=>
 (ZhU i).bind fun f=>
 some (((Za.mk f.1.Colors f.1.Edges),f.2))
 else
 bif a.Kind==6 then
 (Zmw (Zg.mk a.Kind a.Size a.Rows)).bind fun g=>
 some (((Za.mk g.1.Colors g.1.Edges),g.2))
 else
 some (((Za.mk ([]:List Int) ([]:List Zb)),6))
def Zfx (xs:List (List Int)):Int×List (List Int)->Option ((Int×List (List Int)) ⊕ ((Int×List (List Int)) ⊕ (List (List Int))))
 | (c,a)=>
 bif decide (c<(xs.length:Int)) then
 (gIdx a c).bind fun e=>
 (ZcF e).bind fun f=>
 some (.inl (ε.wrap (c+1),(a.set c.toNat f)))
 else
 some (.inr (.inr (a)))
def ZiE (f:Za):Int×List (List Int)->Option ((Int×List (List Int)) ⊕ (List (List Int)))
 | (c,xs)=>
 bif decide (c<(f.Edges.length:Int)) then
 (gIdx f.Edges c).bind fun a=>
 (gIdx xs a.A).bind fun g=>
 (gApp 8 g [a.B]).bind fun e=>
 (gIdx (xs.set a.A.toNat e) a.B).bind fun h=>
 (gApp 8 h [a.A]).bind fun i=>
 some (.inl (ε.wrap (c+1),((xs.set a.A.toNat e).set a.B.toNat i)))
 else
 loop (Zfx xs) (0,xs)
def ZkB (a:Za):Option (List (List Int)):=
 (gMake 24 ([]:List Int) (a.Colors.length:Int) (a.Colors.length:Int)).bind fun c=>
 loop (ZiE a) (0,c)
def ZkZ (a:List (List Int)):Option (List (List Int)):=gApp 24 [] a
def Zgt (x0:List (List Int)) (a:(List Int)->(List Int)->Option Bool):Option (List (List Int)):=if x0.length<4611686018427387904 then cptL a x0 else none
def ZfE (o:List Int) (a:Int) (xs:List (List Int)) (f:Int) (e:List Int):List Int×Int->Option ((List Int×Int) ⊕ ((Int×List (List Int)) ⊕ (List Int)))
 | (g,c)=>
 bif decide (c<(e.length:Int)) then
 (gIdx e c).bind fun h=>
 (gIdx o h).bind fun i=>
 (gApp 8 g [i]).bind fun j=>
 some (.inl (j,ε.wrap (c+1)))
 else
 (ZcF g).bind fun k=>
 (gApp 8 ([f]:List Int) k).bind fun l=>
 (gIdx xs a).bind fun p=>
 some (.inr (.inl (ε.wrap (a+1),(xs.set a.toNat l))))
def Zej (e:List (List Int)) (f:List Int) (xs g:List (List Int)):Int×List Int->Option ((Int×List Int) ⊕ ((Int×List (List Int)) ⊕ (List Int)))
 | (a,c)=>
 bif decide (a<(xs.length:Int)) then
 (gIdx xs a).bind fun h=>
 (ZdE g h (fun e f=>Zan e f)).bind fun i=>
 (gIdx c a).bind fun j=>
 some (.inl (ε.wrap (a+1),(c.set a.toNat i.1)))
 else
 some (.inr (.inr (c)))
def Zhu (e:List (List Int)) (a:List Int):Int×List (List Int)->Option ((Int×List (List Int)) ⊕ (List Int))
 | (c,xs)=>
 bif decide (c<(a.length:Int)) then
 (gIdx a c).bind fun f=>
 (gIdx e c).bind fun g=>
 loop (ZfE a c xs f g) (([]:List Int),0)
 else
 (ZkZ xs).bind fun h=>
 (Zei h (fun e a=>Zan e a)).bind fun i=>
 (Zgt i (fun e a=>ZcJ e a)).bind fun j=>
 (gMake 8 (0:Int) (a.length:Int) (a.length:Int)).bind fun k=>
 loop (Zej e a xs j) (0,k)
def ZlS (e:List (List Int)) (a:List Int):Option (List Int):=
 (gMake 24 ([]:List Int) (a.length:Int) (a.length:Int)).bind fun c=>
 loop (Zhu e a) (0,c)
def Zkc (x0:List Int):Option (List Int):=if x0.length<4611686018427387904 then cptL (fun (a b:Int)=>some (a==b)) x0 else none
def ZgB (g:List Int):Option Int:=
 (Zce g).bind fun a=>
 (ZcF a).bind fun c=>
 (Zkc c).bind fun e=>
 some ((e.length:Int))
def Zdq (g:List (List Int)):List Int->Option ((List Int) ⊕ (List Int))
 | a=>
 (ZlS g a).bind fun r8=>
 (ZgB r8).bind fun c=>
 (ZgB a).bind fun e=>
 bif c==e then
 some (.inr (r8))
 else
 some (.inl (r8))
def ZlO (a:List (List Int)) (e:List Int):Option (List Int):=
 loop (Zdq a) (e)
def Zci (g:List Int) (c:Int):List Int×Int->Option ((List Int×Int) ⊕ ((Int) ⊕ (List Int)))
 | (vertic4,a)=>
 bif decide (a<(g.length:Int)) then
 (gIdx g a).bind fun e=>
 bif e==c then
 (gApp 8 vertic4 [a]).bind fun f=>
 some (.inl (f,ε.wrap (a+1)))
 else
 some (.inl (vertic4,ε.wrap (a+1)))
 else
 bif decide (((vertic4.length:Int):Int)>1) then
 some (.inr (.inr (vertic4)))
 else
 some (.inr (.inl (ε.wrap (c+1))))
def Zhi (e:List Int):Int->Option ((Int) ⊕ (List Int))
 | a=>
 bif decide (a<(e.length:Int)) then
 loop (Zci e a) (([]:List Int),0)
 else
 some (.inr (([]:List Int)))
def ZlA (a:List Int):Option (List Int):=
 loop (Zhi a) (0)
def ZfP (f:Za) (p1 xs:List Int):Int×List Zb->Option ((Int×List Zb) ⊕ ((Int×List Int) ⊕ (Za)))
 | (a,c)=>
 bif decide (a<(f.Edges.length:Int)) then
 (gIdx f.Edges a).bind fun e=>
 (gIdx p1 e.A).bind fun g=>
 (gIdx p1 e.B).bind fun h=>
 (gApp 16 c [(Zb.mk g h)]).bind fun i=>
 some (.inl (ε.wrap (a+1),i))
 else
 (Ziy c).bind fun j=>
 some (.inr (.inr ((Za.mk xs j))))
def Zf2 (e:Za) (p1:List Int):Int×List Int->Option ((Int×List Int) ⊕ (Za))
 | (a,xs)=>
 bif decide (a<(e.Colors.length:Int)) then
 (gIdx e.Colors a).bind fun f=>
 (gIdx p1 a).bind fun c=>
 (gIdx xs c).bind fun g=>
 some (.inl (ε.wrap (a+1),(xs.set c.toNat f)))
 else
 loop (ZfP e p1 xs) (0,([]:List Zb))
def Zh5 (a:Za) (p1:List Int):Option Za:=
 (gMake 8 (0:Int) (a.Colors.length:Int) (a.Colors.length:Int)).bind fun c=>
 loop (Zf2 a p1) (0,c)
def Zgq (g:List Zb):List Int×Int->Option ((List Int×Int) ⊕ (List Int))
 | (a,e)=>
 bif decide (e<(g.length:Int)) then
 (gIdx g e).bind fun c=>
 (gApp 8 a ([c.A,c.B]:List Int)).bind fun f=>
 some (.inl (f,ε.wrap (e+1)))
 else
 some (.inr (a))
def Zhm (a:List Zb):Option (List Int):=
 loop (Zgq a) (([]:List Int),0)
def Zik (c h1:Za):Option Int:=
 (Zan c.Colors h1.Colors).bind fun a=>
 bif a !=0 then
 some (a)
 else
 (Zhm c.Edges).bind fun e=>
 (Zhm h1.Edges).bind fun f=>
 (Zan e f).bind fun g=>
 some (g)
def Zdk (x0:Zu) (p1:List Int) (f:Int) (xs:List Int) (a:List Zb) (c:List (List Int)):Option (Zu):=
 bif decide (f<=0) then
 (gApp 24 c [p1]).bind fun e=>
 some ((Zu.mk (Zad.mk x0.qcounter.qleft x0.qcounter.qspent) (Za.mk x0.qgraph.Colors x0.qgraph.Edges) x0.qlists x0.qnodes (ε.wrap (x0.qleaves+1)) (Za.mk xs a) e))
 else
 some ((Zu.mk (Zad.mk x0.qcounter.qleft x0.qcounter.qspent) (Za.mk x0.qgraph.Colors x0.qgraph.Edges) x0.qlists x0.qnodes (ε.wrap (x0.qleaves+1)) (Za.mk xs a) c))
def Zdm (x0:Zu) (p1:List Int) (a:Za) (c:Int):Option (Zu):=
 bif decide (c<0) then
 Zdk x0 p1 c a.Colors a.Edges ([]:List (List Int))
 else
 Zdk x0 p1 c x0.qform.Colors x0.qform.Edges x0.qbest
def ZfV (x0:Zu) (p1:List Int):Option Zu:=
 (Zh5 (Za.mk x0.qgraph.Colors x0.qgraph.Edges) p1).bind fun a=>
 bif decide (((x0.qbest.length:Int):Int)>0) then
 (Zik (Za.mk a.Colors a.Edges) (Za.mk x0.qform.Colors x0.qform.Edges)).bind fun c=>
 Zdm x0 p1 a c
 else
 Zdm x0 p1 a (-1)
def ZkK (a:Zad):Option (Bool×Zad):=
 bif (a.qleft:Int)==0 then
 some ((false,(Zad.mk a.qleft true)))
 else
 some ((true,(Zad.mk (ε.wrap (a.qleft-1)) a.qspent)))
def ZfQ (y:Zu->(List Int)->Option Zu) (g:Zu) (j:List Int) (k l o:Int) (xs:List Int) (h:List Zb) (i:List (List Int)) (f p:Int) (r:Bool):Int×List Int->Option ((Int×List Int) ⊕ ((Int×Int×Bool×Int×Int×List Int×List Zb×List (List Int)) ⊕ (Zu)))
 | (e,a)=>
 bif decide (e<(j.length:Int)) then
 (gIdx j e).bind fun s=>
 (gIdx a e).bind fun w=>
 some (.inl (ε.wrap (e+1),(a.set e.toNat (ε.wrap ((ε.wrap (2*s))+1)))))
 else
 (gIdx a f).bind fun u=>
 (gIdx a f).bind fun x=>
 (ZlO g.qlists (a.set f.toNat (ε.wrap (u-1)))).bind fun v=>
 (y (Zu.mk (Zad.mk p r) (Za.mk g.qgraph.Colors g.qgraph.Edges) g.qlists (ε.wrap (l+1)) o (Za.mk xs h) i) v).bind fun c=>
 some (.inr (.inl (ε.wrap (k+1),c.qcounter.qleft,c.qcounter.qspent,c.qnodes,c.qleaves,c.qform.Colors,c.qform.Edges,c.qbest)))
def Zp3 (r:Zu->(List Int)->Option Zu) (o:Zu) (a:List Int) (f g h:Int) (xs:List Int) (c:List Zb) (e:List (List Int)) (i j:Int) (k:Bool):Option ((Int×Int×Bool×Int×Int×List Int×List Zb×List (List Int)) ⊕ (Zu)):=
 (gMake 8 (0:Int) (a.length:Int) (a.length:Int)).bind fun l=>
 loop (ZfQ r o a f g h xs c e i j k) (0,l)
def Zcv (r:Zu->(List Int)->Option Zu) (a:Zu) (o k:List Int):Int×Int×Bool×Int×Int×List Int×List Zb×List (List Int)->Option ((Int×Int×Bool×Int×Int×List Int×List Zb×List (List Int)) ⊕ (Zu))
 | (j,q,g,h,i,xs,c,e)=>
 bif decide (j<(k.length:Int)) then
 (gIdx k j).bind fun l=>
 bif g then
 some (.inr ((Zu.mk (Zad.mk q g) (Za.mk a.qgraph.Colors a.qgraph.Edges) a.qlists h i (Za.mk xs c) e)))
 else
 (ZkK (Zad.mk q g)).bind fun f=>
 bif !f.1 then
 some (.inr ((Zu.mk (Zad.mk f.2.qleft f.2.qspent) (Za.mk a.qgraph.Colors a.qgraph.Edges) a.qlists h i (Za.mk xs c) e)))
 else
 Zp3 r a o j h i xs c e l f.2.qleft f.2.qspent
 else
 some (.inr ((Zu.mk (Zad.mk q g) (Za.mk a.qgraph.Colors a.qgraph.Edges) a.qlists h i (Za.mk xs c) e)))
def q_impl_explorer_search (g:Zu->(List Int)->Option Zu) (a:Zu) (f:List Int):Option Zu:=
 (ZlA f).bind fun e=>
 bif ((e.length:Int):Int)==0 then
 (ZfV (Zu.mk (Zad.mk a.qcounter.qleft a.qcounter.qspent) (Za.mk a.qgraph.Colors a.qgraph.Edges) a.qlists a.qnodes a.qleaves (Za.mk a.qform.Colors a.qform.Edges) a.qbest) f).bind fun c=>
 some ((Zu.mk (Zad.mk c.qcounter.qleft c.qcounter.qspent) (Za.mk a.qgraph.Colors a.qgraph.Edges) a.qlists c.qnodes c.qleaves (Za.mk c.qform.Colors c.qform.Edges) c.qbest))
 else
 loop (Zcv g a f e) (0,a.qcounter.qleft,a.qcounter.qspent,a.qnodes,a.qleaves,a.qform.Colors,a.qform.Edges,a.qbest)
def pn_impl_explorer_search:Nat->(Zu->(List Int)->Option Zu)
 | 0=>(fun _ _=>none)
 | n+1=>q_impl_explorer_search (pn_impl_explorer_search n)
def Zpc:Zu->(List Int)->Option Zu:=(pn_impl_explorer_search fuel)
def Zkk (c:Za) (h:Int):Option ((Option Zu)×Int):=
 (Zfc (Za.mk c.Colors c.Edges)).bind fun r8=>
 bif !r8 then
 some ((none,1))
 else
 (Zgn h).bind fun f=>
 bif !f then
 some ((none,2))
 else
 (ZkB (Za.mk c.Colors c.Edges)).bind fun e=>
 (ZlO e c.Colors).bind fun g=>
 (Zpc (Zu.mk (Zad.mk h false) (Za.mk c.Colors c.Edges) e 0 0 (Za.mk ([]:List Int) ([]:List Zb)) ([]:List (List Int))) g).bind fun a=>
 bif a.qcounter.qspent then
 some ((none,5))
 else
 some (((some (Zu.mk (Zad.mk a.qcounter.qleft a.qcounter.qspent) (Za.mk c.Colors c.Edges) e a.qnodes a.qleaves (Za.mk a.qform.Colors a.qform.Edges) a.qbest)),0))
def ZkY (e:Za) (h:Int):Option (Za×(List Int)×Int):=
 (Zkk (Za.mk e.Colors e.Edges) h).bind fun f=>
 (match f with
 | (none,a)=>
 bif a !=0 then
 some ((Za.mk ([]:List Int) ([]:List Zb),([]:List Int),a))
 else
 none
 | (some c,a)=>
 bif a !=0 then
 some ((Za.mk ([]:List Int) ([]:List Zb),([]:List Int),a))
 else
 (gIdx c.qbest 0).bind fun g=>
 some ((c.qform,g,0))
 )
def Zmb (c a:Int):Option ByteArray:=if a=10/\-9223372036854775808<=c/\c<=9223372036854775807 then some (itoaB c) else none
def ZfR (n0:Int):Option ByteArray:=
 (Zmb n0 10).bind fun a=>
 some (a)
def Zel (x0:List ByteArray) (s1:ByteArray):Option ByteArray:=if x0.length<=140737488355328/\(joinB x0 s1).size<=140737488355328 then some (joinB x0 s1) else none
def Zeo (n0:Int):Option Bool:=
 (Zab n0 (-999999999) 999999999).bind fun a=>
 some (!a)
def ZeA (a:List Int):List ByteArray×Int->Option ((List ByteArray×Int) ⊕ (ByteArray))
 | (words3,c)=>
 bif decide (c<(a.length:Int)) then
 (gIdx a c).bind fun e=>
 (ZfR e).bind fun f=>
 (gApp 16 words3 [f]).bind fun g=>
 some (.inl (g,ε.wrap (c+1)))
 else
 (Zel words3 ⟨#[44]⟩).bind fun h=>
 some (.inr (h))
def Zkj (a:List Int):Option (ByteArray):=
 bif ((a.length:Int):Int)==0 then
 some (⟨#[45]⟩)
 else
 loop (ZeA a) (([]:List ByteArray),0)
def Zlt (a:List Int):Option ByteArray:=
 bif decide (((a.length:Int):Int)>100) then
 some (⟨#[]⟩)
 else
 (ZaU a (fun e=>Zeo e)).bind fun c=>
 bif c then
 some (⟨#[]⟩)
 else
 Zkj a
def Zfi (i:Za):List ByteArray×Int->Option ((List ByteArray×Int) ⊕ (ByteArray))
 | (words3,a)=>
 bif decide (a<(i.Edges.length:Int)) then
 (gIdx i.Edges a).bind fun f=>
 (ZfR f.A).bind fun c=>
 (ZfR f.B).bind fun g=>
 (gFit c (⟨#[45]⟩:ByteArray)).bind fun _=>
 (gFit (c++(⟨#[45]⟩:ByteArray):ByteArray) g).bind fun _=>
 (gApp 16 words3 [(c++(⟨#[45]⟩:ByteArray):ByteArray)++g]).bind fun j=>
 some (.inl (j,ε.wrap (a+1)))
 else
 (Zlt i.Colors).bind fun e=>
 (gFit e (⟨#[59]⟩:ByteArray)).bind fun _=>
 (Zel words3 ⟨#[44]⟩).bind fun h=>
 (gFit (e++(⟨#[59]⟩:ByteArray):ByteArray) h).bind fun _=>
 some (.inr ((e++(⟨#[59]⟩:ByteArray):ByteArray)++h))
def ZjS (a:Za):Option ByteArray:=
 (Zfc (Za.mk a.Colors a.Edges)).bind fun c=>
 bif !c then
 some (⟨#[]⟩)
 else
 loop (Zfi a) (([]:List ByteArray),0)
def Zfs (c:Za) (g:Int):Option (ByteArray×Int):=
 (ZkY (Za.mk c.Colors c.Edges) g).bind fun a=>
 bif a.2.2 !=0 then
 some ((⟨#[]⟩,a.2.2))
 else
 (ZjS (Za.mk a.1.Colors a.1.Edges)).bind fun e=>
 some ((e,0))
def ZjT (c:Zg) (h:Int):Option (ByteArray×Int):=
 (Zb5 (Zg.mk c.Kind c.Size c.Rows)).bind fun g=>
 bif !g then
 some ((⟨#[]⟩,1))
 else
 (Zgn h).bind fun f=>
 bif !f then
 some ((⟨#[]⟩,2))
 else
 (Zcp (Zg.mk c.Kind c.Size c.Rows)).bind fun a=>
 bif a.2 !=0 then
 some ((⟨#[]⟩,a.2))
 else
 (Zfs (Za.mk a.1.Colors a.1.Edges) h).bind fun e=>
 some ((e.1,e.2))
def ZkH (c:Zg) (e:Int):Option (ByteArray×Int):=
 (ZjT (Zg.mk c.Kind c.Size c.Rows) e).bind fun a=>
 bif a.2 !=0 then
 some ((⟨#[]⟩,a.2))
 else
 bif decide (((a.1.size:Int):Int)>4000) then
 some ((⟨#[]⟩,5))
 else
 some ((a.1,0))
def ZfX (a:Zg):Option Zg:=
 (ZbT a.Rows).bind fun c=>
 some ((Zg.mk a.Kind a.Size c))
def ZdN (x0:List Zd) (j:ByteArray) (e:Zd->ByteArray->Option Int):Int×Int->Option ((Int×Int) ⊕ (Int×Bool))
 | (a,c)=>
 bif decide (a<c) then
 (gNn 1).bind fun _=>
 (gIdx x0 (ε.wrap (Int.fdiv (IntKind.u64.wrap (ε.wrap (a+c))) (2^min (1:Int).toNat IntKind.u64.bits)))).bind fun f=>
 (e f j).bind fun g=>
 bif decide (g<0) then
 some (.inl (ε.wrap ((ε.wrap (Int.fdiv (IntKind.u64.wrap (ε.wrap (a+c))) (2^min (1:Int).toNat IntKind.u64.bits)))+1),c))
 else
 some (.inl (a,ε.wrap (Int.fdiv (IntKind.u64.wrap (ε.wrap (a+c))) (2^min (1:Int).toNat IntKind.u64.bits))))
 else
 bif decide (a<(x0.length:Int)) then
 (gIdx x0 a).bind fun h=>
 (e h j).bind fun i=>
 some (.inr ((a,i==0)))
 else
 some (.inr ((a,false)))
def Zpm (x0:List Zd) (e:ByteArray) (a:Zd->ByteArray->Option Int):Option (Int×Bool):=
 loop (ZdN x0 e a) (0,(x0.length:Int))
def Zie (x0:ByteArray):Option Bool:=
 some (!(x0.toList==x0.toList))
def ZoD (x0 a:ByteArray):Option Int:=
 (Zie x0).bind fun r8=>
 (Zie a).bind fun c=>
 bif r8 then
 bif c then
 some (0)
 else
 some ((-1))
 else
 bif c then
 some (1)
 else
 bif Op.bytesLess (x0.toList) (a.toList) then
 some ((-1))
 else
 bif !(Op.bytesLess (x0.toList) (a.toList)||x0.toList==a.toList) then
 some (1)
 else
 some (0)
def Zfa (x0:Zd) (a:ByteArray):Option Int:=
 (ZoD x0.Name a).bind fun r8=>
 some (r8)
def ZkD (e:Zi) (a:ByteArray):Option (Int×Bool):=
 (Zpm e.Items a (fun f g=>Zfa f g)).bind fun c=>
 some ((c.1,c.2))
def Zke (x0:Zd):Option Zd:=
 (ZfX (Zg.mk x0.Object.Kind x0.Object.Size x0.Object.Rows)).bind fun a=>
 some ((Zd.mk x0.Name (Zg.mk a.Kind a.Size a.Rows) x0.Key))
def ZgQ (e:Zi):Int×List Zd->Option ((Int×List Zd) ⊕ (Zi))
 | (c,xs)=>
 bif decide (c<(e.Items.length:Int)) then
 (gIdx e.Items c).bind fun a=>
 (Zke (Zd.mk a.Name (Zg.mk a.Object.Kind a.Object.Size a.Object.Rows) a.Key)).bind fun f=>
 (gApp 72 xs [f]).bind fun g=>
 some (.inl (ε.wrap (c+1),g))
 else
 some (.inr ((Zi.mk xs)))
def ZjQ (a:Zi):Option Zi:=
 loop (ZgQ a) (0,([]:List Zd))
def Zf3 (x0:List Zd) (a:Int) (c:Zd):Option (List Zd):=if 0<=a/\a<=x0.length/\(x0.length+1)*72<=140737488355328/\x0.length+1<=4611686018427387904 then some (x0.take a.toNat++[c]++x0.drop a.toNat) else none
def ZdO (f:Zi) (h:ByteArray) (e:Zg) (l:Int):Option (Zi×Int):=
 (ZkH (Zg.mk e.Kind e.Size e.Rows) l).bind fun c=>
 bif c.2 !=0 then
 some (((Zi.mk ([]:List Zd)),c.2))
 else
 (ZfX (Zg.mk e.Kind e.Size e.Rows)).bind fun a=>
 (ZkD (Zi.mk f.Items) h).bind fun g=>
 bif g.2 then
 some (((Zi.mk ([]:List Zd)),4))
 else
 (ZcT f.Items (Zd.mk h (Zg.mk a.Kind a.Size a.Rows) c.1)).bind fun i=>
 bif decide (i>=0) then
 some (((Zi.mk ([]:List Zd)),6))
 else
 bif decide (((f.Items.length:Int):Int)>=24) then
 some (((Zi.mk ([]:List Zd)),5))
 else
 (ZjQ (Zi.mk f.Items)).bind fun j=>
 (Zf3 j.Items g.1 (Zd.mk h (Zg.mk a.Kind a.Size a.Rows) c.1)).bind fun k=>
 some (((Zi.mk k),0))
def Zg9 (c:Zi) (e:ByteArray) (a:Zg) (i:Int):Option (Zi×Int):=
 (ZkF (Zi.mk c.Items)).bind fun f=>
 bif !f then
 some (((Zi.mk ([]:List Zd)),1))
 else
 (Zb5 (Zg.mk a.Kind a.Size a.Rows)).bind fun g=>
 bif !g then
 some (((Zi.mk ([]:List Zd)),1))
 else
 (Zgy e).bind fun h=>
 bif !h then
 some (((Zi.mk ([]:List Zd)),1))
 else
 ZdO c e a i
def Znr (e:List Int):Int×Int->Option ((Int×Int) ⊕ (Int))
 | (a,c)=>
 bif decide (c<(e.length:Int)) then
 (gIdx e c).bind fun f=>
 bif f !=a then
 some (.inr ((-1)))
 else
 some (.inl (ε.wrap (a+1),ε.wrap (c+1)))
 else
 some (.inr (a))
def Zlb (a:List Int) (k1:Int):Option Int:=
 loop (Znr a) (k1,0)
def Znc (f:List (List Int)):Int×Int->Option ((Int×Int) ⊕ (Int))
 | (a,e)=>
 bif decide (e<(f.length:Int)) then
 (gIdx f e).bind fun g=>
 (Zlb g a).bind fun c=>
 bif decide (c<0) then
 some (.inr ((-1)))
 else
 some (.inl (c,ε.wrap (e+1)))
 else
 some (.inr (a))
def ZlY (a:List (List Int)) (k1:Int):Option Int:=
 loop (Znc a) (k1,0)
def Ze3 (e:List Zd):Int×Int->Option ((Int×Int) ⊕ (Int))
 | (a,c)=>
 bif decide (c<(e.length:Int)) then
 (Zb8 a).bind fun g=>
 (gIdx e c).bind fun h=>
 bif !(h.Name.toList==g.toList) then
 some (.inr ((-1)))
 else
 (gIdx e c).bind fun i=>
 bif i.Object.Kind !=(ε.wrap (a+1)) then
 some (.inr ((-1)))
 else
 (gIdx e c).bind fun j=>
 bif j.Object.Size !=(ε.wrap ((ε.wrap (a+1))+1)) then
 some (.inr ((-1)))
 else
 (gIdx e c).bind fun k=>
 (ZlY k.Object.Rows (ε.wrap ((ε.wrap ((ε.wrap (a+1))+1))+1))).bind fun f=>
 bif decide (f<0) then
 some (.inr ((-1)))
 else
 (Zb8 f).bind fun l=>
 (gIdx e c).bind fun o=>
 bif !(o.Key.toList==l.toList) then
 some (.inr ((-1)))
 else
 some (.inl (ε.wrap (f+1),ε.wrap (c+1)))
 else
 some (.inr (a))
def Zm8 (a:List Zd) (k1:Int):Option Int:=
 loop (Ze3 a) (k1,0)
def Zf1 (a:Zi) (k1:Int):Option Int:=
 (Zm8 a.Items k1).bind fun r8=>
 bif decide (r8<0) then
 some ((-1))
 else
 some (r8)
def ZiQ (c:Int×Zi):Option (Bool):=
 (Zf1 (Zi.mk c.2.Items) 1).bind fun a=>
 bif decide (a<0) then
 some (false)
 else
 bif a !=c.1 then
 some (false)
 else
 some (true)
def Zma (l:Zae) (o:ByteArray) (g:Z1) (p:Int) (e k:Zi×Int):Option (Bool):=
 (Zgv (Zi.mk k.1.Items) 1).bind fun a=>
 (Zf1 (Zi.mk a.2.Items) 1).bind fun f=>
 bif decide (f<0) then
 some (false)
 else
 bif f !=a.1 then
 some (false)
 else
 (Zd3 (Zae.mk l.Items)).bind fun h=>
 (Zcl (Z1.mk g.Kind g.Size g.Rows)).bind fun i=>
 (Zg9 h o i p).bind fun c=>
 (Zds (Zi.mk c.1.Items) (Zi.mk e.1.Items)).bind fun j=>
 bif !j then
 some (false)
 else
 bif c.2 !=e.2 then
 some (false)
 else
 ZiQ a
def ZkR (h:Zae) (s:ByteArray) (f:Z1) (u:Int) (c:Zi×Int) (g:Zi) (a:Zg) (e:Zi×Int):Option (Bool):=
 (Zd3 (Zae.mk h.Items)).bind fun i=>
 (Zds (Zi.mk g.Items) i).bind fun j=>
 bif !j then
 some (false)
 else
 (Zcl (Z1.mk f.Kind f.Size f.Rows)).bind fun k=>
 (Zhn (Zg.mk a.Kind a.Size a.Rows) k).bind fun l=>
 bif !l then
 some (false)
 else
 (Zgv (Zi.mk g.Items) 1).bind fun o=>
 (Zj8 (Zg.mk a.Kind a.Size a.Rows) o.1).bind fun p=>
 bif decide (p.1<0) then
 some (false)
 else
 (Zds (Zi.mk e.1.Items) (Zi.mk c.1.Items)).bind fun r=>
 bif !r then
 some (false)
 else
 bif e.2 !=c.2 then
 some (false)
 else
 Zma h s f u c e
def ZnD (g:Zae) (h:ByteArray) (a:Z1) (k:Int):Option Bool:=
 bif decide (((h.size:Int):Int)>1048576) then
 some (true)
 else
 (ZlF (Zae.mk g.Items) 1048576).bind fun i=>
 bif decide (i<0) then
 some (true)
 else
 (Zfg (Z1.mk a.Kind a.Size a.Rows) i).bind fun l=>
 bif decide (l<0) then
 some (true)
 else
 (Zd3 (Zae.mk g.Items)).bind fun o=>
 (Zcl (Z1.mk a.Kind a.Size a.Rows)).bind fun p=>
 (Zjz o h p k).bind fun e=>
 (Zd3 (Zae.mk g.Items)).bind fun j=>
 (Zcl (Z1.mk a.Kind a.Size a.Rows)).bind fun c=>
 (Zg9 (Zi.mk j.Items) h (Zg.mk c.Kind c.Size c.Rows) k).bind fun f=>
 (Zds (Zi.mk f.1.Items) (Zi.mk e.1.Items)).bind fun r=>
 bif !r then
 some (false)
 else
 bif f.2 !=e.2 then
 some (false)
 else
 ZkR g h a k e j c f
end
end Go.Proofs.YtepnljbkgjbbmaaGreatDoor
