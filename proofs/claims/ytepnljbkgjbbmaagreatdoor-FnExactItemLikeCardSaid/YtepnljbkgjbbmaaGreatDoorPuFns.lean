import Derived.Test.YtepnljbkgjbbmaaGreatDoorPuTxt
open Go.IntKind renaming i64->ε
namespace Go.Proofs.YtepnljbkgjbbmaaGreatDoor
set_option linter.unusedSimpArgs false
open Go Go.Vc
set_option linter.unusedVariables false
structure Z4 where
 Kind:Int
 Size:Int
 Rows:List (List Int)
structure Zal where
 Name:ByteArray
 Object:Z4
 Key:ByteArray
structure Zag where
 Items:List Zal
structure Zg where
 Kind:Int
 Size:Int
 Rows:List (List Int)
structure Ze where
 Name:ByteArray
 Object:Zg
 Key:ByteArray
structure Zaf where
 Points:Int
 Blocks:List (List Int)
structure Zak where
 Levels:Int
 Columns:Int
 Rows:List (List Int)
structure Zd where
 Prime:Int
 Degree:Int
 Poly:List Int
structure Z1 where
 Field:Zd
 Rows:List (List Int)
structure Zb where
 A:Int
 B:Int
structure Za where
 Colors:List Int
 Edges:List Zb
structure ZaJ where
 Degree:Int
 Elements:List (List Int)
structure ZL where
 Items:List Ze
structure ZE where
 qg:Za
 qnear:List (List Int)
 qbest:Za
 qperms:List (List Int)
 qnodes:Int
 qleaves:Int
 qbudget:Int
 qfull:Bool
structure Z5 where
 qq:Int
 qadd:List (List Int)
 qsub:List (List Int)
 qmul:List (List Int)
 qinv:List Int
structure Zae where
 qleft:Int
 qspent:Bool
structure Zv where
 qcounter:Zae
 qgraph:Za
 qlists:List (List Int)
 qnodes:Int
 qleaves:Int
 qform:Za
 qbest:List (List Int)
noncomputable section
def ZdR (c:List Int) (a:Int):Option Int:=
 bif decide ((ε.wrap (a-(c.length:Int)):Int)<0) then
 some ((-1))
 else
 some (ε.wrap (a-(c.length:Int)))
def ZjT (f:List (List Int)):Int×Int->Option ((Int×Int) ⊕ (Int))
 | (a,e)=>
 bif decide (e<(f.length:Int)) then
 (gIdx f e).bind fun g=>
 (ZdR g a).bind fun c=>
 bif decide (c<0) then
 some (.inr ((-1)))
 else
 some (.inl (c,ε.wrap (e+1)))
 else
 some (.inr (a))
def ZhQ (c:List (List Int)) (a:Int):Option Int:=
 bif decide ((ε.wrap (a-(c.length:Int)):Int)<0) then
 some ((-1))
 else
 loop (ZjT c) (ε.wrap (a-(c.length:Int)),0)
def Zep (c:Z4) (a:Int):Option Int:=
 (ZhQ c.Rows a).bind fun r8=>
 bif decide (r8<0) then
 some ((-1))
 else
 some (r8)
def Zd2 (a:Zal) (c:Int):Option Int:=
 bif decide ((ε.wrap (c-(a.Name.size:Int)):Int)<0) then
 some ((-1))
 else
 (Zep (Z4.mk a.Object.Kind a.Object.Size a.Object.Rows) (ε.wrap (c-(a.Name.size:Int)))).bind fun e=>
 bif decide (e<0) then
 some ((-1))
 else
 bif decide ((ε.wrap (e-(a.Key.size:Int)):Int)<0) then
 some ((-1))
 else
 some (ε.wrap (e-(a.Key.size:Int)))
def Zia (f:List Zal):Int×Int->Option ((Int×Int) ⊕ (Int))
 | (a,e)=>
 bif decide (e<(f.length:Int)) then
 (gIdx f e).bind fun g=>
 (Zd2 g a).bind fun c=>
 bif decide (c<0) then
 some (.inr ((-1)))
 else
 some (.inl (c,ε.wrap (e+1)))
 else
 some (.inr (a))
def ZiR (c:List Zal) (a:Int):Option Int:=
 bif decide ((ε.wrap (a-(c.length:Int)):Int)<0) then
 some ((-1))
 else
 loop (Zia c) (ε.wrap (a-(c.length:Int)),0)
def Zi0 (c:Zag) (a:Int):Option Int:=
 (ZiR c.Items a).bind fun r8=>
 bif decide (r8<0) then
 some ((-1))
 else
 some (r8)
def Zfk (a c:Ze):Option Bool:=
 bif a.Object.Kind==c.Object.Kind then
 some (a.Key.toList==c.Key.toList)
 else
 some (false)
def Z3 (n0 c a:Int):Option Bool:=
 bif decide (n0>=c) then
 some (decide (n0<=a))
 else
 some (false)
def ZfZ (a:List Int) (n1:Int):Int->Option ((Int) ⊕ (Bool))
 | c=>
 bif decide (c<(a.length:Int)) then
 (gIdx a c).bind fun e=>
 bif e==n1 then
 some (.inr (true))
 else
 some (.inl (ε.wrap (c+1)))
 else
 some (.inr (false))
def ZfD (a:List Int) (n1:Int):Option Bool:=
 loop (ZfZ a n1) (0)
def Zfz (a:List Int):Int->Option ((Int) ⊕ (Bool))
 | c=>
 bif decide (c<(a.length:Int)) then
 (gIdx a c).bind fun e=>
 (Z3 e 0 (ε.wrap ((a.length:Int)-1))).bind fun f=>
 bif !f then
 some (.inr (false))
 else
 (gSl a 0 c).bind fun g=>
 (gIdx a c).bind fun h=>
 (ZfD g h).bind fun i=>
 bif i then
 some (.inr (false))
 else
 some (.inl (ε.wrap (c+1)))
 else
 some (.inr (true))
def Zeo (a:List Int):Option Bool:=
 bif decide (((a.length:Int):Int)>32) then
 some (false)
 else
 loop (Zfz a) (0)
def ZeL (e:List (List Int)) (f:Int):List Int×Int->Option ((List Int×Int) ⊕ ((Int) ⊕ ((Int) ⊕ (Bool))))
 | (a,c)=>
 bif decide (c<(e.length:Int)) then
 (gIdx e c).bind fun g=>
 (gIdx g f).bind fun h=>
 (gApp 8 a [h]).bind fun i=>
 some (.inl (i,ε.wrap (c+1)))
 else
 (Zeo a).bind fun j=>
 bif !j then
 some (.inr (.inr (.inr (false))))
 else
 some (.inr (.inl (ε.wrap (f+1))))
def Zef (a:List (List Int)):Int->Option ((Int) ⊕ ((Int) ⊕ (Bool)))
 | c=>
 bif decide (c<(a.length:Int)) then
 loop (ZeL a c) (([]:List Int),0)
 else
 some (.inr (.inr (true)))
def ZfU (a:List (List Int)):Int->Option ((Int) ⊕ (Bool))
 | x4=>
 bif decide (x4<(a.length:Int)) then
 (gIdx a x4).bind fun c=>
 bif ((c.length:Int):Int) !=(a.length:Int) then
 some (.inr (false))
 else
 (gIdx a x4).bind fun e=>
 (Zeo e).bind fun f=>
 bif !f then
 some (.inr (false))
 else
 some (.inl (ε.wrap (x4+1)))
 else
 loop (Zef a) (0)
def ZkV (a:List (List Int)):Option (Bool):=
 loop (ZfU a) (0)
def Zfq (a:List (List Int)):Option Bool:=
 bif decide (((a.length:Int):Int)<1) then
 some (false)
 else
 bif decide (((a.length:Int):Int)>10) then
 some (false)
 else
 ZkV a
def ZeP (a:List Int) (f e:Int):Int->Option ((Int) ⊕ (Bool))
 | c=>
 bif decide (c<(a.length:Int)) then
 (gIdx a c).bind fun g=>
 (Z3 g f e).bind fun h=>
 bif !h then
 some (.inr (false))
 else
 bif decide (c>0) then
 (gIdx a (ε.wrap (c-1))).bind fun i=>
 (gIdx a c).bind fun j=>
 bif decide (i>=j) then
 some (.inr (false))
 else
 some (.inl (ε.wrap (c+1)))
 else
 some (.inl (ε.wrap (c+1)))
 else
 some (.inr (true))
def ZjL (a:List Int) (e c:Int):Option Bool:=
 loop (ZeP a e c) (0)
def Zju (a:List Int) (e:Int):Option Bool:=
 bif decide (((a.length:Int):Int)>0) then
 (ZjL a 0 (ε.wrap (e-1))).bind fun c=>
 some (c)
 else
 some (false)
def ZeA (a c:List Int):Option (Int):=
 bif decide (((a.length:Int):Int)<(c.length:Int)) then
 some ((-1))
 else
 bif decide (((a.length:Int):Int)>(c.length:Int)) then
 some (1)
 else
 some (0)
def ZfB (c e:List Int) (a:Int):Option ((Int) ⊕ (Int)):=
 (gIdx c a).bind fun f=>
 (gIdx e a).bind fun g=>
 bif decide (f<g) then
 some (.inr ((-1)))
 else
 (gIdx c a).bind fun h=>
 (gIdx e a).bind fun i=>
 bif decide (h>i) then
 some (.inr (1))
 else
 some (.inl (ε.wrap (a+1)))
def ZcI (a c:List Int):Int->Option ((Int) ⊕ (Int))
 | e=>
 bif decide (e<(a.length:Int)) then
 bif decide (e<(c.length:Int)) then
 ZfB a c e
 else
 (ZeA a c).map fun x=>.inr (x)
 else
 (ZeA a c).map fun x=>.inr (x)
def Zbw (a c:List Int):Option Int:=
 loop (ZcI a c) (0)
def ZeJ (c:Zaf):Int->Option ((Int) ⊕ (Bool))
 | a=>
 bif decide (a<(c.Blocks.length:Int)) then
 (gIdx c.Blocks a).bind fun e=>
 (Zju e c.Points).bind fun f=>
 bif !f then
 some (.inr (false))
 else
 bif decide (a>0) then
 (gIdx c.Blocks (ε.wrap (a-1))).bind fun g=>
 (gIdx c.Blocks a).bind fun h=>
 (Zbw g h).bind fun i=>
 bif decide (i>0) then
 some (.inr (false))
 else
 some (.inl (ε.wrap (a+1)))
 else
 some (.inl (ε.wrap (a+1)))
 else
 some (.inr (true))
def Zlg (a:Zaf):Option (Bool):=
 loop (ZeJ a) (0)
def ZjY (a:Zaf):Option Bool:=
 (Z3 a.Points 1 32).bind fun r8=>
 bif !r8 then
 some (false)
 else
 bif decide (((a.Blocks.length:Int):Int)>128) then
 some (false)
 else
 Zlg a
def ZjW (e h:List Int):Int×Int->Option ((Int×Int) ⊕ (Int))
 | (a,c)=>
 bif decide (c<(e.length:Int)) then
 (gIdx e c).bind fun f=>
 (gIdx h c).bind fun g=>
 some (.inl (ε.wrap (a+(ε.wrap (f*g))),ε.wrap (c+1)))
 else
 some (.inr (a))
def Zgu (a c:List Int):Option Int:=
 loop (ZjW a c) (0,0)
def Za8 (c:List (List Int)) (e:Int):Int->Option ((Int) ⊕ ((Int) ⊕ (Bool)))
 | a=>
 bif decide (a<(c.length:Int)) then
 (gIdx c e).bind fun f=>
 (gIdx f a).bind fun g=>
 bif g !=1 then
 (gIdx c e).bind fun h=>
 (gIdx h a).bind fun i=>
 bif i !=(-1) then
 some (.inr (.inr (false)))
 else
 some (.inl (ε.wrap (a+1)))
 else
 some (.inl (ε.wrap (a+1)))
 else
 some (.inr (.inl (ε.wrap (e+1))))
def Ze5 (e:List (List Int)) (a:Int):Int->Option ((Int) ⊕ ((Int) ⊕ ((Int) ⊕ (Bool))))
 | c=>
 bif decide (c<a) then
 (gIdx e a).bind fun f=>
 (gIdx e c).bind fun g=>
 (Zgu f g).bind fun h=>
 bif h !=0 then
 some (.inr (.inr (.inr (false))))
 else
 some (.inl (ε.wrap (c+1)))
 else
 some (.inr (.inl (ε.wrap (a+1))))
def Zfh (a:List (List Int)):Int->Option ((Int) ⊕ ((Int) ⊕ (Bool)))
 | c=>
 bif decide (c<(a.length:Int)) then
 loop (Ze5 a c) (0)
 else
 some (.inr (.inr (true)))
def Zgg (a:List (List Int)):Int->Option ((Int) ⊕ (Bool))
 | c=>
 bif decide (c<(a.length:Int)) then
 (gIdx a c).bind fun e=>
 bif ((e.length:Int):Int) !=(a.length:Int) then
 some (.inr (false))
 else
 loop (Za8 a c) (0)
 else
 loop (Zfh a) (0)
def Zkt (a:List (List Int)):Option (Bool):=
 loop (Zgg a) (0)
def ZhU (a:List (List Int)):Option Bool:=
 bif decide (((a.length:Int):Int)<1) then
 some (false)
 else
 bif decide (((a.length:Int):Int)>32) then
 some (false)
 else
 Zkt a
def Zj9 (a:Zg):Option Zak:=
 bif decide (((a.Rows.length:Int):Int)>0) then
 (gIdx a.Rows 0).bind fun c=>
 some ((Zak.mk a.Size (c.length:Int) a.Rows))
 else
 some ((Zak.mk a.Size 0 a.Rows))
def ZmI (e g:Int):Option Bool:=
 (Z3 e 2 16).bind fun a=>
 bif a then
 (Z3 g 1 8).bind fun c=>
 some (c)
 else
 some (false)
def Zed (a:Zak) (c:Int):Int->Option ((Int) ⊕ ((Int) ⊕ (Bool)))
 | e=>
 (gIdx a.Rows c).bind fun f=>
 bif decide (e<(f.length:Int)) then
 (gIdx a.Rows c).bind fun g=>
 (gIdx g e).bind fun h=>
 (Z3 h 0 (ε.wrap (a.Levels-1))).bind fun i=>
 bif !i then
 some (.inr (.inr (false)))
 else
 some (.inl (ε.wrap (e+1)))
 else
 some (.inr (.inl (ε.wrap (c+1))))
def Zhd (a:Zak):Int->Option ((Int) ⊕ (Bool))
 | c=>
 bif decide (c<(a.Rows.length:Int)) then
 (gIdx a.Rows c).bind fun e=>
 bif ((e.length:Int):Int) !=a.Columns then
 some (.inr (false))
 else
 loop (Zed a c) (0)
 else
 some (.inr (true))
def ZkJ (a:Zak):Option (Bool):=
 loop (Zhd a) (0)
def Zj4 (a:Zak):Option Bool:=
 (ZmI a.Levels a.Columns).bind fun c=>
 bif !c then
 some (false)
 else
 bif decide (((a.Rows.length:Int):Int)>256) then
 some (false)
 else
 ZkJ a
def ZkS (a:Int):Int×Int->Option ((Int×Int) ⊕ ((Int) ⊕ (Int×Int)))
 | (e,c)=>
 bif decide (c>1) then
 (gNz a).bind fun _=>
 bif (Int.tmod c a:Int) !=0 then
 some (.inr (.inr ((0,0))))
 else
 (gNz a).bind fun _=>
 some (.inl (ε.wrap (e+1),ε.wrap (Int.tdiv c a)))
 else
 some (.inr (.inr ((a,e))))
def Zk9 (c:Int):Int->Option ((Int) ⊕ (Int×Int))
 | a=>
 (gNz a).bind fun _=>
 bif (Int.tmod c a:Int) !=0 then
 some (.inl (ε.wrap (a+1)))
 else
 loop (ZkS a) (0,c)
def ZbN (a:Int):Option (Int×Int):=
 (Z3 a 2 64).bind fun r8=>
 bif !r8 then
 some ((0,0))
 else
 loop (Zk9 a) (2)
def Zda (p1:Int):Int×Int×List Int->Option ((Int×Int×List Int) ⊕ (List Int))
 | (a,c,e)=>
 bif decide (c>0) then
 (gNz p1).bind fun _=>
 (gApp 8 e [Int.tmod a p1]).bind fun f=>
 (gNz p1).bind fun _=>
 some (.inl (ε.wrap (Int.tdiv a p1),ε.wrap (c-1),f))
 else
 some (.inr (e))
def Za3 (a p1 n2:Int):Option (List Int):=
 loop (Zda p1) (a,n2,([]:List Int))
def Zmq (e:Int):Int×Int->Option ((Int×Int) ⊕ (Int))
 | (a,c)=>
 bif decide (a>0) then
 some (.inl (ε.wrap (a-1),ε.wrap (c*e)))
 else
 some (.inr (c))
def ZeT (a k1:Int):Option Int:=
 loop (Zmq a) (k1,1)
def ZaZ (a:List Int):Option (List Int):=
 (gApp 8 ([]:List Int) a).bind fun c=>
 some (c)
def Zer (e:List Int) (g f h:Int):Int×List Int->Option ((Int×List Int) ⊕ ((Int×List Int) ⊕ (List Int)))
 | (a,c)=>
 bif decide (a<(e.length:Int)) then
 (gIdx c (ε.wrap ((ε.wrap ((ε.wrap (f-(e.length:Int)))+1))+a))).bind fun i=>
 (gIdx e a).bind fun j=>
 (gNz g).bind fun _=>
 (gIdx c (ε.wrap ((ε.wrap ((ε.wrap (f-(e.length:Int)))+1))+a))).bind fun k=>
 some (.inl (ε.wrap (a+1),(c.set (ε.wrap ((ε.wrap ((ε.wrap (f-(e.length:Int)))+1))+a):Int).toNat (Int.tmod (ε.wrap (i+(ε.wrap ((ε.wrap (g-h))*j)))) g))))
 else
 some (.inr (.inl (ε.wrap (f-1),c)))
def Zch (e:List Int):List Int->Option ((List Int) ⊕ ((Int×List Int) ⊕ (List Int)))
 | a=>
 bif decide (((a.length:Int):Int)>=(e.length:Int)) then
 (gSl a 0 (ε.wrap ((a.length:Int)-1))).bind fun c=>
 some (.inl (c))
 else
 some (.inr (.inr (a)))
def Zbo (a:List Int) (f:Int):Int×List Int->Option ((Int×List Int) ⊕ (List Int))
 | (c,xs)=>
 bif decide (c>=(ε.wrap ((a.length:Int)-1))) then
 (gIdx xs c).bind fun e=>
 loop (Zer a f c e) (0,xs)
 else
 loop (Zch a) (xs)
def ZdE (c e:List Int) (f:Int):Option (List Int):=
 (ZaZ c).bind fun a=>
 loop (Zbo e f) (ε.wrap ((a.length:Int)-1),a)
def Zes (c:List Int) (p1:Int):Int×Int->Option ((Int×Int) ⊕ (Int))
 | (a,e)=>
 bif decide (e>=0) then
 (gIdx c e).bind fun f=>
 some (.inl (ε.wrap ((ε.wrap (a*p1))+f),ε.wrap (e-1)))
 else
 some (.inr (a))
def Za2 (a:List Int) (p1:Int):Option Int:=
 loop (Zes a p1) (0,ε.wrap ((a.length:Int)-1))
def Zln (a:List Int) (p1 c:Int):Int->Option ((Int) ⊕ ((Int) ⊕ (Bool)))
 | e=>
 (ZeT p1 c).bind fun f=>
 bif decide (e<f) then
 (Za3 e p1 c).bind fun g=>
 (gApp 8 g [1]).bind fun h=>
 (ZdE a h p1).bind fun i=>
 (Za2 i p1).bind fun j=>
 bif j==0 then
 some (.inr (.inr (false)))
 else
 some (.inl (ε.wrap (e+1)))
 else
 some (.inr (.inl (ε.wrap (c+1))))
def Zml (a:List Int) (p1:Int):Int->Option ((Int) ⊕ (Bool))
 | c=>
 bif decide ((ε.wrap (2*c):Int)<=(ε.wrap ((a.length:Int)-1))) then
 loop (Zln a p1 c) (0)
 else
 some (.inr (true))
def ZgC (a:List Int) (p1:Int):Option Bool:=
 loop (Zml a p1) (1)
def Zlc (a:Int×Int):Int->Option ((Int) ⊕ (Zd))
 | e=>
 (Za3 e a.1 a.2).bind fun f=>
 (gApp 8 f [1]).bind fun c=>
 (ZgC c a.1).bind fun g=>
 bif g then
 some (.inr ((Zd.mk a.1 a.2 c)))
 else
 some (.inl (ε.wrap (e+1)))
def Zhj (a:Int):Option Zd:=
 (ZbN a).bind fun c=>
 loop (Zlc c) (0)
def Zbi (c:Zg):Option Z1:=
 (ZbN c.Size).bind fun e=>
 bif e.1==0 then
 some ((Z1.mk (Zd.mk 0 0 ([]:List Int)) ([]:List (List Int))))
 else
 (Zhj c.Size).bind fun a=>
 some ((Z1.mk (Zd.mk a.Prime a.Degree a.Poly) c.Rows))
def Zmv (c:Zd) (a:Int×Int):Int->Option ((Int) ⊕ (Bool))
 | e=>
 bif decide (e<(c.Poly.length:Int)) then
 (gIdx c.Poly e).bind fun f=>
 (Z3 f 0 (ε.wrap (a.1-1))).bind fun g=>
 bif !g then
 some (.inr (false))
 else
 some (.inl (ε.wrap (e+1)))
 else
 (ZgC c.Poly a.1).bind fun h=>
 some (.inr (h))
def Zhy (a:Zd):Option (Bool):=
 (ZeT a.Prime a.Degree).bind fun e=>
 (ZbN e).bind fun c=>
 bif c.1 !=a.Prime then
 some (false)
 else
 loop (Zmv a c) (0)
def ZfG (a:Zd):Option Bool:=
 (Z3 a.Prime 2 64).bind fun c=>
 bif !c then
 some (false)
 else
 (Z3 a.Degree 1 6).bind fun e=>
 bif !e then
 some (false)
 else
 bif ((a.Poly.length:Int):Int) !=(ε.wrap (a.Degree+1)) then
 some (false)
 else
 (gIdx a.Poly a.Degree).bind fun f=>
 bif f !=1 then
 some (false)
 else
 Zhy a
def Zbc (a:Zd):Option Int:=
 (ZeT a.Prime a.Degree).bind fun c=>
 some (c)
def Zd4 (v1:List Int) (r8:Int):Int->Option ((Int) ⊕ (Bool))
 | a=>
 bif decide (a<(v1.length:Int)) then
 (gIdx v1 a).bind fun c=>
 (Z3 c 0 (ε.wrap (r8-1))).bind fun e=>
 bif !e then
 some (.inr (false))
 else
 some (.inl (ε.wrap (a+1)))
 else
 some (.inr (true))
def ZhD (a:Zd) (v1:List Int):Option Bool:=
 (Zbc a).bind fun r8=>
 loop (Zd4 v1 r8) (0)
def ZgV (i:Zd) (a:List (List Int)):Int->Option ((Int) ⊕ (Bool))
 | c=>
 bif decide (c<(a.length:Int)) then
 (gIdx a c).bind fun e=>
 (gIdx a 0).bind fun f=>
 bif ((e.length:Int):Int) !=(f.length:Int) then
 some (.inr (false))
 else
 (gIdx a c).bind fun g=>
 (ZhD i g).bind fun h=>
 bif !h then
 some (.inr (false))
 else
 some (.inl (ε.wrap (c+1)))
 else
 some (.inr (true))
def ZmS (a:Zd) (c:List (List Int)):Option (Bool):=
 loop (ZgV a c) (0)
def Zkq (c:Zd) (a:List (List Int)):Option Bool:=
 (ZfG c).bind fun g=>
 bif !g then
 some (false)
 else
 bif ((a.length:Int):Int)==0 then
 some (false)
 else
 bif decide (((a.length:Int):Int)>32) then
 some (false)
 else
 (gIdx a 0).bind fun e=>
 bif ((e.length:Int):Int)==0 then
 some (false)
 else
 (gIdx a 0).bind fun f=>
 bif decide (((f.length:Int):Int)>32) then
 some (false)
 else
 ZmS c a
def Zbg (e:Int):Int×Int->Option ((Int×Int) ⊕ (Int))
 | (a,c)=>
 bif decide (a>0) then
 bif decide ((ε.wrap (c*e):Int)>4096) then
 some (.inr (0))
 else
 some (.inl (ε.wrap (a-1),ε.wrap (c*e)))
 else
 some (.inr (c))
def Zi5 (a k1:Int):Option Int:=
 loop (Zbg a) (k1,1)
def Zi6 (c g:List Int):Int->Option ((Int) ⊕ (Bool))
 | a=>
 bif decide (a<(c.length:Int)) then
 (gIdx c a).bind fun e=>
 (gIdx g a).bind fun f=>
 bif e !=f then
 some (.inr (false))
 else
 some (.inl (ε.wrap (a+1)))
 else
 some (.inr (true))
def Zjy (a c:List Int):Option Bool:=
 bif ((a.length:Int):Int) !=(c.length:Int) then
 some (false)
 else
 loop (Zi6 a c) (0)
def ZiK (c h:List (List Int)):Int->Option ((Int) ⊕ (Bool))
 | a=>
 bif decide (a<(c.length:Int)) then
 (gIdx c a).bind fun e=>
 (gIdx h a).bind fun f=>
 (Zjy e f).bind fun g=>
 bif !g then
 some (.inr (false))
 else
 some (.inl (ε.wrap (a+1)))
 else
 some (.inr (true))
def Zgs (a c:List (List Int)):Option Bool:=
 bif ((a.length:Int):Int) !=(c.length:Int) then
 some (false)
 else
 loop (ZiK a c) (0)
def ZfV (e:List (List Int)):List (List Int)×Int->Option ((List (List Int)×Int) ⊕ (List (List Int)))
 | (a,c)=>
 bif decide (c<(e.length:Int)) then
 (gIdx e c).bind fun f=>
 (ZaZ f).bind fun g=>
 (gApp 24 a [g]).bind fun h=>
 some (.inl (h,ε.wrap (c+1)))
 else
 some (.inr (a))
def Zhr (a:List (List Int)):Option (List (List Int)):=
 loop (ZfV a) (([]:List (List Int)),0)
def ZjH (g:Zd) (h f:List Int) (e:Int):Int×List Int->Option ((Int×List Int) ⊕ ((Int×List Int) ⊕ (Int)))
 | (a,c)=>
 bif decide (a<(f.length:Int)) then
 (gIdx c (ε.wrap (e+a))).bind fun i=>
 (gIdx h e).bind fun j=>
 (gIdx f a).bind fun k=>
 (gNz g.Prime).bind fun _=>
 (gIdx c (ε.wrap (e+a))).bind fun l=>
 some (.inl (ε.wrap (a+1),(c.set (ε.wrap (e+a):Int).toNat (Int.tmod (ε.wrap (i+(ε.wrap (j*k)))) g.Prime))))
 else
 some (.inr (.inl (ε.wrap (e+1),c)))
def Zc8 (a:Zd) (c f:List Int):Int×List Int->Option ((Int×List Int) ⊕ (Int))
 | (e,xs)=>
 bif decide (e<(c.length:Int)) then
 loop (ZjH a c f e) (0,xs)
 else
 (ZdE xs a.Poly a.Prime).bind fun g=>
 (Za2 g a.Prime).bind fun h=>
 some (.inr (h))
def Ze0 (a:Zd) (g h:Int):Option Int:=
 (Za3 g a.Prime a.Degree).bind fun c=>
 (Za3 h a.Prime a.Degree).bind fun e=>
 (gMake 8 (0:Int) (ε.wrap ((ε.wrap (2*a.Degree))-1)) (ε.wrap ((ε.wrap (2*a.Degree))-1))).bind fun f=>
 loop (Zc8 a c e) (0,f)
def Zht (h:Zd) (v1:List Int) (c2:Int):List Int×Int->Option ((List Int×Int) ⊕ (List Int))
 | (a,c)=>
 bif decide (c<(v1.length:Int)) then
 (gIdx v1 c).bind fun e=>
 (Ze0 h e c2).bind fun f=>
 (gApp 8 a [f]).bind fun g=>
 some (.inl (g,ε.wrap (c+1)))
 else
 some (.inr (a))
def ZfN (a:Zd) (v1:List Int) (c2:Int):Option (List Int):=
 loop (Zht a v1 c2) (([]:List Int),0)
def Zj3 (c:Zd) (e:Int):Int->Option ((Int) ⊕ (Int))
 | a=>
 (Ze0 c e a).bind fun f=>
 bif f !=1 then
 some (.inl (ε.wrap (a+1)))
 else
 some (.inr (a))
def Zkn (a:Zd) (c:Int):Option Int:=
 loop (Zj3 a c) (1)
def Zf3 (c:Zd) (k3:Int) (e:List Int):Int×List Int->Option ((Int×List Int) ⊕ (Int))
 | (a,xs)=>
 bif decide (a<(xs.length:Int)) then
 (gIdx xs a).bind fun f=>
 (gIdx e a).bind fun g=>
 (gNz c.Prime).bind fun _=>
 (gIdx xs a).bind fun i=>
 some (.inl (ε.wrap (a+1),(xs.set a.toNat (Int.tmod (ε.wrap (f+(ε.wrap (k3*g)))) c.Prime))))
 else
 (Za2 xs c.Prime).bind fun h=>
 some (.inr (h))
def Zg7 (a:Zd) (f g k3:Int):Option Int:=
 (Za3 f a.Prime a.Degree).bind fun c=>
 (Za3 g a.Prime a.Degree).bind fun e=>
 loop (Zf3 a k3 e) (0,c)
def Zhk (e:Zd) (v1 w2:List Int) (k:Int):List Int×Int->Option ((List Int×Int) ⊕ (List Int))
 | (c,a)=>
 bif decide (a<(v1.length:Int)) then
 (gIdx w2 a).bind fun f=>
 (Ze0 e f k).bind fun g=>
 (gIdx v1 a).bind fun h=>
 (Zg7 e h g (ε.wrap (e.Prime-1))).bind fun i=>
 (gApp 8 c [i]).bind fun j=>
 some (.inl (j,ε.wrap (a+1)))
 else
 some (.inr (c))
def ZjJ (a:Zd) (v1 w2:List Int) (c:Int):Option (List Int):=
 loop (Zhk a v1 w2 c) (([]:List Int),0)
def Ze4 (o:Zd) (i:List Int) (e:Int) (j:List Int):Int×List (List Int)->Option ((Int×List (List Int)) ⊕ ((List Int×Int×List (List Int)) ⊕ ((List (List Int))×(List Int))))
 | (c,a)=>
 bif decide (c<(a.length:Int)) then
 bif c !=(i.length:Int) then
 (gIdx a c).bind fun k=>
 (gIdx a c).bind fun l=>
 (gIdx l e).bind fun f=>
 (ZjJ o k j f).bind fun g=>
 (gIdx a c).bind fun p=>
 some (.inl (ε.wrap (c+1),(a.set c.toNat g)))
 else
 some (.inl (ε.wrap (c+1),a))
 else
 (gApp 8 i [e]).bind fun h=>
 some (.inr (.inl (h,ε.wrap (e+1),a)))
def ZaG (h:Zd) (c:List Int) (e:Int) (xs:List (List Int)) (a:Int):Option ((List Int×Int×List (List Int)) ⊕ ((List (List Int))×(List Int))):=
 bif a==(xs.length:Int) then
 some (.inl (c,ε.wrap (e+1),xs))
 else
 (gIdx xs a).bind fun i=>
 (gIdx i e).bind fun j=>
 (Zkn h j).bind fun k=>
 (gIdx xs a).bind fun l=>
 (ZfN h l k).bind fun f=>
 (gIdx xs (c.length:Int)).bind fun g=>
 (gIdx xs a).bind fun o=>
 (gIdx (xs.set a.toNat g) (c.length:Int)).bind fun p=>
 loop (Ze4 h c e f) (0,((xs.set a.toNat g).set ((c.length:Int):Int).toNat f))
def Zcr (e:Zd) (f:List Int) (c:Int) (xs:List (List Int)):Int->Option ((Int) ⊕ ((List Int×Int×List (List Int)) ⊕ ((List (List Int))×(List Int))))
 | a=>
 bif decide (a<(xs.length:Int)) then
 (gIdx xs a).bind fun g=>
 (gIdx g c).bind fun h=>
 bif h==0 then
 some (.inl (ε.wrap (a+1)))
 else
 (ZaG e f c xs a).map fun x=>.inr (x)
 else
 (ZaG e f c xs a).map fun x=>.inr (x)
def Zhw (e:Zd) (a:List Int) (c:Int) (xs:List (List Int)):Option ((List Int×Int×List (List Int)) ⊕ ((List (List Int))×(List Int))):=
 loop (Zcr e a c xs) ((a.length:Int))
def ZcM (e:Zd) (f:Int):List Int×Int×List (List Int)->Option ((List Int×Int×List (List Int)) ⊕ ((List (List Int))×(List Int)))
 | (a,c,xs)=>
 bif decide (c<f) then
 bif decide (((a.length:Int):Int)<(xs.length:Int)) then
 Zhw e a c xs
 else
 some (.inr ((xs,a)))
 else
 some (.inr ((xs,a)))
def Zku (c:Zd) (e:List (List Int)) (f:Int):Option ((List (List Int))×(List Int)):=
 (Zhr e).bind fun a=>
 loop (ZcM c f) (([]:List Int),0,a)
def Zgx (g:Zd) (c:List (List Int)):Option (List (List Int)):=
 (gIdx c 0).bind fun e=>
 (Zku g c (e.length:Int)).bind fun a=>
 (gSl a.1 0 (a.2.length:Int)).bind fun f=>
 some (f)
def Zdm (a:Z1):Option (Bool):=
 (Zbc (Zd.mk a.Field.Prime a.Field.Degree a.Field.Poly)).bind fun c=>
 (Zi5 c (a.Rows.length:Int)).bind fun e=>
 bif e==0 then
 some (false)
 else
 (Zgx (Zd.mk a.Field.Prime a.Field.Degree a.Field.Poly) a.Rows).bind fun f=>
 (Zgs f a.Rows).bind fun g=>
 some (g)
def ZaH (a:Z1):Option Bool:=
 (Zkq (Zd.mk a.Field.Prime a.Field.Degree a.Field.Poly) a.Rows).bind fun c=>
 bif !c then
 some (false)
 else
 (gIdx a.Rows 0).bind fun e=>
 bif decide (((e.length:Int):Int)>32) then
 some (false)
 else
 bif decide (((a.Rows.length:Int):Int)>8) then
 some (false)
 else
 Zdm a
def Zja (a:List Int):Int->Option ((Int) ⊕ (Bool))
 | c=>
 bif decide (c<(a.length:Int)) then
 (gIdx a c).bind fun e=>
 (Z3 e 0 63).bind fun f=>
 bif !f then
 some (.inr (false))
 else
 some (.inl (ε.wrap (c+1)))
 else
 some (.inr (true))
def Zjc (a:List Int):Option Bool:=
 bif decide (((a.length:Int):Int)>64) then
 some (false)
 else
 loop (Zja a) (0)
def ZiE (a c:Zb):Option Bool:=
 bif decide (a.A<c.A) then
 some (true)
 else
 bif a.A==c.A then
 some (decide (a.B<c.B))
 else
 some (false)
def Zdg (e:Za):Int->Option ((Int) ⊕ (Bool))
 | c=>
 bif decide (c<(e.Edges.length:Int)) then
 (gIdx e.Edges c).bind fun a=>
 (Z3 a.A 0 (ε.wrap ((e.Colors.length:Int)-1))).bind fun f=>
 bif !f then
 some (.inr (false))
 else
 (Z3 a.B (ε.wrap (a.A+1)) (ε.wrap ((e.Colors.length:Int)-1))).bind fun g=>
 bif !g then
 some (.inr (false))
 else
 bif decide (c>0) then
 (gIdx e.Edges (ε.wrap (c-1))).bind fun h=>
 (ZiE h (Zb.mk a.A a.B)).bind fun i=>
 bif !i then
 some (.inr (false))
 else
 some (.inl (ε.wrap (c+1)))
 else
 some (.inl (ε.wrap (c+1)))
 else
 some (.inr (true))
def ZlU (a:Za):Option (Bool):=
 loop (Zdg a) (0)
def Zgd (a:Za):Option Bool:=
 (Zjc a.Colors).bind fun r8=>
 bif !r8 then
 some (false)
 else
 bif decide (((a.Edges.length:Int):Int)>512) then
 some (false)
 else
 ZlU a
def Zfd (c:Zg) (e:List Int):Int×List Zb->Option ((Int×List Zb) ⊕ (Za×Bool))
 | (a,xs)=>
 bif decide (a<(c.Rows.length:Int)) then
 (gIdx c.Rows a).bind fun f=>
 bif ((f.length:Int):Int) !=2 then
 some (.inr (((Za.mk ([]:List Int) ([]:List Zb)),false)))
 else
 (gIdx c.Rows a).bind fun g=>
 (gIdx g 0).bind fun h=>
 (gIdx c.Rows a).bind fun i=>
 (gIdx i 1).bind fun j=>
 (gApp 16 xs [(Zb.mk h j)]).bind fun k=>
 some (.inl (ε.wrap (a+1),k))
 else
 (Zgd (Za.mk e xs)).bind fun l=>
 some (.inr (((Za.mk e xs),l)))
def ZgO (a:Zg):Option (Za×Bool):=
 (Z3 a.Size 0 64).bind fun c=>
 bif !c then
 some (((Za.mk ([]:List Int) ([]:List Zb)),false))
 else
 (gMake 8 (0:Int) a.Size a.Size).bind fun e=>
 loop (Zfd a e) (0,([]:List Zb))
def Zbj (e:List (List Int)) (p1:List Int):Int×Int->Option ((Int×Int) ⊕ (Int×Bool))
 | (c,a)=>
 bif decide (c<a) then
 (gNz 2).bind fun _=>
 (gIdx e (ε.wrap (Int.tdiv (ε.wrap (c+a)) 2))).bind fun g=>
 (Zbw g p1).bind fun f=>
 bif f==0 then
 some (.inr ((ε.wrap (Int.tdiv (ε.wrap (c+a)) 2),true)))
 else
 bif decide (f<0) then
 some (.inl (ε.wrap ((ε.wrap (Int.tdiv (ε.wrap (c+a)) 2))+1),a))
 else
 some (.inl (c,ε.wrap (Int.tdiv (ε.wrap (c+a)) 2)))
 else
 some (.inr ((c,false)))
def ZeN (a:List (List Int)) (p1:List Int):Option (Int×Bool):=
 loop (Zbj a p1) (0,(a.length:Int))
def ZgE (n0:Int):List Int×Int->Option ((List Int×Int) ⊕ (List Int))
 | (a,c)=>
 bif decide (c<n0) then
 (gApp 8 a [c]).bind fun e=>
 some (.inl (e,ε.wrap (c+1)))
 else
 some (.inr (a))
def Zki (n0:Int):Option (List Int):=
 loop (ZgE n0) (([]:List Int),0)
def ZgK (e i:List Int):List Int×Int->Option ((List Int×Int) ⊕ (List Int))
 | (a,c)=>
 bif decide (c<(e.length:Int)) then
 (gIdx e c).bind fun f=>
 (gIdx i f).bind fun g=>
 (gApp 8 a [g]).bind fun h=>
 some (.inl (h,ε.wrap (c+1)))
 else
 some (.inr (a))
def Zjg (a c:List Int):Option (List Int):=
 loop (ZgK a c) (([]:List Int),0)
def ZjK (a:List (List Int)) (c:Int) (p2:List Int):Option (List (List Int)):=
 (gSl a 0 c).bind fun e=>
 (gApp 24 ([]:List (List Int)) e).bind fun f=>
 (gApp 24 f [p2]).bind fun g=>
 (gSl a c (a.length:Int)).bind fun h=>
 (gApp 24 g h).bind fun i=>
 some (i)
def ZaY (r:List (List Int)) (g h:Int):List (List Int)×List (List Int)×Int->Option ((List (List Int)×List (List Int)×Int) ⊕ ((List (List Int)×List (List Int)×Int) ⊕ ((List (List Int))×Bool)))
 | (c,a,e)=>
 bif decide (e<(r.length:Int)) then
 (gIdx a h).bind fun j=>
 (gIdx r e).bind fun k=>
 (Zjg j k).bind fun f=>
 (ZeN c f).bind fun i=>
 bif i.2 then
 some (.inl (c,a,ε.wrap (e+1)))
 else
 bif ((c.length:Int):Int)==g then
 some (.inr (.inr ((([]:List (List Int)),false))))
 else
 (ZjK c i.1 f).bind fun l=>
 (gApp 24 a [f]).bind fun o=>
 some (.inl (l,o,ε.wrap (e+1)))
 else
 some (.inr (.inl (c,a,ε.wrap (h+1))))
def Zct (g:List (List Int)) (c:Int):List (List Int)×List (List Int)×Int->Option ((List (List Int)×List (List Int)×Int) ⊕ ((List (List Int))×Bool))
 | (a,queue10,e)=>
 bif decide (e<(queue10.length:Int)) then
 loop (ZaY g c e) (a,queue10,0)
 else
 some (.inr ((a,true)))
def Zdt (g:Int) (e:List (List Int)) (a:Int):Option ((List (List Int))×Bool):=
 (Zki g).bind fun c=>
 loop (Zct e a) ([c],[c],0)
def ZbZ (r:Int) (a:List (List Int)):List (List Int)×List (List Int)×Int->Option ((List (List Int)×List (List Int)×Int) ⊕ ((List (List Int))×Bool))
 | (e,c,f)=>
 bif decide (f<(a.length:Int)) then
 (gIdx a f).bind fun i=>
 (ZeN c i).bind fun j=>
 bif j.2 then
 some (.inl (e,c,ε.wrap (f+1)))
 else
 (gIdx a f).bind fun k=>
 (ZaZ k).bind fun l=>
 (gApp 24 e [l]).bind fun g=>
 (Zdt r g (a.length:Int)).bind fun h=>
 bif !h.2 then
 some (.inr ((([]:List (List Int)),false)))
 else
 some (.inl (g,h.1,ε.wrap (f+1)))
 else
 (Zgs c a).bind fun o=>
 some (.inr ((e,o)))
def ZjM (e:Int) (a:List (List Int)):Option ((List (List Int))×Bool):=
 (Zdt e ([]:List (List Int)) 1).bind fun c=>
 loop (ZbZ e a) (([]:List (List Int)),c.1,0)
def ZcN (a:ZaJ):Int->Option ((Int) ⊕ (Bool))
 | c=>
 bif decide (c<(a.Elements.length:Int)) then
 (gIdx a.Elements c).bind fun e=>
 (Zeo e).bind fun f=>
 bif !f then
 some (.inr (false))
 else
 (gIdx a.Elements c).bind fun g=>
 bif ((g.length:Int):Int) !=a.Degree then
 some (.inr (false))
 else
 bif decide (c>0) then
 (gIdx a.Elements (ε.wrap (c-1))).bind fun h=>
 (gIdx a.Elements c).bind fun i=>
 (Zbw h i).bind fun j=>
 bif decide (j>=0) then
 some (.inr (false))
 else
 some (.inl (ε.wrap (c+1)))
 else
 some (.inl (ε.wrap (c+1)))
 else
 (ZjM a.Degree a.Elements).bind fun k=>
 some (.inr (k.2))
def Zl5 (a:ZaJ):Option (Bool):=
 loop (ZcN a) (0)
def Ziq (a:ZaJ):Option Bool:=
 (Z3 a.Degree 1 32).bind fun c=>
 bif !c then
 some (false)
 else
 bif ((a.Elements.length:Int):Int)==0 then
 some (false)
 else
 bif decide (((a.Elements.length:Int):Int)>720) then
 some (false)
 else
 Zl5 a
def Zas (a:Zg):Option Bool:=
 bif a.Kind==1 then
 (Zfq a.Rows).bind fun g=>
 bif g then
 some (((a.Rows.length:Int):Int)==a.Size)
 else
 some (false)
 else
 bif a.Kind==2 then
 (ZjY (Zaf.mk a.Size a.Rows)).bind fun h=>
 some (h)
 else
 bif a.Kind==3 then
 (ZhU a.Rows).bind fun i=>
 bif i then
 some (((a.Rows.length:Int):Int)==a.Size)
 else
 some (false)
 else
 bif a.Kind==4 then
 (Zj9 a).bind fun e=>
 bif decide (((a.Rows.length:Int):Int)>0) then
 (Zj4 (Zak.mk e.Levels e.Columns e.Rows)).bind fun j=>
 some (j)
 else
 some (false)
 else
 bif a.Kind==5 then
 (Zbi a).bind fun c=>
 (ZaH (Z1.mk (Zd.mk c.Field.Prime c.Field.Degree c.Field.Poly) c.Rows)).bind fun k=>
 some (k)
 else
 bif a.Kind==6 then
 (ZgO a).bind fun l=>
 some (l.2)
 else
 bif a.Kind==7 then
 (Ziq (ZaJ.mk a.Size a.Rows)).bind fun f=>
 some (f)
 else
 some (false)
def Za7 (a:Int):Option Bool:=
 bif decide (a>=97) then
 some (decide (a<=122))
 else
 some (false)
def Zds (a:Int):Option Bool:=
 bif decide (a>=48) then
 some (decide (a<=57))
 else
 some (false)
def ZcV (c:ByteArray):Int->Option ((Int) ⊕ (Bool))
 | a=>
 bif decide (a<(c.size:Int)) then
 (gSt c a).bind fun e=>
 (Za7 (e.toNat:Int)).bind fun f=>
 bif !f then
 (gSt c a).bind fun g=>
 (Zds (g.toNat:Int)).bind fun h=>
 bif !h then
 some (.inr (false))
 else
 some (.inl (ε.wrap (a+1)))
 else
 some (.inl (ε.wrap (a+1)))
 else
 some (.inr (true))
def Zms (a:ByteArray):Option (Bool):=
 loop (ZcV a) (0)
def Zip (a:ByteArray):Option Bool:=
 bif a.toList==(⟨#[]⟩:ByteArray).toList then
 some (false)
 else
 bif decide (((a.size:Int):Int)>10) then
 some (false)
 else
 (gSt a 0).bind fun c=>
 (Za7 (c.toNat:Int)).bind fun e=>
 bif !e then
 some (false)
 else
 Zms a
def Zj5 (x0:Ze):Option Bool:=
 (Zip x0.Name).bind fun c=>
 bif c then
 (Zas (Zg.mk x0.Object.Kind x0.Object.Size x0.Object.Rows)).bind fun a=>
 bif a then
 bif decide (((x0.Key.size:Int):Int)>0) then
 some (decide (((x0.Key.size:Int):Int)<=4000))
 else
 some (false)
 else
 some (false)
 else
 some (false)
def Zfy (e:ZL) (a:Int):Int->Option ((Int) ⊕ ((Int) ⊕ (Bool)))
 | c=>
 bif decide (c<a) then
 (gIdx e.Items a).bind fun f=>
 (gIdx e.Items c).bind fun g=>
 (Zfk f g).bind fun h=>
 bif h then
 some (.inr (.inr (false)))
 else
 some (.inl (ε.wrap (c+1)))
 else
 some (.inr (.inl (ε.wrap (a+1))))
def Zhu (a:ZL) (c:Int):Option ((Int) ⊕ (Bool)):=
 loop (Zfy a c) (0)
def ZbV (a:ZL):Int->Option ((Int) ⊕ (Bool))
 | c=>
 bif decide (c<(a.Items.length:Int)) then
 (gIdx a.Items c).bind fun e=>
 (Zj5 e).bind fun f=>
 bif !f then
 some (.inr (false))
 else
 bif decide (c>0) then
 (gIdx a.Items (ε.wrap (c-1))).bind fun g=>
 (gIdx a.Items c).bind fun h=>
 bif !(Op.bytesLess (g.Name.toList) (h.Name.toList)) then
 some (.inr (false))
 else
 Zhu a c
 else
 Zhu a c
 else
 some (.inr (decide (((a.Items.length:Int):Int)<=24)))
def ZhN (a:ZL):Option Bool:=
 loop (ZbV a) (0)
def ZiQ (c:Int) (xs:List Int) (e:Int):Option ((Int×List Int) ⊕ (Za)):=
 (gApp 8 xs [e]).bind fun a=>
 some (.inl (ε.wrap (c+1),a))
def Zcq (e:List (List Int)) (f g a:Int) (c:List Zb) (h:Bool):Option ((Int×List Zb) ⊕ ((Int×List Zb) ⊕ ((Int×List Zb) ⊕ ((Int×List Int) ⊕ ((Int×List Int) ⊕ (Za)))))):=
 bif h then
 (gApp 16 c [(Zb.mk f (ε.wrap ((ε.wrap ((ε.wrap (3*(e.length:Int)))+(ε.wrap (g*(e.length:Int)))))+a)))]).bind fun i=>
 some (.inl (ε.wrap (a+1),i))
 else
 some (.inl (ε.wrap (a+1),c))
def ZbM (g:List (List Int)) (a c:Int):Int×List Zb->Option ((Int×List Zb) ⊕ ((Int×List Zb) ⊕ ((Int×List Zb) ⊕ ((Int×List Int) ⊕ ((Int×List Int) ⊕ (Za))))))
 | (e,f)=>
 bif decide (e<(g.length:Int)) then
 bif a==c then
 Zcq g a c e f true
 else
 bif a==(ε.wrap ((g.length:Int)+e)) then
 Zcq g a c e f true
 else
 (gIdx g c).bind fun h=>
 (gIdx h e).bind fun i=>
 Zcq g a c e f (a==(ε.wrap ((ε.wrap (2*(g.length:Int)))+i)))
 else
 some (.inr (.inl (ε.wrap (c+1),f)))
def Zen (f:List (List Int)) (c:Int):Int×List Zb->Option ((Int×List Zb) ⊕ ((Int×List Zb) ⊕ ((Int×List Int) ⊕ ((Int×List Int) ⊕ (Za)))))
 | (e,a)=>
 bif decide (e<(f.length:Int)) then
 loop (ZbM f c e) (0,a)
 else
 some (.inr (.inl (ε.wrap (c+1),a)))
def Ze3 (f:List (List Int)) (e:List Int):Int×List Zb->Option ((Int×List Zb) ⊕ ((Int×List Int) ⊕ ((Int×List Int) ⊕ (Za))))
 | (c,a)=>
 bif decide (c<(ε.wrap (3*(f.length:Int)))) then
 loop (Zen f c) (0,a)
 else
 some (.inr (.inr (.inr ((Za.mk e a)))))
def Zdn (c:List (List Int)):Int×List Int->Option ((Int×List Int) ⊕ ((Int×List Int) ⊕ (Za)))
 | (e,a)=>
 bif decide (e<(ε.wrap ((c.length:Int)*(c.length:Int)))) then
 (gApp 8 a [3]).bind fun f=>
 some (.inl (ε.wrap (e+1),f))
 else
 loop (Ze3 c a) (0,([]:List Zb))
def ZfH (a:List (List Int)) (e:Bool):Int×List Int->Option ((Int×List Int) ⊕ (Za))
 | (c,xs)=>
 bif decide (c<(ε.wrap (3*(a.length:Int)))) then
 bif !e then
 (gNz (a.length:Int)).bind fun _=>
 ZiQ c xs (ε.wrap (Int.tdiv c (a.length:Int)))
 else
 ZiQ c xs 0
 else
 loop (Zdn a) (0,xs)
def Zj1 (a:List (List Int)) (c:Bool):Option Za:=
 loop (ZfH a c) (0,([]:List Int))
def Zfw (c:List (List Int)) (g:Bool):Option (Za×Int):=
 (Zfq c).bind fun e=>
 bif !e then
 some (((Za.mk ([]:List Int) ([]:List Zb)),1))
 else
 bif decide (((c.length:Int):Int)>6) then
 some (((Za.mk ([]:List Int) ([]:List Zb)),5))
 else
 (Zj1 c g).bind fun a=>
 some (((Za.mk a.Colors a.Edges),0))
def ZcW (e:Zaf) (f:Int):Int×List Zb->Option ((Int×List Zb) ⊕ ((Int×List Zb) ⊕ ((Int×List Int) ⊕ ((Int×List Int) ⊕ (Za×Int)))))
 | (c,a)=>
 bif decide (c<(e.Blocks.length:Int)) then
 (gIdx e.Blocks c).bind fun g=>
 (ZfD g f).bind fun h=>
 bif h then
 (gApp 16 a [(Zb.mk f (ε.wrap (e.Points+c)))]).bind fun i=>
 some (.inl (ε.wrap (c+1),i))
 else
 some (.inl (ε.wrap (c+1),a))
 else
 some (.inr (.inl (ε.wrap (f+1),a)))
def ZcX (e:Zaf) (c:List Int):Int×List Zb->Option ((Int×List Zb) ⊕ ((Int×List Int) ⊕ ((Int×List Int) ⊕ (Za×Int))))
 | (f,a)=>
 bif decide (f<e.Points) then
 loop (ZcW e f) (0,a)
 else
 bif decide (((a.length:Int):Int)>512) then
 some (.inr (.inr (.inr (((Za.mk ([]:List Int) ([]:List Zb)),5)))))
 else
 some (.inr (.inr (.inr (((Za.mk c a),0)))))
def Zdf (c:Zaf):Int×List Int->Option ((Int×List Int) ⊕ ((Int×List Int) ⊕ (Za×Int)))
 | (e,a)=>
 bif decide (e<(c.Blocks.length:Int)) then
 (gApp 8 a [1]).bind fun f=>
 some (.inl (ε.wrap (e+1),f))
 else
 loop (ZcX c a) (0,([]:List Zb))
def ZeO (a:Zaf):Int×List Int->Option ((Int×List Int) ⊕ (Za×Int))
 | (c,xs)=>
 bif decide (c<a.Points) then
 (gApp 8 xs [0]).bind fun e=>
 some (.inl (ε.wrap (c+1),e))
 else
 loop (Zdf a) (0,xs)
def Ziw (a:Zaf):Option (Za×Int):=
 bif decide ((ε.wrap (a.Points+(a.Blocks.length:Int)):Int)>64) then
 some (((Za.mk ([]:List Int) ([]:List Zb)),5))
 else
 loop (ZeO a) (0,([]:List Int))
def ZdD (k:Zd) (c e:List Int):Int×List Int->Option ((Int×List Int) ⊕ (List Int))
 | (a,xs)=>
 bif decide (a<(c.length:Int)) then
 (gIdx e a).bind fun f=>
 bif f==0 then
 (gIdx c a).bind fun g=>
 (gIdx xs a).bind fun l=>
 some (.inl (ε.wrap (a+1),(xs.set a.toNat g)))
 else
 (gIdx c a).bind fun h=>
 (gIdx e a).bind fun i=>
 (Zg7 k h i 1).bind fun j=>
 (gIdx xs a).bind fun o=>
 some (.inl (ε.wrap (a+1),(xs.set a.toNat j)))
 else
 some (.inr (xs))
def ZiY (e:Zd) (a f:List Int):Option (List Int):=
 (gMake 8 (0:Int) (a.length:Int) (a.length:Int)).bind fun c=>
 loop (ZdD e a f) (0,c)
def ZeZ (e:Z1) (f:Int) (l o:List (List Int)) (g:Int):List (List Int)×Int->Option ((List (List Int)×Int) ⊕ ((List (List Int)×Int) ⊕ ((List (List Int)×Int) ⊕ ((List (List Int)×Int) ⊕ (List (List Int))))))
 | (a,c)=>
 bif decide (c<f) then
 (gIdx l g).bind fun h=>
 (gIdx o c).bind fun i=>
 (ZiY (Zd.mk e.Field.Prime e.Field.Degree e.Field.Poly) h i).bind fun j=>
 (gApp 24 a [j]).bind fun k=>
 some (.inl (k,ε.wrap (c+1)))
 else
 some (.inr (.inl (a,ε.wrap (g+1))))
def ZeF (g:Z1) (a:Int) (c:List (List Int)) (h:Int) (i:List (List Int)):List (List Int)×Int->Option ((List (List Int)×Int) ⊕ ((List (List Int)×Int) ⊕ ((List (List Int)×Int) ⊕ (List (List Int)))))
 | (e,f)=>
 bif decide (f<(c.length:Int)) then
 loop (ZeZ g a c i f) (e,0)
 else
 some (.inr (.inr (.inl (e,ε.wrap (h+1)))))
def Zd9 (a:Z1) (c:Int) (k:List (List Int)) (f:Int):List (List Int)×Int->Option ((List (List Int)×Int) ⊕ ((List (List Int)×Int) ⊕ (List (List Int))))
 | (g,e)=>
 bif decide (e<c) then
 (gIdx a.Rows f).bind fun h=>
 (ZfN (Zd.mk a.Field.Prime a.Field.Degree a.Field.Poly) h e).bind fun i=>
 (gApp 24 g [i]).bind fun j=>
 some (.inl (j,ε.wrap (e+1)))
 else
 loop (ZeF a c k f g) (([]:List (List Int)),0)
def ZdQ (a:Z1) (c:Int):List (List Int)×Int->Option ((List (List Int)×Int) ⊕ (List (List Int)))
 | (e,f)=>
 bif decide (f<(a.Rows.length:Int)) then
 loop (Zd9 a c e f) (([]:List (List Int)),0)
 else
 some (.inr (e))
def ZiW (a:Z1):Option (List (List Int)):=
 (gIdx a.Rows 0).bind fun c=>
 (gMake 8 (0:Int) (c.length:Int) (c.length:Int)).bind fun e=>
 (Zbc (Zd.mk a.Field.Prime a.Field.Degree a.Field.Poly)).bind fun f=>
 loop (ZdQ a f) ([e],0)
def Zdc (g:List Int) (e:List (List Int)) (f:Int):Int×List Zb->Option ((Int×List Zb) ⊕ ((Int×List Zb) ⊕ ((Int×List Int) ⊕ ((Int×List Int) ⊕ (Za×Int)))))
 | (a,c)=>
 bif decide (a<(e.length:Int)) then
 (gIdx e a).bind fun h=>
 (gIdx h f).bind fun i=>
 bif i==1 then
 (gApp 16 c [(Zb.mk f (ε.wrap ((ε.wrap ((g.length:Int)+a))-1)))]).bind fun j=>
 some (.inl (ε.wrap (a+1),j))
 else
 some (.inl (ε.wrap (a+1),c))
 else
 some (.inr (.inl (ε.wrap (f+1),c)))
def Zdl (c:List Int) (f:List (List Int)) (e:List Int):Int×List Zb->Option ((Int×List Zb) ⊕ ((Int×List Int) ⊕ ((Int×List Int) ⊕ (Za×Int))))
 | (g,a)=>
 bif decide (g<(c.length:Int)) then
 loop (Zdc c f g) (1,a)
 else
 bif decide (((a.length:Int):Int)>512) then
 some (.inr (.inr (.inr (((Za.mk ([]:List Int) ([]:List Zb)),5)))))
 else
 some (.inr (.inr (.inr (((Za.mk e a),0)))))
def Zde (e:List Int) (c:List (List Int)):Int×List Int->Option ((Int×List Int) ⊕ ((Int×List Int) ⊕ (Za×Int)))
 | (f,a)=>
 bif decide (f<(c.length:Int)) then
 (gApp 8 a [1]).bind fun g=>
 some (.inl (ε.wrap (f+1),g))
 else
 loop (Zdl e c a) (0,([]:List Zb))
def Zdu (a:List Int) (c:List (List Int)):Int×List Int->Option ((Int×List Int) ⊕ (Za×Int))
 | (e,xs)=>
 bif decide (e<(a.length:Int)) then
 (gApp 8 xs [0]).bind fun f=>
 some (.inl (ε.wrap (e+1),f))
 else
 loop (Zde a c) (1,xs)
def ZfT (a:Z1):Option (Za×Int):=
 (Zbc (Zd.mk a.Field.Prime a.Field.Degree a.Field.Poly)).bind fun f=>
 bif f !=2 then
 some (((Za.mk ([]:List Int) ([]:List Zb)),6))
 else
 (gIdx a.Rows 0).bind fun c=>
 (ZiW a).bind fun e=>
 bif decide ((ε.wrap ((ε.wrap ((c.length:Int)+(e.length:Int)))-1):Int)>64) then
 some (((Za.mk ([]:List Int) ([]:List Zb)),5))
 else
 loop (Zdu c e) (0,([]:List Int))
def Zcg (a:Zg):Option (Za×Int):=
 bif a.Kind==1 then
 (Zfw a.Rows false).bind fun e=>
 some (((Za.mk e.1.Colors e.1.Edges),e.2))
 else
 bif a.Kind==2 then
 (Ziw (Zaf.mk a.Size a.Rows)).bind fun f=>
 some (((Za.mk f.1.Colors f.1.Edges),f.2))
 else
 bif a.Kind==5 then
 (Zbi a).bind fun c=>
 (ZfT (Z1.mk (Zd.mk c.Field.Prime c.Field.Degree c.Field.Poly) c.Rows)).bind fun g=>
 some (((Za.mk g.1.Colors g.1.Edges),g.2))
 else
 bif a.Kind==6 then
 (ZgO a).bind fun h=>
 some (((Za.mk h.1.Colors h.1.Edges),0))
 else
 some (((Za.mk ([]:List Int) ([]:List Zb)),6))
def Zi8 (e:Int):Option Bool:=
 (Z3 e 1 20000).bind fun a=>
 some (a)
def Ze6 (g:Za):Int×List (List Bool)->Option ((Int×List (List Bool)) ⊕ ((List (List Bool)×Int) ⊕ (List (List Bool))))
 | (f,xs)=>
 bif decide (f<(g.Edges.length:Int)) then
 (gIdx g.Edges f).bind fun a=>
 (gIdx xs a.A).bind fun c=>
 (gIdx c a.B).bind fun h=>
 (gIdx (xs.set a.A.toNat (c.set a.B.toNat true)) a.B).bind fun e=>
 (gIdx e a.A).bind fun i=>
 some (.inl (ε.wrap (f+1),((xs.set a.A.toNat (c.set a.B.toNat true)).set a.B.toNat (e.set a.A.toNat true))))
 else
 some (.inr (.inr (xs)))
def Zgq (c:Za):List (List Bool)×Int->Option ((List (List Bool)×Int) ⊕ (List (List Bool)))
 | (a,e)=>
 bif decide (e<(c.Colors.length:Int)) then
 (gMake 1 false (c.Colors.length:Int) (c.Colors.length:Int)).bind fun f=>
 (gApp 24 a [f]).bind fun g=>
 some (.inl (g,ε.wrap (e+1)))
 else
 loop (Ze6 c) (0,a)
def Ze1 (a:Za):Option (List (List Bool)):=
 loop (Zgq a) (([]:List (List Bool)),0)
def ZcQ (f:List (List Bool)) (e:List (List Int)) (g:Int):List Int×Int->Option ((List Int×Int) ⊕ ((List (List Int)×Int) ⊕ (List (List Int))))
 | (a,c)=>
 bif decide (c<(f.length:Int)) then
 (gIdx f g).bind fun h=>
 (gIdx h c).bind fun i=>
 bif i then
 (gApp 8 a [c]).bind fun j=>
 some (.inl (j,ε.wrap (c+1)))
 else
 some (.inl (a,ε.wrap (c+1)))
 else
 (gApp 24 e [a]).bind fun k=>
 some (.inr (.inl (k,ε.wrap (g+1))))
def Zgn (c:List (List Bool)):List (List Int)×Int->Option ((List (List Int)×Int) ⊕ (List (List Int)))
 | (a,e)=>
 bif decide (e<(c.length:Int)) then
 loop (ZcQ c a e) (([]:List Int),0)
 else
 some (.inr (a))
def ZhZ (a:Za):Option (List (List Int)):=
 (Ze1 (Za.mk a.Colors a.Edges)).bind fun c=>
 loop (Zgn c) (([]:List (List Int)),0)
def Zcc (e:List Int) (f:Int) (c:List Int) (a:Bool):Option ((List Int×Bool×Int) ⊕ (List Int)):=
 (gIdx e f).bind fun g=>
 (gApp 8 c [g]).bind fun h=>
 some (.inl (h,a,ε.wrap (f+1)))
def Zdh (a:List Int) (n1:Int) (c:List Int) (e:Bool) (f:Int) (g:Bool):Option ((List Int×Bool×Int) ⊕ (List Int)):=
 bif g then
 (gIdx a f).bind fun h=>
 bif decide (h>n1) then
 (gApp 8 c [n1]).bind fun i=>
 Zcc a f i true
 else
 Zcc a f c true
 else
 Zcc a f c e
def ZaP (a:List Int) (n1:Int):List Int×Bool×Int->Option ((List Int×Bool×Int) ⊕ (List Int))
 | (e,c,f)=>
 bif decide (f<(a.length:Int)) then
 bif !c then
 (gIdx a f).bind fun g=>
 Zdh a n1 e c f (decide (g>=n1))
 else
 Zdh a n1 e c f false
 else
 bif !c then
 (gApp 8 e [n1]).bind fun h=>
 some (.inr (h))
 else
 some (.inr (e))
def Zmc (a:List Int) (n1:Int):Option (List Int):=
 loop (ZaP a n1) (([]:List Int),false,0)
def ZfS (a:List Int):List Int×Int->Option ((List Int×Int) ⊕ (Int))
 | (c,e)=>
 bif decide (e<(a.length:Int)) then
 (gIdx a e).bind fun f=>
 (Zmc c f).bind fun g=>
 some (.inl (g,ε.wrap (e+1)))
 else
 some (.inr ((c.length:Int)))
def Zeh (a:List Int):Option Int:=
 loop (ZfS a) (([]:List Int),0)
def ZlL (a:Int) (xs:List Int):Option ((Int×List Int) ⊕ ((List Int×Int) ⊕ (List Int))):=
 (gIdx xs a).bind fun e=>
 (gIdx xs (ε.wrap (a-1))).bind fun c=>
 (gIdx xs a).bind fun f=>
 (gIdx (xs.set a.toNat c) (ε.wrap (a-1))).bind fun g=>
 some (.inl (ε.wrap (a-1),((xs.set a.toNat c).set (ε.wrap (a-1):Int).toNat e)))
def ZcT (c:Int):Int×List Int->Option ((Int×List Int) ⊕ ((List Int×Int) ⊕ (List Int)))
 | (a,xs)=>
 bif decide (a>0) then
 (gIdx xs (ε.wrap (a-1))).bind fun e=>
 (gIdx xs a).bind fun f=>
 bif decide (e>f) then
 ZlL a xs
 else
 some (.inr (.inl (xs,ε.wrap (c+1))))
 else
 some (.inr (.inl (xs,ε.wrap (c+1))))
def Zg0 (c:List Int):List Int×Int->Option ((List Int×Int) ⊕ (List Int))
 | (a,e)=>
 bif decide (e<(c.length:Int)) then
 (gIdx c e).bind fun f=>
 (gApp 8 a [f]).bind fun g=>
 loop (ZcT e) ((a.length:Int),g)
 else
 some (.inr (a))
def Zh0 (a:List Int):Option (List Int):=
 loop (Zg0 a) (([]:List Int),0)
def Zck (h:List (List Int)) (e:Int) (c:List (List Int)) (a:Bool):Option ((List (List Int)×Bool×Int) ⊕ (List (List Int))):=
 (gIdx h e).bind fun f=>
 (gApp 24 c [f]).bind fun g=>
 some (.inl (g,a,ε.wrap (e+1)))
def ZdJ (j:List (List Int)) (x1:List Int) (a:List (List Int)) (c:Bool) (e f:Int) (g:Bool):Option ((List (List Int)×Bool×Int) ⊕ (List (List Int))):=
 bif g then
 bif decide (f>0) then
 (gApp 24 a [x1]).bind fun h=>
 Zck j e h true
 else
 Zck j e a true
 else
 Zck j e a c
def ZaO (j:List (List Int)) (x1:List Int):List (List Int)×Bool×Int->Option ((List (List Int)×Bool×Int) ⊕ (List (List Int)))
 | (c,a,f)=>
 bif decide (f<(j.length:Int)) then
 (gIdx j f).bind fun g=>
 (Zbw g x1).bind fun e=>
 bif !a then
 ZdJ j x1 c a f e (decide (e>=0))
 else
 ZdJ j x1 c a f e false
 else
 bif !a then
 (gApp 24 c [x1]).bind fun h=>
 some (.inr (h))
 else
 some (.inr (c))
def Zlw (a:List (List Int)) (x1:List Int):Option (List (List Int)):=
 loop (ZaO a x1) (([]:List (List Int)),false,0)
def ZdO (e:List (List Int)) (f:List Int) (u:List (List Int)) (a:Int):List Int×Int->Option ((List Int×Int) ⊕ ((List (List Int)×Int) ⊕ (List Int)))
 | (g,c)=>
 (gIdx e a).bind fun h=>
 bif decide (c<(h.length:Int)) then
 (gIdx e a).bind fun i=>
 (gIdx i c).bind fun j=>
 (gIdx f j).bind fun k=>
 (gApp 8 g [k]).bind fun l=>
 some (.inl (l,ε.wrap (c+1)))
 else
 (gIdx f a).bind fun o=>
 (Zh0 g).bind fun p=>
 (gApp 8 ([o]:List Int) p).bind fun r=>
 (gApp 24 u [r]).bind fun s=>
 some (.inr (.inl (s,ε.wrap (a+1))))
def Zdr (k e:List (List Int)) (f:Int):List Int×Int->Option ((List Int×Int) ⊕ ((List Int×Int) ⊕ ((List (List Int)×Int) ⊕ ((List (List Int)×Int) ⊕ (List Int)))))
 | (a,c)=>
 bif decide (c<(e.length:Int)) then
 (gIdx e c).bind fun g=>
 (gIdx k f).bind fun h=>
 (Zbw g h).bind fun i=>
 bif i==0 then
 (gApp 8 a [c]).bind fun j=>
 some (.inl (j,ε.wrap (c+1)))
 else
 some (.inl (a,ε.wrap (c+1)))
 else
 some (.inr (.inl (a,ε.wrap (f+1))))
def ZdZ (f g e:List (List Int)):List Int×Int->Option ((List Int×Int) ⊕ ((List (List Int)×Int) ⊕ ((List (List Int)×Int) ⊕ (List Int))))
 | (a,c)=>
 bif decide (c<(f.length:Int)) then
 loop (Zdr g e c) (a,0)
 else
 some (.inr (.inr (.inr (a))))
def Zeb (e f:List (List Int)):List (List Int)×Int->Option ((List (List Int)×Int) ⊕ ((List (List Int)×Int) ⊕ (List Int)))
 | (c,a)=>
 bif decide (a<(e.length:Int)) then
 (gIdx f a).bind fun g=>
 (Zlw c g).bind fun h=>
 some (.inl (h,ε.wrap (a+1)))
 else
 loop (ZdZ e f c) (([]:List Int),0)
def Zga (a:List (List Int)) (f:List Int):List (List Int)×Int->Option ((List (List Int)×Int) ⊕ (List Int))
 | (c,e)=>
 bif decide (e<(a.length:Int)) then
 loop (ZdO a f c e) (([]:List Int),0)
 else
 loop (Zeb a c) (([]:List (List Int)),0)
def ZgJ (a:List (List Int)) (c:List Int):Option (List Int):=
 loop (Zga a c) (([]:List (List Int)),0)
def Zdq (c:List (List Int)):Int×List Int->Option ((Int×List Int) ⊕ (List Int))
 | (e,a)=>
 (Zeh a).bind fun f=>
 bif decide (f>e) then
 (Zeh a).bind fun g=>
 (ZgJ c a).bind fun h=>
 some (.inl (g,h))
 else
 some (.inr (a))
def Zgv (a:List (List Int)) (e:List Int):Option (List Int):=
 (Zeh e).bind fun r8=>
 (ZgJ a e).bind fun c=>
 loop (Zdq a) (r8,c)
def Zca (h:List Int) (g a c:Int) (e:Bool):Option ((Int×Int) ⊕ ((Int×Int) ⊕ (Int))):=
 bif e then
 (gIdx h g).bind fun f=>
 some (.inl (f,ε.wrap (c+1)))
 else
 some (.inl (a,ε.wrap (c+1)))
def ZcA (j:List Int) (c:Int):Int×Int->Option ((Int×Int) ⊕ ((Int×Int) ⊕ (Int)))
 | (a,e)=>
 bif decide (e<c) then
 (gIdx j c).bind fun f=>
 (gIdx j e).bind fun g=>
 bif f==g then
 bif decide (a<0) then
 Zca j c a e true
 else
 (gIdx j c).bind fun h=>
 Zca j c a e (decide (h<a))
 else
 Zca j c a e false
 else
 some (.inr (.inl (a,ε.wrap (c+1))))
def Zjn (e:List Int):Int×Int->Option ((Int×Int) ⊕ (Int))
 | (a,c)=>
 bif decide (c<(e.length:Int)) then
 loop (ZcA e c) (a,0)
 else
 some (.inr (a))
def ZjG (a:List Int):Option Int:=
 loop (Zjn a) ((-1),0)
def ZcR (j:List Int) (k:List (List Bool)) (e:Int):Int×List Zb->Option ((Int×List Zb) ⊕ ((Int×List Zb) ⊕ (Za)))
 | (c,a)=>
 bif decide (c<(j.length:Int)) then
 (gIdx k e).bind fun f=>
 (gIdx f c).bind fun g=>
 bif g then
 (gApp 16 a [(Zb.mk e c)]).bind fun h=>
 some (.inl (ε.wrap (c+1),h))
 else
 some (.inl (ε.wrap (c+1),a))
 else
 some (.inr (.inl (ε.wrap (e+1),a)))
def Zgw (e:List Int) (g:List (List Bool)) (c:List Int):Int×List Zb->Option ((Int×List Zb) ⊕ (Za))
 | (a,xs)=>
 bif decide (a<(e.length:Int)) then
 loop (ZcR e g a) (ε.wrap (a+1),xs)
 else
 some (.inr ((Za.mk c xs)))
def ZhL (e:List Int) (g:List (List Bool)):Option Za:=
 (ZaZ e).bind fun a=>
 loop (Zgw e g a) (0,([]:List Zb))
def ZeS (p:Za) (h xs:List Int):Int×List (List Bool)->Option ((Int×List (List Bool)) ⊕ ((Int×List Int) ⊕ (Za)))
 | (o,a)=>
 bif decide (o<(p.Edges.length:Int)) then
 (gIdx p.Edges o).bind fun c=>
 (gIdx h c.A).bind fun e=>
 (gIdx a e).bind fun f=>
 (gIdx h c.B).bind fun g=>
 (gIdx f g).bind fun r=>
 (gIdx h c.B).bind fun i=>
 (gIdx (a.set e.toNat (f.set g.toNat true)) i).bind fun j=>
 (gIdx h c.A).bind fun k=>
 (gIdx j k).bind fun s=>
 some (.inl (ε.wrap (o+1),((a.set e.toNat (f.set g.toNat true)).set i.toNat (j.set k.toNat true))))
 else
 (ZhL xs a).bind fun l=>
 some (.inr (.inr ((Za.mk l.Colors l.Edges))))
def ZgQ (f:Za) (e:List Int):Int×List Int->Option ((Int×List Int) ⊕ (Za))
 | (a,xs)=>
 bif decide (a<(e.length:Int)) then
 (gIdx e a).bind fun c=>
 (gIdx f.Colors a).bind fun g=>
 (gIdx xs c).bind fun i=>
 some (.inl (ε.wrap (a+1),(xs.set c.toNat g)))
 else
 (Ze1 (Za.mk xs ([]:List Zb))).bind fun h=>
 loop (ZeS f e xs) (0,h)
def Zg9 (e:Za) (a:List Int):Option Za:=
 (gMake 8 (0:Int) (a.length:Int) (a.length:Int)).bind fun c=>
 loop (ZgQ e a) (0,c)
def Zhs (e:Za):List Int×Int->Option ((List Int×Int) ⊕ (List Int))
 | (a,c)=>
 bif decide (c<(e.Edges.length:Int)) then
 (gIdx e.Edges c).bind fun f=>
 (gIdx e.Edges c).bind fun g=>
 (gApp 8 a ([f.A,g.B]:List Int)).bind fun h=>
 some (.inl (h,ε.wrap (c+1)))
 else
 some (.inr (a))
def ZfQ (a:Za):Option (List Int):=
 loop (Zhs a) (([]:List Int),0)
def Zgp (c h1:Za):Option Int:=
 (Zbw c.Colors h1.Colors).bind fun a=>
 bif a !=0 then
 some (a)
 else
 (ZfQ (Za.mk c.Colors c.Edges)).bind fun e=>
 (ZfQ (Za.mk h1.Colors h1.Edges)).bind fun f=>
 (Zbw e f).bind fun g=>
 some (g)
def Zdv (a:ZE) (h:List Int) (i:Int) (xs:List Int) (c:List Zb) (e:List (List Int)):Option (ZE):=
 bif decide (i<=0) then
 (ZaZ h).bind fun f=>
 (gApp 24 e [f]).bind fun g=>
 some ((ZE.mk (Za.mk a.qg.Colors a.qg.Edges) a.qnear (Za.mk xs c) g a.qnodes (ε.wrap (a.qleaves+1)) a.qbudget a.qfull))
 else
 some ((ZE.mk (Za.mk a.qg.Colors a.qg.Edges) a.qnear (Za.mk xs c) e a.qnodes (ε.wrap (a.qleaves+1)) a.qbudget a.qfull))
def Zdi (a:ZE) (f:List Int) (c:Za) (e:Int):Option (ZE):=
 bif decide (e<0) then
 Zdv a f e c.Colors c.Edges ([]:List (List Int))
 else
 Zdv a f e a.qbest.Colors a.qbest.Edges a.qperms
def Zhp (e:List Int) (f c:Int):Option ((List Int×Int) ⊕ ((Int×Int×Int×Int×Bool×List Int×List Zb×List (List Int)) ⊕ (ZE))):=
 (gApp 8 e [c]).bind fun a=>
 some (.inl (a,ε.wrap (f+1)))
def ZcB (u:ZE->(List Int)->Option ZE) (f:ZE) (l:List Int) (o q p r:Int) (g:List Int) (h:List Zb) (i:List (List Int)) (s:Bool):List Int×Int->Option ((List Int×Int) ⊕ ((Int×Int×Int×Int×Bool×List Int×List Zb×List (List Int)) ⊕ (ZE)))
 | (j,c)=>
 bif decide (c<(l.length:Int)) then
 (gIdx l c).bind fun e=>
 bif c==o then
 Zhp j c (ε.wrap ((ε.wrap ((ε.wrap (2*e))+1))-1))
 else
 Zhp j c (ε.wrap ((ε.wrap (2*e))+1))
 else
 (Zgv f.qnear j).bind fun k=>
 (u (ZE.mk (Za.mk f.qg.Colors f.qg.Edges) f.qnear (Za.mk g h) i (ε.wrap (q+1)) p r s) k).bind fun a=>
 some (.inr (.inl (ε.wrap (o+1),a.qnodes,a.qleaves,a.qbudget,a.qfull,a.qbest.Colors,a.qbest.Edges,a.qperms)))
def ZeW (l:ZE->(List Int)->Option ZE) (g:ZE) (j:List Int) (k q h i:Int) (a:List Int) (c:List Zb) (e:List (List Int)) (f:Bool):Option ((Int×Int×Int×Int×Bool×List Int×List Zb×List (List Int)) ⊕ (ZE)):=
 bif f then
 some (.inr ((ZE.mk (Za.mk g.qg.Colors g.qg.Edges) g.qnear (Za.mk a c) e q h i f)))
 else
 loop (ZcB l g j k q h i a c e f) (([]:List Int),0)
def Zbp (r:ZE->(List Int)->Option ZE) (h:ZE) (k:List Int) (l:Int):Int×Int×Int×Int×Bool×List Int×List Zb×List (List Int)->Option ((Int×Int×Int×Int×Bool×List Int×List Zb×List (List Int)) ⊕ (ZE))
 | (i,q,g,f,j,a,c,e)=>
 bif decide (i<(k.length:Int)) then
 (gIdx k i).bind fun o=>
 bif o !=l then
 some (.inl (ε.wrap (i+1),q,g,f,j,a,c,e))
 else
 bif q==f then
 ZeW r h k i q g f a c e true
 else
 ZeW r h k i q g f a c e j
 else
 some (.inr ((ZE.mk (Za.mk h.qg.Colors h.qg.Edges) h.qnear (Za.mk a c) e q g f j)))
def q_spec_l22Find_run (h:ZE->(List Int)->Option ZE) (a:ZE) (e:List Int):Option ZE:=
 (ZjG e).bind fun f=>
 bif decide (f<0) then
 (Zg9 (Za.mk a.qg.Colors a.qg.Edges) e).bind fun c=>
 bif decide (((a.qperms.length:Int):Int)>0) then
 (Zgp (Za.mk c.Colors c.Edges) (Za.mk a.qbest.Colors a.qbest.Edges)).bind fun g=>
 Zdi a e c g
 else
 Zdi a e c (-1)
 else
 loop (Zbp h a e f) (0,a.qnodes,a.qleaves,a.qbudget,a.qfull,a.qbest.Colors,a.qbest.Edges,a.qperms)
def pn_spec_l22Find_run:Nat->(ZE->(List Int)->Option ZE)
 | 0=>(fun _ _=>none)
 | n+1=>q_spec_l22Find_run (pn_spec_l22Find_run n)
def Zpn:ZE->(List Int)->Option ZE:=(pn_spec_l22Find_run fuel)
def Zmh (c:Za) (g:Int):Option ZE:=
 (ZhZ (Za.mk c.Colors c.Edges)).bind fun r8=>
 (Zgv r8 c.Colors).bind fun e=>
 (Zpn (ZE.mk (Za.mk c.Colors c.Edges) r8 (Za.mk ([]:List Int) ([]:List Zb)) ([]:List (List Int)) 0 0 g false) e).bind fun a=>
 some ((ZE.mk (Za.mk c.Colors c.Edges) r8 (Za.mk a.qbest.Colors a.qbest.Edges) a.qperms a.qnodes a.qleaves a.qbudget a.qfull))
def Zh1 (c:Za) (g:Int):Option (ZE×Int):=
 (Zgd (Za.mk c.Colors c.Edges)).bind fun r8=>
 bif !r8 then
 some (((ZE.mk (Za.mk ([]:List Int) ([]:List Zb)) ([]:List (List Int)) (Za.mk ([]:List Int) ([]:List Zb)) ([]:List (List Int)) 0 0 0 false),1))
 else
 (Zi8 g).bind fun e=>
 bif !e then
 some (((ZE.mk (Za.mk ([]:List Int) ([]:List Zb)) ([]:List (List Int)) (Za.mk ([]:List Int) ([]:List Zb)) ([]:List (List Int)) 0 0 0 false),2))
 else
 (Zmh (Za.mk c.Colors c.Edges) g).bind fun a=>
 bif a.qfull then
 some (((ZE.mk (Za.mk ([]:List Int) ([]:List Zb)) ([]:List (List Int)) (Za.mk ([]:List Int) ([]:List Zb)) ([]:List (List Int)) 0 0 0 false),5))
 else
 some (((ZE.mk (Za.mk a.qg.Colors a.qg.Edges) a.qnear (Za.mk a.qbest.Colors a.qbest.Edges) a.qperms a.qnodes a.qleaves a.qbudget a.qfull),0))
def Zfo (a:List Int) (e f:Int):Option ((List Int×Int) ⊕ (ByteArray)):=
 (gApp 1 ([IntKind.u8.wrap (ε.wrap (48+f))]:List Int) a).bind fun c=>
 (gNz 10).bind fun _=>
 some (.inl (c,ε.wrap (Int.tdiv e 10)))
def Za9 (n0:Int):List Int×Int->Option ((List Int×Int) ⊕ (ByteArray))
 | (a,c)=>
 bif c !=0 then
 (gNz 10).bind fun _=>
 bif decide ((Int.tmod c 10:Int)<0) then
 Zfo a c (ε.wrap (0-(Int.tmod c 10)))
 else
 Zfo a c (Int.tmod c 10)
 else
 bif ((a.length:Int):Int)==0 then
 some (.inr (⟨#[48]⟩))
 else
 bif decide (n0<0) then
 (gByt a).bind fun e=>
 (gFit (⟨#[45]⟩:ByteArray) e).bind fun _=>
 some (.inr ((⟨#[45]⟩:ByteArray)++e))
 else
 (gByt a).bind fun f=>
 some (.inr (f))
def ZeH (n0:Int):Option ByteArray:=
 loop (Za9 n0) (([]:List Int),n0)
def Zg2 (c:List Int) (f:Int) (a:ByteArray):Option ((ByteArray×Int) ⊕ (ByteArray)):=
 (gIdx c f).bind fun g=>
 (ZeH g).bind fun e=>
 (gFit a e).bind fun _=>
 some (.inl (a++e,ε.wrap (f+1)))
def ZbK (a:List Int):ByteArray×Int->Option ((ByteArray×Int) ⊕ (ByteArray))
 | (c,e)=>
 bif decide (e<(a.length:Int)) then
 (gIdx a e).bind fun f=>
 (Z3 f (-999999999) 999999999).bind fun g=>
 bif !g then
 some (.inr (⟨#[]⟩))
 else
 bif decide (e>0) then
 (gFit c (⟨#[44]⟩:ByteArray)).bind fun _=>
 Zg2 a e (c++(⟨#[44]⟩:ByteArray))
 else
 Zg2 a e c
 else
 some (.inr (c))
def ZiN (a:List Int):Option ByteArray:=
 bif decide (((a.length:Int):Int)>100) then
 some (⟨#[]⟩)
 else
 bif ((a.length:Int):Int)==0 then
 some (⟨#[45]⟩)
 else
 loop (ZbK a) (⟨#[]⟩,0)
def Zfx (g:Za) (f:Int) (a:ByteArray):Option ((ByteArray×Int) ⊕ (ByteArray)):=
 (gIdx g.Edges f).bind fun h=>
 (ZeH h.A).bind fun c=>
 (gIdx g.Edges f).bind fun i=>
 (ZeH i.B).bind fun e=>
 (gFit c (⟨#[45]⟩:ByteArray)).bind fun _=>
 (gFit (c++(⟨#[45]⟩:ByteArray):ByteArray) e).bind fun _=>
 (gFit a ((c++(⟨#[45]⟩:ByteArray):ByteArray)++e:ByteArray)).bind fun _=>
 some (.inl (a++((c++(⟨#[45]⟩:ByteArray):ByteArray)++e:ByteArray),ε.wrap (f+1)))
def Zd8 (e:Za):ByteArray×Int->Option ((ByteArray×Int) ⊕ (ByteArray))
 | (a,c)=>
 bif decide (c<(e.Edges.length:Int)) then
 bif decide (c>0) then
 (gFit a (⟨#[44]⟩:ByteArray)).bind fun _=>
 Zfx e c (a++(⟨#[44]⟩:ByteArray))
 else
 Zfx e c a
 else
 some (.inr (a))
def Zh4 (a:Za):Option ByteArray:=
 (ZiN a.Colors).bind fun c=>
 (gFit c (⟨#[59]⟩:ByteArray)).bind fun _=>
 loop (Zd8 a) (c++(⟨#[59]⟩:ByteArray),0)
def Zd6 (c:Za) (g:Int):Option (ByteArray×Int):=
 (Zh1 (Za.mk c.Colors c.Edges) g).bind fun a=>
 bif a.2 !=0 then
 some ((⟨#[]⟩,a.2))
 else
 (Zh4 (Za.mk a.1.qbest.Colors a.1.qbest.Edges)).bind fun e=>
 some ((e,0))
def ZjD (c:Zg) (g:Int):Option (ByteArray×Int):=
 (Zas (Zg.mk c.Kind c.Size c.Rows)).bind fun r8=>
 bif !r8 then
 some ((⟨#[]⟩,1))
 else
 (Z3 g 1 20000).bind fun f=>
 bif !f then
 some ((⟨#[]⟩,2))
 else
 (Zcg (Zg.mk c.Kind c.Size c.Rows)).bind fun a=>
 bif a.2 !=0 then
 some ((⟨#[]⟩,a.2))
 else
 (Zd6 (Za.mk a.1.Colors a.1.Edges) g).bind fun e=>
 some ((e.1,e.2))
def ZhP (c:Zg) (e:Int):Option (ByteArray×Int):=
 (ZjD c e).bind fun a=>
 bif a.2 !=0 then
 some ((⟨#[]⟩,a.2))
 else
 bif decide (((a.1.size:Int):Int)>4000) then
 some ((⟨#[]⟩,5))
 else
 some ((a.1,0))
def ZiJ (x0:Ze):Option Ze:=
 (Zhr x0.Object.Rows).bind fun a=>
 some ((Ze.mk x0.Name (Zg.mk x0.Object.Kind x0.Object.Size a) x0.Key))
def ZbH (e:ZL) (f:Zg) (g:ByteArray×Int):Int->Option ((Int) ⊕ (Ze×Int))
 | c=>
 bif decide (c<(e.Items.length:Int)) then
 (gIdx e.Items c).bind fun h=>
 (Zfk h (Ze.mk ⟨#[]⟩ (Zg.mk f.Kind f.Size f.Rows) g.1)).bind fun i=>
 bif i then
 (gIdx e.Items c).bind fun j=>
 (ZiJ j).bind fun a=>
 some (.inr (((Ze.mk a.Name (Zg.mk a.Object.Kind a.Object.Size a.Object.Rows) a.Key),0)))
 else
 some (.inl (ε.wrap (c+1)))
 else
 some (.inr (((Ze.mk ⟨#[]⟩ (Zg.mk 0 0 ([]:List (List Int))) ⟨#[]⟩),3)))
def Zgb (e:ZL) (c:Zg) (g:Int):Option (Ze×Int):=
 (ZhP (Zg.mk c.Kind c.Size c.Rows) g).bind fun a=>
 bif a.2 !=0 then
 some (((Ze.mk ⟨#[]⟩ (Zg.mk 0 0 ([]:List (List Int))) ⟨#[]⟩),a.2))
 else
 loop (ZbH e c a) (0)
def Zic (c:ZL) (a:Zg) (g:Int):Option (Ze×Int):=
 (ZhN (ZL.mk c.Items)).bind fun e=>
 bif !e then
 some (((Ze.mk ⟨#[]⟩ (Zg.mk 0 0 ([]:List (List Int))) ⟨#[]⟩),1))
 else
 (Zas (Zg.mk a.Kind a.Size a.Rows)).bind fun f=>
 bif !f then
 some (((Ze.mk ⟨#[]⟩ (Zg.mk 0 0 ([]:List (List Int))) ⟨#[]⟩),1))
 else
 Zgb c a g
def ZiU (c:List Int):Int×List Int->Option ((Int×List Int) ⊕ (List Int))
 | (a,xs)=>
 bif decide (a<(c.length:Int)) then
 (gIdx c a).bind fun e=>
 (gIdx xs a).bind fun f=>
 some (.inl (ε.wrap (a+1),(xs.set a.toNat e)))
 else
 some (.inr (xs))
def Zge (a:List Int):Option (List Int):=
 (gMake 8 (0:Int) (a.length:Int) (a.length:Int)).bind fun c=>
 loop (ZiU a) (0,c)
def ZhB (c:List (List Int)):Int×List (List Int)->Option ((Int×List (List Int)) ⊕ (List (List Int)))
 | (a,xs)=>
 bif decide (a<(c.length:Int)) then
 (gIdx c a).bind fun e=>
 (Zge e).bind fun f=>
 (gIdx xs a).bind fun g=>
 some (.inl (ε.wrap (a+1),(xs.set a.toNat f)))
 else
 some (.inr (xs))
def Zha (a:List (List Int)):Option (List (List Int)):=
 (gMake 24 ([]:List Int) (a.length:Int) (a.length:Int)).bind fun c=>
 loop (ZhB a) (0,c)
def ZbR (a:Z4):Option Zg:=
 (Zha a.Rows).bind fun c=>
 some ((Zg.mk a.Kind a.Size c))
def ZgB (a:Zal):Option Ze:=
 (ZbR (Z4.mk a.Object.Kind a.Object.Size a.Object.Rows)).bind fun c=>
 some ((Ze.mk a.Name (Zg.mk c.Kind c.Size c.Rows) a.Key))
def Zhz (c:List Zal):Int×List Ze->Option ((Int×List Ze) ⊕ (List Ze))
 | (a,xs)=>
 bif decide (a<(c.length:Int)) then
 (gIdx c a).bind fun e=>
 (ZgB e).bind fun f=>
 (gIdx xs a).bind fun g=>
 some (.inl (ε.wrap (a+1),(xs.set a.toNat f)))
 else
 some (.inr (xs))
def ZfA (a:List Zal):Option (List Ze):=
 (gMake 72 (Ze.mk (⟨#[]⟩:ByteArray) (Zg.mk (0:Int) (0:Int) ([]:List (List Int))) (⟨#[]⟩:ByteArray)) (a.length:Int) (a.length:Int)).bind fun c=>
 loop (Zhz a) (0,c)
def ZcZ (a:Zag):Option ZL:=
 (ZfA a.Items).bind fun c=>
 some ((ZL.mk c))
def ZbS (c:List Ze) (e:Ze->Option Bool):Int->Option ((Int) ⊕ (Int))
 | a=>
 bif decide (a<(c.length:Int)) then
 (gIdx c a).bind fun f=>
 (e f).bind fun g=>
 bif g then
 some (.inr (a))
 else
 some (.inl (ε.wrap (a+1)))
 else
 some (.inr ((-1)))
def Zik (c:List Ze) (a:Ze->Option Bool):Option Int:=
 loop (ZbS c a) (0)
def Zkw (x0 a:Ze):Option Bool:=
 bif x0.Object.Kind==a.Object.Kind then
 some (x0.Key.toList==a.Key.toList)
 else
 some (false)
def Zb1 (a c:Ze):Option Bool:=
 (Zkw c (Ze.mk a.Name (Zg.mk a.Object.Kind a.Object.Size a.Object.Rows) a.Key)).bind fun e=>
 some (e)
def Zcs (e:List Ze) (x1:Ze):Option Int:=
 (Zik e (fun a=>Zb1 a (Ze.mk x1.Name (Zg.mk x1.Object.Kind x1.Object.Size x1.Object.Rows) x1.Key))).bind fun c=>
 some (c)
def Z7 (a:List (List Int)):Option Int:=
 some ((a.length:Int))
def Z8 (n0 c a:Int):Option Bool:=
 bif decide (n0>=c) then
 some (decide (n0<=a))
 else
 some (false)
def ZcH (c:List (List Int)) (e:(List Int)->Option Bool):Int->Option ((Int) ⊕ (Int))
 | a=>
 bif decide (a<(c.length:Int)) then
 (gIdx c a).bind fun f=>
 (e f).bind fun g=>
 bif g then
 some (.inr (a))
 else
 some (.inl (ε.wrap (a+1)))
 else
 some (.inr ((-1)))
def Zf2 (c:List (List Int)) (a:(List Int)->Option Bool):Option Int:=
 loop (ZcH c a) (0)
def Zg8 (c:List (List Int)) (a:(List Int)->Option Bool):Option Bool:=
 (Zf2 c a).bind fun e=>
 some (decide (e>=0))
def Zb2 (a:List Int):Option (List Int):=gApp 8 [] a
def ZdI (x0:List Int):Option (List Int):=if x0.length<4611686018427387904 then some (sortI x0) else none
def Zgk (f c:List Int):Int->Option ((Int) ⊕ (Bool))
 | a=>
 bif decide (a<(c.length:Int)) then
 (gIdx c a).bind fun e=>
 bif e !=a then
 some (.inr (false))
 else
 some (.inl (ε.wrap (a+1)))
 else
 some (.inr (decide (((f.length:Int):Int)<=32)))
def ZgZ (a:List Int):Option Bool:=
 (Zb2 a).bind fun c=>
 (ZdI c).bind fun e=>
 loop (Zgk a e) (0)
def ZV (a:List Int):Option Int:=
 some ((a.length:Int))
def ZlM (a:List Int) (e:Int):Option Bool:=
 (ZV a).bind fun f=>
 bif f !=e then
 some (true)
 else
 (ZgZ a).bind fun c=>
 some (!c)
def ZgX (g:Int) (a:List (List Int)):Option Bool:=
 (Zg8 a (fun c=>ZlM c g)).bind fun e=>
 some (!e)
def Zea (e:List (List Int)) (c:Int):List Int×Int->Option ((List Int×Int) ⊕ ((Int) ⊕ (Bool)))
 | (column5,a)=>
 bif decide (a<(e.length:Int)) then
 (gIdx e a).bind fun f=>
 (gIdx f c).bind fun g=>
 (gApp 8 column5 [g]).bind fun h=>
 some (.inl (h,ε.wrap (a+1)))
 else
 (ZgZ column5).bind fun i=>
 bif !i then
 some (.inr (.inr (false)))
 else
 some (.inr (.inl (ε.wrap (c+1))))
def Zh3 (c:List (List Int)):Int->Option ((Int) ⊕ (Bool))
 | a=>
 bif decide (a<(c.length:Int)) then
 loop (Zea c a) (([]:List Int),0)
 else
 some (.inr (true))
def Zmk (a:List (List Int)):Option (Bool):=
 loop (Zh3 a) (0)
def ZfE (a:List (List Int)):Option Bool:=
 (Z7 a).bind fun r8=>
 (Z8 r8 1 10).bind fun c=>
 bif !c then
 some (false)
 else
 (ZgX r8 a).bind fun e=>
 bif !e then
 some (false)
 else
 Zmk a
def Zcd (a:List Int) (n1:Int):Int×Int->Option ((Int×Int) ⊕ (Bool))
 | (f,c)=>
 bif decide (c<(a.length:Int)) then
 (gIdx a c).bind fun e=>
 bif decide (e<=f) then
 some (.inr (false))
 else
 bif decide (e>=n1) then
 some (.inr (false))
 else
 some (.inl (e,ε.wrap (c+1)))
 else
 (Z8 n1 0 32).bind fun g=>
 some (.inr (g))
def ZiV (a:List Int) (n1:Int):Option Bool:=
 loop (Zcd a n1) ((-1),0)
def ZjO (e:List Int) (g:Int):Option Bool:=
 bif decide (((e.length:Int):Int)>0) then
 (ZiV e g).bind fun a=>
 some (a)
 else
 some (false)
def Zjv (a:List Int) (c:Int):Option Bool:=
 (ZjO a c).bind fun e=>
 some (!e)
def Zlj (h:List (List Int)) (g:Int):Option Bool:=
 (Z8 g 1 32).bind fun c=>
 bif c then
 (Zg8 h (fun e=>Zjv e g)).bind fun a=>
 some (!a)
 else
 some (false)
def ZeV (x0:List (List Int)) (c:(List Int)->(List Int)->Option Int):Int->Option ((Int) ⊕ (Bool))
 | a=>
 bif decide (a>0) then
 (gIdx x0 a).bind fun e=>
 (gIdx x0 (ε.wrap (a-1))).bind fun f=>
 (c e f).bind fun g=>
 bif decide (g<0) then
 some (.inr (false))
 else
 some (.inl (ε.wrap (a-1)))
 else
 some (.inr (true))
def ZiB (x0:List (List Int)) (a:(List Int)->(List Int)->Option Int):Option Bool:=
 loop (ZeV x0 a) (ε.wrap ((x0.length:Int)-1))
def Zcx (x0:Int):Option Bool:=
 some (x0 !=x0)
def ZbD (x0 c:Int):Option Int:=
 (Zcx x0).bind fun r8=>
 (Zcx c).bind fun a=>
 bif r8 then
 bif a then
 some (0)
 else
 some ((-1))
 else
 bif a then
 some (1)
 else
 bif decide (x0<c) then
 some ((-1))
 else
 bif decide (x0>c) then
 some (1)
 else
 some (0)
def ZbC (e s1:List Int):Int->Option ((Int) ⊕ (Int))
 | a=>
 bif decide (a<(e.length:Int)) then
 (gIdx e a).bind fun f=>
 bif decide (a>=(s1.length:Int)) then
 some (.inr (1))
 else
 (gIdx s1 a).bind fun g=>
 (ZbD f g).bind fun c=>
 bif c !=0 then
 some (.inr (c))
 else
 some (.inl (ε.wrap (a+1)))
 else
 bif decide (((e.length:Int):Int)<(s1.length:Int)) then
 some (.inr ((-1)))
 else
 some (.inr (0))
def Zao (a s1:List Int):Option Int:=
 loop (ZbC a s1) (0)
def Zgf (a:Zaf):Option Bool:=
 (Zlj a.Blocks a.Points).bind fun e=>
 bif e then
 bif decide (((a.Blocks.length:Int):Int)<=128) then
 (ZiB a.Blocks (fun f g=>Zao f g)).bind fun c=>
 some (c)
 else
 some (false)
 else
 some (false)
def Zgo (h:List (List Int)):List (List Int)×Int->Option ((List (List Int)×Int) ⊕ (List (List Int)))
 | (a,c)=>
 bif decide (c<(h.length:Int)) then
 (gIdx h c).bind fun e=>
 (Zb2 e).bind fun f=>
 (gApp 24 a [f]).bind fun g=>
 some (.inl (g,ε.wrap (c+1)))
 else
 some (.inr (a))
def Zb8 (a:List (List Int)):Option (List (List Int)):=
 loop (Zgo a) (([]:List (List Int)),0)
def Zgi (a:Zg):Option Zaf:=
 (Zb8 a.Rows).bind fun c=>
 some ((Zaf.mk a.Size c))
def ZeY (c:List Int) (e:Int->Option Bool):Int->Option ((Int) ⊕ (Int))
 | a=>
 bif decide (a<(c.length:Int)) then
 (gIdx c a).bind fun f=>
 (e f).bind fun g=>
 bif g then
 some (.inr (a))
 else
 some (.inl (ε.wrap (a+1)))
 else
 some (.inr ((-1)))
def Zh6 (c:List Int) (a:Int->Option Bool):Option Int:=
 loop (ZeY c a) (0)
def ZaV (c:List Int) (a:Int->Option Bool):Option Bool:=
 (Zh6 c a).bind fun e=>
 some (decide (e>=0))
def ZhO (x0:Int):Option Bool:=
 bif x0 !=1 then
 some (x0 !=(-1))
 else
 some (false)
def ZdW (e:List Int) (f:Int) (g:List Int):Int×Int->Option ((Int×Int) ⊕ ((Int) ⊕ ((Int) ⊕ (Bool))))
 | (c,a)=>
 bif decide (a<(e.length:Int)) then
 (gIdx e a).bind fun h=>
 (gIdx g a).bind fun i=>
 some (.inl (ε.wrap (c+(ε.wrap (h*i))),ε.wrap (a+1)))
 else
 bif c !=0 then
 some (.inr (.inr (.inr (false))))
 else
 some (.inr (.inl (ε.wrap (f+1))))
def Zgm (e:Int) (f:List Int) (c:List (List Int)):Int->Option ((Int) ⊕ ((Int) ⊕ (Bool)))
 | a=>
 bif decide (a<(c.length:Int)) then
 (gIdx c a).bind fun g=>
 loop (ZdW f a g) (0,0)
 else
 some (.inr (.inl (ε.wrap (e+1))))
def ZiC (f:List (List Int)) (a:Int) (c:List Int):Option ((Int) ⊕ (Bool)):=
 (gSl f 0 a).bind fun e=>
 loop (Zgm a c e) (0)
def ZdH (f:List (List Int)) (e:Int):Int->Option ((Int) ⊕ (Bool))
 | a=>
 bif decide (a<(f.length:Int)) then
 (gIdx f a).bind fun c=>
 (ZV c).bind fun g=>
 bif g !=e then
 some (.inr (false))
 else
 (ZaV c (fun j=>ZhO j)).bind fun h=>
 bif h then
 some (.inr (false))
 else
 ZiC f a c
 else
 (Z8 e 1 32).bind fun i=>
 some (.inr (i))
def ZjP (a:List (List Int)):Option Bool:=
 (Z7 a).bind fun c=>
 loop (ZdH a c) (0)
def Zlv (e g:Int):Option Bool:=
 (Z8 e 2 16).bind fun a=>
 bif a then
 (Z8 g 1 8).bind fun c=>
 some (c)
 else
 some (false)
def Zil (x0:Int) (a:Zak):Option Bool:=
 (Z8 x0 0 (ε.wrap (a.Levels-1))).bind fun r8=>
 some (!r8)
def Zfr (a:Zak):Int->Option ((Int) ⊕ (Bool))
 | c=>
 bif decide (c<(a.Rows.length:Int)) then
 (gIdx a.Rows c).bind fun e=>
 (ZV e).bind fun f=>
 bif f !=a.Columns then
 some (.inr (false))
 else
 (ZaV e (fun h=>Zil h (Zak.mk a.Levels a.Columns a.Rows))).bind fun g=>
 bif g then
 some (.inr (false))
 else
 some (.inl (ε.wrap (c+1)))
 else
 some (.inr (true))
def Zmg (a:Zak):Option (Bool):=
 loop (Zfr a) (0)
def ZjF (a:Zak):Option Bool:=
 (Zlv a.Levels a.Columns).bind fun c=>
 bif !c then
 some (false)
 else
 bif decide (((a.Rows.length:Int):Int)>256) then
 some (false)
 else
 Zmg a
def ZlS (a:Zg):Option Zak:=
 (Zb8 a.Rows).bind fun r8=>
 bif decide (((a.Rows.length:Int):Int)>0) then
 (gIdx a.Rows 0).bind fun c=>
 (ZV c).bind fun e=>
 some ((Zak.mk a.Size e r8))
 else
 some ((Zak.mk a.Size 0 r8))
def Ze2 (a c e:Int):Option ((Int×Int) ⊕ (Int)):=
 some (.inl (ε.wrap (c-1),ε.wrap (e*a)))
def ZaS (c e:Int):Int×Int->Option ((Int×Int) ⊕ (Int))
 | (a,power7)=>
 bif decide (a>0) then
 bif decide (power7<=e) then
 Ze2 c a power7
 else
 some (.inr (power7))
 else
 some (.inr (power7))
def Za6 (a c e:Int):Option Int:=
 loop (ZaS a e) (c,1)
def Za5 (a:Zd):Option Int:=
 (Za6 a.Prime a.Degree 64).bind fun c=>
 some (c)
def Zcy (a:Int) (f:List Int):Int×Int×List Int->Option ((Int×Int×List Int) ⊕ (List Int))
 | (e,c,xs)=>
 bif decide (c<(f.length:Int)) then
 (gNz a).bind fun _=>
 (gIdx xs c).bind fun g=>
 (gNz a).bind fun _=>
 some (.inl (ε.wrap (Int.tdiv e a),ε.wrap (c+1),(xs.set c.toNat (Int.tmod e a))))
 else
 some (.inr (xs))
def ZaR (n0 a e:Int):Option (List Int):=
 (gMake 8 (0:Int) e e).bind fun c=>
 loop (Zcy a c) (n0,0,c)
def ZeE (e:List Int) (f g h:Int):Int×List Int->Option ((Int×List Int) ⊕ ((Int×List Int) ⊕ (List Int)))
 | (a,c)=>
 bif decide (a<(e.length:Int)) then
 (gIdx e a).bind fun i=>
 (gIdx c (ε.wrap ((ε.wrap (g-(ε.wrap ((e.length:Int)-1))))+a))).bind fun j=>
 (gNz f).bind fun _=>
 (gNz f).bind fun _=>
 (gIdx c (ε.wrap ((ε.wrap (g-(ε.wrap ((e.length:Int)-1))))+a))).bind fun k=>
 some (.inl (ε.wrap (a+1),(c.set (ε.wrap ((ε.wrap (g-(ε.wrap ((e.length:Int)-1))))+a):Int).toNat (Int.tmod (ε.wrap ((Int.tmod (ε.wrap (j-(ε.wrap (h*i)))) f)+f)) f))))
 else
 some (.inr (.inl (ε.wrap (g-1),c)))
def Zbr (a:List Int) (g:Int):Int×List Int->Option ((Int×List Int) ⊕ (List Int))
 | (c,xs)=>
 bif decide (c>=(ε.wrap ((a.length:Int)-1))) then
 (gIdx xs c).bind fun e=>
 loop (ZeE a g c e) (0,xs)
 else
 (gSl xs 0 (if ((xs.length:Int):Int)<(ε.wrap ((a.length:Int)-1)) then (xs.length:Int) else ε.wrap ((a.length:Int)-1))).bind fun f=>
 some (.inr (f))
def ZcS (c e:List Int) (f:Int):Option (List Int):=
 (Zb2 c).bind fun a=>
 loop (Zbr e f) (ε.wrap ((a.length:Int)-1),a)
def Zkc (x0:Int):Option Bool:=
 some (x0 !=0)
def ZhM (a:List Int):Option Bool:=
 (ZaV a (fun c=>Zkc c)).bind fun e=>
 some (!e)
def ZlX (a:List Int) (p1 c:Int):Int->Option ((Int) ⊕ ((Int) ⊕ (Bool)))
 | e=>
 (Za6 p1 c 64).bind fun f=>
 bif decide (e<f) then
 (ZaR e p1 c).bind fun g=>
 (gApp 8 g [1]).bind fun h=>
 (ZcS a h p1).bind fun i=>
 (ZhM i).bind fun j=>
 bif j then
 some (.inr (.inr (false)))
 else
 some (.inl (ε.wrap (e+1)))
 else
 some (.inr (.inl (ε.wrap (c+1))))
def Zmw (a:List Int) (p1 e:Int):Int->Option ((Int) ⊕ (Bool))
 | c=>
 bif decide ((ε.wrap (2*c):Int)<=(ε.wrap (e-1))) then
 loop (ZlX a p1 c) (0)
 else
 some (.inr (true))
def Zhn (a:List Int) (p1:Int):Option Bool:=
 (ZV a).bind fun c=>
 loop (Zmw a p1 c) (1)
def ZcU (c:Int):Int×List Int->Option ((Int×List Int) ⊕ ((Int×List Int×Int) ⊕ (List Int)))
 | (a,factor3_2)=>
 (gNz c).bind fun _=>
 bif (Int.tmod a c:Int)==0 then
 (gApp 8 factor3_2 [c]).bind fun e=>
 (gNz c).bind fun _=>
 some (.inl (ε.wrap (Int.tdiv a c),e))
 else
 some (.inr (.inl (a,factor3_2,ε.wrap (c+1))))
def Zby:Int×List Int×Int->Option ((Int×List Int×Int) ⊕ (List Int))
 | (a,factor3,c)=>
 bif decide ((ε.wrap (c*c):Int)<=a) then
 loop (ZcU c) (a,factor3)
 else
 bif decide (a>1) then
 (gApp 8 factor3 [a]).bind fun e=>
 some (.inr (e))
 else
 some (.inr (factor3))
def Zco (n0:Int):Option (List Int):=
 (Z8 n0 1 1000000).bind fun a=>
 bif !a then
 some (([]:List Int))
 else
 loop (Zby) (n0,([]:List Int),2)
def ZjB (n0:Int):Option Bool:=
 (Zco n0).bind fun a=>
 some (((a.length:Int):Int)==1)
def Zl8 (a:Zd):Int->Option ((Int) ⊕ (Bool))
 | c=>
 bif decide (c<(a.Poly.length:Int)) then
 (gIdx a.Poly c).bind fun e=>
 (Z8 e 0 (ε.wrap (a.Prime-1))).bind fun f=>
 bif !f then
 some (.inr (false))
 else
 some (.inl (ε.wrap (c+1)))
 else
 (Zhn a.Poly a.Prime).bind fun g=>
 some (.inr (g))
def Zko (a:Zd):Option (Bool):=
 loop (Zl8 a) (0)
def Zin (a:Zd):Option (Bool):=
 (ZV a.Poly).bind fun c=>
 bif c !=(ε.wrap (a.Degree+1)) then
 some (false)
 else
 (gIdx a.Poly a.Degree).bind fun e=>
 bif e !=1 then
 some (false)
 else
 Zko a
def ZfY (a:Zd):Option Bool:=
 (ZjB a.Prime).bind fun e=>
 bif !e then
 some (false)
 else
 bif decide (a.Degree<1) then
 some (false)
 else
 (Za6 a.Prime a.Degree 64).bind fun c=>
 bif decide (c>64) then
 some (false)
 else
 Zin a
def Zet (x0 a:Int):Option Bool:=
 (Z8 x0 0 (ε.wrap (a-1))).bind fun c=>
 some (!c)
def ZkU (c:Int) (a:List Int):Option Bool:=
 (ZaV a (fun e=>Zet e c)).bind fun f=>
 some (!f)
def Zf4 (a:List Int) (e:List (List Int)) (f:Int):Option Bool:=
 (gIdx e 0).bind fun g=>
 bif ((a.length:Int):Int) !=(g.length:Int) then
 some (true)
 else
 (ZkU f a).bind fun c=>
 some (!c)
def ZkI (a:Zd) (c:List (List Int)):Option (Bool):=
 (Za5 (Zd.mk a.Prime a.Degree a.Poly)).bind fun e=>
 (Zg8 c (fun g=>Zf4 g c e)).bind fun f=>
 some (!f)
def Zjh (a:Zd) (c:List (List Int)):Option Bool:=
 (ZfY (Zd.mk a.Prime a.Degree a.Poly)).bind fun j=>
 bif !j then
 some (false)
 else
 (Z7 c).bind fun e=>
 (Z8 e 1 32).bind fun f=>
 bif !f then
 some (false)
 else
 (gIdx c 0).bind fun g=>
 (ZV g).bind fun h=>
 (Z8 h 1 32).bind fun i=>
 bif !i then
 some (false)
 else
 ZkI a c
def ZrB (g:List Int) (a:Int):Int×Int->Option ((Int×Int) ⊕ (Int))
 | (c,k6)=>
 bif decide (k6>=0) then
 (gIdx g k6).bind fun e=>
 some (.inl (ε.wrap ((ε.wrap (c*a))+e),ε.wrap (k6-1)))
 else
 some (.inr (c))
def Zjo (e:List Int) (a:Int):Option Int:=
 loop (ZrB e a) (0,ε.wrap ((e.length:Int)-1))
def ZfL (c:Zd) (e:Int) (f g:List Int):Int×List Int->Option ((Int×List Int) ⊕ (Int))
 | (a,xs)=>
 bif decide (a<(f.length:Int)) then
 (gIdx xs a).bind fun h=>
 (gIdx g a).bind fun i=>
 (gNz c.Prime).bind fun _=>
 (gIdx xs a).bind fun k=>
 some (.inl (ε.wrap (a+1),(xs.set a.toNat (Int.tmod (ε.wrap ((ε.wrap (h+(ε.wrap (e*i))))+c.Prime)) c.Prime))))
 else
 (Zjo xs c.Prime).bind fun j=>
 some (.inr (j))
def ZfF (a:Zd) (g h c:Int):Option Int:=
 (ZaR g a.Prime a.Degree).bind fun e=>
 (ZaR h a.Prime a.Degree).bind fun f=>
 loop (ZfL a c e f) (0,e)
def Zix (g:Zd) (h f:List Int) (e:Int):Int×List Int->Option ((Int×List Int) ⊕ ((Int×List Int) ⊕ (Int)))
 | (a,c)=>
 bif decide (a<(f.length:Int)) then
 (gIdx c (ε.wrap (e+a))).bind fun i=>
 (gIdx h e).bind fun j=>
 (gIdx f a).bind fun k=>
 (gNz g.Prime).bind fun _=>
 (gIdx c (ε.wrap (e+a))).bind fun l=>
 some (.inl (ε.wrap (a+1),(c.set (ε.wrap (e+a):Int).toNat (Int.tmod (ε.wrap (i+(ε.wrap (j*k)))) g.Prime))))
 else
 some (.inr (.inl (ε.wrap (e+1),c)))
def Zc4 (a:Zd) (c f:List Int):Int×List Int->Option ((Int×List Int) ⊕ (Int))
 | (e,xs)=>
 bif decide (e<(c.length:Int)) then
 loop (Zix a c f e) (0,xs)
 else
 (ZcS xs a.Poly a.Prime).bind fun g=>
 (Zjo g a.Prime).bind fun h=>
 some (.inr (h))
def Zjj (a:Zd) (g h:Int):Option Int:=
 (ZaR g a.Prime a.Degree).bind fun c=>
 (ZaR h a.Prime a.Degree).bind fun e=>
 (gMake 8 (0:Int) (ε.wrap (2*a.Degree)) (ε.wrap (2*a.Degree))).bind fun f=>
 loop (Zc4 a c e) (0,f)
def ZmQ (g:Int) (a c e:List (List Int)) (f:List Int):Option ((Int×List (List Int)×List (List Int)×List (List Int)×List Int) ⊕ (Z5)):=
 some (.inl (ε.wrap (g+1),a,c,e,f))
def Zdp (g:Zd) (r i:Int) (xs o p:List (List Int)):Int×List Int×List Int×List Int×List Int->Option ((Int×List Int×List Int×List Int×List Int) ⊕ ((Int×List (List Int)×List (List Int)×List (List Int)×List Int) ⊕ (Z5)))
 | (a,h,e,f,c)=>
 bif decide (a<r) then
 (ZfF (Zd.mk g.Prime g.Degree g.Poly) i a 1).bind fun k=>
 (ZfF (Zd.mk g.Prime g.Degree g.Poly) i a (-1)).bind fun l=>
 (Zjj (Zd.mk g.Prime g.Degree g.Poly) i a).bind fun j=>
 (gIdx e a).bind fun y=>
 (gIdx f a).bind fun a0=>
 (gIdx c a).bind fun a1=>
 (gIdx (c.set a.toNat j) a).bind fun s=>
 bif s==1 then
 (gIdx h i).bind fun a2=>
 some (.inl (ε.wrap (a+1),(h.set i.toNat a),(e.set a.toNat k),(f.set a.toNat l),(c.set a.toNat j)))
 else
 some (.inl (ε.wrap (a+1),h,(e.set a.toNat k),(f.set a.toNat l),(c.set a.toNat j)))
 else
 (gApp 24 xs [e]).bind fun u=>
 (gApp 24 o [f]).bind fun v=>
 (gApp 24 p [c]).bind fun w=>
 (ZmQ i u v w h).map fun x=>.inr (x)
def Zfs (k:Zd) (a:Int):Int×List (List Int)×List (List Int)×List (List Int)×List Int->Option ((Int×List (List Int)×List (List Int)×List (List Int)×List Int) ⊕ (Z5))
 | (g,xs,c,e,f)=>
 bif decide (g<a) then
 (gMake 8 (0:Int) a a).bind fun h=>
 (gMake 8 (0:Int) a a).bind fun i=>
 (gMake 8 (0:Int) a a).bind fun j=>
 loop (Zdp k a g xs c e) (0,f,h,i,j)
 else
 some (.inr ((Z5.mk a xs c e f)))
def Zhq (c:Zd):Option Z5:=
 (Za5 (Zd.mk c.Prime c.Degree c.Poly)).bind fun a=>
 (gMake 8 (0:Int) a a).bind fun e=>
 loop (Zfs c a) (0,([]:List (List Int)),([]:List (List Int)),([]:List (List Int)),e)
def Zew (a:List Int) (c:Int):Option Bool:=
 (gIdx a c).bind fun e=>
 some (e !=0)
def Zbm (e:Z5) (c:List Int) (o:Int):Int×List Int->Option ((Int×List Int) ⊕ (List Int))
 | (a,xs)=>
 bif decide (a<(c.length:Int)) then
 (gIdx c a).bind fun f=>
 (gIdx xs a).bind fun g=>
 (gIdx e.qadd g).bind fun h=>
 (gIdx e.qmul o).bind fun i=>
 (gIdx i f).bind fun j=>
 (gIdx h j).bind fun k=>
 (gIdx xs a).bind fun l=>
 some (.inl (ε.wrap (a+1),(xs.set a.toNat k)))
 else
 some (.inr (xs))
def ZbJ (e:Z5) (c a:List Int) (g:Int):Option (List Int):=
 loop (Zbm e a g) (0,c)
def ZeX (c:List Int) (e:Int) (xs:List (List Int)):Option ((List (List Int))×(List Int)×Int):=
 (gSl xs 0 (c.length:Int)).bind fun a=>
 some ((a,c,e))
def Zfm (f:Int) (a:List Int) (c:Int) (e:List (List Int)):Option ((List Int×Int×Int×List (List Int)) ⊕ ((List (List Int))×(List Int)×Int)):=
 some (.inl (a,c,ε.wrap (f+1),e))
def ZdU (e:Z5) (f:List Int) (p a:Int) (c:List (List Int)) (g:List Int) (h:Bool):Option ((Int×List (List Int)) ⊕ ((Int×List (List Int)) ⊕ ((List Int×Int×Int×List (List Int)) ⊕ ((List (List Int))×(List Int)×Int)))):=
 bif h then
 (gIdx c (f.length:Int)).bind fun i=>
 (gIdx e.qsub 0).bind fun j=>
 (gIdx g p).bind fun k=>
 (gIdx j k).bind fun l=>
 (gNe a (f.length:Int)).bind fun r=>
 (ZbJ (Z5.mk e.qq e.qadd e.qsub e.qmul e.qinv) g i l).bind fun o=>
 some (.inl (ε.wrap (a+1),(c.set a.toNat o)))
 else
 some (.inl (ε.wrap (a+1),c))
def ZbU (l:Z5) (e:List Int) (f i:Int) (j:List (List Int)):Int×List (List Int)->Option ((Int×List (List Int)) ⊕ ((Int×List (List Int)) ⊕ ((List Int×Int×Int×List (List Int)) ⊕ ((List (List Int))×(List Int)×Int))))
 | (c,a)=>
 bif decide (c<(j.length:Int)) then
 (gIdx a c).bind fun g=>
 bif c !=(e.length:Int) then
 (gIdx g f).bind fun k=>
 ZdU l e f c a g (k !=0)
 else
 ZdU l e f c a g false
 else
 (gApp 8 e [f]).bind fun h=>
 bif ((h.length:Int):Int)==(a.length:Int) then
 (ZeX h i a).map fun x=>.inr (.inr (.inr (x)))
 else
 (Zfm f h i a).map fun x=>.inr (.inr (x))
def ZgG (h:Z5) (c:List Int) (l o p:Int) (r:List Int):Int×List (List Int)->Option ((Int×List (List Int)) ⊕ ((List Int×Int×Int×List (List Int)) ⊕ ((List (List Int))×(List Int)×Int)))
 | (f,a)=>
 bif decide (f<(r.length:Int)) then
 (gIdx a (c.length:Int)).bind fun e=>
 (gIdx e f).bind fun s=>
 (gIdx a (c.length:Int)).bind fun g=>
 (gIdx h.qinv o).bind fun i=>
 (gIdx h.qmul i).bind fun j=>
 (gIdx j s).bind fun k=>
 (gIdx g f).bind fun u=>
 some (.inl (ε.wrap (f+1),(a.set ((c.length:Int):Int).toNat (g.set f.toNat k))))
 else
 loop (ZbU h c l p a) (0,a)
def Zgc (h:Z5) (a:List Int) (e g:Int) (c:List (List Int)):Option ((List Int×Int×Int×List (List Int)) ⊕ ((List (List Int))×(List Int)×Int)):=
 (gIdx c (a.length:Int)).bind fun i=>
 (gIdx i e).bind fun f=>
 (gIdx h.qmul g).bind fun j=>
 (gIdx j f).bind fun k=>
 (gIdx c (a.length:Int)).bind fun l=>
 loop (ZgG h a e f k l) (0,c)
def ZgY (g:Z5) (a:List Int) (h f:Int) (c:List (List Int)):Option ((List Int×Int×Int×List (List Int)) ⊕ ((List (List Int))×(List Int)×Int)):=
 (gSl c (a.length:Int) (c.length:Int)).bind fun j=>
 (Zf2 j (fun g=>Zew g f)).bind fun e=>
 bif decide (e<0) then
 Zfm f a 0 c
 else
 bif decide (e>0) then
 (gIdx c (ε.wrap ((a.length:Int)+e))).bind fun i=>
 (gIdx c (a.length:Int)).bind fun k=>
 (gIdx c (a.length:Int)).bind fun p=>
 (gIdx (c.set ((a.length:Int):Int).toNat i) (ε.wrap ((a.length:Int)+e))).bind fun r=>
 (gIdx g.qsub 0).bind fun l=>
 (gIdx l h).bind fun o=>
 Zgc g a f o ((c.set ((a.length:Int):Int).toNat i).set (ε.wrap ((a.length:Int)+e):Int).toNat k)
 else
 Zgc g a f h c
def ZbO (h:Z5):List Int×Int×Int×List (List Int)->Option ((List Int×Int×Int×List (List Int)) ⊕ ((List (List Int))×(List Int)×Int))
 | (c,e,f,a)=>
 bif decide (((a.length:Int):Int)>0) then
 (gIdx a 0).bind fun g=>
 bif decide (f<(g.length:Int)) then
 ZgY h c e f a
 else
 (ZeX c e a).map fun x=>.inr (x)
 else
 (ZeX c e a).map fun x=>.inr (x)
def ZhJ (c:Z5) (e:List (List Int)):Option ((List (List Int))×(List Int)×Int):=
 (Zb8 e).bind fun a=>
 loop (ZbO c) (([]:List Int),1,0,a)
def ZiL (c s1:List (List Int)) (e:(List Int)->(List Int)->Option Bool):Int->Option ((Int) ⊕ (Bool))
 | a=>
 bif decide (a<(c.length:Int)) then
 (gIdx c a).bind fun f=>
 (gIdx s1 a).bind fun g=>
 (e f g).bind fun h=>
 bif !h then
 some (.inr (false))
 else
 some (.inl (ε.wrap (a+1)))
 else
 some (.inr (true))
def Zmb (a s1:List (List Int)) (c:(List Int)->(List Int)->Option Bool):Option Bool:=
 bif ((a.length:Int):Int) !=(s1.length:Int) then
 some (false)
 else
 loop (ZiL a s1 c) (0)
def ZhY (c s1:List Int):Int->Option ((Int) ⊕ (Bool))
 | a=>
 bif decide (a<(c.length:Int)) then
 (gIdx c a).bind fun e=>
 (gIdx s1 a).bind fun f=>
 bif e !=f then
 some (.inr (false))
 else
 some (.inl (ε.wrap (a+1)))
 else
 some (.inr (true))
def Zcb (a s1:List Int):Option Bool:=
 bif ((a.length:Int):Int) !=(s1.length:Int) then
 some (false)
 else
 loop (ZhY a s1) (0)
def Zj2 (a c:List (List Int)):Option Bool:=
 (Zmb a c (fun e f=>Zcb e f)).bind fun g=>
 some (g)
def ZmU (a:Z1):Option (Bool):=
 (Zhq (Zd.mk a.Field.Prime a.Field.Degree a.Field.Poly)).bind fun c=>
 (ZhJ c a.Rows).bind fun e=>
 (Zj2 e.1 a.Rows).bind fun f=>
 some (f)
def Zc7 (a:Z1):Option Bool:=
 (Zjh (Zd.mk a.Field.Prime a.Field.Degree a.Field.Poly) a.Rows).bind fun c=>
 bif !c then
 some (false)
 else
 bif decide (((a.Rows.length:Int):Int)>8) then
 some (false)
 else
 (Za5 (Zd.mk a.Field.Prime a.Field.Degree a.Field.Poly)).bind fun e=>
 (Z7 a.Rows).bind fun f=>
 (Za6 e f 4096).bind fun g=>
 bif decide (g>4096) then
 some (false)
 else
 ZmU a
def ZbW (r8:List Int):Int->Option ((Int) ⊕ (Int×Int))
 | a=>
 bif decide (a<(r8.length:Int)) then
 (gIdx r8 a).bind fun c=>
 (gIdx r8 0).bind fun e=>
 bif c !=e then
 some (.inr ((0,0)))
 else
 some (.inl (ε.wrap (a+1)))
 else
 bif ((r8.length:Int):Int)==0 then
 some (.inr ((0,0)))
 else
 (ZV r8).bind fun f=>
 (gIdx r8 0).bind fun g=>
 some (.inr ((g,f)))
def Zcz (n0:Int):Option (Int×Int):=
 (Zco n0).bind fun r8=>
 loop (ZbW r8) (0)
def ZlC (a:Int×Int):Int->Option ((Int) ⊕ (Zd×Int))
 | c=>
 (ZaR c a.1 a.2).bind fun e=>
 (gApp 8 e [1]).bind fun f=>
 (Zhn f a.1).bind fun g=>
 bif !g then
 some (.inl (ε.wrap (c+1)))
 else
 (ZaR c a.1 a.2).bind fun h=>
 (gApp 8 h [1]).bind fun i=>
 some (.inr (((Zd.mk a.1 a.2 i),0)))
def Ziv (a:Int×Int):Option (Zd×Int):=
 loop (ZlC a) (0)
def ZbP (a:Int):Option (Zd×Int):=
 (Zcz a).bind fun c=>
 bif c.1==0 then
 some (((Zd.mk 0 0 ([]:List Int)),2))
 else
 bif decide (a>64) then
 some (((Zd.mk 0 0 ([]:List Int)),2))
 else
 Ziv c
def ZcG (a:Zg):Option Z1:=
 (ZbP a.Size).bind fun r8=>
 (Zb8 a.Rows).bind fun c=>
 some ((Z1.mk (Zd.mk r8.1.Prime r8.1.Degree r8.1.Poly) c))
def ZcC (a:List Int):Int->Option ((Int) ⊕ (Int))
 | e=>
 bif decide (e<(a.length:Int)) then
 (gIdx a e).bind fun c=>
 bif c !=0 then
 some (.inr (c))
 else
 some (.inl (ε.wrap (e+1)))
 else
 some (.inr (0))
def ZeU (a:List Int):Option Int:=
 loop (ZcC a) (0)
def Zbb (a c:Zb):Option Int:=
 (ZbD a.A c.A).bind fun g=>
 (ZbD a.B c.B).bind fun e=>
 (ZeU ([g,e]:List Int)).bind fun f=>
 some (f)
def Zlh (n0:Int):Option Bool:=
 (Z8 n0 0 63).bind fun a=>
 some (a)
def ZlE (n0:Int):Option Bool:=
 (Zlh n0).bind fun a=>
 some (!a)
def ZhK (e:List Int):Option Bool:=
 bif decide (((e.length:Int):Int)<=64) then
 (ZaV e (fun a=>ZlE a)).bind fun r8=>
 some (!r8)
 else
 some (false)
def Zbv (c:Za):Int->Option ((Int) ⊕ (Bool))
 | e=>
 bif decide (e<(c.Edges.length:Int)) then
 (gIdx c.Edges e).bind fun a=>
 bif decide (a.A<0) then
 some (.inr (false))
 else
 bif decide (a.A>=a.B) then
 some (.inr (false))
 else
 (ZV c.Colors).bind fun f=>
 bif decide (a.B>=f) then
 some (.inr (false))
 else
 bif decide (e>0) then
 (gIdx c.Edges (ε.wrap (e-1))).bind fun g=>
 (Zbb g (Zb.mk a.A a.B)).bind fun h=>
 bif decide (h>=0) then
 some (.inr (false))
 else
 some (.inl (ε.wrap (e+1)))
 else
 some (.inl (ε.wrap (e+1)))
 else
 (ZhK c.Colors).bind fun i=>
 bif i then
 some (.inr (decide (((c.Edges.length:Int):Int)<=512)))
 else
 some (.inr (false))
def Zd3 (a:Za):Option Bool:=
 loop (Zbv a) (0)
def Zcu (f:Zg) (e:List Int):Int×List Zb->Option ((Int×List Zb) ⊕ (Za×Bool))
 | (a,xs)=>
 bif decide (a<(f.Rows.length:Int)) then
 (gIdx f.Rows a).bind fun c=>
 bif ((c.length:Int):Int) !=2 then
 some (.inr (((Za.mk ([]:List Int) ([]:List Zb)),false)))
 else
 (gIdx c 0).bind fun g=>
 (gIdx c 1).bind fun h=>
 (gApp 16 xs [(Zb.mk g h)]).bind fun i=>
 some (.inl (ε.wrap (a+1),i))
 else
 (Zd3 (Za.mk e xs)).bind fun j=>
 some (.inr (((Za.mk e xs),j)))
def Zg3 (a:Zg):Option (Za×Bool):=
 (Z8 a.Size 0 64).bind fun e=>
 bif !e then
 some (((Za.mk ([]:List Int) ([]:List Zb)),false))
 else
 (gMake 8 (0:Int) a.Size a.Size).bind fun c=>
 loop (Zcu a c) (0,([]:List Zb))
def Zfv (c:List Int):Int×List Int->Option ((Int×List Int) ⊕ (List Int))
 | (a,xs)=>
 bif decide (a<(c.length:Int)) then
 (gIdx xs a).bind fun e=>
 some (.inl (ε.wrap (a+1),(xs.set a.toNat a)))
 else
 some (.inr (xs))
def Zhv (n0:Int):Option (List Int):=
 (gMake 8 (0:Int) n0 n0).bind fun a=>
 loop (Zfv a) (0,a)
def ZgU (c:List Int):Int×List Int->Option ((Int×List Int) ⊕ (ByteArray))
 | (a,xs)=>
 bif decide (a<(c.length:Int)) then
 (gIdx c a).bind fun e=>
 (gIdx xs a).bind fun g=>
 some (.inl (ε.wrap (a+1),(xs.set a.toNat (IntKind.u8.wrap e))))
 else
 (gByt xs).bind fun f=>
 some (.inr (f))
def ZfM (a:List Int):Option ByteArray:=
 (gMake 1 (0:Int) (a.length:Int) (a.length:Int)).bind fun c=>
 loop (ZgU a) (0,c)
def Zhg (f g h:List Int):Int×List Int->Option ((Int×List Int) ⊕ (List Int))
 | (a,xs)=>
 bif decide (a<(h.length:Int)) then
 (gIdx f a).bind fun c=>
 (gIdx g c).bind fun e=>
 (gIdx xs a).bind fun i=>
 some (.inl (ε.wrap (a+1),(xs.set a.toNat e)))
 else
 some (.inr (xs))
def ZjU (a e:List Int):Option (List Int):=
 (gMake 8 (0:Int) (a.length:Int) (a.length:Int)).bind fun c=>
 loop (Zhg a e c) (0,c)
open Classical in
def Zgz (x0:List (List Int)) (e:(List Int)->(List Int)->Option Int):Option (List (List Int)):=if (∀ a∈x0,∀ c∈x0,e a c=some (lexC a c))/\x0.length<4611686018427387904 then some (sortRows x0) else none
def ZbF (k:List (List Int)) (g:Int):List (List Int)×Int×List (ByteArray×Bool)->Option ((List (List Int)×Int×List (ByteArray×Bool)) ⊕ ((List (List Int)×Int×List (ByteArray×Bool)) ⊕ ((List (List Int))×Bool)))
 | (elemen6_2,c,a)=>
 bif decide (c<(k.length:Int)) then
 (gIdx k c).bind fun h=>
 (gIdx elemen6_2 g).bind fun i=>
 (ZjU i h).bind fun e=>
 (ZfM e).bind fun f=>
 bif !(mpGet a f false) then
 (gApp 24 elemen6_2 [e]).bind fun j=>
 some (.inl (j,ε.wrap (c+1),(mpSet a f true)))
 else
 some (.inl (elemen6_2,ε.wrap (c+1),a))
 else
 bif decide (((elemen6_2.length:Int):Int)>720) then
 some (.inr (.inr ((([]:List (List Int)),false))))
 else
 some (.inr (.inl (elemen6_2,ε.wrap (g+1),a)))
def Zcj (g:List (List Int)):List (List Int)×Int×List (ByteArray×Bool)->Option ((List (List Int)×Int×List (ByteArray×Bool)) ⊕ ((List (List Int))×Bool))
 | (elemen6,a,mp)=>
 bif decide (a<(elemen6.length:Int)) then
 loop (ZbF g a) (elemen6,0,mp)
 else
 (Zgz elemen6 (fun e f=>Zao e f)).bind fun c=>
 some (.inr ((c,true)))
def Zey (h:Int) (g:List (List Int)):Option ((List (List Int))×Bool):=
 (Zhv h).bind fun a=>
 (gIdx ([a]) 0).bind fun c=>
 (ZfM c).bind fun e=>
 loop (Zcj g) ([a],0,(mpSet ([]:List (ByteArray×Bool)) e true))
def Zbq (x0:List (List Int)) (j:List Int) (e:(List Int)->(List Int)->Option Int):Int×Int->Option ((Int×Int) ⊕ (Int×Bool))
 | (a,c)=>
 bif decide (a<c) then
 (gNn 1).bind fun _=>
 (gIdx x0 (ε.wrap (Int.fdiv (IntKind.u64.wrap (ε.wrap (a+c))) (2^min (1:Int).toNat IntKind.u64.bits)))).bind fun f=>
 (e f j).bind fun g=>
 bif decide (g<0) then
 some (.inl (ε.wrap ((ε.wrap (Int.fdiv (IntKind.u64.wrap (ε.wrap (a+c))) (2^min (1:Int).toNat IntKind.u64.bits)))+1),c))
 else
 some (.inl (a,ε.wrap (Int.fdiv (IntKind.u64.wrap (ε.wrap (a+c))) (2^min (1:Int).toNat IntKind.u64.bits))))
 else
 bif decide (a<(x0.length:Int)) then
 (gIdx x0 a).bind fun h=>
 (e h j).bind fun i=>
 some (.inr ((a,i==0)))
 else
 some (.inr ((a,false)))
def Zc1 (x0:List (List Int)) (e:List Int) (a:(List Int)->(List Int)->Option Int):Option (Int×Bool):=
 loop (Zbq x0 e a) (0,(x0.length:Int))
def ZiP (g:Int) (h:List (List Int)) (e:Int) (f:List Int):Option ((List (List Int)×List (List Int)×Bool×Int) ⊕ ((List (List Int))×(List (List Int))×Bool)):=
 (gApp 24 h [f]).bind fun a=>
 (Zey g a).bind fun c=>
 some (.inl (a,c.1,c.2,ε.wrap (e+1)))
def ZaK (k:Int) (j:List (List Int)):List (List Int)×List (List Int)×Bool×Int->Option ((List (List Int)×List (List Int)×Bool×Int) ⊕ ((List (List Int))×(List (List Int))×Bool))
 | (genera7,a,e,c)=>
 bif decide (c<(j.length:Int)) then
 (gIdx j c).bind fun f=>
 (Zc1 a f (fun h i=>Zao h i)).bind fun g=>
 bif g.2 then
 some (.inl (genera7,a,e,ε.wrap (c+1)))
 else
 bif !e then
 some (.inl (genera7,a,e,ε.wrap (c+1)))
 else
 ZiP k genera7 c f
 else
 some (.inr ((genera7,a,e)))
def Zj6 (e:Int) (g:List (List Int)):Option ((List (List Int))×(List (List Int))×Bool):=
 (Zey e ([]:List (List Int))).bind fun a=>
 loop (ZaK e g) (([]:List (List Int)),a.1,a.2,0)
def ZeQ (a:ZaJ):Int->Option ((Int) ⊕ (Bool))
 | c=>
 bif decide (c<(a.Elements.length:Int)) then
 (gIdx a.Elements (ε.wrap (c-1))).bind fun f=>
 (gIdx a.Elements c).bind fun g=>
 (Zao f g).bind fun h=>
 bif decide (h>=0) then
 some (.inr (false))
 else
 some (.inl (ε.wrap (c+1)))
 else
 (Zj6 a.Degree a.Elements).bind fun e=>
 bif e.2.2 then
 some (.inr (((e.2.1.length:Int):Int)==(a.Elements.length:Int)))
 else
 some (.inr (false))
def Zk6 (a:ZaJ):Option (Bool):=
 loop (ZeQ a) (1)
def ZhG (a:ZaJ):Option Bool:=
 (Z8 a.Degree 1 32).bind fun e=>
 bif !e then
 some (false)
 else
 bif decide (((a.Elements.length:Int):Int)<1) then
 some (false)
 else
 bif decide (((a.Elements.length:Int):Int)>720) then
 some (false)
 else
 (ZgX a.Degree a.Elements).bind fun c=>
 bif !c then
 some (false)
 else
 Zk6 a
def ZkZ (a:Zg):Option ZaJ:=
 (Zb8 a.Rows).bind fun c=>
 some ((ZaJ.mk a.Size c))
def ZbL (a:Zg):Option Bool:=
 bif a.Kind==1 then
 (Z7 a.Rows).bind fun c=>
 bif c==a.Size then
 (ZfE a.Rows).bind fun e=>
 some (e)
 else
 some (false)
 else
 bif a.Kind==2 then
 (Zgi (Zg.mk a.Kind a.Size a.Rows)).bind fun f=>
 (Zgf f).bind fun g=>
 some (g)
 else
 bif a.Kind==3 then
 (Z7 a.Rows).bind fun h=>
 bif h==a.Size then
 (ZjP a.Rows).bind fun i=>
 some (i)
 else
 some (false)
 else
 bif a.Kind==4 then
 bif decide (((a.Rows.length:Int):Int)>0) then
 (ZlS (Zg.mk a.Kind a.Size a.Rows)).bind fun j=>
 (ZjF j).bind fun k=>
 some (k)
 else
 some (false)
 else
 bif a.Kind==5 then
 (ZcG (Zg.mk a.Kind a.Size a.Rows)).bind fun l=>
 (Zc7 l).bind fun o=>
 some (o)
 else
 bif a.Kind==6 then
 (Zg3 (Zg.mk a.Kind a.Size a.Rows)).bind fun p=>
 some (p.2)
 else
 bif a.Kind==7 then
 (ZkZ (Zg.mk a.Kind a.Size a.Rows)).bind fun r=>
 (ZhG r).bind fun s=>
 some (s)
 else
 some (false)
def Za4 (a:Int) (e g:Bool):Option ((Int) ⊕ (Bool)):=
 bif !e then
 bif a==0 then
 some (.inr (false))
 else
 bif !g then
 some (.inr (false))
 else
 some (.inl (ε.wrap (a+1)))
 else
 some (.inl (ε.wrap (a+1)))
def Zbd (a c:Int) (e:Bool):Option ((Int) ⊕ (Bool)):=
 bif decide (c>=48) then
 Za4 a e (decide (c<=57))
 else
 Za4 a e false
def Zbh (e:ByteArray):Int->Option ((Int) ⊕ (Bool))
 | a=>
 bif decide (a<((byts e).length:Int)) then
 (gIdx (byts e) a).bind fun c=>
 bif decide (c>=97) then
 Zbd a c (decide (c<=122))
 else
 Zbd a c false
 else
 some (.inr (true))
def ZlR (a:ByteArray):Option (Bool):=
 loop (Zbh a) (0)
def ZiT (a:ByteArray):Option Bool:=
 bif decide (((a.size:Int):Int)<1) then
 some (false)
 else
 bif decide (((a.size:Int):Int)>10) then
 some (false)
 else
 ZlR a
def ZjN (x0:Ze):Option Bool:=
 (ZiT x0.Name).bind fun a=>
 bif a then
 (ZbL (Zg.mk x0.Object.Kind x0.Object.Size x0.Object.Rows)).bind fun c=>
 bif c then
 bif decide (((x0.Key.size:Int):Int)>=1) then
 some (decide (((x0.Key.size:Int):Int)<=4000))
 else
 some (false)
 else
 some (false)
 else
 some (false)
def Zb6 (e:ZL):Int->Option ((Int) ⊕ (Bool))
 | c=>
 bif decide (c<(e.Items.length:Int)) then
 (gIdx e.Items c).bind fun a=>
 (ZjN (Ze.mk a.Name (Zg.mk a.Object.Kind a.Object.Size a.Object.Rows) a.Key)).bind fun i=>
 bif !i then
 some (.inr (false))
 else
 bif decide (c>0) then
 (gIdx e.Items (ε.wrap (c-1))).bind fun h=>
 bif Op.bytesLess (a.Name.toList) (h.Name.toList)||a.Name.toList==h.Name.toList then
 some (.inr (false))
 else
 (gSl e.Items 0 c).bind fun j=>
 (Zcs j (Ze.mk a.Name (Zg.mk a.Object.Kind a.Object.Size a.Object.Rows) a.Key)).bind fun k=>
 bif decide (k>=0) then
 some (.inr (false))
 else
 some (.inl (ε.wrap (c+1)))
 else
 (gSl e.Items 0 c).bind fun f=>
 (Zcs f (Ze.mk a.Name (Zg.mk a.Object.Kind a.Object.Size a.Object.Rows) a.Key)).bind fun g=>
 bif decide (g>=0) then
 some (.inr (false))
 else
 some (.inl (ε.wrap (c+1)))
 else
 some (.inr (decide (((e.Items.length:Int):Int)<=24)))
def Zi2 (a:ZL):Option Bool:=
 loop (Zb6 a) (0)
def Zf6 (n0:Int):Option Bool:=
 (Z8 n0 1 20000).bind fun a=>
 some (a)
open Classical in
def ZjS (x0:List Zb) (e:Zb->Zb->Option Int):Option (List Zb):=if (∃ g:Zb->Zb->Int,(∀ a c,e a c=some (g a c))/\CmpOk g)/\x0.length<4611686018427387904 then some (sortC (fun a c=>(e a c).getD 0) x0) else none
def ZiZ (x0:List Zb):Option (List Zb):=if x0.length<4611686018427387904 then cptL (fun (a b:Zb)=>some (a.A==b.A&&a.B==b.B)) x0 else none
def ZfP (k:List Zb):List Zb×Int->Option ((List Zb×Int) ⊕ (List Zb))
 | (c,e)=>
 bif decide (e<(k.length:Int)) then
 (gIdx k e).bind fun a=>
 (gApp 16 c [(Zb.mk (if a.B<a.A then a.B else a.A) (if a.B>a.A then a.B else a.A))]).bind fun f=>
 some (.inl (f,ε.wrap (e+1)))
 else
 (ZjS c (fun i j=>Zbb i j)).bind fun g=>
 (ZiZ g).bind fun h=>
 some (.inr (h))
def ZfW (a:List Zb):Option (List Zb):=
 loop (ZfP a) (([]:List Zb),0)
def Zmj (e:List Int) (g:List Zb):Option (Za×Int):=
 (ZfW g).bind fun a=>
 some (((Za.mk e a),0))
def Zhh (a:List Int) (e:List Zb):Option (Za×Int):=
 bif decide (((a.length:Int):Int)>64) then
 some (((Za.mk ([]:List Int) ([]:List Zb)),5))
 else
 bif decide (((e.length:Int):Int)>512) then
 some (((Za.mk ([]:List Int) ([]:List Zb)),5))
 else
 Zmj a e
def Zfn (e:List Int) (a f:Int):Option ((List Int×Int) ⊕ (Za×Int)):=
 (gApp 8 e [f]).bind fun c=>
 some (.inl (c,ε.wrap (a+1)))
def ZdN (j:List (List Int)) (a e:Int):List Zb×Int->Option ((List Zb×Int) ⊕ ((List Zb×Int) ⊕ ((List Int×Int) ⊕ (Za×Int))))
 | (f,c)=>
 bif decide (c<a) then
 (gIdx j e).bind fun g=>
 (gIdx g c).bind fun h=>
 (gApp 16 f ([(Zb.mk e (ε.wrap ((ε.wrap ((ε.wrap (3*a))+(ε.wrap (a*e))))+c))),(Zb.mk (ε.wrap (a+c)) (ε.wrap ((ε.wrap ((ε.wrap (3*a))+(ε.wrap (a*e))))+c))),(Zb.mk (ε.wrap ((ε.wrap (2*a))+h)) (ε.wrap ((ε.wrap ((ε.wrap (3*a))+(ε.wrap (a*e))))+c)))]:List Zb)).bind fun i=>
 some (.inl (i,ε.wrap (c+1)))
 else
 some (.inr (.inl (f,ε.wrap (e+1))))
def Zd7 (g:List (List Int)) (c:Int) (h:List Int):List Zb×Int->Option ((List Zb×Int) ⊕ ((List Int×Int) ⊕ (Za×Int)))
 | (e,f)=>
 bif decide (f<c) then
 loop (ZdN g c f) (e,0)
 else
 (Zhh h e).bind fun a=>
 some (.inr (.inr (((Za.mk a.1.Colors a.1.Edges),a.2))))
def Zc2 (f:List (List Int)) (g:Bool) (a:Int):List Int×Int->Option ((List Int×Int) ⊕ (Za×Int))
 | (e,c)=>
 bif decide (c<(ε.wrap ((ε.wrap (3*a))+(ε.wrap (a*a))))) then
 (gNz a).bind fun _=>
 bif g then
 bif decide (c<(ε.wrap (3*a))) then
 Zfn e c 0
 else
 Zfn e c (if (3:Int)<(ε.wrap (Int.tdiv c a)) then 3 else ε.wrap (Int.tdiv c a))
 else
 Zfn e c (if (3:Int)<(ε.wrap (Int.tdiv c a)) then 3 else ε.wrap (Int.tdiv c a))
 else
 loop (Zd7 f a e) (([]:List Zb),0)
def ZeD (c:List (List Int)) (f:Bool):Option (Za×Int):=
 (ZfE c).bind fun e=>
 bif !e then
 some (((Za.mk ([]:List Int) ([]:List Zb)),1))
 else
 (Z7 c).bind fun a=>
 bif decide (a>6) then
 some (((Za.mk ([]:List Int) ([]:List Zb)),5))
 else
 loop (Zc2 c f a) (([]:List Int),0)
def Zf1 (e a:Int):Int×List Int->Option ((Int×List Int) ⊕ (List Int))
 | (k6,xs)=>
 bif decide (k6<(ε.wrap (e+a))) then
 (gIdx xs k6).bind fun c=>
 some (.inl (ε.wrap (k6+1),(xs.set k6.toNat 1)))
 else
 some (.inr (xs))
def Zke (e a:Int):Option (List Int):=
 (gMake 8 (0:Int) (ε.wrap (e+a)) (ε.wrap (e+a))).bind fun c=>
 loop (Zf1 e a) (e,c)
def Zex (j e:Int) (f:List Int):List Zb×Int->Option ((List Zb×Int) ⊕ ((List Zb×Int) ⊕ (Za×Int)))
 | (a,c)=>
 bif decide (c<(f.length:Int)) then
 (gIdx f c).bind fun g=>
 (gApp 16 a [(Zb.mk g (ε.wrap (j+e)))]).bind fun h=>
 some (.inl (h,ε.wrap (c+1)))
 else
 some (.inr (.inl (a,ε.wrap (e+1))))
def ZgP (j:Int) (a:List (List Int)):List Zb×Int->Option ((List Zb×Int) ⊕ (Za×Int))
 | (edges6,c)=>
 bif decide (c<(a.length:Int)) then
 (gIdx a c).bind fun f=>
 loop (Zex j c f) (edges6,0)
 else
 (Z7 a).bind fun g=>
 (Zke j g).bind fun h=>
 (Zhh h edges6).bind fun e=>
 some (.inr (((Za.mk e.1.Colors e.1.Edges),e.2)))
def Zho (e:Int) (a:List (List Int)):Option (Za×Int):=
 loop (ZgP e a) (([]:List Zb),0)
def Zlb (c:Zaf):Option (Za×Int):=
 (Zgf (Zaf.mk c.Points c.Blocks)).bind fun e=>
 bif !e then
 some (((Za.mk ([]:List Int) ([]:List Zb)),1))
 else
 (Zho c.Points c.Blocks).bind fun a=>
 some (((Za.mk a.1.Colors a.1.Edges),a.2))
def ZdV (c:Z5) (e:List (List Int)) (j:List Int):Int×List Int->Option ((Int×List Int) ⊕ (List Int))
 | (a,xs)=>
 bif decide (a<(j.length:Int)) then
 (gIdx j a).bind fun f=>
 (gIdx e a).bind fun g=>
 (ZbJ (Z5.mk c.qq c.qadd c.qsub c.qmul c.qinv) xs g f).bind fun h=>
 some (.inl (ε.wrap (a+1),h))
 else
 some (.inr (xs))
def Zkd (f:Z5) (a:List (List Int)) (g:List Int):Option (List Int):=
 (gIdx a 0).bind fun c=>
 (gMake 8 (0:Int) (c.length:Int) (c.length:Int)).bind fun e=>
 loop (ZdV f a g) (0,e)
def Zhb:Int×Int×List Int->Option ((Int×Int×List Int) ⊕ (List Int))
 | (a,c,xs)=>
 bif decide (a<c) then
 (gIdx xs c).bind fun e=>
 (gIdx xs a).bind fun f=>
 (gIdx xs a).bind fun g=>
 (gIdx (xs.set a.toNat e) c).bind fun h=>
 some (.inl (ε.wrap (a+1),ε.wrap (c-1),((xs.set a.toNat e).set c.toNat f)))
 else
 some (.inr (xs))
def ZiI (a:List Int):Option (List Int):=
 loop (Zhb) (0,ε.wrap ((a.length:Int)-1),a)
def ZhT (n0 a g:Int):Option (List Int):=
 (ZaR n0 a g).bind fun c=>
 (ZiI c).bind fun e=>
 some (e)
def ZeM (j:Z1) (a:Z5) (e f:Int):List (List Int)×Int->Option ((List (List Int)×Int) ⊕ (List (List Int)))
 | (words5,c)=>
 bif decide (c<f) then
 (ZhT c a.qq e).bind fun g=>
 (Zkd (Z5.mk a.qq a.qadd a.qsub a.qmul a.qinv) j.Rows g).bind fun h=>
 (gApp 24 words5 [h]).bind fun i=>
 some (.inl (i,ε.wrap (c+1)))
 else
 some (.inr (words5))
def ZjC (a:Z1):Option (List (List Int)):=
 (Zhq (Zd.mk a.Field.Prime a.Field.Degree a.Field.Poly)).bind fun e=>
 (Z7 a.Rows).bind fun c=>
 (Za6 e.qq c 4096).bind fun f=>
 loop (ZeM a e c f) (([]:List (List Int)),0)
def Zeu (a:List Int):List Int×Int->Option ((List Int×Int) ⊕ (List Int))
 | (suppor3,c)=>
 bif decide (c<(a.length:Int)) then
 (gIdx a c).bind fun e=>
 bif e !=0 then
 (gApp 8 suppor3 [c]).bind fun f=>
 some (.inl (f,ε.wrap (c+1)))
 else
 some (.inl (suppor3,ε.wrap (c+1)))
 else
 some (.inr (suppor3))
def Zid (a:List Int):Option (List Int):=
 loop (Zeu a) (([]:List Int),0)
def Zld (a:Z1):Option Int:=
 (gIdx a.Rows 0).bind fun c=>
 (ZV c).bind fun e=>
 some (e)
def ZdM (e:Z1) (f:List (List Int)):List (List Int)×Int->Option ((List (List Int)×Int) ⊕ (Za×Int))
 | (suppor4,a)=>
 bif decide (a<(f.length:Int)) then
 (gIdx f a).bind fun g=>
 (Zid g).bind fun h=>
 (gApp 24 suppor4 [h]).bind fun i=>
 some (.inl (i,ε.wrap (a+1)))
 else
 (Zld (Z1.mk (Zd.mk e.Field.Prime e.Field.Degree e.Field.Poly) e.Rows)).bind fun j=>
 (Zho j suppor4).bind fun c=>
 some (.inr (((Za.mk c.1.Colors c.1.Edges),c.2)))
def Zfi (a:Z1):Option (Za×Int):=
 (Zc7 (Z1.mk (Zd.mk a.Field.Prime a.Field.Degree a.Field.Poly) a.Rows)).bind fun r8=>
 bif !r8 then
 some (((Za.mk ([]:List Int) ([]:List Zb)),1))
 else
 (Za5 (Zd.mk a.Field.Prime a.Field.Degree a.Field.Poly)).bind fun e=>
 bif e !=2 then
 some (((Za.mk ([]:List Int) ([]:List Zb)),6))
 else
 (ZjC (Z1.mk (Zd.mk a.Field.Prime a.Field.Degree a.Field.Poly) a.Rows)).bind fun c=>
 (gSl c 1 (c.length:Int)).bind fun f=>
 loop (ZdM a f) (([]:List (List Int)),0)
def ZkQ (a:Zg) (c:Int):Option Int:=
 (ZbL (Zg.mk a.Kind a.Size a.Rows)).bind fun e=>
 bif !e then
 some (1)
 else
 bif a.Kind !=c then
 some (6)
 else
 some (0)
def Zmr (a:Zg):Option (Za×Int):=
 (ZkQ (Zg.mk a.Kind a.Size a.Rows) 6).bind fun r8=>
 bif r8 !=0 then
 some (((Za.mk ([]:List Int) ([]:List Zb)),r8))
 else
 (Zg3 (Zg.mk a.Kind a.Size a.Rows)).bind fun c=>
 some (((Za.mk c.1.Colors c.1.Edges),0))
def Zce (a:Zg):Option (Za×Int):=
 bif a.Kind==1 then
 (ZeD a.Rows false).bind fun c=>
 some (((Za.mk c.1.Colors c.1.Edges),c.2))
 else
 bif a.Kind==2 then
 (Zgi (Zg.mk a.Kind a.Size a.Rows)).bind fun h=>
 (Zlb h).bind fun e=>
 some (((Za.mk e.1.Colors e.1.Edges),e.2))
 else
 bif a.Kind==5 then
 (ZcG (Zg.mk a.Kind a.Size a.Rows)).bind fun i=>
 (Zfi i).bind fun f=>
 some (((Za.mk f.1.Colors f.1.Edges),f.2))
 else
 bif a.Kind==6 then
 (Zmr (Zg.mk a.Kind a.Size a.Rows)).bind fun g=>
 some (((Za.mk g.1.Colors g.1.Edges),g.2))
 else
 some (((Za.mk ([]:List Int) ([]:List Zb)),6))
def Ze9 (xs:List (List Int)):Int×List (List Int)->Option ((Int×List (List Int)) ⊕ ((Int×List (List Int)) ⊕ (List (List Int))))
 | (c,a)=>
 bif decide (c<(xs.length:Int)) then
 (gIdx a c).bind fun e=>
 (ZdI e).bind fun f=>
 some (.inl (ε.wrap (c+1),(a.set c.toNat f)))
 else
 some (.inr (.inr (a)))
def Zf9 (f:Za):Int×List (List Int)->Option ((Int×List (List Int)) ⊕ (List (List Int)))
 | (c,xs)=>
 bif decide (c<(f.Edges.length:Int)) then
 (gIdx f.Edges c).bind fun a=>
 (gIdx xs a.A).bind fun g=>
 (gApp 8 g [a.B]).bind fun e=>
 (gIdx (xs.set a.A.toNat e) a.B).bind fun h=>
 (gApp 8 h [a.A]).bind fun i=>
 some (.inl (ε.wrap (c+1),((xs.set a.A.toNat e).set a.B.toNat i)))
 else
 loop (Ze9 xs) (0,xs)
def Zkb (a:Za):Option (List (List Int)):=
 (gMake 24 ([]:List Int) (a.Colors.length:Int) (a.Colors.length:Int)).bind fun c=>
 loop (Zf9 a) (0,c)
def ZjZ (a:List (List Int)):Option (List (List Int)):=gApp 24 [] a
def ZiF (x0:List (List Int)) (a:(List Int)->(List Int)->Option Bool):Option (List (List Int)):=if x0.length<4611686018427387904 then cptL a x0 else none
def Ze7 (o:List Int) (a:Int) (xs:List (List Int)) (f:Int) (e:List Int):List Int×Int->Option ((List Int×Int) ⊕ ((Int×List (List Int)) ⊕ (List Int)))
 | (g,c)=>
 bif decide (c<(e.length:Int)) then
 (gIdx e c).bind fun h=>
 (gIdx o h).bind fun i=>
 (gApp 8 g [i]).bind fun j=>
 some (.inl (j,ε.wrap (c+1)))
 else
 (ZdI g).bind fun k=>
 (gApp 8 ([f]:List Int) k).bind fun l=>
 (gIdx xs a).bind fun p=>
 some (.inr (.inl (ε.wrap (a+1),(xs.set a.toNat l))))
def Zec (e:List (List Int)) (f:List Int) (xs g:List (List Int)):Int×List Int->Option ((Int×List Int) ⊕ ((Int×List (List Int)) ⊕ (List Int)))
 | (a,c)=>
 bif decide (a<(xs.length:Int)) then
 (gIdx xs a).bind fun h=>
 (Zc1 g h (fun e f=>Zao e f)).bind fun i=>
 (gIdx c a).bind fun j=>
 some (.inl (ε.wrap (a+1),(c.set a.toNat i.1)))
 else
 some (.inr (.inr (c)))
def Zgr (e:List (List Int)) (a:List Int):Int×List (List Int)->Option ((Int×List (List Int)) ⊕ (List Int))
 | (c,xs)=>
 bif decide (c<(a.length:Int)) then
 (gIdx a c).bind fun f=>
 (gIdx e c).bind fun g=>
 loop (Ze7 a c xs f g) (([]:List Int),0)
 else
 (ZjZ xs).bind fun h=>
 (Zgz h (fun e a=>Zao e a)).bind fun i=>
 (ZiF i (fun e a=>Zcb e a)).bind fun j=>
 (gMake 8 (0:Int) (a.length:Int) (a.length:Int)).bind fun k=>
 loop (Zec e a xs j) (0,k)
def Zj0 (e:List (List Int)) (a:List Int):Option (List Int):=
 (gMake 24 ([]:List Int) (a.length:Int) (a.length:Int)).bind fun c=>
 loop (Zgr e a) (0,c)
def ZkC (x0:List Int):Option (List Int):=if x0.length<4611686018427387904 then cptL (fun (a b:Int)=>some (a==b)) x0 else none
def Zhl (g:List Int):Option Int:=
 (Zb2 g).bind fun a=>
 (ZdI a).bind fun c=>
 (ZkC c).bind fun e=>
 some ((e.length:Int))
def ZdK (g:List (List Int)):List Int->Option ((List Int) ⊕ (List Int))
 | a=>
 (Zj0 g a).bind fun r8=>
 (Zhl r8).bind fun c=>
 (Zhl a).bind fun e=>
 bif c==e then
 some (.inr (r8))
 else
 some (.inl (r8))
def Zih (a:List (List Int)) (e:List Int):Option (List Int):=
 loop (ZdK a) (e)
def Zb5 (g:List Int) (c:Int):List Int×Int->Option ((List Int×Int) ⊕ ((Int) ⊕ (List Int)))
 | (vertic4,a)=>
 bif decide (a<(g.length:Int)) then
 (gIdx g a).bind fun e=>
 bif e==c then
 (gApp 8 vertic4 [a]).bind fun f=>
 some (.inl (f,ε.wrap (a+1)))
 else
 some (.inl (vertic4,ε.wrap (a+1)))
 else
 bif decide (((vertic4.length:Int):Int)>1) then
 some (.inr (.inr (vertic4)))
 else
 some (.inr (.inl (ε.wrap (c+1))))
def Zf0 (e:List Int):Int->Option ((Int) ⊕ (List Int))
 | a=>
 bif decide (a<(e.length:Int)) then
 loop (Zb5 e a) (([]:List Int),0)
 else
 some (.inr (([]:List Int)))
def Zj8 (a:List Int):Option (List Int):=
 loop (Zf0 a) (0)
def ZeK (f:Za) (p1 xs:List Int):Int×List Zb->Option ((Int×List Zb) ⊕ ((Int×List Int) ⊕ (Za)))
 | (a,c)=>
 bif decide (a<(f.Edges.length:Int)) then
 (gIdx f.Edges a).bind fun e=>
 (gIdx p1 e.A).bind fun g=>
 (gIdx p1 e.B).bind fun h=>
 (gApp 16 c [(Zb.mk g h)]).bind fun i=>
 some (.inl (ε.wrap (a+1),i))
 else
 (ZfW c).bind fun j=>
 some (.inr (.inr ((Za.mk xs j))))
def ZgN (e:Za) (p1:List Int):Int×List Int->Option ((Int×List Int) ⊕ (Za))
 | (a,xs)=>
 bif decide (a<(e.Colors.length:Int)) then
 (gIdx e.Colors a).bind fun f=>
 (gIdx p1 a).bind fun c=>
 (gIdx xs c).bind fun g=>
 some (.inl (ε.wrap (a+1),(xs.set c.toNat f)))
 else
 loop (ZeK e p1 xs) (0,([]:List Zb))
def ZfO (a:Za) (p1:List Int):Option Za:=
 (gMake 8 (0:Int) (a.Colors.length:Int) (a.Colors.length:Int)).bind fun c=>
 loop (ZgN a p1) (0,c)
def Zfl (g:List Zb):List Int×Int->Option ((List Int×Int) ⊕ (List Int))
 | (a,e)=>
 bif decide (e<(g.length:Int)) then
 (gIdx g e).bind fun c=>
 (gApp 8 a ([c.A,c.B]:List Int)).bind fun f=>
 some (.inl (f,ε.wrap (e+1)))
 else
 some (.inr (a))
def ZfI (a:List Zb):Option (List Int):=
 loop (Zfl a) (([]:List Int),0)
def Zg1 (c h1:Za):Option Int:=
 (Zao c.Colors h1.Colors).bind fun a=>
 bif a !=0 then
 some (a)
 else
 (ZfI c.Edges).bind fun e=>
 (ZfI h1.Edges).bind fun f=>
 (Zao e f).bind fun g=>
 some (g)
def Zc6 (x0:Zv) (p1:List Int) (f:Int) (xs:List Int) (a:List Zb) (c:List (List Int)):Option (Zv):=
 bif decide (f<=0) then
 (gApp 24 c [p1]).bind fun e=>
 some ((Zv.mk (Zae.mk x0.qcounter.qleft x0.qcounter.qspent) (Za.mk x0.qgraph.Colors x0.qgraph.Edges) x0.qlists x0.qnodes (ε.wrap (x0.qleaves+1)) (Za.mk xs a) e))
 else
 some ((Zv.mk (Zae.mk x0.qcounter.qleft x0.qcounter.qspent) (Za.mk x0.qgraph.Colors x0.qgraph.Edges) x0.qlists x0.qnodes (ε.wrap (x0.qleaves+1)) (Za.mk xs a) c))
def Zdw (x0:Zv) (p1:List Int) (a:Za) (c:Int):Option (Zv):=
 bif decide (c<0) then
 Zc6 x0 p1 c a.Colors a.Edges ([]:List (List Int))
 else
 Zc6 x0 p1 c x0.qform.Colors x0.qform.Edges x0.qbest
def Zfc (x0:Zv) (p1:List Int):Option Zv:=
 (ZfO (Za.mk x0.qgraph.Colors x0.qgraph.Edges) p1).bind fun a=>
 bif decide (((x0.qbest.length:Int):Int)>0) then
 (Zg1 (Za.mk a.Colors a.Edges) (Za.mk x0.qform.Colors x0.qform.Edges)).bind fun c=>
 Zdw x0 p1 a c
 else
 Zdw x0 p1 a (-1)
def ZhI (a:Zae):Option (Bool×Zae):=
 bif (a.qleft:Int)==0 then
 some ((false,(Zae.mk a.qleft true)))
 else
 some ((true,(Zae.mk (ε.wrap (a.qleft-1)) a.qspent)))
def ZeB (y:Zv->(List Int)->Option Zv) (g:Zv) (j:List Int) (k l o:Int) (xs:List Int) (h:List Zb) (i:List (List Int)) (f p:Int) (r:Bool):Int×List Int->Option ((Int×List Int) ⊕ ((Int×Int×Bool×Int×Int×List Int×List Zb×List (List Int)) ⊕ (Zv)))
 | (e,a)=>
 bif decide (e<(j.length:Int)) then
 (gIdx j e).bind fun s=>
 (gIdx a e).bind fun w=>
 some (.inl (ε.wrap (e+1),(a.set e.toNat (ε.wrap ((ε.wrap (2*s))+1)))))
 else
 (gIdx a f).bind fun u=>
 (gIdx a f).bind fun x=>
 (Zih g.qlists (a.set f.toNat (ε.wrap (u-1)))).bind fun v=>
 (y (Zv.mk (Zae.mk p r) (Za.mk g.qgraph.Colors g.qgraph.Edges) g.qlists (ε.wrap (l+1)) o (Za.mk xs h) i) v).bind fun c=>
 some (.inr (.inl (ε.wrap (k+1),c.qcounter.qleft,c.qcounter.qspent,c.qnodes,c.qleaves,c.qform.Colors,c.qform.Edges,c.qbest)))
def Zmn (r:Zv->(List Int)->Option Zv) (o:Zv) (a:List Int) (f g h:Int) (xs:List Int) (c:List Zb) (e:List (List Int)) (i j:Int) (k:Bool):Option ((Int×Int×Bool×Int×Int×List Int×List Zb×List (List Int)) ⊕ (Zv)):=
 (gMake 8 (0:Int) (a.length:Int) (a.length:Int)).bind fun l=>
 loop (ZeB r o a f g h xs c e i j k) (0,l)
def Zcv (r:Zv->(List Int)->Option Zv) (a:Zv) (o k:List Int):Int×Int×Bool×Int×Int×List Int×List Zb×List (List Int)->Option ((Int×Int×Bool×Int×Int×List Int×List Zb×List (List Int)) ⊕ (Zv))
 | (j,q,g,h,i,xs,c,e)=>
 bif decide (j<(k.length:Int)) then
 (gIdx k j).bind fun l=>
 bif g then
 some (.inr ((Zv.mk (Zae.mk q g) (Za.mk a.qgraph.Colors a.qgraph.Edges) a.qlists h i (Za.mk xs c) e)))
 else
 (ZhI (Zae.mk q g)).bind fun f=>
 bif !f.1 then
 some (.inr ((Zv.mk (Zae.mk f.2.qleft f.2.qspent) (Za.mk a.qgraph.Colors a.qgraph.Edges) a.qlists h i (Za.mk xs c) e)))
 else
 Zmn r a o j h i xs c e l f.2.qleft f.2.qspent
 else
 some (.inr ((Zv.mk (Zae.mk q g) (Za.mk a.qgraph.Colors a.qgraph.Edges) a.qlists h i (Za.mk xs c) e)))
def q_impl_explorer_search (g:Zv->(List Int)->Option Zv) (a:Zv) (f:List Int):Option Zv:=
 (Zj8 f).bind fun e=>
 bif ((e.length:Int):Int)==0 then
 (Zfc (Zv.mk (Zae.mk a.qcounter.qleft a.qcounter.qspent) (Za.mk a.qgraph.Colors a.qgraph.Edges) a.qlists a.qnodes a.qleaves (Za.mk a.qform.Colors a.qform.Edges) a.qbest) f).bind fun c=>
 some ((Zv.mk (Zae.mk c.qcounter.qleft c.qcounter.qspent) (Za.mk a.qgraph.Colors a.qgraph.Edges) a.qlists c.qnodes c.qleaves (Za.mk c.qform.Colors c.qform.Edges) c.qbest))
 else
 loop (Zcv g a f e) (0,a.qcounter.qleft,a.qcounter.qspent,a.qnodes,a.qleaves,a.qform.Colors,a.qform.Edges,a.qbest)
def pn_impl_explorer_search:Nat->(Zv->(List Int)->Option Zv)
 | 0=>(fun _ _=>none)
 | n+1=>q_impl_explorer_search (pn_impl_explorer_search n)
def Zo4:Zv->(List Int)->Option Zv:=(pn_impl_explorer_search fuel)
def Zje (c:Za) (h:Int):Option ((Option Zv)×Int):=
 (Zd3 (Za.mk c.Colors c.Edges)).bind fun r8=>
 bif !r8 then
 some ((none,1))
 else
 (Zf6 h).bind fun f=>
 bif !f then
 some ((none,2))
 else
 (Zkb (Za.mk c.Colors c.Edges)).bind fun e=>
 (Zih e c.Colors).bind fun g=>
 (Zo4 (Zv.mk (Zae.mk h false) (Za.mk c.Colors c.Edges) e 0 0 (Za.mk ([]:List Int) ([]:List Zb)) ([]:List (List Int))) g).bind fun a=>
 bif a.qcounter.qspent then
 some ((none,5))
 else
 some (((some (Zv.mk (Zae.mk a.qcounter.qleft a.qcounter.qspent) (Za.mk c.Colors c.Edges) e a.qnodes a.qleaves (Za.mk a.qform.Colors a.qform.Edges) a.qbest)),0))
def Zh8 (e:Za) (h:Int):Option (Za×(List Int)×Int):=
 (Zje (Za.mk e.Colors e.Edges) h).bind fun f=>
 (match f with
 | (none,a)=>
 bif a !=0 then
 some ((Za.mk ([]:List Int) ([]:List Zb),([]:List Int),a))
 else
 none
 | (some c,a)=>
 bif a !=0 then
 some ((Za.mk ([]:List Int) ([]:List Zb),([]:List Int),a))
 else
 (gIdx c.qbest 0).bind fun g=>
 some ((c.qform,g,0))
 )
def Zlo (c a:Int):Option ByteArray:=if a=10/\-9223372036854775808<=c/\c<=9223372036854775807 then some (itoaB c) else none
def Zfe (n0:Int):Option ByteArray:=
 (Zlo n0 10).bind fun a=>
 some (a)
def ZgH (x0:List ByteArray) (s1:ByteArray):Option ByteArray:=if x0.length<=140737488355328/\(joinB x0 s1).size<=140737488355328 then some (joinB x0 s1) else none
def Zez (n0:Int):Option Bool:=
 (Z8 n0 (-999999999) 999999999).bind fun a=>
 some (!a)
def Zeg (a:List Int):List ByteArray×Int->Option ((List ByteArray×Int) ⊕ (ByteArray))
 | (words3,c)=>
 bif decide (c<(a.length:Int)) then
 (gIdx a c).bind fun e=>
 (Zfe e).bind fun f=>
 (gApp 16 words3 [f]).bind fun g=>
 some (.inl (g,ε.wrap (c+1)))
 else
 (ZgH words3 ⟨#[44]⟩).bind fun h=>
 some (.inr (h))
def Zkl (a:List Int):Option (ByteArray):=
 bif ((a.length:Int):Int)==0 then
 some (⟨#[45]⟩)
 else
 loop (Zeg a) (([]:List ByteArray),0)
def Zkg (a:List Int):Option ByteArray:=
 bif decide (((a.length:Int):Int)>100) then
 some (⟨#[]⟩)
 else
 (ZaV a (fun e=>Zez e)).bind fun c=>
 bif c then
 some (⟨#[]⟩)
 else
 Zkl a
def Zd0 (i:Za):List ByteArray×Int->Option ((List ByteArray×Int) ⊕ (ByteArray))
 | (words3,a)=>
 bif decide (a<(i.Edges.length:Int)) then
 (gIdx i.Edges a).bind fun f=>
 (Zfe f.A).bind fun c=>
 (Zfe f.B).bind fun g=>
 (gFit c (⟨#[45]⟩:ByteArray)).bind fun _=>
 (gFit (c++(⟨#[45]⟩:ByteArray):ByteArray) g).bind fun _=>
 (gApp 16 words3 [(c++(⟨#[45]⟩:ByteArray):ByteArray)++g]).bind fun j=>
 some (.inl (j,ε.wrap (a+1)))
 else
 (Zkg i.Colors).bind fun e=>
 (gFit e (⟨#[59]⟩:ByteArray)).bind fun _=>
 (ZgH words3 ⟨#[44]⟩).bind fun h=>
 (gFit (e++(⟨#[59]⟩:ByteArray):ByteArray) h).bind fun _=>
 some (.inr ((e++(⟨#[59]⟩:ByteArray):ByteArray)++h))
def Ziy (a:Za):Option ByteArray:=
 (Zd3 (Za.mk a.Colors a.Edges)).bind fun c=>
 bif !c then
 some (⟨#[]⟩)
 else
 loop (Zd0 a) (([]:List ByteArray),0)
def Zee (c:Za) (g:Int):Option (ByteArray×Int):=
 (Zh8 (Za.mk c.Colors c.Edges) g).bind fun a=>
 bif a.2.2 !=0 then
 some ((⟨#[]⟩,a.2.2))
 else
 (Ziy (Za.mk a.1.Colors a.1.Edges)).bind fun e=>
 some ((e,0))
def ZhE (c:Zg) (h:Int):Option (ByteArray×Int):=
 (ZbL (Zg.mk c.Kind c.Size c.Rows)).bind fun g=>
 bif !g then
 some ((⟨#[]⟩,1))
 else
 (Zf6 h).bind fun f=>
 bif !f then
 some ((⟨#[]⟩,2))
 else
 (Zce (Zg.mk c.Kind c.Size c.Rows)).bind fun a=>
 bif a.2 !=0 then
 some ((⟨#[]⟩,a.2))
 else
 (Zee (Za.mk a.1.Colors a.1.Edges) h).bind fun e=>
 some ((e.1,e.2))
def Zh2 (c:Zg) (e:Int):Option (ByteArray×Int):=
 (ZhE (Zg.mk c.Kind c.Size c.Rows) e).bind fun a=>
 bif a.2 !=0 then
 some ((⟨#[]⟩,a.2))
 else
 bif decide (((a.1.size:Int):Int)>4000) then
 some ((⟨#[]⟩,5))
 else
 some ((a.1,0))
def Zmd (a:Zg):Option Zg:=
 (Zb8 a.Rows).bind fun c=>
 some ((Zg.mk a.Kind a.Size c))
def Zj7 (x0:Ze):Option Ze:=
 (Zmd (Zg.mk x0.Object.Kind x0.Object.Size x0.Object.Rows)).bind fun a=>
 some ((Ze.mk x0.Name (Zg.mk a.Kind a.Size a.Rows) x0.Key))
def Zg4 (g:ZL) (c:Zg) (j:Int):Option (Ze×Int):=
 (Zh2 (Zg.mk c.Kind c.Size c.Rows) j).bind fun e=>
 bif e.2 !=0 then
 some (((Ze.mk ⟨#[]⟩ (Zg.mk 0 0 ([]:List (List Int))) ⟨#[]⟩),e.2))
 else
 (Zcs g.Items (Ze.mk ⟨#[]⟩ (Zg.mk c.Kind c.Size c.Rows) e.1)).bind fun f=>
 bif decide (f<0) then
 some (((Ze.mk ⟨#[]⟩ (Zg.mk 0 0 ([]:List (List Int))) ⟨#[]⟩),3))
 else
 (gIdx g.Items f).bind fun h=>
 (Zj7 h).bind fun a=>
 some (((Ze.mk a.Name (Zg.mk a.Object.Kind a.Object.Size a.Object.Rows) a.Key),0))
def ZgL (c:ZL) (a:Zg) (g:Int):Option (Ze×Int):=
 (Zi2 (ZL.mk c.Items)).bind fun e=>
 bif !e then
 some (((Ze.mk ⟨#[]⟩ (Zg.mk 0 0 ([]:List (List Int))) ⟨#[]⟩),1))
 else
 (ZbL (Zg.mk a.Kind a.Size a.Rows)).bind fun f=>
 bif !f then
 some (((Ze.mk ⟨#[]⟩ (Zg.mk 0 0 ([]:List (List Int))) ⟨#[]⟩),1))
 else
 Zg4 c a g
def Zjb (c g:List Int):Int->Option ((Int) ⊕ (Bool))
 | a=>
 bif decide (a<(c.length:Int)) then
 (gIdx c a).bind fun e=>
 (gIdx g a).bind fun f=>
 bif e !=f then
 some (.inr (false))
 else
 some (.inl (ε.wrap (a+1)))
 else
 some (.inr (true))
def ZfC (a c:List Int):Option Bool:=
 bif ((a.length:Int):Int) !=(c.length:Int) then
 some (false)
 else
 loop (Zjb a c) (0)
def Zjw (c h:List (List Int)):Int->Option ((Int) ⊕ (Bool))
 | a=>
 bif decide (a<(c.length:Int)) then
 (gIdx c a).bind fun e=>
 (gIdx h a).bind fun f=>
 (ZfC e f).bind fun g=>
 bif !g then
 some (.inr (false))
 else
 some (.inl (ε.wrap (a+1)))
 else
 some (.inr (true))
def ZhW (a c:List (List Int)):Option Bool:=
 bif ((a.length:Int):Int) !=(c.length:Int) then
 some (false)
 else
 loop (Zjw a c) (0)
def Zhe (a c:Zg):Option Bool:=
 bif a.Kind !=c.Kind then
 some (false)
 else
 bif a.Size !=c.Size then
 some (false)
 else
 (ZhW a.Rows c.Rows).bind fun e=>
 bif !e then
 some (false)
 else
 some (true)
def Zci (a c:Ze):Option Bool:=
 bif !(a.Name.toList==c.Name.toList) then
 some (false)
 else
 (Zhe (Zg.mk a.Object.Kind a.Object.Size a.Object.Rows) (Zg.mk c.Object.Kind c.Object.Size c.Object.Rows)).bind fun e=>
 bif !e then
 some (false)
 else
 bif !(a.Key.toList==c.Key.toList) then
 some (false)
 else
 some (true)
def ZjI (c h:List Ze):Int->Option ((Int) ⊕ (Bool))
 | a=>
 bif decide (a<(c.length:Int)) then
 (gIdx c a).bind fun e=>
 (gIdx h a).bind fun f=>
 (Zci e f).bind fun g=>
 bif !g then
 some (.inr (false))
 else
 some (.inl (ε.wrap (a+1)))
 else
 some (.inr (true))
def ZhC (a c:List Ze):Option Bool:=
 bif ((a.length:Int):Int) !=(c.length:Int) then
 some (false)
 else
 loop (ZjI a c) (0)
def Zji (a c:ZL):Option Bool:=
 (ZhC a.Items c.Items).bind fun e=>
 bif !e then
 some (false)
 else
 some (true)
def ZiA:Int×Int×List Int->Option ((Int×Int×List Int) ⊕ (Int×(List Int)))
 | (a,c,xs)=>
 bif decide (c<(xs.length:Int)) then
 (gIdx xs c).bind fun e=>
 some (.inl (ε.wrap (a+1),ε.wrap (c+1),(xs.set c.toNat a)))
 else
 some (.inr ((a,xs)))
def Zjq (a:List Int) (k1:Int):Option (Int×(List Int)):=
 loop (ZiA) (k1,0,a)
def ZhS:Int×Int×List (List Int)->Option ((Int×Int×List (List Int)) ⊕ (Int×(List (List Int))))
 | (a,c,xs)=>
 bif decide (c<(xs.length:Int)) then
 (gIdx xs c).bind fun f=>
 (Zjq f a).bind fun e=>
 some (.inl (e.1,ε.wrap (c+1),(xs.set c.toNat e.2)))
 else
 some (.inr ((a,xs)))
def ZfR (a:List (List Int)) (k1:Int):Option (Int×(List (List Int))):=
 loop (ZhS) (k1,0,a)
def ZgD:Int×ByteArray->Option ((Int×ByteArray) ⊕ (ByteArray))
 | (c,a)=>
 bif decide (c>0) then
 (gNz 10).bind fun _=>
 (gByt ([IntKind.u8.wrap (ε.wrap (48+(Int.tmod c 10)))]:List Int)).bind fun e=>
 (gFit e a).bind fun _=>
 (gNz 10).bind fun _=>
 some (.inl (ε.wrap (Int.tdiv c 10),e++a))
 else
 (gFit (⟨#[109]⟩:ByteArray) a).bind fun _=>
 some (.inr ((⟨#[109]⟩:ByteArray)++a))
def Zdb (k0:Int):Option ByteArray:=
 bif decide (k0<=0) then
 some (⟨#[109,48]⟩)
 else
 loop (ZgD) (k0,⟨#[]⟩)
def ZdP:Int×Int×List Ze->Option ((Int×Int×List Ze) ⊕ (Int×(List Ze)))
 | (e,c,xs)=>
 bif decide (c<(xs.length:Int)) then
 (Zdb e).bind fun i=>
 (gIdx xs c).bind fun g=>
 (gIdx (xs.set c.toNat (Ze.mk i g.Object g.Key)) c).bind fun a=>
 (gIdx ((xs.set c.toNat (Ze.mk i g.Object g.Key)).set c.toNat (Ze.mk a.Name (Zg.mk (ε.wrap (e+1)) a.Object.Size a.Object.Rows) a.Key)) c).bind fun f=>
 (gIdx (((xs.set c.toNat (Ze.mk i g.Object g.Key)).set c.toNat (Ze.mk a.Name (Zg.mk (ε.wrap (e+1)) a.Object.Size a.Object.Rows) a.Key)).set c.toNat (Ze.mk f.Name (Zg.mk f.Object.Kind (ε.wrap ((ε.wrap (e+1))+1)) f.Object.Rows) f.Key)) c).bind fun h=>
 (ZfR h.Object.Rows (ε.wrap ((ε.wrap ((ε.wrap (e+1))+1))+1))).bind fun j=>
 (Zdb j.1).bind fun l=>
 (gIdx ((((xs.set c.toNat (Ze.mk i g.Object g.Key)).set c.toNat (Ze.mk a.Name (Zg.mk (ε.wrap (e+1)) a.Object.Size a.Object.Rows) a.Key)).set c.toNat (Ze.mk f.Name (Zg.mk f.Object.Kind (ε.wrap ((ε.wrap (e+1))+1)) f.Object.Rows) f.Key)).set c.toNat (Ze.mk h.Name (Zg.mk h.Object.Kind h.Object.Size j.2) h.Key)) c).bind fun k=>
 some (.inl (ε.wrap (j.1+1),ε.wrap (c+1),(((((xs.set c.toNat (Ze.mk i g.Object g.Key)).set c.toNat (Ze.mk a.Name (Zg.mk (ε.wrap (e+1)) a.Object.Size a.Object.Rows) a.Key)).set c.toNat (Ze.mk f.Name (Zg.mk f.Object.Kind (ε.wrap ((ε.wrap (e+1))+1)) f.Object.Rows) f.Key)).set c.toNat (Ze.mk h.Name (Zg.mk h.Object.Kind h.Object.Size j.2) h.Key)).set c.toNat (Ze.mk k.Name k.Object l))))
 else
 some (.inr ((e,xs)))
def ZkB (a:List Ze) (k1:Int):Option (Int×(List Ze)):=
 loop (ZdP) (k1,0,a)
def Zio (a:ZL) (k1:Int):Option (Int×ZL):=
 (ZkB a.Items k1).bind fun r8=>
 some ((r8.1,(ZL.mk r8.2)))
def Zd5 (a:Zg) (k1:Int):Option (Int×Zg):=
 (ZfR a.Rows k1).bind fun r8=>
 some ((r8.1,(Zg.mk a.Kind a.Size r8.2)))
def Zit (a:Ze) (k1:Int):Option (Int×Ze):=
 (Zd5 (Zg.mk a.Object.Kind a.Object.Size a.Object.Rows) k1).bind fun r8=>
 some ((r8.1,(Ze.mk a.Name (Zg.mk a.Object.Kind a.Object.Size r8.2.Rows) a.Key)))
def ZkP (e:List Int):Int×Int->Option ((Int×Int) ⊕ (Int))
 | (a,c)=>
 bif decide (c<(e.length:Int)) then
 (gIdx e c).bind fun f=>
 bif f !=a then
 some (.inr ((-1)))
 else
 some (.inl (ε.wrap (a+1),ε.wrap (c+1)))
 else
 some (.inr (a))
def Zka (a:List Int) (k1:Int):Option Int:=
 loop (ZkP a) (k1,0)
def Zmf (f:List (List Int)):Int×Int->Option ((Int×Int) ⊕ (Int))
 | (a,e)=>
 bif decide (e<(f.length:Int)) then
 (gIdx f e).bind fun g=>
 (Zka g a).bind fun c=>
 bif decide (c<0) then
 some (.inr ((-1)))
 else
 some (.inl (c,ε.wrap (e+1)))
 else
 some (.inr (a))
def ZiM (a:List (List Int)) (k1:Int):Option Int:=
 loop (Zmf a) (k1,0)
def Zlt (a:Zg) (k1:Int):Option Int:=
 (ZiM a.Rows k1).bind fun r8=>
 bif decide (r8<0) then
 some ((-1))
 else
 some (r8)
def Zfp (a:Ze) (k1:Int):Option Int:=
 (Zlt (Zg.mk a.Object.Kind a.Object.Size a.Object.Rows) k1).bind fun r8=>
 bif decide (r8<0) then
 some ((-1))
 else
 some (r8)
def Zh5 (a:Ze×Int) (e:Int×Ze):Option (Bool):=
 (Zfp (Ze.mk a.1.Name (Zg.mk a.1.Object.Kind a.1.Object.Size e.2.Object.Rows) a.1.Key) 1).bind fun c=>
 bif decide (c<0) then
 some (false)
 else
 bif c !=e.1 then
 some (false)
 else
 some (true)
def Zjx (l:Zag) (h:Z4) (o:Int) (e a:Ze×Int):Option (Bool):=
 (Zit (Ze.mk a.1.Name (Zg.mk a.1.Object.Kind a.1.Object.Size a.1.Object.Rows) a.1.Key) 1).bind fun f=>
 (Zfp (Ze.mk a.1.Name (Zg.mk a.1.Object.Kind a.1.Object.Size f.2.Object.Rows) a.1.Key) 1).bind fun g=>
 bif decide (g<0) then
 some (false)
 else
 bif g !=f.1 then
 some (false)
 else
 (ZcZ (Zag.mk l.Items)).bind fun i=>
 (ZbR (Z4.mk h.Kind h.Size h.Rows)).bind fun j=>
 (ZgL i j o).bind fun c=>
 (Zci (Ze.mk c.1.Name (Zg.mk c.1.Object.Kind c.1.Object.Size c.1.Object.Rows) c.1.Key) (Ze.mk e.1.Name (Zg.mk e.1.Object.Kind e.1.Object.Size e.1.Object.Rows) e.1.Key)).bind fun k=>
 bif !k then
 some (false)
 else
 bif c.2 !=e.2 then
 some (false)
 else
 Zh5 a f
def Zjf (h:Zag) (f:Z4) (s:Int) (a:Ze×Int) (g:ZL) (e:Zg) (c:Ze×Int):Option (Bool):=
 (ZcZ (Zag.mk h.Items)).bind fun i=>
 (Zji (ZL.mk g.Items) i).bind fun j=>
 bif !j then
 some (false)
 else
 (ZbR (Z4.mk f.Kind f.Size f.Rows)).bind fun k=>
 (Zhe (Zg.mk e.Kind e.Size e.Rows) k).bind fun l=>
 bif !l then
 some (false)
 else
 (Zio (ZL.mk g.Items) 1).bind fun o=>
 (Zd5 (Zg.mk e.Kind e.Size e.Rows) o.1).bind fun p=>
 bif decide (p.1<0) then
 some (false)
 else
 (Zci (Ze.mk c.1.Name (Zg.mk c.1.Object.Kind c.1.Object.Size c.1.Object.Rows) c.1.Key) (Ze.mk a.1.Name (Zg.mk a.1.Object.Kind a.1.Object.Size a.1.Object.Rows) a.1.Key)).bind fun r=>
 bif !r then
 some (false)
 else
 bif c.2 !=a.2 then
 some (false)
 else
 Zjx h f s a c
def Zl6 (g:Zag) (e:Z4) (j:Int):Option Bool:=
 (Zi0 (Zag.mk g.Items) 1048576).bind fun h=>
 bif decide (h<0) then
 some (true)
 else
 (Zep (Z4.mk e.Kind e.Size e.Rows) h).bind fun k=>
 bif decide (k<0) then
 some (true)
 else
 (ZcZ (Zag.mk g.Items)).bind fun l=>
 (ZbR (Z4.mk e.Kind e.Size e.Rows)).bind fun o=>
 (Zic l o j).bind fun a=>
 (ZcZ (Zag.mk g.Items)).bind fun i=>
 (ZbR (Z4.mk e.Kind e.Size e.Rows)).bind fun f=>
 (ZgL (ZL.mk i.Items) (Zg.mk f.Kind f.Size f.Rows) j).bind fun c=>
 (Zci (Ze.mk c.1.Name (Zg.mk c.1.Object.Kind c.1.Object.Size c.1.Object.Rows) c.1.Key) (Ze.mk a.1.Name (Zg.mk a.1.Object.Kind a.1.Object.Size a.1.Object.Rows) a.1.Key)).bind fun p=>
 bif !p then
 some (false)
 else
 bif c.2 !=a.2 then
 some (false)
 else
 Zjf g e j a i f c
end
end Go.Proofs.YtepnljbkgjbbmaaGreatDoor
