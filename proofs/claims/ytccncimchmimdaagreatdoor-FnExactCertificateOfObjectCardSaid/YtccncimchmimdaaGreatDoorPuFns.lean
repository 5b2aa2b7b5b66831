import Derived.Test.YtccncimchmimdaaGreatDoorPuTxt
open Go.IntKind renaming i64->ε
namespace Go.Proofs.YtccncimchmimdaaGreatDoor
set_option linter.unusedSimpArgs false
open Go Go.Vc
set_option linter.unusedVariables false
structure Zan where
 Kind:Int
 Size:Int
 Rows:List (List Int)
structure Zao where
 Points:Int
 Blocks:List (List Int)
structure ZF where
 Kind:Int
 Size:Int
 Rows:List (List Int)
structure Zaq where
 Levels:Int
 Columns:Int
 Rows:List (List Int)
structure Zf where
 Prime:Int
 Degree:Int
 Poly:List Int
structure Z5 where
 Field:Zf
 Rows:List (List Int)
structure Zd where
 A:Int
 B:Int
structure Zc where
 Colors:List Int
 Edges:List Zd
structure Zba where
 Degree:Int
 Elements:List (List Int)
structure ZJ where
 qg:Zc
 qnear:List (List Int)
 qbest:Zc
 qperms:List (List Int)
 qnodes:Int
 qleaves:Int
 qbudget:Int
 qfull:Bool
structure Zae where
 qq:Int
 qadd:List (List Int)
 qsub:List (List Int)
 qmul:List (List Int)
 qinv:List Int
structure Zar where
 qleft:Int
 qspent:Bool
structure ZG where
 qcounter:Zar
 qgraph:Zc
 qlists:List (List Int)
 qnodes:Int
 qleaves:Int
 qform:Zc
 qbest:List (List Int)
noncomputable section
def ZeX (b:List Int) (a:Int):Option Int:=
 bif decide ((ε.wrap (a-(b.length:Int)):Int)<0) then
 some ((-1))
 else
 some (ε.wrap (a-(b.length:Int)))
def Zik (e:List (List Int)):Int×Int->Option ((Int×Int) ⊕ (Int))
 | (a,c)=>
 bif decide (c<(e.length:Int)) then
 (gIdx e c).bind fun f=>
 (ZeX f a).bind fun b=>
 bif decide (b<0) then
 some (.inr ((-1)))
 else
 some (.inl (b,ε.wrap (c+1)))
 else
 some (.inr (a))
def Zhl (b:List (List Int)) (a:Int):Option Int:=
 bif decide ((ε.wrap (a-(b.length:Int)):Int)<0) then
 some ((-1))
 else
 loop (Zik b) (ε.wrap (a-(b.length:Int)),0)
def Zit (b:Zan) (a:Int):Option Int:=
 (Zhl b.Rows a).bind fun r8=>
 bif decide (r8<0) then
 some ((-1))
 else
 some (r8)
def Z2 (n0 b a:Int):Option Bool:=
 bif decide (n0>=b) then
 some (decide (n0<=a))
 else
 some (false)
def Zga (a:List Int) (n1:Int):Int->Option ((Int) ⊕ (Bool))
 | b=>
 bif decide (b<(a.length:Int)) then
 (gIdx a b).bind fun c=>
 bif c==n1 then
 some (.inr (true))
 else
 some (.inl (ε.wrap (b+1)))
 else
 some (.inr (false))
def Zgm (a:List Int) (n1:Int):Option Bool:=
 loop (Zga a n1) (0)
def ZfG (a:List Int):Int->Option ((Int) ⊕ (Bool))
 | b=>
 bif decide (b<(a.length:Int)) then
 (gIdx a b).bind fun c=>
 (Z2 c 0 (ε.wrap ((a.length:Int)-1))).bind fun e=>
 bif !e then
 some (.inr (false))
 else
 (gSl a 0 b).bind fun f=>
 (gIdx a b).bind fun g=>
 (Zgm f g).bind fun h=>
 bif h then
 some (.inr (false))
 else
 some (.inl (ε.wrap (b+1)))
 else
 some (.inr (true))
def ZdG (a:List Int):Option Bool:=
 bif decide (((a.length:Int):Int)>32) then
 some (false)
 else
 loop (ZfG a) (0)
def Zdz (c:List (List Int)) (e:Int):List Int×Int->Option ((List Int×Int) ⊕ ((Int) ⊕ ((Int) ⊕ (Bool))))
 | (a,b)=>
 bif decide (b<(c.length:Int)) then
 (gIdx c b).bind fun f=>
 (gIdx f e).bind fun g=>
 (gApp 8 a [g]).bind fun h=>
 some (.inl (h,ε.wrap (b+1)))
 else
 (ZdG a).bind fun i=>
 bif !i then
 some (.inr (.inr (.inr (false))))
 else
 some (.inr (.inl (ε.wrap (e+1))))
def Zd1 (a:List (List Int)):Int->Option ((Int) ⊕ ((Int) ⊕ (Bool)))
 | b=>
 bif decide (b<(a.length:Int)) then
 loop (Zdz a b) (([]:List Int),0)
 else
 some (.inr (.inr (true)))
def Zgs (a:List (List Int)):Int->Option ((Int) ⊕ (Bool))
 | b=>
 bif decide (b<(a.length:Int)) then
 (gIdx a b).bind fun c=>
 bif ((c.length:Int):Int) !=(a.length:Int) then
 some (.inr (false))
 else
 (gIdx a b).bind fun e=>
 (ZdG e).bind fun f=>
 bif !f then
 some (.inr (false))
 else
 some (.inl (ε.wrap (b+1)))
 else
 loop (Zd1 a) (0)
def Zky (a:List (List Int)):Option (Bool):=
 loop (Zgs a) (0)
def Zgn (a:List (List Int)):Option Bool:=
 bif decide (((a.length:Int):Int)<1) then
 some (false)
 else
 bif decide (((a.length:Int):Int)>10) then
 some (false)
 else
 Zky a
def ZdN (a:List Int) (e c:Int):Int->Option ((Int) ⊕ (Bool))
 | b=>
 bif decide (b<(a.length:Int)) then
 (gIdx a b).bind fun f=>
 (Z2 f e c).bind fun g=>
 bif !g then
 some (.inr (false))
 else
 bif decide (b>0) then
 (gIdx a (ε.wrap (b-1))).bind fun h=>
 (gIdx a b).bind fun i=>
 bif decide (h>=i) then
 some (.inr (false))
 else
 some (.inl (ε.wrap (b+1)))
 else
 some (.inl (ε.wrap (b+1)))
 else
 some (.inr (true))
def Zih (a:List Int) (c b:Int):Option Bool:=
 loop (ZdN a c b) (0)
def ZjD (a:List Int) (c:Int):Option Bool:=
 bif decide (((a.length:Int):Int)>0) then
 (Zih a 0 (ε.wrap (c-1))).bind fun b=>
 some (b)
 else
 some (false)
def ZeU (a b:List Int):Option (Int):=
 bif decide (((a.length:Int):Int)<(b.length:Int)) then
 some ((-1))
 else
 bif decide (((a.length:Int):Int)>(b.length:Int)) then
 some (1)
 else
 some (0)
def ZgI (b c:List Int) (a:Int):Option ((Int) ⊕ (Int)):=
 (gIdx b a).bind fun e=>
 (gIdx c a).bind fun f=>
 bif decide (e<f) then
 some (.inr ((-1)))
 else
 (gIdx b a).bind fun g=>
 (gIdx c a).bind fun h=>
 bif decide (g>h) then
 some (.inr (1))
 else
 some (.inl (ε.wrap (a+1)))
def Zcl (a b:List Int):Int->Option ((Int) ⊕ (Int))
 | c=>
 bif decide (c<(a.length:Int)) then
 bif decide (c<(b.length:Int)) then
 ZgI a b c
 else
 (ZeU a b).map fun x=>.inr (x)
 else
 (ZeU a b).map fun x=>.inr (x)
def Zbn (a b:List Int):Option Int:=
 loop (Zcl a b) (0)
def ZdT (b:Zao):Int->Option ((Int) ⊕ (Bool))
 | a=>
 bif decide (a<(b.Blocks.length:Int)) then
 (gIdx b.Blocks a).bind fun c=>
 (ZjD c b.Points).bind fun e=>
 bif !e then
 some (.inr (false))
 else
 bif decide (a>0) then
 (gIdx b.Blocks (ε.wrap (a-1))).bind fun f=>
 (gIdx b.Blocks a).bind fun g=>
 (Zbn f g).bind fun h=>
 bif decide (h>0) then
 some (.inr (false))
 else
 some (.inl (ε.wrap (a+1)))
 else
 some (.inl (ε.wrap (a+1)))
 else
 some (.inr (true))
def ZkP (a:Zao):Option (Bool):=
 loop (ZdT a) (0)
def ZhR (a:Zao):Option Bool:=
 (Z2 a.Points 1 32).bind fun r8=>
 bif !r8 then
 some (false)
 else
 bif decide (((a.Blocks.length:Int):Int)>128) then
 some (false)
 else
 ZkP a
def ZhA (c g:List Int):Int×Int->Option ((Int×Int) ⊕ (Int))
 | (a,b)=>
 bif decide (b<(c.length:Int)) then
 (gIdx c b).bind fun e=>
 (gIdx g b).bind fun f=>
 some (.inl (ε.wrap (a+(ε.wrap (e*f))),ε.wrap (b+1)))
 else
 some (.inr (a))
def ZfK (a b:List Int):Option Int:=
 loop (ZhA a b) (0,0)
def Za9 (b:List (List Int)) (c:Int):Int->Option ((Int) ⊕ ((Int) ⊕ (Bool)))
 | a=>
 bif decide (a<(b.length:Int)) then
 (gIdx b c).bind fun e=>
 (gIdx e a).bind fun f=>
 bif f !=1 then
 (gIdx b c).bind fun g=>
 (gIdx g a).bind fun h=>
 bif h !=(-1) then
 some (.inr (.inr (false)))
 else
 some (.inl (ε.wrap (a+1)))
 else
 some (.inl (ε.wrap (a+1)))
 else
 some (.inr (.inl (ε.wrap (c+1))))
def ZdD (c:List (List Int)) (a:Int):Int->Option ((Int) ⊕ ((Int) ⊕ ((Int) ⊕ (Bool))))
 | b=>
 bif decide (b<a) then
 (gIdx c a).bind fun e=>
 (gIdx c b).bind fun f=>
 (ZfK e f).bind fun g=>
 bif g !=0 then
 some (.inr (.inr (.inr (false))))
 else
 some (.inl (ε.wrap (b+1)))
 else
 some (.inr (.inl (ε.wrap (a+1))))
def Zfx (a:List (List Int)):Int->Option ((Int) ⊕ ((Int) ⊕ (Bool)))
 | b=>
 bif decide (b<(a.length:Int)) then
 loop (ZdD a b) (0)
 else
 some (.inr (.inr (true)))
def Zf4 (a:List (List Int)):Int->Option ((Int) ⊕ (Bool))
 | b=>
 bif decide (b<(a.length:Int)) then
 (gIdx a b).bind fun c=>
 bif ((c.length:Int):Int) !=(a.length:Int) then
 some (.inr (false))
 else
 loop (Za9 a b) (0)
 else
 loop (Zfx a) (0)
def ZlE (a:List (List Int)):Option (Bool):=
 loop (Zf4 a) (0)
def ZhW (a:List (List Int)):Option Bool:=
 bif decide (((a.length:Int):Int)<1) then
 some (false)
 else
 bif decide (((a.length:Int):Int)>32) then
 some (false)
 else
 ZlE a
def Zjt (a:ZF):Option Zaq:=
 bif decide (((a.Rows.length:Int):Int)>0) then
 (gIdx a.Rows 0).bind fun b=>
 some ((Zaq.mk a.Size (b.length:Int) a.Rows))
 else
 some ((Zaq.mk a.Size 0 a.Rows))
def ZkH (c e:Int):Option Bool:=
 (Z2 c 2 16).bind fun a=>
 bif a then
 (Z2 e 1 8).bind fun b=>
 some (b)
 else
 some (false)
def ZdZ (a:Zaq) (b:Int):Int->Option ((Int) ⊕ ((Int) ⊕ (Bool)))
 | c=>
 (gIdx a.Rows b).bind fun e=>
 bif decide (c<(e.length:Int)) then
 (gIdx a.Rows b).bind fun f=>
 (gIdx f c).bind fun g=>
 (Z2 g 0 (ε.wrap (a.Levels-1))).bind fun h=>
 bif !h then
 some (.inr (.inr (false)))
 else
 some (.inl (ε.wrap (c+1)))
 else
 some (.inr (.inl (ε.wrap (b+1))))
def ZfE (a:Zaq):Int->Option ((Int) ⊕ (Bool))
 | b=>
 bif decide (b<(a.Rows.length:Int)) then
 (gIdx a.Rows b).bind fun c=>
 bif ((c.length:Int):Int) !=a.Columns then
 some (.inr (false))
 else
 loop (ZdZ a b) (0)
 else
 some (.inr (true))
def ZlA (a:Zaq):Option (Bool):=
 loop (ZfE a) (0)
def Zi8 (a:Zaq):Option Bool:=
 (ZkH a.Levels a.Columns).bind fun b=>
 bif !b then
 some (false)
 else
 bif decide (((a.Rows.length:Int):Int)>256) then
 some (false)
 else
 ZlA a
def Zmr (a:Int):Int×Int->Option ((Int×Int) ⊕ ((Int) ⊕ (Int×Int)))
 | (c,b)=>
 bif decide (b>1) then
 (gNz a).bind fun _=>
 bif (Int.tmod b a:Int) !=0 then
 some (.inr (.inr ((0,0))))
 else
 (gNz a).bind fun _=>
 some (.inl (ε.wrap (c+1),ε.wrap (Int.tdiv b a)))
 else
 some (.inr (.inr ((a,c))))
def Zkt (b:Int):Int->Option ((Int) ⊕ (Int×Int))
 | a=>
 (gNz a).bind fun _=>
 bif (Int.tmod b a:Int) !=0 then
 some (.inl (ε.wrap (a+1)))
 else
 loop (Zmr a) (0,b)
def ZbY (a:Int):Option (Int×Int):=
 (Z2 a 2 64).bind fun r8=>
 bif !r8 then
 some ((0,0))
 else
 loop (Zkt a) (2)
def Zdp (p1:Int):Int×Int×List Int->Option ((Int×Int×List Int) ⊕ (List Int))
 | (a,b,c)=>
 bif decide (b>0) then
 (gNz p1).bind fun _=>
 (gApp 8 c [Int.tmod a p1]).bind fun e=>
 (gNz p1).bind fun _=>
 some (.inl (ε.wrap (Int.tdiv a p1),ε.wrap (b-1),e))
 else
 some (.inr (c))
def Za1 (a p1 n2:Int):Option (List Int):=
 loop (Zdp p1) (a,n2,([]:List Int))
def Zk1 (c:Int):Int×Int->Option ((Int×Int) ⊕ (Int))
 | (a,b)=>
 bif decide (a>0) then
 some (.inl (ε.wrap (a-1),ε.wrap (b*c)))
 else
 some (.inr (b))
def ZeB (a k1:Int):Option Int:=
 loop (Zk1 a) (k1,1)
def ZaX (a:List Int):Option (List Int):=
 (gApp 8 ([]:List Int) a).bind fun b=>
 some (b)
def Zd8 (c:List Int) (f e g:Int):Int×List Int->Option ((Int×List Int) ⊕ ((Int×List Int) ⊕ (List Int)))
 | (a,b)=>
 bif decide (a<(c.length:Int)) then
 (gIdx b (ε.wrap ((ε.wrap ((ε.wrap (e-(c.length:Int)))+1))+a))).bind fun h=>
 (gIdx c a).bind fun i=>
 (gNz f).bind fun _=>
 (gIdx b (ε.wrap ((ε.wrap ((ε.wrap (e-(c.length:Int)))+1))+a))).bind fun j=>
 some (.inl (ε.wrap (a+1),(b.set (ε.wrap ((ε.wrap ((ε.wrap (e-(c.length:Int)))+1))+a):Int).toNat (Int.tmod (ε.wrap (h+(ε.wrap ((ε.wrap (f-g))*i)))) f))))
 else
 some (.inr (.inl (ε.wrap (e-1),b)))
def Zcn (c:List Int):List Int->Option ((List Int) ⊕ ((Int×List Int) ⊕ (List Int)))
 | a=>
 bif decide (((a.length:Int):Int)>=(c.length:Int)) then
 (gSl a 0 (ε.wrap ((a.length:Int)-1))).bind fun b=>
 some (.inl (b))
 else
 some (.inr (.inr (a)))
def ZbB (a:List Int) (e:Int):Int×List Int->Option ((Int×List Int) ⊕ (List Int))
 | (b,xs)=>
 bif decide (b>=(ε.wrap ((a.length:Int)-1))) then
 (gIdx xs b).bind fun c=>
 loop (Zd8 a e b c) (0,xs)
 else
 loop (Zcn a) (xs)
def Zc2 (b c:List Int) (e:Int):Option (List Int):=
 (ZaX b).bind fun a=>
 loop (ZbB c e) (ε.wrap ((a.length:Int)-1),a)
def Zey (b:List Int) (p1:Int):Int×Int->Option ((Int×Int) ⊕ (Int))
 | (a,c)=>
 bif decide (c>=0) then
 (gIdx b c).bind fun e=>
 some (.inl (ε.wrap ((ε.wrap (a*p1))+e),ε.wrap (c-1)))
 else
 some (.inr (a))
def Za6 (a:List Int) (p1:Int):Option Int:=
 loop (Zey a p1) (0,ε.wrap ((a.length:Int)-1))
def ZlM (a:List Int) (p1 b:Int):Int->Option ((Int) ⊕ ((Int) ⊕ (Bool)))
 | c=>
 (ZeB p1 b).bind fun e=>
 bif decide (c<e) then
 (Za1 c p1 b).bind fun f=>
 (gApp 8 f [1]).bind fun g=>
 (Zc2 a g p1).bind fun h=>
 (Za6 h p1).bind fun i=>
 bif i==0 then
 some (.inr (.inr (false)))
 else
 some (.inl (ε.wrap (c+1)))
 else
 some (.inr (.inl (ε.wrap (b+1))))
def Zki (a:List Int) (p1:Int):Int->Option ((Int) ⊕ (Bool))
 | b=>
 bif decide ((ε.wrap (2*b):Int)<=(ε.wrap ((a.length:Int)-1))) then
 loop (ZlM a p1 b) (0)
 else
 some (.inr (true))
def Zgr (a:List Int) (p1:Int):Option Bool:=
 loop (Zki a p1) (1)
def ZkS (a:Int×Int):Int->Option ((Int) ⊕ (Zf))
 | c=>
 (Za1 c a.1 a.2).bind fun e=>
 (gApp 8 e [1]).bind fun b=>
 (Zgr b a.1).bind fun f=>
 bif f then
 some (.inr ((Zf.mk a.1 a.2 b)))
 else
 some (.inl (ε.wrap (c+1)))
def Zff (a:Int):Option Zf:=
 (ZbY a).bind fun b=>
 loop (ZkS b) (0)
def Zbd (b:ZF):Option Z5:=
 (ZbY b.Size).bind fun c=>
 bif c.1==0 then
 some ((Z5.mk (Zf.mk 0 0 ([]:List Int)) ([]:List (List Int))))
 else
 (Zff b.Size).bind fun a=>
 some ((Z5.mk (Zf.mk a.Prime a.Degree a.Poly) b.Rows))
def Zj0 (b:Zf) (a:Int×Int):Int->Option ((Int) ⊕ (Bool))
 | c=>
 bif decide (c<(b.Poly.length:Int)) then
 (gIdx b.Poly c).bind fun e=>
 (Z2 e 0 (ε.wrap (a.1-1))).bind fun f=>
 bif !f then
 some (.inr (false))
 else
 some (.inl (ε.wrap (c+1)))
 else
 (Zgr b.Poly a.1).bind fun g=>
 some (.inr (g))
def Zg7 (a:Zf):Option (Bool):=
 (ZeB a.Prime a.Degree).bind fun c=>
 (ZbY c).bind fun b=>
 bif b.1 !=a.Prime then
 some (false)
 else
 loop (Zj0 a b) (0)
def ZgB (a:Zf):Option Bool:=
 (Z2 a.Prime 2 64).bind fun b=>
 bif !b then
 some (false)
 else
 (Z2 a.Degree 1 6).bind fun c=>
 bif !c then
 some (false)
 else
 bif ((a.Poly.length:Int):Int) !=(ε.wrap (a.Degree+1)) then
 some (false)
 else
 (gIdx a.Poly a.Degree).bind fun e=>
 bif e !=1 then
 some (false)
 else
 Zg7 a
def Za8 (a:Zf):Option Int:=
 (ZeB a.Prime a.Degree).bind fun b=>
 some (b)
def ZeQ (v1:List Int) (r8:Int):Int->Option ((Int) ⊕ (Bool))
 | a=>
 bif decide (a<(v1.length:Int)) then
 (gIdx v1 a).bind fun b=>
 (Z2 b 0 (ε.wrap (r8-1))).bind fun c=>
 bif !c then
 some (.inr (false))
 else
 some (.inl (ε.wrap (a+1)))
 else
 some (.inr (true))
def Zh4 (a:Zf) (v1:List Int):Option Bool:=
 (Za8 a).bind fun r8=>
 loop (ZeQ v1 r8) (0)
def Zfc (h:Zf) (a:List (List Int)):Int->Option ((Int) ⊕ (Bool))
 | b=>
 bif decide (b<(a.length:Int)) then
 (gIdx a b).bind fun c=>
 (gIdx a 0).bind fun e=>
 bif ((c.length:Int):Int) !=(e.length:Int) then
 some (.inr (false))
 else
 (gIdx a b).bind fun f=>
 (Zh4 h f).bind fun g=>
 bif !g then
 some (.inr (false))
 else
 some (.inl (ε.wrap (b+1)))
 else
 some (.inr (true))
def Zj4 (a:Zf) (b:List (List Int)):Option (Bool):=
 loop (Zfc a b) (0)
def Zhw (b:Zf) (a:List (List Int)):Option Bool:=
 (ZgB b).bind fun f=>
 bif !f then
 some (false)
 else
 bif ((a.length:Int):Int)==0 then
 some (false)
 else
 bif decide (((a.length:Int):Int)>32) then
 some (false)
 else
 (gIdx a 0).bind fun c=>
 bif ((c.length:Int):Int)==0 then
 some (false)
 else
 (gIdx a 0).bind fun e=>
 bif decide (((e.length:Int):Int)>32) then
 some (false)
 else
 Zj4 b a
def Zbw (c:Int):Int×Int->Option ((Int×Int) ⊕ (Int))
 | (a,b)=>
 bif decide (a>0) then
 bif decide ((ε.wrap (b*c):Int)>4096) then
 some (.inr (0))
 else
 some (.inl (ε.wrap (a-1),ε.wrap (b*c)))
 else
 some (.inr (b))
def Zjv (a k1:Int):Option Int:=
 loop (Zbw a) (k1,1)
def Zia (b f:List Int):Int->Option ((Int) ⊕ (Bool))
 | a=>
 bif decide (a<(b.length:Int)) then
 (gIdx b a).bind fun c=>
 (gIdx f a).bind fun e=>
 bif c !=e then
 some (.inr (false))
 else
 some (.inl (ε.wrap (a+1)))
 else
 some (.inr (true))
def ZiD (a b:List Int):Option Bool:=
 bif ((a.length:Int):Int) !=(b.length:Int) then
 some (false)
 else
 loop (Zia a b) (0)
def Zju (b g:List (List Int)):Int->Option ((Int) ⊕ (Bool))
 | a=>
 bif decide (a<(b.length:Int)) then
 (gIdx b a).bind fun c=>
 (gIdx g a).bind fun e=>
 (ZiD c e).bind fun f=>
 bif !f then
 some (.inr (false))
 else
 some (.inl (ε.wrap (a+1)))
 else
 some (.inr (true))
def Zfz (a b:List (List Int)):Option Bool:=
 bif ((a.length:Int):Int) !=(b.length:Int) then
 some (false)
 else
 loop (Zju a b) (0)
def ZhO (f:Zf) (g e:List Int) (c:Int):Int×List Int->Option ((Int×List Int) ⊕ ((Int×List Int) ⊕ (Int)))
 | (a,b)=>
 bif decide (a<(e.length:Int)) then
 (gIdx b (ε.wrap (c+a))).bind fun h=>
 (gIdx g c).bind fun i=>
 (gIdx e a).bind fun j=>
 (gNz f.Prime).bind fun _=>
 (gIdx b (ε.wrap (c+a))).bind fun k=>
 some (.inl (ε.wrap (a+1),(b.set (ε.wrap (c+a):Int).toNat (Int.tmod (ε.wrap (h+(ε.wrap (i*j)))) f.Prime))))
 else
 some (.inr (.inl (ε.wrap (c+1),b)))
def Zds (a:Zf) (b e:List Int):Int×List Int->Option ((Int×List Int) ⊕ (Int))
 | (c,xs)=>
 bif decide (c<(b.length:Int)) then
 loop (ZhO a b e c) (0,xs)
 else
 (Zc2 xs a.Poly a.Prime).bind fun f=>
 (Za6 f a.Prime).bind fun g=>
 some (.inr (g))
def Zet (a:Zf) (f g:Int):Option Int:=
 (Za1 f a.Prime a.Degree).bind fun b=>
 (Za1 g a.Prime a.Degree).bind fun c=>
 (gMake 8 (0:Int) (ε.wrap ((ε.wrap (2*a.Degree))-1)) (ε.wrap ((ε.wrap (2*a.Degree))-1))).bind fun e=>
 loop (Zds a b c) (0,e)
def ZfS (g:Zf) (v1:List Int) (c2:Int):List Int×Int->Option ((List Int×Int) ⊕ (List Int))
 | (a,b)=>
 bif decide (b<(v1.length:Int)) then
 (gIdx v1 b).bind fun c=>
 (Zet g c c2).bind fun e=>
 (gApp 8 a [e]).bind fun f=>
 some (.inl (f,ε.wrap (b+1)))
 else
 some (.inr (a))
def Zfr (a:Zf) (v1:List Int) (c2:Int):Option (List Int):=
 loop (ZfS a v1 c2) (([]:List Int),0)
def ZfR (c:List (List Int)):List (List Int)×Int->Option ((List (List Int)×Int) ⊕ (List (List Int)))
 | (a,b)=>
 bif decide (b<(c.length:Int)) then
 (gIdx c b).bind fun e=>
 (ZaX e).bind fun f=>
 (gApp 24 a [f]).bind fun g=>
 some (.inl (g,ε.wrap (b+1)))
 else
 some (.inr (a))
def Zjj (a:List (List Int)):Option (List (List Int)):=
 loop (ZfR a) (([]:List (List Int)),0)
def Zhu (b:Zf) (c:Int):Int->Option ((Int) ⊕ (Int))
 | a=>
 (Zet b c a).bind fun e=>
 bif e !=1 then
 some (.inl (ε.wrap (a+1)))
 else
 some (.inr (a))
def Zio (a:Zf) (b:Int):Option Int:=
 loop (Zhu a b) (1)
def ZgL (b:Zf) (k3:Int) (c:List Int):Int×List Int->Option ((Int×List Int) ⊕ (Int))
 | (a,xs)=>
 bif decide (a<(xs.length:Int)) then
 (gIdx xs a).bind fun e=>
 (gIdx c a).bind fun f=>
 (gNz b.Prime).bind fun _=>
 (gIdx xs a).bind fun h=>
 some (.inl (ε.wrap (a+1),(xs.set a.toNat (Int.tmod (ε.wrap (e+(ε.wrap (k3*f)))) b.Prime))))
 else
 (Za6 xs b.Prime).bind fun g=>
 some (.inr (g))
def ZfV (a:Zf) (e f k3:Int):Option Int:=
 (Za1 e a.Prime a.Degree).bind fun b=>
 (Za1 f a.Prime a.Degree).bind fun c=>
 loop (ZgL a k3 c) (0,b)
def ZfA (c:Zf) (v1 w2:List Int) (j:Int):List Int×Int->Option ((List Int×Int) ⊕ (List Int))
 | (b,a)=>
 bif decide (a<(v1.length:Int)) then
 (gIdx w2 a).bind fun e=>
 (Zet c e j).bind fun f=>
 (gIdx v1 a).bind fun g=>
 (ZfV c g f (ε.wrap (c.Prime-1))).bind fun h=>
 (gApp 8 b [h]).bind fun i=>
 some (.inl (i,ε.wrap (a+1)))
 else
 some (.inr (b))
def Zi2 (a:Zf) (v1 w2:List Int) (b:Int):Option (List Int):=
 loop (ZfA a v1 w2 b) (([]:List Int),0)
def Zeo (l:Zf) (h:List Int) (c:Int) (i:List Int):Int×List (List Int)->Option ((Int×List (List Int)) ⊕ ((List Int×Int×List (List Int)) ⊕ ((List (List Int))×(List Int))))
 | (b,a)=>
 bif decide (b<(a.length:Int)) then
 bif b !=(h.length:Int) then
 (gIdx a b).bind fun j=>
 (gIdx a b).bind fun k=>
 (gIdx k c).bind fun e=>
 (Zi2 l j i e).bind fun f=>
 (gIdx a b).bind fun o=>
 some (.inl (ε.wrap (b+1),(a.set b.toNat f)))
 else
 some (.inl (ε.wrap (b+1),a))
 else
 (gApp 8 h [c]).bind fun g=>
 some (.inr (.inl (g,ε.wrap (c+1),a)))
def ZaC (g:Zf) (b:List Int) (c:Int) (xs:List (List Int)) (a:Int):Option ((List Int×Int×List (List Int)) ⊕ ((List (List Int))×(List Int))):=
 bif a==(xs.length:Int) then
 some (.inl (b,ε.wrap (c+1),xs))
 else
 (gIdx xs a).bind fun h=>
 (gIdx h c).bind fun i=>
 (Zio g i).bind fun j=>
 (gIdx xs a).bind fun k=>
 (Zfr g k j).bind fun e=>
 (gIdx xs (b.length:Int)).bind fun f=>
 (gIdx xs a).bind fun l=>
 (gIdx (xs.set a.toNat f) (b.length:Int)).bind fun o=>
 loop (Zeo g b c e) (0,((xs.set a.toNat f).set ((b.length:Int):Int).toNat e))
def Zb9 (c:Zf) (e:List Int) (b:Int) (xs:List (List Int)):Int->Option ((Int) ⊕ ((List Int×Int×List (List Int)) ⊕ ((List (List Int))×(List Int))))
 | a=>
 bif decide (a<(xs.length:Int)) then
 (gIdx xs a).bind fun f=>
 (gIdx f b).bind fun g=>
 bif g==0 then
 some (.inl (ε.wrap (a+1)))
 else
 (ZaC c e b xs a).map fun x=>.inr (x)
 else
 (ZaC c e b xs a).map fun x=>.inr (x)
def ZhP (c:Zf) (a:List Int) (b:Int) (xs:List (List Int)):Option ((List Int×Int×List (List Int)) ⊕ ((List (List Int))×(List Int))):=
 loop (Zb9 c a b xs) ((a.length:Int))
def Zcz (c:Zf) (e:Int):List Int×Int×List (List Int)->Option ((List Int×Int×List (List Int)) ⊕ ((List (List Int))×(List Int)))
 | (a,b,xs)=>
 bif decide (b<e) then
 bif decide (((a.length:Int):Int)<(xs.length:Int)) then
 ZhP c a b xs
 else
 some (.inr ((xs,a)))
 else
 some (.inr ((xs,a)))
def ZlU (b:Zf) (c:List (List Int)) (e:Int):Option ((List (List Int))×(List Int)):=
 (Zjj c).bind fun a=>
 loop (Zcz b e) (([]:List Int),0,a)
def ZfW (f:Zf) (b:List (List Int)):Option (List (List Int)):=
 (gIdx b 0).bind fun c=>
 (ZlU f b (c.length:Int)).bind fun a=>
 (gSl a.1 0 (a.2.length:Int)).bind fun e=>
 some (e)
def Zc5 (a:Z5):Option (Bool):=
 (Za8 (Zf.mk a.Field.Prime a.Field.Degree a.Field.Poly)).bind fun b=>
 (Zjv b (a.Rows.length:Int)).bind fun c=>
 bif c==0 then
 some (false)
 else
 (ZfW (Zf.mk a.Field.Prime a.Field.Degree a.Field.Poly) a.Rows).bind fun e=>
 (Zfz e a.Rows).bind fun f=>
 some (f)
def ZaA (a:Z5):Option Bool:=
 (Zhw (Zf.mk a.Field.Prime a.Field.Degree a.Field.Poly) a.Rows).bind fun b=>
 bif !b then
 some (false)
 else
 (gIdx a.Rows 0).bind fun c=>
 bif decide (((c.length:Int):Int)>32) then
 some (false)
 else
 bif decide (((a.Rows.length:Int):Int)>8) then
 some (false)
 else
 Zc5 a
def Ziq (a:List Int):Int->Option ((Int) ⊕ (Bool))
 | b=>
 bif decide (b<(a.length:Int)) then
 (gIdx a b).bind fun c=>
 (Z2 c 0 63).bind fun e=>
 bif !e then
 some (.inr (false))
 else
 some (.inl (ε.wrap (b+1)))
 else
 some (.inr (true))
def Zjl (a:List Int):Option Bool:=
 bif decide (((a.length:Int):Int)>64) then
 some (false)
 else
 loop (Ziq a) (0)
def Zjg (a b:Zd):Option Bool:=
 bif decide (a.A<b.A) then
 some (true)
 else
 bif a.A==b.A then
 some (decide (a.B<b.B))
 else
 some (false)
def Zdg (c:Zc):Int->Option ((Int) ⊕ (Bool))
 | b=>
 bif decide (b<(c.Edges.length:Int)) then
 (gIdx c.Edges b).bind fun a=>
 (Z2 a.A 0 (ε.wrap ((c.Colors.length:Int)-1))).bind fun e=>
 bif !e then
 some (.inr (false))
 else
 (Z2 a.B (ε.wrap (a.A+1)) (ε.wrap ((c.Colors.length:Int)-1))).bind fun f=>
 bif !f then
 some (.inr (false))
 else
 bif decide (b>0) then
 (gIdx c.Edges (ε.wrap (b-1))).bind fun g=>
 (Zjg g (Zd.mk a.A a.B)).bind fun h=>
 bif !h then
 some (.inr (false))
 else
 some (.inl (ε.wrap (b+1)))
 else
 some (.inl (ε.wrap (b+1)))
 else
 some (.inr (true))
def Zlg (a:Zc):Option (Bool):=
 loop (Zdg a) (0)
def Zfl (a:Zc):Option Bool:=
 (Zjl a.Colors).bind fun r8=>
 bif !r8 then
 some (false)
 else
 bif decide (((a.Edges.length:Int):Int)>512) then
 some (false)
 else
 Zlg a
def Zd5 (b:ZF) (c:List Int):Int×List Zd->Option ((Int×List Zd) ⊕ (Zc×Bool))
 | (a,xs)=>
 bif decide (a<(b.Rows.length:Int)) then
 (gIdx b.Rows a).bind fun e=>
 bif ((e.length:Int):Int) !=2 then
 some (.inr (((Zc.mk ([]:List Int) ([]:List Zd)),false)))
 else
 (gIdx b.Rows a).bind fun f=>
 (gIdx f 0).bind fun g=>
 (gIdx b.Rows a).bind fun h=>
 (gIdx h 1).bind fun i=>
 (gApp 16 xs [(Zd.mk g i)]).bind fun j=>
 some (.inl (ε.wrap (a+1),j))
 else
 (Zfl (Zc.mk c xs)).bind fun k=>
 some (.inr (((Zc.mk c xs),k)))
def Zgx (a:ZF):Option (Zc×Bool):=
 (Z2 a.Size 0 64).bind fun b=>
 bif !b then
 some (((Zc.mk ([]:List Int) ([]:List Zd)),false))
 else
 (gMake 8 (0:Int) a.Size a.Size).bind fun c=>
 loop (Zd5 a c) (0,([]:List Zd))
def Zbu (c:List (List Int)) (p1:List Int):Int×Int->Option ((Int×Int) ⊕ (Int×Bool))
 | (b,a)=>
 bif decide (b<a) then
 (gNz 2).bind fun _=>
 (gIdx c (ε.wrap (Int.tdiv (ε.wrap (b+a)) 2))).bind fun f=>
 (Zbn f p1).bind fun e=>
 bif e==0 then
 some (.inr ((ε.wrap (Int.tdiv (ε.wrap (b+a)) 2),true)))
 else
 bif decide (e<0) then
 some (.inl (ε.wrap ((ε.wrap (Int.tdiv (ε.wrap (b+a)) 2))+1),a))
 else
 some (.inl (b,ε.wrap (Int.tdiv (ε.wrap (b+a)) 2)))
 else
 some (.inr ((b,false)))
def Zex (a:List (List Int)) (p1:List Int):Option (Int×Bool):=
 loop (Zbu a p1) (0,(a.length:Int))
def ZgU (n0:Int):List Int×Int->Option ((List Int×Int) ⊕ (List Int))
 | (a,b)=>
 bif decide (b<n0) then
 (gApp 8 a [b]).bind fun c=>
 some (.inl (c,ε.wrap (b+1)))
 else
 some (.inr (a))
def Zhn (n0:Int):Option (List Int):=
 loop (ZgU n0) (([]:List Int),0)
def Zg0 (c h:List Int):List Int×Int->Option ((List Int×Int) ⊕ (List Int))
 | (a,b)=>
 bif decide (b<(c.length:Int)) then
 (gIdx c b).bind fun e=>
 (gIdx h e).bind fun f=>
 (gApp 8 a [f]).bind fun g=>
 some (.inl (g,ε.wrap (b+1)))
 else
 some (.inr (a))
def ZhL (a b:List Int):Option (List Int):=
 loop (Zg0 a b) (([]:List Int),0)
def Zjk (a:List (List Int)) (b:Int) (p2:List Int):Option (List (List Int)):=
 (gSl a 0 b).bind fun c=>
 (gApp 24 ([]:List (List Int)) c).bind fun e=>
 (gApp 24 e [p2]).bind fun f=>
 (gSl a b (a.length:Int)).bind fun g=>
 (gApp 24 f g).bind fun h=>
 some (h)
def ZaU (o:List (List Int)) (f g:Int):List (List Int)×List (List Int)×Int->Option ((List (List Int)×List (List Int)×Int) ⊕ ((List (List Int)×List (List Int)×Int) ⊕ ((List (List Int))×Bool)))
 | (b,a,c)=>
 bif decide (c<(o.length:Int)) then
 (gIdx a g).bind fun i=>
 (gIdx o c).bind fun j=>
 (ZhL i j).bind fun e=>
 (Zex b e).bind fun h=>
 bif h.2 then
 some (.inl (b,a,ε.wrap (c+1)))
 else
 bif ((b.length:Int):Int)==f then
 some (.inr (.inr ((([]:List (List Int)),false))))
 else
 (Zjk b h.1 e).bind fun k=>
 (gApp 24 a [e]).bind fun l=>
 some (.inl (k,l,ε.wrap (c+1)))
 else
 some (.inr (.inl (b,a,ε.wrap (g+1))))
def Zcg (e:List (List Int)) (b:Int):List (List Int)×List (List Int)×Int->Option ((List (List Int)×List (List Int)×Int) ⊕ ((List (List Int))×Bool))
 | (a,queue10,c)=>
 bif decide (c<(queue10.length:Int)) then
 loop (ZaU e b c) (a,queue10,0)
 else
 some (.inr ((a,true)))
def ZcY (c:Int) (e:List (List Int)) (a:Int):Option ((List (List Int))×Bool):=
 (Zhn c).bind fun b=>
 loop (Zcg e a) ([b],[b],0)
def ZbF (o:Int) (a:List (List Int)):List (List Int)×List (List Int)×Int->Option ((List (List Int)×List (List Int)×Int) ⊕ ((List (List Int))×Bool))
 | (c,b,e)=>
 bif decide (e<(a.length:Int)) then
 (gIdx a e).bind fun h=>
 (Zex b h).bind fun i=>
 bif i.2 then
 some (.inl (c,b,ε.wrap (e+1)))
 else
 (gIdx a e).bind fun j=>
 (ZaX j).bind fun k=>
 (gApp 24 c [k]).bind fun f=>
 (ZcY o f (a.length:Int)).bind fun g=>
 bif !g.2 then
 some (.inr ((([]:List (List Int)),false)))
 else
 some (.inl (f,g.1,ε.wrap (e+1)))
 else
 (Zfz b a).bind fun l=>
 some (.inr ((c,l)))
def Zhi (c:Int) (a:List (List Int)):Option ((List (List Int))×Bool):=
 (ZcY c ([]:List (List Int)) 1).bind fun b=>
 loop (ZbF c a) (([]:List (List Int)),b.1,0)
def Zdi (a:Zba):Int->Option ((Int) ⊕ (Bool))
 | b=>
 bif decide (b<(a.Elements.length:Int)) then
 (gIdx a.Elements b).bind fun c=>
 (ZdG c).bind fun e=>
 bif !e then
 some (.inr (false))
 else
 (gIdx a.Elements b).bind fun f=>
 bif ((f.length:Int):Int) !=a.Degree then
 some (.inr (false))
 else
 bif decide (b>0) then
 (gIdx a.Elements (ε.wrap (b-1))).bind fun g=>
 (gIdx a.Elements b).bind fun h=>
 (Zbn g h).bind fun i=>
 bif decide (i>=0) then
 some (.inr (false))
 else
 some (.inl (ε.wrap (b+1)))
 else
 some (.inl (ε.wrap (b+1)))
 else
 (Zhi a.Degree a.Elements).bind fun j=>
 some (.inr (j.2))
def Zlu (a:Zba):Option (Bool):=
 loop (Zdi a) (0)
def Zjz (a:Zba):Option Bool:=
 (Z2 a.Degree 1 32).bind fun b=>
 bif !b then
 some (false)
 else
 bif ((a.Elements.length:Int):Int)==0 then
 some (false)
 else
 bif decide (((a.Elements.length:Int):Int)>720) then
 some (false)
 else
 Zlu a
def ZaO (a:ZF):Option Bool:=
 bif a.Kind==1 then
 (Zgn a.Rows).bind fun f=>
 bif f then
 some (((a.Rows.length:Int):Int)==a.Size)
 else
 some (false)
 else
 bif a.Kind==2 then
 (ZhR (Zao.mk a.Size a.Rows)).bind fun g=>
 some (g)
 else
 bif a.Kind==3 then
 (ZhW a.Rows).bind fun h=>
 bif h then
 some (((a.Rows.length:Int):Int)==a.Size)
 else
 some (false)
 else
 bif a.Kind==4 then
 (Zjt a).bind fun c=>
 bif decide (((a.Rows.length:Int):Int)>0) then
 (Zi8 (Zaq.mk c.Levels c.Columns c.Rows)).bind fun i=>
 some (i)
 else
 some (false)
 else
 bif a.Kind==5 then
 (Zbd a).bind fun b=>
 (ZaA (Z5.mk (Zf.mk b.Field.Prime b.Field.Degree b.Field.Poly) b.Rows)).bind fun j=>
 some (j)
 else
 bif a.Kind==6 then
 (Zgx a).bind fun k=>
 some (k.2)
 else
 bif a.Kind==7 then
 (Zjz (Zba.mk a.Size a.Rows)).bind fun e=>
 some (e)
 else
 some (false)
def Zha (b:Int) (xs:List Int) (c:Int):Option ((Int×List Int) ⊕ (Zc)):=
 (gApp 8 xs [c]).bind fun a=>
 some (.inl (ε.wrap (b+1),a))
def Zcm (c:List (List Int)) (e f a:Int) (b:List Zd) (g:Bool):Option ((Int×List Zd) ⊕ ((Int×List Zd) ⊕ ((Int×List Zd) ⊕ ((Int×List Int) ⊕ ((Int×List Int) ⊕ (Zc)))))):=
 bif g then
 (gApp 16 b [(Zd.mk e (ε.wrap ((ε.wrap ((ε.wrap (3*(c.length:Int)))+(ε.wrap (f*(c.length:Int)))))+a)))]).bind fun h=>
 some (.inl (ε.wrap (a+1),h))
 else
 some (.inl (ε.wrap (a+1),b))
def ZbM (f:List (List Int)) (a b:Int):Int×List Zd->Option ((Int×List Zd) ⊕ ((Int×List Zd) ⊕ ((Int×List Zd) ⊕ ((Int×List Int) ⊕ ((Int×List Int) ⊕ (Zc))))))
 | (c,e)=>
 bif decide (c<(f.length:Int)) then
 bif a==b then
 Zcm f a b c e true
 else
 bif a==(ε.wrap ((f.length:Int)+c)) then
 Zcm f a b c e true
 else
 (gIdx f b).bind fun g=>
 (gIdx g c).bind fun h=>
 Zcm f a b c e (a==(ε.wrap ((ε.wrap (2*(f.length:Int)))+h)))
 else
 some (.inr (.inl (ε.wrap (b+1),e)))
def ZdC (e:List (List Int)) (b:Int):Int×List Zd->Option ((Int×List Zd) ⊕ ((Int×List Zd) ⊕ ((Int×List Int) ⊕ ((Int×List Int) ⊕ (Zc)))))
 | (c,a)=>
 bif decide (c<(e.length:Int)) then
 loop (ZbM e b c) (0,a)
 else
 some (.inr (.inl (ε.wrap (b+1),a)))
def ZdU (e:List (List Int)) (c:List Int):Int×List Zd->Option ((Int×List Zd) ⊕ ((Int×List Int) ⊕ ((Int×List Int) ⊕ (Zc))))
 | (b,a)=>
 bif decide (b<(ε.wrap (3*(e.length:Int)))) then
 loop (ZdC e b) (0,a)
 else
 some (.inr (.inr (.inr ((Zc.mk c a)))))
def ZcI (b:List (List Int)):Int×List Int->Option ((Int×List Int) ⊕ ((Int×List Int) ⊕ (Zc)))
 | (c,a)=>
 bif decide (c<(ε.wrap ((b.length:Int)*(b.length:Int)))) then
 (gApp 8 a [3]).bind fun e=>
 some (.inl (ε.wrap (c+1),e))
 else
 loop (ZdU b a) (0,([]:List Zd))
def Zfp (a:List (List Int)) (c:Bool):Int×List Int->Option ((Int×List Int) ⊕ (Zc))
 | (b,xs)=>
 bif decide (b<(ε.wrap (3*(a.length:Int)))) then
 bif !c then
 (gNz (a.length:Int)).bind fun _=>
 Zha b xs (ε.wrap (Int.tdiv b (a.length:Int)))
 else
 Zha b xs 0
 else
 loop (ZcI a) (0,xs)
def Zi9 (a:List (List Int)) (b:Bool):Option Zc:=
 loop (Zfp a b) (0,([]:List Int))
def Zgd (b:List (List Int)) (e:Bool):Option (Zc×Int):=
 (Zgn b).bind fun c=>
 bif !c then
 some (((Zc.mk ([]:List Int) ([]:List Zd)),1))
 else
 bif decide (((b.length:Int):Int)>6) then
 some (((Zc.mk ([]:List Int) ([]:List Zd)),5))
 else
 (Zi9 b e).bind fun a=>
 some (((Zc.mk a.Colors a.Edges),0))
def Zdm (c:Zao) (e:Int):Int×List Zd->Option ((Int×List Zd) ⊕ ((Int×List Zd) ⊕ ((Int×List Int) ⊕ ((Int×List Int) ⊕ (Zc×Int)))))
 | (b,a)=>
 bif decide (b<(c.Blocks.length:Int)) then
 (gIdx c.Blocks b).bind fun f=>
 (Zgm f e).bind fun g=>
 bif g then
 (gApp 16 a [(Zd.mk e (ε.wrap (c.Points+b)))]).bind fun h=>
 some (.inl (ε.wrap (b+1),h))
 else
 some (.inl (ε.wrap (b+1),a))
 else
 some (.inr (.inl (ε.wrap (e+1),a)))
def ZcW (c:Zao) (b:List Int):Int×List Zd->Option ((Int×List Zd) ⊕ ((Int×List Int) ⊕ ((Int×List Int) ⊕ (Zc×Int))))
 | (e,a)=>
 bif decide (e<c.Points) then
 loop (Zdm c e) (0,a)
 else
 bif decide (((a.length:Int):Int)>512) then
 some (.inr (.inr (.inr (((Zc.mk ([]:List Int) ([]:List Zd)),5)))))
 else
 some (.inr (.inr (.inr (((Zc.mk b a),0)))))
def Zdy (b:Zao):Int×List Int->Option ((Int×List Int) ⊕ ((Int×List Int) ⊕ (Zc×Int)))
 | (c,a)=>
 bif decide (c<(b.Blocks.length:Int)) then
 (gApp 8 a [1]).bind fun e=>
 some (.inl (ε.wrap (c+1),e))
 else
 loop (ZcW b a) (0,([]:List Zd))
def Zd0 (a:Zao):Int×List Int->Option ((Int×List Int) ⊕ (Zc×Int))
 | (b,xs)=>
 bif decide (b<a.Points) then
 (gApp 8 xs [0]).bind fun c=>
 some (.inl (ε.wrap (b+1),c))
 else
 loop (Zdy a) (0,xs)
def Zib (a:Zao):Option (Zc×Int):=
 bif decide ((ε.wrap (a.Points+(a.Blocks.length:Int)):Int)>64) then
 some (((Zc.mk ([]:List Int) ([]:List Zd)),5))
 else
 loop (Zd0 a) (0,([]:List Int))
def ZcG (j:Zf) (b c:List Int):Int×List Int->Option ((Int×List Int) ⊕ (List Int))
 | (a,xs)=>
 bif decide (a<(b.length:Int)) then
 (gIdx c a).bind fun e=>
 bif e==0 then
 (gIdx b a).bind fun f=>
 (gIdx xs a).bind fun k=>
 some (.inl (ε.wrap (a+1),(xs.set a.toNat f)))
 else
 (gIdx b a).bind fun g=>
 (gIdx c a).bind fun h=>
 (ZfV j g h 1).bind fun i=>
 (gIdx xs a).bind fun l=>
 some (.inl (ε.wrap (a+1),(xs.set a.toNat i)))
 else
 some (.inr (xs))
def Zho (c:Zf) (a e:List Int):Option (List Int):=
 (gMake 8 (0:Int) (a.length:Int) (a.length:Int)).bind fun b=>
 loop (ZcG c a e) (0,b)
def Zew (c:Z5) (e:Int) (k l:List (List Int)) (f:Int):List (List Int)×Int->Option ((List (List Int)×Int) ⊕ ((List (List Int)×Int) ⊕ ((List (List Int)×Int) ⊕ ((List (List Int)×Int) ⊕ (List (List Int))))))
 | (a,b)=>
 bif decide (b<e) then
 (gIdx k f).bind fun g=>
 (gIdx l b).bind fun h=>
 (Zho (Zf.mk c.Field.Prime c.Field.Degree c.Field.Poly) g h).bind fun i=>
 (gApp 24 a [i]).bind fun j=>
 some (.inl (j,ε.wrap (b+1)))
 else
 some (.inr (.inl (a,ε.wrap (f+1))))
def ZeE (f:Z5) (a:Int) (b:List (List Int)) (g:Int) (h:List (List Int)):List (List Int)×Int->Option ((List (List Int)×Int) ⊕ ((List (List Int)×Int) ⊕ ((List (List Int)×Int) ⊕ (List (List Int)))))
 | (c,e)=>
 bif decide (e<(b.length:Int)) then
 loop (Zew f a b h e) (c,0)
 else
 some (.inr (.inr (.inl (c,ε.wrap (g+1)))))
def ZdI (a:Z5) (b:Int) (j:List (List Int)) (e:Int):List (List Int)×Int->Option ((List (List Int)×Int) ⊕ ((List (List Int)×Int) ⊕ (List (List Int))))
 | (f,c)=>
 bif decide (c<b) then
 (gIdx a.Rows e).bind fun g=>
 (Zfr (Zf.mk a.Field.Prime a.Field.Degree a.Field.Poly) g c).bind fun h=>
 (gApp 24 f [h]).bind fun i=>
 some (.inl (i,ε.wrap (c+1)))
 else
 loop (ZeE a b j e f) (([]:List (List Int)),0)
def ZdL (a:Z5) (b:Int):List (List Int)×Int->Option ((List (List Int)×Int) ⊕ (List (List Int)))
 | (c,e)=>
 bif decide (e<(a.Rows.length:Int)) then
 loop (ZdI a b c e) (([]:List (List Int)),0)
 else
 some (.inr (c))
def ZjG (a:Z5):Option (List (List Int)):=
 (gIdx a.Rows 0).bind fun b=>
 (gMake 8 (0:Int) (b.length:Int) (b.length:Int)).bind fun c=>
 (Za8 (Zf.mk a.Field.Prime a.Field.Degree a.Field.Poly)).bind fun e=>
 loop (ZdL a e) ([c],0)
def ZcU (f:List Int) (c:List (List Int)) (e:Int):Int×List Zd->Option ((Int×List Zd) ⊕ ((Int×List Zd) ⊕ ((Int×List Int) ⊕ ((Int×List Int) ⊕ (Zc×Int)))))
 | (a,b)=>
 bif decide (a<(c.length:Int)) then
 (gIdx c a).bind fun g=>
 (gIdx g e).bind fun h=>
 bif h==1 then
 (gApp 16 b [(Zd.mk e (ε.wrap ((ε.wrap ((f.length:Int)+a))-1)))]).bind fun i=>
 some (.inl (ε.wrap (a+1),i))
 else
 some (.inl (ε.wrap (a+1),b))
 else
 some (.inr (.inl (ε.wrap (e+1),b)))
def Zdb (b:List Int) (e:List (List Int)) (c:List Int):Int×List Zd->Option ((Int×List Zd) ⊕ ((Int×List Int) ⊕ ((Int×List Int) ⊕ (Zc×Int))))
 | (f,a)=>
 bif decide (f<(b.length:Int)) then
 loop (ZcU b e f) (1,a)
 else
 bif decide (((a.length:Int):Int)>512) then
 some (.inr (.inr (.inr (((Zc.mk ([]:List Int) ([]:List Zd)),5)))))
 else
 some (.inr (.inr (.inr (((Zc.mk c a),0)))))
def ZcK (c:List Int) (b:List (List Int)):Int×List Int->Option ((Int×List Int) ⊕ ((Int×List Int) ⊕ (Zc×Int)))
 | (e,a)=>
 bif decide (e<(b.length:Int)) then
 (gApp 8 a [1]).bind fun f=>
 some (.inl (ε.wrap (e+1),f))
 else
 loop (Zdb c b a) (0,([]:List Zd))
def Zdt (a:List Int) (b:List (List Int)):Int×List Int->Option ((Int×List Int) ⊕ (Zc×Int))
 | (c,xs)=>
 bif decide (c<(a.length:Int)) then
 (gApp 8 xs [0]).bind fun e=>
 some (.inl (ε.wrap (c+1),e))
 else
 loop (ZcK a b) (1,xs)
def ZfH (a:Z5):Option (Zc×Int):=
 (Za8 (Zf.mk a.Field.Prime a.Field.Degree a.Field.Poly)).bind fun e=>
 bif e !=2 then
 some (((Zc.mk ([]:List Int) ([]:List Zd)),6))
 else
 (gIdx a.Rows 0).bind fun b=>
 (ZjG a).bind fun c=>
 bif decide ((ε.wrap ((ε.wrap ((b.length:Int)+(c.length:Int)))-1):Int)>64) then
 some (((Zc.mk ([]:List Int) ([]:List Zd)),5))
 else
 loop (Zdt b c) (0,([]:List Int))
def ZcD (a:ZF):Option (Zc×Int):=
 bif a.Kind==1 then
 (Zgd a.Rows false).bind fun c=>
 some (((Zc.mk c.1.Colors c.1.Edges),c.2))
 else
 bif a.Kind==2 then
 (Zib (Zao.mk a.Size a.Rows)).bind fun e=>
 some (((Zc.mk e.1.Colors e.1.Edges),e.2))
 else
 bif a.Kind==5 then
 (Zbd a).bind fun b=>
 (ZfH (Z5.mk (Zf.mk b.Field.Prime b.Field.Degree b.Field.Poly) b.Rows)).bind fun f=>
 some (((Zc.mk f.1.Colors f.1.Edges),f.2))
 else
 bif a.Kind==6 then
 (Zgx a).bind fun g=>
 some (((Zc.mk g.1.Colors g.1.Edges),0))
 else
 some (((Zc.mk ([]:List Int) ([]:List Zd)),6))
def Zjm (c:Int):Option Bool:=
 (Z2 c 1 20000).bind fun a=>
 some (a)
def ZeC (f:Zc):Int×List (List Bool)->Option ((Int×List (List Bool)) ⊕ ((List (List Bool)×Int) ⊕ (List (List Bool))))
 | (e,xs)=>
 bif decide (e<(f.Edges.length:Int)) then
 (gIdx f.Edges e).bind fun a=>
 (gIdx xs a.A).bind fun b=>
 (gIdx b a.B).bind fun g=>
 (gIdx (xs.set a.A.toNat (b.set a.B.toNat true)) a.B).bind fun c=>
 (gIdx c a.A).bind fun h=>
 some (.inl (ε.wrap (e+1),((xs.set a.A.toNat (b.set a.B.toNat true)).set a.B.toNat (c.set a.A.toNat true))))
 else
 some (.inr (.inr (xs)))
def ZgD (b:Zc):List (List Bool)×Int->Option ((List (List Bool)×Int) ⊕ (List (List Bool)))
 | (a,c)=>
 bif decide (c<(b.Colors.length:Int)) then
 (gMake 1 false (b.Colors.length:Int) (b.Colors.length:Int)).bind fun e=>
 (gApp 24 a [e]).bind fun f=>
 some (.inl (f,ε.wrap (c+1)))
 else
 loop (ZeC b) (0,a)
def ZeF (a:Zc):Option (List (List Bool)):=
 loop (ZgD a) (([]:List (List Bool)),0)
def ZcV (e:List (List Bool)) (c:List (List Int)) (f:Int):List Int×Int->Option ((List Int×Int) ⊕ ((List (List Int)×Int) ⊕ (List (List Int))))
 | (a,b)=>
 bif decide (b<(e.length:Int)) then
 (gIdx e f).bind fun g=>
 (gIdx g b).bind fun h=>
 bif h then
 (gApp 8 a [b]).bind fun i=>
 some (.inl (i,ε.wrap (b+1)))
 else
 some (.inl (a,ε.wrap (b+1)))
 else
 (gApp 24 c [a]).bind fun j=>
 some (.inr (.inl (j,ε.wrap (f+1))))
def ZfI (b:List (List Bool)):List (List Int)×Int->Option ((List (List Int)×Int) ⊕ (List (List Int)))
 | (a,c)=>
 bif decide (c<(b.length:Int)) then
 loop (ZcV b a c) (([]:List Int),0)
 else
 some (.inr (a))
def ZjF (a:Zc):Option (List (List Int)):=
 (ZeF (Zc.mk a.Colors a.Edges)).bind fun b=>
 loop (ZfI b) (([]:List (List Int)),0)
def Zb7 (c:List Int) (e:Int) (b:List Int) (a:Bool):Option ((List Int×Bool×Int) ⊕ (List Int)):=
 (gIdx c e).bind fun f=>
 (gApp 8 b [f]).bind fun g=>
 some (.inl (g,a,ε.wrap (e+1)))
def ZcF (a:List Int) (n1:Int) (b:List Int) (c:Bool) (e:Int) (f:Bool):Option ((List Int×Bool×Int) ⊕ (List Int)):=
 bif f then
 (gIdx a e).bind fun g=>
 bif decide (g>n1) then
 (gApp 8 b [n1]).bind fun h=>
 Zb7 a e h true
 else
 Zb7 a e b true
 else
 Zb7 a e b c
def ZaJ (a:List Int) (n1:Int):List Int×Bool×Int->Option ((List Int×Bool×Int) ⊕ (List Int))
 | (c,b,e)=>
 bif decide (e<(a.length:Int)) then
 bif !b then
 (gIdx a e).bind fun f=>
 ZcF a n1 c b e (decide (f>=n1))
 else
 ZcF a n1 c b e false
 else
 bif !b then
 (gApp 8 c [n1]).bind fun g=>
 some (.inr (g))
 else
 some (.inr (c))
def Zmf (a:List Int) (n1:Int):Option (List Int):=
 loop (ZaJ a n1) (([]:List Int),false,0)
def Zf5 (a:List Int):List Int×Int->Option ((List Int×Int) ⊕ (Int))
 | (b,c)=>
 bif decide (c<(a.length:Int)) then
 (gIdx a c).bind fun e=>
 (Zmf b e).bind fun f=>
 some (.inl (f,ε.wrap (c+1)))
 else
 some (.inr ((b.length:Int)))
def ZeJ (a:List Int):Option Int:=
 loop (Zf5 a) (([]:List Int),0)
def ZkL (a:Int) (xs:List Int):Option ((Int×List Int) ⊕ ((List Int×Int) ⊕ (List Int))):=
 (gIdx xs a).bind fun c=>
 (gIdx xs (ε.wrap (a-1))).bind fun b=>
 (gIdx xs a).bind fun e=>
 (gIdx (xs.set a.toNat b) (ε.wrap (a-1))).bind fun f=>
 some (.inl (ε.wrap (a-1),((xs.set a.toNat b).set (ε.wrap (a-1):Int).toNat c)))
def ZcX (b:Int):Int×List Int->Option ((Int×List Int) ⊕ ((List Int×Int) ⊕ (List Int)))
 | (a,xs)=>
 bif decide (a>0) then
 (gIdx xs (ε.wrap (a-1))).bind fun c=>
 (gIdx xs a).bind fun e=>
 bif decide (c>e) then
 ZkL a xs
 else
 some (.inr (.inl (xs,ε.wrap (b+1))))
 else
 some (.inr (.inl (xs,ε.wrap (b+1))))
def ZgX (b:List Int):List Int×Int->Option ((List Int×Int) ⊕ (List Int))
 | (a,c)=>
 bif decide (c<(b.length:Int)) then
 (gIdx b c).bind fun e=>
 (gApp 8 a [e]).bind fun f=>
 loop (ZcX c) ((a.length:Int),f)
 else
 some (.inr (a))
def ZiM (a:List Int):Option (List Int):=
 loop (ZgX a) (([]:List Int),0)
def Zco (g:List (List Int)) (c:Int) (b:List (List Int)) (a:Bool):Option ((List (List Int)×Bool×Int) ⊕ (List (List Int))):=
 (gIdx g c).bind fun e=>
 (gApp 24 b [e]).bind fun f=>
 some (.inl (f,a,ε.wrap (c+1)))
def Zdd (j:List (List Int)) (h:List Int) (a:List (List Int)) (b:Bool) (c e:Int) (f:Bool):Option ((List (List Int)×Bool×Int) ⊕ (List (List Int))):=
 bif f then
 bif decide (e>0) then
 (gApp 24 a [h]).bind fun g=>
 Zco j c g true
 else
 Zco j c a true
 else
 Zco j c a b
def ZaH (j:List (List Int)) (e:List Int):List (List Int)×Bool×Int->Option ((List (List Int)×Bool×Int) ⊕ (List (List Int)))
 | (b,a,f)=>
 bif decide (f<(j.length:Int)) then
 (gIdx j f).bind fun g=>
 (Zbn g e).bind fun c=>
 bif !a then
 Zdd j e b a f c (decide (c>=0))
 else
 Zdd j e b a f c false
 else
 bif !a then
 (gApp 24 b [e]).bind fun h=>
 some (.inr (h))
 else
 some (.inr (b))
def ZkR (c:List (List Int)) (a:List Int):Option (List (List Int)):=
 loop (ZaH c a) (([]:List (List Int)),false,0)
def ZeP (c:List (List Int)) (e:List Int) (s:List (List Int)) (a:Int):List Int×Int->Option ((List Int×Int) ⊕ ((List (List Int)×Int) ⊕ (List Int)))
 | (f,b)=>
 (gIdx c a).bind fun g=>
 bif decide (b<(g.length:Int)) then
 (gIdx c a).bind fun h=>
 (gIdx h b).bind fun i=>
 (gIdx e i).bind fun j=>
 (gApp 8 f [j]).bind fun k=>
 some (.inl (k,ε.wrap (b+1)))
 else
 (gIdx e a).bind fun l=>
 (ZiM f).bind fun o=>
 (gApp 8 ([l]:List Int) o).bind fun p=>
 (gApp 24 s [p]).bind fun r=>
 some (.inr (.inl (r,ε.wrap (a+1))))
def Zc6 (j c:List (List Int)) (e:Int):List Int×Int->Option ((List Int×Int) ⊕ ((List Int×Int) ⊕ ((List (List Int)×Int) ⊕ ((List (List Int)×Int) ⊕ (List Int)))))
 | (a,b)=>
 bif decide (b<(c.length:Int)) then
 (gIdx c b).bind fun f=>
 (gIdx j e).bind fun g=>
 (Zbn f g).bind fun h=>
 bif h==0 then
 (gApp 8 a [b]).bind fun i=>
 some (.inl (i,ε.wrap (b+1)))
 else
 some (.inl (a,ε.wrap (b+1)))
 else
 some (.inr (.inl (a,ε.wrap (e+1))))
def ZdV (e f c:List (List Int)):List Int×Int->Option ((List Int×Int) ⊕ ((List (List Int)×Int) ⊕ ((List (List Int)×Int) ⊕ (List Int))))
 | (a,b)=>
 bif decide (b<(e.length:Int)) then
 loop (Zc6 f c b) (a,0)
 else
 some (.inr (.inr (.inr (a))))
def Zea (c e:List (List Int)):List (List Int)×Int->Option ((List (List Int)×Int) ⊕ ((List (List Int)×Int) ⊕ (List Int)))
 | (b,a)=>
 bif decide (a<(c.length:Int)) then
 (gIdx e a).bind fun f=>
 (ZkR b f).bind fun g=>
 some (.inl (g,ε.wrap (a+1)))
 else
 loop (ZdV c e b) (([]:List Int),0)
def ZfC (a:List (List Int)) (e:List Int):List (List Int)×Int->Option ((List (List Int)×Int) ⊕ (List Int))
 | (b,c)=>
 bif decide (c<(a.length:Int)) then
 loop (ZeP a e b c) (([]:List Int),0)
 else
 loop (Zea a b) (([]:List (List Int)),0)
def Zf8 (a:List (List Int)) (b:List Int):Option (List Int):=
 loop (ZfC a b) (([]:List (List Int)),0)
def ZcE (b:List (List Int)):Int×List Int->Option ((Int×List Int) ⊕ (List Int))
 | (c,a)=>
 (ZeJ a).bind fun e=>
 bif decide (e>c) then
 (ZeJ a).bind fun f=>
 (Zf8 b a).bind fun g=>
 some (.inl (f,g))
 else
 some (.inr (a))
def Zfe (a:List (List Int)) (c:List Int):Option (List Int):=
 (ZeJ c).bind fun r8=>
 (Zf8 a c).bind fun b=>
 loop (ZcE a) (r8,b)
def Zca (g:List Int) (f a b:Int) (c:Bool):Option ((Int×Int) ⊕ ((Int×Int) ⊕ (Int))):=
 bif c then
 (gIdx g f).bind fun e=>
 some (.inl (e,ε.wrap (b+1)))
 else
 some (.inl (a,ε.wrap (b+1)))
def Zcc (h:List Int) (b:Int):Int×Int->Option ((Int×Int) ⊕ ((Int×Int) ⊕ (Int)))
 | (a,c)=>
 bif decide (c<b) then
 (gIdx h b).bind fun e=>
 (gIdx h c).bind fun f=>
 bif e==f then
 bif decide (a<0) then
 Zca h b a c true
 else
 (gIdx h b).bind fun g=>
 Zca h b a c (decide (g<a))
 else
 Zca h b a c false
 else
 some (.inr (.inl (a,ε.wrap (b+1))))
def ZiI (c:List Int):Int×Int->Option ((Int×Int) ⊕ (Int))
 | (a,b)=>
 bif decide (b<(c.length:Int)) then
 loop (Zcc c b) (a,0)
 else
 some (.inr (a))
def ZjH (a:List Int):Option Int:=
 loop (ZiI a) ((-1),0)
def Zdh (h:List Int) (j:List (List Bool)) (c:Int):Int×List Zd->Option ((Int×List Zd) ⊕ ((Int×List Zd) ⊕ (Zc)))
 | (b,a)=>
 bif decide (b<(h.length:Int)) then
 (gIdx j c).bind fun e=>
 (gIdx e b).bind fun f=>
 bif f then
 (gApp 16 a [(Zd.mk c b)]).bind fun g=>
 some (.inl (ε.wrap (b+1),g))
 else
 some (.inl (ε.wrap (b+1),a))
 else
 some (.inr (.inl (ε.wrap (c+1),a)))
def ZfX (c:List Int) (e:List (List Bool)) (b:List Int):Int×List Zd->Option ((Int×List Zd) ⊕ (Zc))
 | (a,xs)=>
 bif decide (a<(c.length:Int)) then
 loop (Zdh c e a) (ε.wrap (a+1),xs)
 else
 some (.inr ((Zc.mk b xs)))
def Zie (c:List Int) (e:List (List Bool)):Option Zc:=
 (ZaX c).bind fun a=>
 loop (ZfX c e a) (0,([]:List Zd))
def Zef (o:Zc) (g xs:List Int):Int×List (List Bool)->Option ((Int×List (List Bool)) ⊕ ((Int×List Int) ⊕ (Zc)))
 | (l,a)=>
 bif decide (l<(o.Edges.length:Int)) then
 (gIdx o.Edges l).bind fun b=>
 (gIdx g b.A).bind fun c=>
 (gIdx a c).bind fun e=>
 (gIdx g b.B).bind fun f=>
 (gIdx e f).bind fun p=>
 (gIdx g b.B).bind fun h=>
 (gIdx (a.set c.toNat (e.set f.toNat true)) h).bind fun i=>
 (gIdx g b.A).bind fun j=>
 (gIdx i j).bind fun r=>
 some (.inl (ε.wrap (l+1),((a.set c.toNat (e.set f.toNat true)).set h.toNat (i.set j.toNat true))))
 else
 (Zie xs a).bind fun k=>
 some (.inr (.inr ((Zc.mk k.Colors k.Edges))))
def Zgk (e:Zc) (c:List Int):Int×List Int->Option ((Int×List Int) ⊕ (Zc))
 | (a,xs)=>
 bif decide (a<(c.length:Int)) then
 (gIdx c a).bind fun b=>
 (gIdx e.Colors a).bind fun f=>
 (gIdx xs b).bind fun h=>
 some (.inl (ε.wrap (a+1),(xs.set b.toNat f)))
 else
 (ZeF (Zc.mk xs ([]:List Zd))).bind fun g=>
 loop (Zef e c xs) (0,g)
def Zgp (c:Zc) (a:List Int):Option Zc:=
 (gMake 8 (0:Int) (a.length:Int) (a.length:Int)).bind fun b=>
 loop (Zgk c a) (0,b)
def Zfi (c:Zc):List Int×Int->Option ((List Int×Int) ⊕ (List Int))
 | (a,b)=>
 bif decide (b<(c.Edges.length:Int)) then
 (gIdx c.Edges b).bind fun e=>
 (gIdx c.Edges b).bind fun f=>
 (gApp 8 a ([e.A,f.B]:List Int)).bind fun g=>
 some (.inl (g,ε.wrap (b+1)))
 else
 some (.inr (a))
def Zf2 (a:Zc):Option (List Int):=
 loop (Zfi a) (([]:List Int),0)
def Zgz (b c:Zc):Option Int:=
 (Zbn b.Colors c.Colors).bind fun a=>
 bif a !=0 then
 some (a)
 else
 (Zf2 (Zc.mk b.Colors b.Edges)).bind fun e=>
 (Zf2 (Zc.mk c.Colors c.Edges)).bind fun f=>
 (Zbn e f).bind fun g=>
 some (g)
def ZcS (a:ZJ) (g:List Int) (h:Int) (xs:List Int) (b:List Zd) (c:List (List Int)):Option (ZJ):=
 bif decide (h<=0) then
 (ZaX g).bind fun e=>
 (gApp 24 c [e]).bind fun f=>
 some ((ZJ.mk (Zc.mk a.qg.Colors a.qg.Edges) a.qnear (Zc.mk xs b) f a.qnodes (ε.wrap (a.qleaves+1)) a.qbudget a.qfull))
 else
 some ((ZJ.mk (Zc.mk a.qg.Colors a.qg.Edges) a.qnear (Zc.mk xs b) c a.qnodes (ε.wrap (a.qleaves+1)) a.qbudget a.qfull))
def Zda (a:ZJ) (e:List Int) (b:Zc) (c:Int):Option (ZJ):=
 bif decide (c<0) then
 ZcS a e c b.Colors b.Edges ([]:List (List Int))
 else
 ZcS a e c a.qbest.Colors a.qbest.Edges a.qperms
def ZfN (c:List Int) (e b:Int):Option ((List Int×Int) ⊕ ((Int×Int×Int×Int×Bool×List Int×List Zd×List (List Int)) ⊕ (ZJ))):=
 (gApp 8 c [b]).bind fun a=>
 some (.inl (a,ε.wrap (e+1)))
def Zcr (u:ZJ->(List Int)->Option ZJ) (e:ZJ) (k:List Int) (l q o p:Int) (f:List Int) (g:List Zd) (h:List (List Int)) (r:Bool):List Int×Int->Option ((List Int×Int) ⊕ ((Int×Int×Int×Int×Bool×List Int×List Zd×List (List Int)) ⊕ (ZJ)))
 | (i,b)=>
 bif decide (b<(k.length:Int)) then
 (gIdx k b).bind fun c=>
 bif b==l then
 ZfN i b (ε.wrap ((ε.wrap ((ε.wrap (2*c))+1))-1))
 else
 ZfN i b (ε.wrap ((ε.wrap (2*c))+1))
 else
 (Zfe e.qnear i).bind fun j=>
 (u (ZJ.mk (Zc.mk e.qg.Colors e.qg.Edges) e.qnear (Zc.mk f g) h (ε.wrap (q+1)) o p r) j).bind fun a=>
 some (.inr (.inl (ε.wrap (l+1),a.qnodes,a.qleaves,a.qbudget,a.qfull,a.qbest.Colors,a.qbest.Edges,a.qperms)))
def ZeN (k:ZJ->(List Int)->Option ZJ) (f:ZJ) (i:List Int) (j q g h:Int) (a:List Int) (b:List Zd) (c:List (List Int)) (e:Bool):Option ((Int×Int×Int×Int×Bool×List Int×List Zd×List (List Int)) ⊕ (ZJ)):=
 bif e then
 some (.inr ((ZJ.mk (Zc.mk f.qg.Colors f.qg.Edges) f.qnear (Zc.mk a b) c q g h e)))
 else
 loop (Zcr k f i j q g h a b c e) (([]:List Int),0)
def Zbt (o:ZJ->(List Int)->Option ZJ) (g:ZJ) (j:List Int) (k:Int):Int×Int×Int×Int×Bool×List Int×List Zd×List (List Int)->Option ((Int×Int×Int×Int×Bool×List Int×List Zd×List (List Int)) ⊕ (ZJ))
 | (h,q,f,e,i,a,b,c)=>
 bif decide (h<(j.length:Int)) then
 (gIdx j h).bind fun l=>
 bif l !=k then
 some (.inl (ε.wrap (h+1),q,f,e,i,a,b,c))
 else
 bif q==e then
 ZeN o g j h q f e a b c true
 else
 ZeN o g j h q f e a b c i
 else
 some (.inr ((ZJ.mk (Zc.mk g.qg.Colors g.qg.Edges) g.qnear (Zc.mk a b) c q f e i)))
def q_spec_l22Find_run (g:ZJ->(List Int)->Option ZJ) (a:ZJ) (c:List Int):Option ZJ:=
 (ZjH c).bind fun e=>
 bif decide (e<0) then
 (Zgp (Zc.mk a.qg.Colors a.qg.Edges) c).bind fun b=>
 bif decide (((a.qperms.length:Int):Int)>0) then
 (Zgz (Zc.mk b.Colors b.Edges) (Zc.mk a.qbest.Colors a.qbest.Edges)).bind fun f=>
 Zda a c b f
 else
 Zda a c b (-1)
 else
 loop (Zbt g a c e) (0,a.qnodes,a.qleaves,a.qbudget,a.qfull,a.qbest.Colors,a.qbest.Edges,a.qperms)
def pn_spec_l22Find_run:Nat->(ZJ->(List Int)->Option ZJ)
 | 0=>(fun _ _=>none)
 | n+1=>q_spec_l22Find_run (pn_spec_l22Find_run n)
def ZnB:ZJ->(List Int)->Option ZJ:=(pn_spec_l22Find_run fuel)
def Zkj (b:Zc) (e:Int):Option ZJ:=
 (ZjF (Zc.mk b.Colors b.Edges)).bind fun r8=>
 (Zfe r8 b.Colors).bind fun c=>
 (ZnB (ZJ.mk (Zc.mk b.Colors b.Edges) r8 (Zc.mk ([]:List Int) ([]:List Zd)) ([]:List (List Int)) 0 0 e false) c).bind fun a=>
 some ((ZJ.mk (Zc.mk b.Colors b.Edges) r8 (Zc.mk a.qbest.Colors a.qbest.Edges) a.qperms a.qnodes a.qleaves a.qbudget a.qfull))
def Zi4 (b:Zc) (e:Int):Option (ZJ×Int):=
 (Zfl (Zc.mk b.Colors b.Edges)).bind fun r8=>
 bif !r8 then
 some (((ZJ.mk (Zc.mk ([]:List Int) ([]:List Zd)) ([]:List (List Int)) (Zc.mk ([]:List Int) ([]:List Zd)) ([]:List (List Int)) 0 0 0 false),1))
 else
 (Zjm e).bind fun c=>
 bif !c then
 some (((ZJ.mk (Zc.mk ([]:List Int) ([]:List Zd)) ([]:List (List Int)) (Zc.mk ([]:List Int) ([]:List Zd)) ([]:List (List Int)) 0 0 0 false),2))
 else
 (Zkj (Zc.mk b.Colors b.Edges) e).bind fun a=>
 bif a.qfull then
 some (((ZJ.mk (Zc.mk ([]:List Int) ([]:List Zd)) ([]:List (List Int)) (Zc.mk ([]:List Int) ([]:List Zd)) ([]:List (List Int)) 0 0 0 false),5))
 else
 some (((ZJ.mk (Zc.mk a.qg.Colors a.qg.Edges) a.qnear (Zc.mk a.qbest.Colors a.qbest.Edges) a.qperms a.qnodes a.qleaves a.qbudget a.qfull),0))
def Zg6 (a:List Int) (c e:Int):Option ((List Int×Int) ⊕ (ByteArray)):=
 (gApp 1 ([IntKind.u8.wrap (ε.wrap (48+e))]:List Int) a).bind fun b=>
 (gNz 10).bind fun _=>
 some (.inl (b,ε.wrap (Int.tdiv c 10)))
def Za4 (n0:Int):List Int×Int->Option ((List Int×Int) ⊕ (ByteArray))
 | (a,b)=>
 bif b !=0 then
 (gNz 10).bind fun _=>
 bif decide ((Int.tmod b 10:Int)<0) then
 Zg6 a b (ε.wrap (0-(Int.tmod b 10)))
 else
 Zg6 a b (Int.tmod b 10)
 else
 bif ((a.length:Int):Int)==0 then
 some (.inr (⟨#[48]⟩))
 else
 bif decide (n0<0) then
 (gByt a).bind fun c=>
 (gFit (⟨#[45]⟩:ByteArray) c).bind fun _=>
 some (.inr ((⟨#[45]⟩:ByteArray)++c))
 else
 (gByt a).bind fun e=>
 some (.inr (e))
def Ze1 (n0:Int):Option ByteArray:=
 loop (Za4 n0) (([]:List Int),n0)
def Ze5 (b:List Int) (e:Int) (a:ByteArray):Option ((ByteArray×Int) ⊕ (ByteArray)):=
 (gIdx b e).bind fun f=>
 (Ze1 f).bind fun c=>
 (gFit a c).bind fun _=>
 some (.inl (a++c,ε.wrap (e+1)))
def ZbO (a:List Int):ByteArray×Int->Option ((ByteArray×Int) ⊕ (ByteArray))
 | (b,c)=>
 bif decide (c<(a.length:Int)) then
 (gIdx a c).bind fun e=>
 (Z2 e (-999999999) 999999999).bind fun f=>
 bif !f then
 some (.inr (⟨#[]⟩))
 else
 bif decide (c>0) then
 (gFit b (⟨#[44]⟩:ByteArray)).bind fun _=>
 Ze5 a c (b++(⟨#[44]⟩:ByteArray))
 else
 Ze5 a c b
 else
 some (.inr (b))
def Zhh (a:List Int):Option ByteArray:=
 bif decide (((a.length:Int):Int)>100) then
 some (⟨#[]⟩)
 else
 bif ((a.length:Int):Int)==0 then
 some (⟨#[45]⟩)
 else
 loop (ZbO a) (⟨#[]⟩,0)
def ZgA (f:Zc) (e:Int) (a:ByteArray):Option ((ByteArray×Int) ⊕ (ByteArray)):=
 (gIdx f.Edges e).bind fun g=>
 (Ze1 g.A).bind fun b=>
 (gIdx f.Edges e).bind fun h=>
 (Ze1 h.B).bind fun c=>
 (gFit b (⟨#[45]⟩:ByteArray)).bind fun _=>
 (gFit (b++(⟨#[45]⟩:ByteArray):ByteArray) c).bind fun _=>
 (gFit a ((b++(⟨#[45]⟩:ByteArray):ByteArray)++c:ByteArray)).bind fun _=>
 some (.inl (a++((b++(⟨#[45]⟩:ByteArray):ByteArray)++c:ByteArray),ε.wrap (e+1)))
def Zen (c:Zc):ByteArray×Int->Option ((ByteArray×Int) ⊕ (ByteArray))
 | (a,b)=>
 bif decide (b<(c.Edges.length:Int)) then
 bif decide (b>0) then
 (gFit a (⟨#[44]⟩:ByteArray)).bind fun _=>
 ZgA c b (a++(⟨#[44]⟩:ByteArray))
 else
 ZgA c b a
 else
 some (.inr (a))
def Zji (a:Zc):Option ByteArray:=
 (Zhh a.Colors).bind fun b=>
 (gFit b (⟨#[59]⟩:ByteArray)).bind fun _=>
 loop (Zen a) (b++(⟨#[59]⟩:ByteArray),0)
def ZeS (b:Zc) (e:Int):Option (ByteArray×Int):=
 (Zi4 (Zc.mk b.Colors b.Edges) e).bind fun a=>
 bif a.2 !=0 then
 some ((⟨#[]⟩,a.2))
 else
 (Zji (Zc.mk a.1.qbest.Colors a.1.qbest.Edges)).bind fun c=>
 some ((c,0))
def Zig (b:ZF) (g:Int):Option (ByteArray×Int):=
 (ZaO (ZF.mk b.Kind b.Size b.Rows)).bind fun r8=>
 bif !r8 then
 some ((⟨#[]⟩,1))
 else
 (Z2 g 1 20000).bind fun e=>
 bif !e then
 some ((⟨#[]⟩,2))
 else
 (ZcD (ZF.mk b.Kind b.Size b.Rows)).bind fun a=>
 bif a.2 !=0 then
 some ((⟨#[]⟩,a.2))
 else
 (ZeS (Zc.mk a.1.Colors a.1.Edges) g).bind fun c=>
 some ((c.1,c.2))
def Zjf (b:List Int):Int×List Int->Option ((Int×List Int) ⊕ (List Int))
 | (a,xs)=>
 bif decide (a<(b.length:Int)) then
 (gIdx b a).bind fun c=>
 (gIdx xs a).bind fun e=>
 some (.inl (ε.wrap (a+1),(xs.set a.toNat c)))
 else
 some (.inr (xs))
def Ze9 (a:List Int):Option (List Int):=
 (gMake 8 (0:Int) (a.length:Int) (a.length:Int)).bind fun b=>
 loop (Zjf a) (0,b)
def ZhX (b:List (List Int)):Int×List (List Int)->Option ((Int×List (List Int)) ⊕ (List (List Int)))
 | (a,xs)=>
 bif decide (a<(b.length:Int)) then
 (gIdx b a).bind fun c=>
 (Ze9 c).bind fun e=>
 (gIdx xs a).bind fun f=>
 some (.inl (ε.wrap (a+1),(xs.set a.toNat e)))
 else
 some (.inr (xs))
def Zft (a:List (List Int)):Option (List (List Int)):=
 (gMake 24 ([]:List Int) (a.length:Int) (a.length:Int)).bind fun b=>
 loop (ZhX a) (0,b)
def ZeL (a:Zan):Option ZF:=
 (Zft a.Rows).bind fun b=>
 some ((ZF.mk a.Kind a.Size b))
def Z4 (a:List (List Int)):Option Int:=
 some ((a.length:Int))
def Zab (n0 b a:Int):Option Bool:=
 bif decide (n0>=b) then
 some (decide (n0<=a))
 else
 some (false)
def Zb8 (b:List (List Int)) (c:(List Int)->Option Bool):Int->Option ((Int) ⊕ (Int))
 | a=>
 bif decide (a<(b.length:Int)) then
 (gIdx b a).bind fun e=>
 (c e).bind fun f=>
 bif f then
 some (.inr (a))
 else
 some (.inl (ε.wrap (a+1)))
 else
 some (.inr ((-1)))
def ZgW (b:List (List Int)) (a:(List Int)->Option Bool):Option Int:=
 loop (Zb8 b a) (0)
def ZgO (b:List (List Int)) (a:(List Int)->Option Bool):Option Bool:=
 (ZgW b a).bind fun c=>
 some (decide (c>=0))
def ZbX (a:List Int):Option (List Int):=gApp 8 [] a
def ZcL (a:List Int):Option (List Int):=if a.length<4611686018427387904 then some (sortI a) else none
def Zgu (e b:List Int):Int->Option ((Int) ⊕ (Bool))
 | a=>
 bif decide (a<(b.length:Int)) then
 (gIdx b a).bind fun c=>
 bif c !=a then
 some (.inr (false))
 else
 some (.inl (ε.wrap (a+1)))
 else
 some (.inr (decide (((e.length:Int):Int)<=32)))
def Ze7 (a:List Int):Option Bool:=
 (ZbX a).bind fun b=>
 (ZcL b).bind fun c=>
 loop (Zgu a c) (0)
def ZX (a:List Int):Option Int:=
 some ((a.length:Int))
def ZkE (a:List Int) (c:Int):Option Bool:=
 (ZX a).bind fun e=>
 bif e !=c then
 some (true)
 else
 (Ze7 a).bind fun b=>
 some (!b)
def Zgv (e:Int) (a:List (List Int)):Option Bool:=
 (ZgO a (fun b=>ZkE b e)).bind fun c=>
 some (!c)
def ZeW (c:List (List Int)) (b:Int):List Int×Int->Option ((List Int×Int) ⊕ ((Int) ⊕ (Bool)))
 | (column5,a)=>
 bif decide (a<(c.length:Int)) then
 (gIdx c a).bind fun e=>
 (gIdx e b).bind fun f=>
 (gApp 8 column5 [f]).bind fun g=>
 some (.inl (g,ε.wrap (a+1)))
 else
 (Ze7 column5).bind fun h=>
 bif !h then
 some (.inr (.inr (false)))
 else
 some (.inr (.inl (ε.wrap (b+1))))
def ZiF (b:List (List Int)):Int->Option ((Int) ⊕ (Bool))
 | a=>
 bif decide (a<(b.length:Int)) then
 loop (ZeW b a) (([]:List Int),0)
 else
 some (.inr (true))
def Zj6 (a:List (List Int)):Option (Bool):=
 loop (ZiF a) (0)
def Zfa (a:List (List Int)):Option Bool:=
 (Z4 a).bind fun r8=>
 (Zab r8 1 10).bind fun b=>
 bif !b then
 some (false)
 else
 (Zgv r8 a).bind fun c=>
 bif !c then
 some (false)
 else
 Zj6 a
def Zcx (a:List Int) (n1:Int):Int×Int->Option ((Int×Int) ⊕ (Bool))
 | (e,b)=>
 bif decide (b<(a.length:Int)) then
 (gIdx a b).bind fun c=>
 bif decide (c<=e) then
 some (.inr (false))
 else
 bif decide (c>=n1) then
 some (.inr (false))
 else
 some (.inl (c,ε.wrap (b+1)))
 else
 (Zab n1 0 32).bind fun f=>
 some (.inr (f))
def ZhM (a:List Int) (n1:Int):Option Bool:=
 loop (Zcx a n1) ((-1),0)
def Zis (c:List Int) (e:Int):Option Bool:=
 bif decide (((c.length:Int):Int)>0) then
 (ZhM c e).bind fun a=>
 some (a)
 else
 some (false)
def Zje (a:List Int) (b:Int):Option Bool:=
 (Zis a b).bind fun c=>
 some (!c)
def ZlH (g:List (List Int)) (e:Int):Option Bool:=
 (Zab e 1 32).bind fun b=>
 bif b then
 (ZgO g (fun c=>Zje c e)).bind fun a=>
 some (!a)
 else
 some (false)
def Zeg (b:List (List Int)) (c:(List Int)->(List Int)->Option Int):Int->Option ((Int) ⊕ (Bool))
 | a=>
 bif decide (a>0) then
 (gIdx b a).bind fun e=>
 (gIdx b (ε.wrap (a-1))).bind fun f=>
 (c e f).bind fun g=>
 bif decide (g<0) then
 some (.inr (false))
 else
 some (.inl (ε.wrap (a-1)))
 else
 some (.inr (true))
def ZiW (a:List (List Int)) (b:(List Int)->(List Int)->Option Int):Option Bool:=
 loop (Zeg a b) (ε.wrap ((a.length:Int)-1))
def Zcq (a:Int):Option Bool:=
 some (a !=a)
def Zbg (b c:Int):Option Int:=
 (Zcq b).bind fun r8=>
 (Zcq c).bind fun a=>
 bif r8 then
 bif a then
 some (0)
 else
 some ((-1))
 else
 bif a then
 some (1)
 else
 bif decide (b<c) then
 some ((-1))
 else
 bif decide (b>c) then
 some (1)
 else
 some (0)
def Zbc (c e:List Int):Int->Option ((Int) ⊕ (Int))
 | a=>
 bif decide (a<(c.length:Int)) then
 (gIdx c a).bind fun f=>
 bif decide (a>=(e.length:Int)) then
 some (.inr (1))
 else
 (gIdx e a).bind fun g=>
 (Zbg f g).bind fun b=>
 bif b !=0 then
 some (.inr (b))
 else
 some (.inl (ε.wrap (a+1)))
 else
 bif decide (((c.length:Int):Int)<(e.length:Int)) then
 some (.inr ((-1)))
 else
 some (.inr (0))
def Zak (a b:List Int):Option Int:=
 loop (Zbc a b) (0)
def ZgM (a:Zao):Option Bool:=
 (ZlH a.Blocks a.Points).bind fun c=>
 bif c then
 bif decide (((a.Blocks.length:Int):Int)<=128) then
 (ZiW a.Blocks (fun e f=>Zak e f)).bind fun b=>
 some (b)
 else
 some (false)
 else
 some (false)
def Zfv (g:List (List Int)):List (List Int)×Int->Option ((List (List Int)×Int) ⊕ (List (List Int)))
 | (a,b)=>
 bif decide (b<(g.length:Int)) then
 (gIdx g b).bind fun c=>
 (ZbX c).bind fun e=>
 (gApp 24 a [e]).bind fun f=>
 some (.inl (f,ε.wrap (b+1)))
 else
 some (.inr (a))
def Zck (a:List (List Int)):Option (List (List Int)):=
 loop (Zfv a) (([]:List (List Int)),0)
def Zf6 (a:ZF):Option Zao:=
 (Zck a.Rows).bind fun b=>
 some ((Zao.mk a.Size b))
def Zd2 (b:List Int) (c:Int->Option Bool):Int->Option ((Int) ⊕ (Int))
 | a=>
 bif decide (a<(b.length:Int)) then
 (gIdx b a).bind fun e=>
 (c e).bind fun f=>
 bif f then
 some (.inr (a))
 else
 some (.inl (ε.wrap (a+1)))
 else
 some (.inr ((-1)))
def Zhx (b:List Int) (a:Int->Option Bool):Option Int:=
 loop (Zd2 b a) (0)
def ZaT (b:List Int) (a:Int->Option Bool):Option Bool:=
 (Zhx b a).bind fun c=>
 some (decide (c>=0))
def Zim (a:Int):Option Bool:=
 bif a !=1 then
 some (a !=(-1))
 else
 some (false)
def Zel (c:List Int) (e:Int) (f:List Int):Int×Int->Option ((Int×Int) ⊕ ((Int) ⊕ ((Int) ⊕ (Bool))))
 | (b,a)=>
 bif decide (a<(c.length:Int)) then
 (gIdx c a).bind fun g=>
 (gIdx f a).bind fun h=>
 some (.inl (ε.wrap (b+(ε.wrap (g*h))),ε.wrap (a+1)))
 else
 bif b !=0 then
 some (.inr (.inr (.inr (false))))
 else
 some (.inr (.inl (ε.wrap (e+1))))
def ZfB (c:Int) (e:List Int) (b:List (List Int)):Int->Option ((Int) ⊕ ((Int) ⊕ (Bool)))
 | a=>
 bif decide (a<(b.length:Int)) then
 (gIdx b a).bind fun f=>
 loop (Zel e a f) (0,0)
 else
 some (.inr (.inl (ε.wrap (c+1))))
def Zjc (e:List (List Int)) (a:Int) (b:List Int):Option ((Int) ⊕ (Bool)):=
 (gSl e 0 a).bind fun c=>
 loop (ZfB a b c) (0)
def ZcQ (e:List (List Int)) (c:Int):Int->Option ((Int) ⊕ (Bool))
 | a=>
 bif decide (a<(e.length:Int)) then
 (gIdx e a).bind fun b=>
 (ZX b).bind fun f=>
 bif f !=c then
 some (.inr (false))
 else
 (ZaT b (fun i=>Zim i)).bind fun g=>
 bif g then
 some (.inr (false))
 else
 Zjc e a b
 else
 (Zab c 1 32).bind fun h=>
 some (.inr (h))
def Zi6 (a:List (List Int)):Option Bool:=
 (Z4 a).bind fun b=>
 loop (ZcQ a b) (0)
def Zka (c e:Int):Option Bool:=
 (Zab c 2 16).bind fun a=>
 bif a then
 (Zab e 1 8).bind fun b=>
 some (b)
 else
 some (false)
def Zjw (a:Int) (b:Zaq):Option Bool:=
 (Zab a 0 (ε.wrap (b.Levels-1))).bind fun r8=>
 some (!r8)
def Zfd (a:Zaq):Int->Option ((Int) ⊕ (Bool))
 | b=>
 bif decide (b<(a.Rows.length:Int)) then
 (gIdx a.Rows b).bind fun c=>
 (ZX c).bind fun e=>
 bif e !=a.Columns then
 some (.inr (false))
 else
 (ZaT c (fun g=>Zjw g (Zaq.mk a.Levels a.Columns a.Rows))).bind fun f=>
 bif f then
 some (.inr (false))
 else
 some (.inl (ε.wrap (b+1)))
 else
 some (.inr (true))
def Zkl (a:Zaq):Option (Bool):=
 loop (Zfd a) (0)
def ZhK (a:Zaq):Option Bool:=
 (Zka a.Levels a.Columns).bind fun b=>
 bif !b then
 some (false)
 else
 bif decide (((a.Rows.length:Int):Int)>256) then
 some (false)
 else
 Zkl a
def Zk3 (a:ZF):Option Zaq:=
 (Zck a.Rows).bind fun r8=>
 bif decide (((a.Rows.length:Int):Int)>0) then
 (gIdx a.Rows 0).bind fun b=>
 (ZX b).bind fun c=>
 some ((Zaq.mk a.Size c r8))
 else
 some ((Zaq.mk a.Size 0 r8))
def ZeY (a b c:Int):Option ((Int×Int) ⊕ (Int)):=
 some (.inl (ε.wrap (b-1),ε.wrap (c*a)))
def ZaR (b c:Int):Int×Int->Option ((Int×Int) ⊕ (Int))
 | (a,power7)=>
 bif decide (a>0) then
 bif decide (power7<=c) then
 ZeY b a power7
 else
 some (.inr (power7))
 else
 some (.inr (power7))
def Za5 (a b c:Int):Option Int:=
 loop (ZaR a c) (b,1)
def Za2 (a:Zf):Option Int:=
 (Za5 a.Prime a.Degree 64).bind fun b=>
 some (b)
def ZcC (a:Int) (e:List Int):Int×Int×List Int->Option ((Int×Int×List Int) ⊕ (List Int))
 | (c,b,xs)=>
 bif decide (b<(e.length:Int)) then
 (gNz a).bind fun _=>
 (gIdx xs b).bind fun f=>
 (gNz a).bind fun _=>
 some (.inl (ε.wrap (Int.tdiv c a),ε.wrap (b+1),(xs.set b.toNat (Int.tmod c a))))
 else
 some (.inr (xs))
def ZaS (n0 a c:Int):Option (List Int):=
 (gMake 8 (0:Int) c c).bind fun b=>
 loop (ZcC a b) (n0,0,b)
def ZeT (c:List Int) (e f g:Int):Int×List Int->Option ((Int×List Int) ⊕ ((Int×List Int) ⊕ (List Int)))
 | (a,b)=>
 bif decide (a<(c.length:Int)) then
 (gIdx c a).bind fun h=>
 (gIdx b (ε.wrap ((ε.wrap (f-(ε.wrap ((c.length:Int)-1))))+a))).bind fun i=>
 (gNz e).bind fun _=>
 (gNz e).bind fun _=>
 (gIdx b (ε.wrap ((ε.wrap (f-(ε.wrap ((c.length:Int)-1))))+a))).bind fun j=>
 some (.inl (ε.wrap (a+1),(b.set (ε.wrap ((ε.wrap (f-(ε.wrap ((c.length:Int)-1))))+a):Int).toNat (Int.tmod (ε.wrap ((Int.tmod (ε.wrap (i-(ε.wrap (g*h)))) e)+e)) e))))
 else
 some (.inr (.inl (ε.wrap (f-1),b)))
def Zbz (a:List Int) (f:Int):Int×List Int->Option ((Int×List Int) ⊕ (List Int))
 | (b,xs)=>
 bif decide (b>=(ε.wrap ((a.length:Int)-1))) then
 (gIdx xs b).bind fun c=>
 loop (ZeT a f b c) (0,xs)
 else
 (gSl xs 0 (if ((xs.length:Int):Int)<(ε.wrap ((a.length:Int)-1)) then (xs.length:Int) else ε.wrap ((a.length:Int)-1))).bind fun e=>
 some (.inr (e))
def ZcJ (b c:List Int) (e:Int):Option (List Int):=
 (ZbX b).bind fun a=>
 loop (Zbz c e) (ε.wrap ((a.length:Int)-1),a)
def Zip (a:Int):Option Bool:=
 some (a !=0)
def ZhI (a:List Int):Option Bool:=
 (ZaT a (fun b=>Zip b)).bind fun c=>
 some (!c)
def ZlX (a:List Int) (p1 b:Int):Int->Option ((Int) ⊕ ((Int) ⊕ (Bool)))
 | c=>
 (Za5 p1 b 64).bind fun e=>
 bif decide (c<e) then
 (ZaS c p1 b).bind fun f=>
 (gApp 8 f [1]).bind fun g=>
 (ZcJ a g p1).bind fun h=>
 (ZhI h).bind fun i=>
 bif i then
 some (.inr (.inr (false)))
 else
 some (.inl (ε.wrap (c+1)))
 else
 some (.inr (.inl (ε.wrap (b+1))))
def Zme (a:List Int) (p1 c:Int):Int->Option ((Int) ⊕ (Bool))
 | b=>
 bif decide ((ε.wrap (2*b):Int)<=(ε.wrap (c-1))) then
 loop (ZlX a p1 b) (0)
 else
 some (.inr (true))
def Zgq (a:List Int) (p1:Int):Option Bool:=
 (ZX a).bind fun b=>
 loop (Zme a p1 b) (1)
def Zc7 (b:Int):Int×List Int->Option ((Int×List Int) ⊕ ((Int×List Int×Int) ⊕ (List Int)))
 | (a,factor3_2)=>
 (gNz b).bind fun _=>
 bif (Int.tmod a b:Int)==0 then
 (gApp 8 factor3_2 [b]).bind fun c=>
 (gNz b).bind fun _=>
 some (.inl (ε.wrap (Int.tdiv a b),c))
 else
 some (.inr (.inl (a,factor3_2,ε.wrap (b+1))))
def Zbi:Int×List Int×Int->Option ((Int×List Int×Int) ⊕ (List Int))
 | (a,factor3,b)=>
 bif decide ((ε.wrap (b*b):Int)<=a) then
 loop (Zc7 b) (a,factor3)
 else
 bif decide (a>1) then
 (gApp 8 factor3 [a]).bind fun c=>
 some (.inr (c))
 else
 some (.inr (factor3))
def Zb1 (n0:Int):Option (List Int):=
 (Zab n0 1 1000000).bind fun a=>
 bif !a then
 some (([]:List Int))
 else
 loop (Zbi) (n0,([]:List Int),2)
def ZiR (n0:Int):Option Bool:=
 (Zb1 n0).bind fun a=>
 some (((a.length:Int):Int)==1)
def ZlP (a:Zf):Int->Option ((Int) ⊕ (Bool))
 | b=>
 bif decide (b<(a.Poly.length:Int)) then
 (gIdx a.Poly b).bind fun c=>
 (Zab c 0 (ε.wrap (a.Prime-1))).bind fun e=>
 bif !e then
 some (.inr (false))
 else
 some (.inl (ε.wrap (b+1)))
 else
 (Zgq a.Poly a.Prime).bind fun f=>
 some (.inr (f))
def Zh0 (a:Zf):Option (Bool):=
 loop (ZlP a) (0)
def ZiA (a:Zf):Option (Bool):=
 (ZX a.Poly).bind fun b=>
 bif b !=(ε.wrap (a.Degree+1)) then
 some (false)
 else
 (gIdx a.Poly a.Degree).bind fun c=>
 bif c !=1 then
 some (false)
 else
 Zh0 a
def ZgH (a:Zf):Option Bool:=
 (ZiR a.Prime).bind fun c=>
 bif !c then
 some (false)
 else
 bif decide (a.Degree<1) then
 some (false)
 else
 (Za5 a.Prime a.Degree 64).bind fun b=>
 bif decide (b>64) then
 some (false)
 else
 ZiA a
def Zes (a b:Int):Option Bool:=
 (Zab a 0 (ε.wrap (b-1))).bind fun c=>
 some (!c)
def Zk6 (b:Int) (a:List Int):Option Bool:=
 (ZaT a (fun c=>Zes c b)).bind fun e=>
 some (!e)
def Zfs (a:List Int) (c:List (List Int)) (e:Int):Option Bool:=
 (gIdx c 0).bind fun f=>
 bif ((a.length:Int):Int) !=(f.length:Int) then
 some (true)
 else
 (Zk6 e a).bind fun b=>
 some (!b)
def Zkw (a:Zf) (b:List (List Int)):Option (Bool):=
 (Za2 (Zf.mk a.Prime a.Degree a.Poly)).bind fun c=>
 (ZgO b (fun f=>Zfs f b c)).bind fun e=>
 some (!e)
def ZhH (a:Zf) (b:List (List Int)):Option Bool:=
 (ZgH (Zf.mk a.Prime a.Degree a.Poly)).bind fun i=>
 bif !i then
 some (false)
 else
 (Z4 b).bind fun c=>
 (Zab c 1 32).bind fun e=>
 bif !e then
 some (false)
 else
 (gIdx b 0).bind fun f=>
 (ZX f).bind fun g=>
 (Zab g 1 32).bind fun h=>
 bif !h then
 some (false)
 else
 Zkw a b
def ZrK (e:List Int) (a:Int):Int×Int->Option ((Int×Int) ⊕ (Int))
 | (b,k6)=>
 bif decide (k6>=0) then
 (gIdx e k6).bind fun c=>
 some (.inl (ε.wrap ((ε.wrap (b*a))+c),ε.wrap (k6-1)))
 else
 some (.inr (b))
def ZiS (c:List Int) (a:Int):Option Int:=
 loop (ZrK c a) (0,ε.wrap ((c.length:Int)-1))
def Zfh (b:Zf) (c:Int) (e f:List Int):Int×List Int->Option ((Int×List Int) ⊕ (Int))
 | (a,xs)=>
 bif decide (a<(e.length:Int)) then
 (gIdx xs a).bind fun g=>
 (gIdx f a).bind fun h=>
 (gNz b.Prime).bind fun _=>
 (gIdx xs a).bind fun j=>
 some (.inl (ε.wrap (a+1),(xs.set a.toNat (Int.tmod (ε.wrap ((ε.wrap (g+(ε.wrap (c*h))))+b.Prime)) b.Prime))))
 else
 (ZiS xs b.Prime).bind fun i=>
 some (.inr (i))
def Zg5 (a:Zf) (f g b:Int):Option Int:=
 (ZaS f a.Prime a.Degree).bind fun c=>
 (ZaS g a.Prime a.Degree).bind fun e=>
 loop (Zfh a b c e) (0,c)
def Zhm (f:Zf) (g e:List Int) (c:Int):Int×List Int->Option ((Int×List Int) ⊕ ((Int×List Int) ⊕ (Int)))
 | (a,b)=>
 bif decide (a<(e.length:Int)) then
 (gIdx b (ε.wrap (c+a))).bind fun h=>
 (gIdx g c).bind fun i=>
 (gIdx e a).bind fun j=>
 (gNz f.Prime).bind fun _=>
 (gIdx b (ε.wrap (c+a))).bind fun k=>
 some (.inl (ε.wrap (a+1),(b.set (ε.wrap (c+a):Int).toNat (Int.tmod (ε.wrap (h+(ε.wrap (i*j)))) f.Prime))))
 else
 some (.inr (.inl (ε.wrap (c+1),b)))
def Zdv (a:Zf) (b e:List Int):Int×List Int->Option ((Int×List Int) ⊕ (Int))
 | (c,xs)=>
 bif decide (c<(b.length:Int)) then
 loop (Zhm a b e c) (0,xs)
 else
 (ZcJ xs a.Poly a.Prime).bind fun f=>
 (ZiS f a.Prime).bind fun g=>
 some (.inr (g))
def Zjb (a:Zf) (f g:Int):Option Int:=
 (ZaS f a.Prime a.Degree).bind fun b=>
 (ZaS g a.Prime a.Degree).bind fun c=>
 (gMake 8 (0:Int) (ε.wrap (2*a.Degree)) (ε.wrap (2*a.Degree))).bind fun e=>
 loop (Zdv a b c) (0,e)
def Zdo (c:Zf) (p h:Int) (xs l o:List (List Int)):Int×List Int×List Int×List Int×List Int->Option ((Int×List Int×List Int×List Int×List Int) ⊕ ((Int×List (List Int)×List (List Int)×List (List Int)×List Int) ⊕ (Zae)))
 | (a,e,f,g,b)=>
 bif decide (a<p) then
 (Zg5 (Zf.mk c.Prime c.Degree c.Poly) h a 1).bind fun j=>
 (Zg5 (Zf.mk c.Prime c.Degree c.Poly) h a (-1)).bind fun k=>
 (Zjb (Zf.mk c.Prime c.Degree c.Poly) h a).bind fun i=>
 (gIdx f a).bind fun v=>
 (gIdx g a).bind fun w=>
 (gIdx b a).bind fun x=>
 (gIdx (b.set a.toNat i) a).bind fun r=>
 bif r==1 then
 (gIdx e h).bind fun y=>
 some (.inl (ε.wrap (a+1),(e.set h.toNat a),(f.set a.toNat j),(g.set a.toNat k),(b.set a.toNat i)))
 else
 some (.inl (ε.wrap (a+1),e,(f.set a.toNat j),(g.set a.toNat k),(b.set a.toNat i)))
 else
 (gApp 24 xs [f]).bind fun s=>
 (gApp 24 l [g]).bind fun t=>
 (gApp 24 o [b]).bind fun u=>
 some (.inr (.inl (ε.wrap (h+1),s,t,u,e)))
def ZfO (j:Zf) (a:Int):Int×List (List Int)×List (List Int)×List (List Int)×List Int->Option ((Int×List (List Int)×List (List Int)×List (List Int)×List Int) ⊕ (Zae))
 | (f,xs,b,c,e)=>
 bif decide (f<a) then
 (gMake 8 (0:Int) a a).bind fun g=>
 (gMake 8 (0:Int) a a).bind fun h=>
 (gMake 8 (0:Int) a a).bind fun i=>
 loop (Zdo j a f xs b c) (0,e,g,h,i)
 else
 some (.inr ((Zae.mk a xs b c e)))
def ZgV (b:Zf):Option Zae:=
 (Za2 (Zf.mk b.Prime b.Degree b.Poly)).bind fun a=>
 (gMake 8 (0:Int) a a).bind fun c=>
 loop (ZfO b a) (0,([]:List (List Int)),([]:List (List Int)),([]:List (List Int)),c)
def ZeG (a:List Int) (b:Int):Option Bool:=
 (gIdx a b).bind fun c=>
 some (c !=0)
def Zbj (c:Zae) (b:List Int) (l:Int):Int×List Int->Option ((Int×List Int) ⊕ (List Int))
 | (a,xs)=>
 bif decide (a<(b.length:Int)) then
 (gIdx b a).bind fun e=>
 (gIdx xs a).bind fun f=>
 (gIdx c.qadd f).bind fun g=>
 (gIdx c.qmul l).bind fun h=>
 (gIdx h e).bind fun i=>
 (gIdx g i).bind fun j=>
 (gIdx xs a).bind fun k=>
 some (.inl (ε.wrap (a+1),(xs.set a.toNat j)))
 else
 some (.inr (xs))
def ZbP (c:Zae) (b a:List Int) (e:Int):Option (List Int):=
 loop (Zbj c a e) (0,b)
def ZdW (b:List Int) (c:Int) (xs:List (List Int)):Option ((List (List Int))×(List Int)×Int):=
 (gSl xs 0 (b.length:Int)).bind fun a=>
 some ((a,b,c))
def ZfF (e:Int) (a:List Int) (b:Int) (c:List (List Int)):Option ((List Int×Int×Int×List (List Int)) ⊕ ((List (List Int))×(List Int)×Int)):=
 some (.inl (a,b,ε.wrap (e+1),c))
def ZdA (c:Zae) (e:List Int) (o a:Int) (b:List (List Int)) (f:List Int) (g:Bool):Option ((Int×List (List Int)) ⊕ ((Int×List (List Int)) ⊕ ((List Int×Int×Int×List (List Int)) ⊕ ((List (List Int))×(List Int)×Int)))):=
 bif g then
 (gIdx b (e.length:Int)).bind fun h=>
 (gIdx c.qsub 0).bind fun i=>
 (gIdx f o).bind fun j=>
 (gIdx i j).bind fun k=>
 (gNe a (e.length:Int)).bind fun p=>
 (ZbP (Zae.mk c.qq c.qadd c.qsub c.qmul c.qinv) f h k).bind fun l=>
 some (.inl (ε.wrap (a+1),(b.set a.toNat l)))
 else
 some (.inl (ε.wrap (a+1),b))
def ZbN (k:Zae) (c:List Int) (e h:Int) (i:List (List Int)):Int×List (List Int)->Option ((Int×List (List Int)) ⊕ ((Int×List (List Int)) ⊕ ((List Int×Int×Int×List (List Int)) ⊕ ((List (List Int))×(List Int)×Int))))
 | (b,a)=>
 bif decide (b<(i.length:Int)) then
 (gIdx a b).bind fun f=>
 bif b !=(c.length:Int) then
 (gIdx f e).bind fun j=>
 ZdA k c e b a f (j !=0)
 else
 ZdA k c e b a f false
 else
 (gApp 8 c [e]).bind fun g=>
 bif ((g.length:Int):Int)==(a.length:Int) then
 (ZdW g h a).map fun x=>.inr (.inr (.inr (x)))
 else
 (ZfF e g h a).map fun x=>.inr (.inr (x))
def Zf7 (g:Zae) (b:List Int) (k l o:Int) (p:List Int):Int×List (List Int)->Option ((Int×List (List Int)) ⊕ ((List Int×Int×Int×List (List Int)) ⊕ ((List (List Int))×(List Int)×Int)))
 | (c,a)=>
 bif decide (c<(p.length:Int)) then
 (gIdx a (b.length:Int)).bind fun e=>
 (gIdx e c).bind fun r=>
 (gIdx a (b.length:Int)).bind fun f=>
 (gIdx g.qinv l).bind fun h=>
 (gIdx g.qmul h).bind fun i=>
 (gIdx i r).bind fun j=>
 (gIdx f c).bind fun s=>
 some (.inl (ε.wrap (c+1),(a.set ((b.length:Int):Int).toNat (f.set c.toNat j))))
 else
 loop (ZbN g b k o a) (0,a)
def Zg4 (g:Zae) (a:List Int) (c f:Int) (b:List (List Int)):Option ((List Int×Int×Int×List (List Int)) ⊕ ((List (List Int))×(List Int)×Int)):=
 (gIdx b (a.length:Int)).bind fun h=>
 (gIdx h c).bind fun e=>
 (gIdx g.qmul f).bind fun i=>
 (gIdx i e).bind fun j=>
 (gIdx b (a.length:Int)).bind fun k=>
 loop (Zf7 g a c e j k) (0,b)
def ZgP (f:Zae) (a:List Int) (g e:Int) (b:List (List Int)):Option ((List Int×Int×Int×List (List Int)) ⊕ ((List (List Int))×(List Int)×Int)):=
 (gSl b (a.length:Int) (b.length:Int)).bind fun i=>
 (ZgW i (fun f=>ZeG f e)).bind fun c=>
 bif decide (c<0) then
 ZfF e a 0 b
 else
 bif decide (c>0) then
 (gIdx b (ε.wrap ((a.length:Int)+c))).bind fun h=>
 (gIdx b (a.length:Int)).bind fun j=>
 (gIdx b (a.length:Int)).bind fun o=>
 (gIdx (b.set ((a.length:Int):Int).toNat h) (ε.wrap ((a.length:Int)+c))).bind fun p=>
 (gIdx f.qsub 0).bind fun k=>
 (gIdx k g).bind fun l=>
 Zg4 f a e l ((b.set ((a.length:Int):Int).toNat h).set (ε.wrap ((a.length:Int)+c):Int).toNat j)
 else
 Zg4 f a e g b
def ZbW (g:Zae):List Int×Int×Int×List (List Int)->Option ((List Int×Int×Int×List (List Int)) ⊕ ((List (List Int))×(List Int)×Int))
 | (b,c,e,a)=>
 bif decide (((a.length:Int):Int)>0) then
 (gIdx a 0).bind fun f=>
 bif decide (e<(f.length:Int)) then
 ZgP g b c e a
 else
 (ZdW b c a).map fun x=>.inr (x)
 else
 (ZdW b c a).map fun x=>.inr (x)
def ZiC (b:Zae) (c:List (List Int)):Option ((List (List Int))×(List Int)×Int):=
 (Zck c).bind fun a=>
 loop (ZbW b) (([]:List Int),1,0,a)
def Zjo (b h:List (List Int)) (c:(List Int)->(List Int)->Option Bool):Int->Option ((Int) ⊕ (Bool))
 | a=>
 bif decide (a<(b.length:Int)) then
 (gIdx b a).bind fun e=>
 (gIdx h a).bind fun f=>
 (c e f).bind fun g=>
 bif !g then
 some (.inr (false))
 else
 some (.inl (ε.wrap (a+1)))
 else
 some (.inr (true))
def ZlR (a b:List (List Int)) (c:(List Int)->(List Int)->Option Bool):Option Bool:=
 bif ((a.length:Int):Int) !=(b.length:Int) then
 some (false)
 else
 loop (Zjo a b c) (0)
def Zid (b f:List Int):Int->Option ((Int) ⊕ (Bool))
 | a=>
 bif decide (a<(b.length:Int)) then
 (gIdx b a).bind fun c=>
 (gIdx f a).bind fun e=>
 bif c !=e then
 some (.inr (false))
 else
 some (.inl (ε.wrap (a+1)))
 else
 some (.inr (true))
def Zb5 (a b:List Int):Option Bool:=
 bif ((a.length:Int):Int) !=(b.length:Int) then
 some (false)
 else
 loop (Zid a b) (0)
def ZiO (a b:List (List Int)):Option Bool:=
 (ZlR a b (fun c e=>Zb5 c e)).bind fun f=>
 some (f)
def ZjT (a:Z5):Option (Bool):=
 (ZgV (Zf.mk a.Field.Prime a.Field.Degree a.Field.Poly)).bind fun b=>
 (ZiC b a.Rows).bind fun c=>
 (ZiO c.1 a.Rows).bind fun e=>
 some (e)
def Zdc (a:Z5):Option Bool:=
 (ZhH (Zf.mk a.Field.Prime a.Field.Degree a.Field.Poly) a.Rows).bind fun b=>
 bif !b then
 some (false)
 else
 bif decide (((a.Rows.length:Int):Int)>8) then
 some (false)
 else
 (Za2 (Zf.mk a.Field.Prime a.Field.Degree a.Field.Poly)).bind fun c=>
 (Z4 a.Rows).bind fun e=>
 (Za5 c e 4096).bind fun f=>
 bif decide (f>4096) then
 some (false)
 else
 ZjT a
def ZbC (r8:List Int):Int->Option ((Int) ⊕ (Int×Int))
 | a=>
 bif decide (a<(r8.length:Int)) then
 (gIdx r8 a).bind fun b=>
 (gIdx r8 0).bind fun c=>
 bif b !=c then
 some (.inr ((0,0)))
 else
 some (.inl (ε.wrap (a+1)))
 else
 bif ((r8.length:Int):Int)==0 then
 some (.inr ((0,0)))
 else
 (ZX r8).bind fun e=>
 (gIdx r8 0).bind fun f=>
 some (.inr ((f,e)))
def Zb2 (n0:Int):Option (Int×Int):=
 (Zb1 n0).bind fun r8=>
 loop (ZbC r8) (0)
def Zmb (a:Int×Int):Int->Option ((Int) ⊕ (Zf×Int))
 | b=>
 (ZaS b a.1 a.2).bind fun c=>
 (gApp 8 c [1]).bind fun e=>
 (Zgq e a.1).bind fun f=>
 bif !f then
 some (.inl (ε.wrap (b+1)))
 else
 (ZaS b a.1 a.2).bind fun g=>
 (gApp 8 g [1]).bind fun h=>
 some (.inr (((Zf.mk a.1 a.2 h),0)))
def ZiV (a:Int×Int):Option (Zf×Int):=
 loop (Zmb a) (0)
def ZbI (a:Int):Option (Zf×Int):=
 (Zb2 a).bind fun b=>
 bif b.1==0 then
 some (((Zf.mk 0 0 ([]:List Int)),2))
 else
 bif decide (a>64) then
 some (((Zf.mk 0 0 ([]:List Int)),2))
 else
 ZiV b
def Zcf (a:ZF):Option Z5:=
 (ZbI a.Size).bind fun r8=>
 (Zck a.Rows).bind fun b=>
 some ((Z5.mk (Zf.mk r8.1.Prime r8.1.Degree r8.1.Poly) b))
def Zcu (a:List Int):Int->Option ((Int) ⊕ (Int))
 | c=>
 bif decide (c<(a.length:Int)) then
 (gIdx a c).bind fun b=>
 bif b !=0 then
 some (.inr (b))
 else
 some (.inl (ε.wrap (c+1)))
 else
 some (.inr (0))
def Zd7 (a:List Int):Option Int:=
 loop (Zcu a) (0)
def Za7 (a b:Zd):Option Int:=
 (Zbg a.A b.A).bind fun f=>
 (Zbg a.B b.B).bind fun c=>
 (Zd7 ([f,c]:List Int)).bind fun e=>
 some (e)
def Zkg (n0:Int):Option Bool:=
 (Zab n0 0 63).bind fun a=>
 some (a)
def Zmj (n0:Int):Option Bool:=
 (Zkg n0).bind fun a=>
 some (!a)
def Zh6 (c:List Int):Option Bool:=
 bif decide (((c.length:Int):Int)<=64) then
 (ZaT c (fun a=>Zmj a)).bind fun r8=>
 some (!r8)
 else
 some (false)
def Zbm (b:Zc):Int->Option ((Int) ⊕ (Bool))
 | c=>
 bif decide (c<(b.Edges.length:Int)) then
 (gIdx b.Edges c).bind fun a=>
 bif decide (a.A<0) then
 some (.inr (false))
 else
 bif decide (a.A>=a.B) then
 some (.inr (false))
 else
 (ZX b.Colors).bind fun e=>
 bif decide (a.B>=e) then
 some (.inr (false))
 else
 bif decide (c>0) then
 (gIdx b.Edges (ε.wrap (c-1))).bind fun f=>
 (Za7 f (Zd.mk a.A a.B)).bind fun g=>
 bif decide (g>=0) then
 some (.inr (false))
 else
 some (.inl (ε.wrap (c+1)))
 else
 some (.inl (ε.wrap (c+1)))
 else
 (Zh6 b.Colors).bind fun h=>
 bif h then
 some (.inr (decide (((b.Edges.length:Int):Int)<=512)))
 else
 some (.inr (false))
def Zeq (a:Zc):Option Bool:=
 loop (Zbm a) (0)
def Zcd (e:ZF) (c:List Int):Int×List Zd->Option ((Int×List Zd) ⊕ (Zc×Bool))
 | (a,xs)=>
 bif decide (a<(e.Rows.length:Int)) then
 (gIdx e.Rows a).bind fun b=>
 bif ((b.length:Int):Int) !=2 then
 some (.inr (((Zc.mk ([]:List Int) ([]:List Zd)),false)))
 else
 (gIdx b 0).bind fun f=>
 (gIdx b 1).bind fun g=>
 (gApp 16 xs [(Zd.mk f g)]).bind fun h=>
 some (.inl (ε.wrap (a+1),h))
 else
 (Zeq (Zc.mk c xs)).bind fun i=>
 some (.inr (((Zc.mk c xs),i)))
def Zfn (a:ZF):Option (Zc×Bool):=
 (Zab a.Size 0 64).bind fun c=>
 bif !c then
 some (((Zc.mk ([]:List Int) ([]:List Zd)),false))
 else
 (gMake 8 (0:Int) a.Size a.Size).bind fun b=>
 loop (Zcd a b) (0,([]:List Zd))
def ZfU (b:List Int):Int×List Int->Option ((Int×List Int) ⊕ (List Int))
 | (a,xs)=>
 bif decide (a<(b.length:Int)) then
 (gIdx xs a).bind fun c=>
 some (.inl (ε.wrap (a+1),(xs.set a.toNat a)))
 else
 some (.inr (xs))
def ZhB (n0:Int):Option (List Int):=
 (gMake 8 (0:Int) n0 n0).bind fun a=>
 loop (ZfU a) (0,a)
def ZgT (b:List Int):Int×List Int->Option ((Int×List Int) ⊕ (ByteArray))
 | (a,xs)=>
 bif decide (a<(b.length:Int)) then
 (gIdx b a).bind fun c=>
 (gIdx xs a).bind fun f=>
 some (.inl (ε.wrap (a+1),(xs.set a.toNat (IntKind.u8.wrap c))))
 else
 (gByt xs).bind fun e=>
 some (.inr (e))
def ZgY (a:List Int):Option ByteArray:=
 (gMake 1 (0:Int) (a.length:Int) (a.length:Int)).bind fun b=>
 loop (ZgT a) (0,b)
def Ze6 (e f g:List Int):Int×List Int->Option ((Int×List Int) ⊕ (List Int))
 | (a,xs)=>
 bif decide (a<(g.length:Int)) then
 (gIdx e a).bind fun b=>
 (gIdx f b).bind fun c=>
 (gIdx xs a).bind fun h=>
 some (.inl (ε.wrap (a+1),(xs.set a.toNat c)))
 else
 some (.inr (xs))
def ZiL (a c:List Int):Option (List Int):=
 (gMake 8 (0:Int) (a.length:Int) (a.length:Int)).bind fun b=>
 loop (Ze6 a c b) (0,b)
open Classical in
def Zgf (b:List (List Int)) (e:(List Int)->(List Int)->Option Int):Option (List (List Int)):=if (∀ a∈b,∀ c∈b,e a c=some (lexC a c))/\b.length<4611686018427387904 then some (sortRows b) else none
def ZbZ (j:List (List Int)) (f:Int):List (List Int)×Int×List (ByteArray×Bool)->Option ((List (List Int)×Int×List (ByteArray×Bool)) ⊕ ((List (List Int)×Int×List (ByteArray×Bool)) ⊕ ((List (List Int))×Bool)))
 | (elemen6_2,b,a)=>
 bif decide (b<(j.length:Int)) then
 (gIdx j b).bind fun g=>
 (gIdx elemen6_2 f).bind fun h=>
 (ZiL h g).bind fun c=>
 (ZgY c).bind fun e=>
 bif !(mpGet a e false) then
 (gApp 24 elemen6_2 [c]).bind fun i=>
 some (.inl (i,ε.wrap (b+1),(mpSet a e true)))
 else
 some (.inl (elemen6_2,ε.wrap (b+1),a))
 else
 bif decide (((elemen6_2.length:Int):Int)>720) then
 some (.inr (.inr ((([]:List (List Int)),false))))
 else
 some (.inr (.inl (elemen6_2,ε.wrap (f+1),a)))
def Zcp (g:List (List Int)):List (List Int)×Int×List (ByteArray×Bool)->Option ((List (List Int)×Int×List (ByteArray×Bool)) ⊕ ((List (List Int))×Bool))
 | (elemen6,a,mp)=>
 bif decide (a<(elemen6.length:Int)) then
 loop (ZbZ g a) (elemen6,0,mp)
 else
 (Zgf elemen6 (fun c e=>Zak c e)).bind fun b=>
 some (.inr ((b,true)))
def ZeK (e:Int) (g:List (List Int)):Option ((List (List Int))×Bool):=
 (ZhB e).bind fun a=>
 (gIdx ([a]) 0).bind fun b=>
 (ZgY b).bind fun c=>
 loop (Zcp g) ([a],0,(mpSet ([]:List (ByteArray×Bool)) c true))
def Zbp (e:List (List Int)) (j:List Int) (c:(List Int)->(List Int)->Option Int):Int×Int->Option ((Int×Int) ⊕ (Int×Bool))
 | (a,b)=>
 bif decide (a<b) then
 (gNn 1).bind fun _=>
 (gIdx e (ε.wrap (Int.fdiv (IntKind.u64.wrap (ε.wrap (a+b))) (2^min (1:Int).toNat IntKind.u64.bits)))).bind fun f=>
 (c f j).bind fun g=>
 bif decide (g<0) then
 some (.inl (ε.wrap ((ε.wrap (Int.fdiv (IntKind.u64.wrap (ε.wrap (a+b))) (2^min (1:Int).toNat IntKind.u64.bits)))+1),b))
 else
 some (.inl (a,ε.wrap (Int.fdiv (IntKind.u64.wrap (ε.wrap (a+b))) (2^min (1:Int).toNat IntKind.u64.bits))))
 else
 bif decide (a<(e.length:Int)) then
 (gIdx e a).bind fun h=>
 (c h j).bind fun i=>
 some (.inr ((a,i==0)))
 else
 some (.inr ((a,false)))
def ZcM (a:List (List Int)) (c:List Int) (b:(List Int)->(List Int)->Option Int):Option (Int×Bool):=
 loop (Zbp a c b) (0,(a.length:Int))
def Zi5 (g:Int) (h:List (List Int)) (c:Int) (e:List Int):Option ((List (List Int)×List (List Int)×Bool×Int) ⊕ ((List (List Int))×(List (List Int))×Bool)):=
 (gApp 24 h [e]).bind fun a=>
 (ZeK g a).bind fun b=>
 some (.inl (a,b.1,b.2,ε.wrap (c+1)))
def ZaK (k:Int) (j:List (List Int)):List (List Int)×List (List Int)×Bool×Int->Option ((List (List Int)×List (List Int)×Bool×Int) ⊕ ((List (List Int))×(List (List Int))×Bool))
 | (genera7,a,c,b)=>
 bif decide (b<(j.length:Int)) then
 (gIdx j b).bind fun e=>
 (ZcM a e (fun g h=>Zak g h)).bind fun f=>
 bif f.2 then
 some (.inl (genera7,a,c,ε.wrap (b+1)))
 else
 bif !c then
 some (.inl (genera7,a,c,ε.wrap (b+1)))
 else
 Zi5 k genera7 b e
 else
 some (.inr ((genera7,a,c)))
def ZhN (c:Int) (e:List (List Int)):Option ((List (List Int))×(List (List Int))×Bool):=
 (ZeK c ([]:List (List Int))).bind fun a=>
 loop (ZaK c e) (([]:List (List Int)),a.1,a.2,0)
def ZdY (a:Zba):Int->Option ((Int) ⊕ (Bool))
 | b=>
 bif decide (b<(a.Elements.length:Int)) then
 (gIdx a.Elements (ε.wrap (b-1))).bind fun e=>
 (gIdx a.Elements b).bind fun f=>
 (Zak e f).bind fun g=>
 bif decide (g>=0) then
 some (.inr (false))
 else
 some (.inl (ε.wrap (b+1)))
 else
 (ZhN a.Degree a.Elements).bind fun c=>
 bif c.2.2 then
 some (.inr (((c.2.1.length:Int):Int)==(a.Elements.length:Int)))
 else
 some (.inr (false))
def Zl2 (a:Zba):Option (Bool):=
 loop (ZdY a) (1)
def Ziu (a:Zba):Option Bool:=
 (Zab a.Degree 1 32).bind fun c=>
 bif !c then
 some (false)
 else
 bif decide (((a.Elements.length:Int):Int)<1) then
 some (false)
 else
 bif decide (((a.Elements.length:Int):Int)>720) then
 some (false)
 else
 (Zgv a.Degree a.Elements).bind fun b=>
 bif !b then
 some (false)
 else
 Zl2 a
def Zlt (a:ZF):Option Zba:=
 (Zck a.Rows).bind fun b=>
 some ((Zba.mk a.Size b))
def ZeV (a:ZF):Option Bool:=
 bif a.Kind==1 then
 (Z4 a.Rows).bind fun b=>
 bif b==a.Size then
 (Zfa a.Rows).bind fun c=>
 some (c)
 else
 some (false)
 else
 bif a.Kind==2 then
 (Zf6 (ZF.mk a.Kind a.Size a.Rows)).bind fun e=>
 (ZgM e).bind fun f=>
 some (f)
 else
 bif a.Kind==3 then
 (Z4 a.Rows).bind fun g=>
 bif g==a.Size then
 (Zi6 a.Rows).bind fun h=>
 some (h)
 else
 some (false)
 else
 bif a.Kind==4 then
 bif decide (((a.Rows.length:Int):Int)>0) then
 (Zk3 (ZF.mk a.Kind a.Size a.Rows)).bind fun i=>
 (ZhK i).bind fun j=>
 some (j)
 else
 some (false)
 else
 bif a.Kind==5 then
 (Zcf (ZF.mk a.Kind a.Size a.Rows)).bind fun k=>
 (Zdc k).bind fun l=>
 some (l)
 else
 bif a.Kind==6 then
 (Zfn (ZF.mk a.Kind a.Size a.Rows)).bind fun o=>
 some (o.2)
 else
 bif a.Kind==7 then
 (Zlt (ZF.mk a.Kind a.Size a.Rows)).bind fun p=>
 (Ziu p).bind fun r=>
 some (r)
 else
 some (false)
def ZfL (n0:Int):Option Bool:=
 (Zab n0 1 20000).bind fun a=>
 some (a)
open Classical in
def Zin (e:List Zd) (b:Zd->Zd->Option Int):Option (List Zd):=if (∃ g:Zd->Zd->Int,(∀ a c,b a c=some (g a c))/\CmpOk g)/\e.length<4611686018427387904 then some (sortC (fun a c=>(b a c).getD 0) e) else none
def Ziv (c:List Zd):Option (List Zd):=if c.length<4611686018427387904 then cptL (fun (a b:Zd)=>some (a.A==b.A&&a.B==b.B)) c else none
def Zg3 (j:List Zd):List Zd×Int->Option ((List Zd×Int) ⊕ (List Zd))
 | (b,c)=>
 bif decide (c<(j.length:Int)) then
 (gIdx j c).bind fun a=>
 (gApp 16 b [(Zd.mk (if a.B<a.A then a.B else a.A) (if a.B>a.A then a.B else a.A))]).bind fun e=>
 some (.inl (e,ε.wrap (c+1)))
 else
 (Zin b (fun h i=>Za7 h i)).bind fun f=>
 (Ziv f).bind fun g=>
 some (.inr (g))
def Ze2 (a:List Zd):Option (List Zd):=
 loop (Zg3 a) (([]:List Zd),0)
def Zmn (c:List Int) (e:List Zd):Option (Zc×Int):=
 (Ze2 e).bind fun a=>
 some (((Zc.mk c a),0))
def Zgt (a:List Int) (c:List Zd):Option (Zc×Int):=
 bif decide (((a.length:Int):Int)>64) then
 some (((Zc.mk ([]:List Int) ([]:List Zd)),5))
 else
 bif decide (((c.length:Int):Int)>512) then
 some (((Zc.mk ([]:List Int) ([]:List Zd)),5))
 else
 Zmn a c
def ZgE (c:List Int) (a e:Int):Option ((List Int×Int) ⊕ (Zc×Int)):=
 (gApp 8 c [e]).bind fun b=>
 some (.inl (b,ε.wrap (a+1)))
def ZdH (i:List (List Int)) (a c:Int):List Zd×Int->Option ((List Zd×Int) ⊕ ((List Zd×Int) ⊕ ((List Int×Int) ⊕ (Zc×Int))))
 | (e,b)=>
 bif decide (b<a) then
 (gIdx i c).bind fun f=>
 (gIdx f b).bind fun g=>
 (gApp 16 e ([(Zd.mk c (ε.wrap ((ε.wrap ((ε.wrap (3*a))+(ε.wrap (a*c))))+b))),(Zd.mk (ε.wrap (a+b)) (ε.wrap ((ε.wrap ((ε.wrap (3*a))+(ε.wrap (a*c))))+b))),(Zd.mk (ε.wrap ((ε.wrap (2*a))+g)) (ε.wrap ((ε.wrap ((ε.wrap (3*a))+(ε.wrap (a*c))))+b)))]:List Zd)).bind fun h=>
 some (.inl (h,ε.wrap (b+1)))
 else
 some (.inr (.inl (e,ε.wrap (c+1))))
def ZdJ (f:List (List Int)) (b:Int) (g:List Int):List Zd×Int->Option ((List Zd×Int) ⊕ ((List Int×Int) ⊕ (Zc×Int)))
 | (c,e)=>
 bif decide (e<b) then
 loop (ZdH f b e) (c,0)
 else
 (Zgt g c).bind fun a=>
 some (.inr (.inr (((Zc.mk a.1.Colors a.1.Edges),a.2))))
def Zdn (e:List (List Int)) (f:Bool) (a:Int):List Int×Int->Option ((List Int×Int) ⊕ (Zc×Int))
 | (c,b)=>
 bif decide (b<(ε.wrap ((ε.wrap (3*a))+(ε.wrap (a*a))))) then
 (gNz a).bind fun _=>
 bif f then
 bif decide (b<(ε.wrap (3*a))) then
 ZgE c b 0
 else
 ZgE c b (if (3:Int)<(ε.wrap (Int.tdiv b a)) then 3 else ε.wrap (Int.tdiv b a))
 else
 ZgE c b (if (3:Int)<(ε.wrap (Int.tdiv b a)) then 3 else ε.wrap (Int.tdiv b a))
 else
 loop (ZdJ e a c) (([]:List Zd),0)
def ZeZ (b:List (List Int)) (e:Bool):Option (Zc×Int):=
 (Zfa b).bind fun c=>
 bif !c then
 some (((Zc.mk ([]:List Int) ([]:List Zd)),1))
 else
 (Z4 b).bind fun a=>
 bif decide (a>6) then
 some (((Zc.mk ([]:List Int) ([]:List Zd)),5))
 else
 loop (Zdn b e a) (([]:List Int),0)
def ZfZ (c a:Int):Int×List Int->Option ((Int×List Int) ⊕ (List Int))
 | (k6,xs)=>
 bif decide (k6<(ε.wrap (c+a))) then
 (gIdx xs k6).bind fun b=>
 some (.inl (ε.wrap (k6+1),(xs.set k6.toNat 1)))
 else
 some (.inr (xs))
def ZiY (c a:Int):Option (List Int):=
 (gMake 8 (0:Int) (ε.wrap (c+a)) (ε.wrap (c+a))).bind fun b=>
 loop (ZfZ c a) (c,b)
def ZdE (h c:Int) (e:List Int):List Zd×Int->Option ((List Zd×Int) ⊕ ((List Zd×Int) ⊕ (Zc×Int)))
 | (a,b)=>
 bif decide (b<(e.length:Int)) then
 (gIdx e b).bind fun f=>
 (gApp 16 a [(Zd.mk f (ε.wrap (h+c)))]).bind fun g=>
 some (.inl (g,ε.wrap (b+1)))
 else
 some (.inr (.inl (a,ε.wrap (c+1))))
def Zgg (h:Int) (a:List (List Int)):List Zd×Int->Option ((List Zd×Int) ⊕ (Zc×Int))
 | (edges6,b)=>
 bif decide (b<(a.length:Int)) then
 (gIdx a b).bind fun e=>
 loop (ZdE h b e) (edges6,0)
 else
 (Z4 a).bind fun f=>
 (ZiY h f).bind fun g=>
 (Zgt g edges6).bind fun c=>
 some (.inr (((Zc.mk c.1.Colors c.1.Edges),c.2)))
def Zgy (c:Int) (a:List (List Int)):Option (Zc×Int):=
 loop (Zgg c a) (([]:List Zd),0)
def ZjV (b:Zao):Option (Zc×Int):=
 (ZgM (Zao.mk b.Points b.Blocks)).bind fun c=>
 bif !c then
 some (((Zc.mk ([]:List Int) ([]:List Zd)),1))
 else
 (Zgy b.Points b.Blocks).bind fun a=>
 some (((Zc.mk a.1.Colors a.1.Edges),a.2))
def Zd3 (b:Zae) (c:List (List Int)) (h:List Int):Int×List Int->Option ((Int×List Int) ⊕ (List Int))
 | (a,xs)=>
 bif decide (a<(h.length:Int)) then
 (gIdx h a).bind fun e=>
 (gIdx c a).bind fun f=>
 (ZbP (Zae.mk b.qq b.qadd b.qsub b.qmul b.qinv) xs f e).bind fun g=>
 some (.inl (ε.wrap (a+1),g))
 else
 some (.inr (xs))
def ZiK (e:Zae) (a:List (List Int)) (g:List Int):Option (List Int):=
 (gIdx a 0).bind fun b=>
 (gMake 8 (0:Int) (b.length:Int) (b.length:Int)).bind fun c=>
 loop (Zd3 e a g) (0,c)
def Zfq:Int×Int×List Int->Option ((Int×Int×List Int) ⊕ (List Int))
 | (a,b,xs)=>
 bif decide (a<b) then
 (gIdx xs b).bind fun c=>
 (gIdx xs a).bind fun e=>
 (gIdx xs a).bind fun f=>
 (gIdx (xs.set a.toNat c) b).bind fun g=>
 some (.inl (ε.wrap (a+1),ε.wrap (b-1),((xs.set a.toNat c).set b.toNat e)))
 else
 some (.inr (xs))
def Zhk (a:List Int):Option (List Int):=
 loop (Zfq) (0,ε.wrap ((a.length:Int)-1),a)
def Zi7 (n0 a e:Int):Option (List Int):=
 (ZaS n0 a e).bind fun b=>
 (Zhk b).bind fun c=>
 some (c)
def Zeb (i:Z5) (a:Zae) (c e:Int):List (List Int)×Int->Option ((List (List Int)×Int) ⊕ (List (List Int)))
 | (words5,b)=>
 bif decide (b<e) then
 (Zi7 b a.qq c).bind fun f=>
 (ZiK (Zae.mk a.qq a.qadd a.qsub a.qmul a.qinv) i.Rows f).bind fun g=>
 (gApp 24 words5 [g]).bind fun h=>
 some (.inl (h,ε.wrap (b+1)))
 else
 some (.inr (words5))
def Zhc (a:Z5):Option (List (List Int)):=
 (ZgV (Zf.mk a.Field.Prime a.Field.Degree a.Field.Poly)).bind fun c=>
 (Z4 a.Rows).bind fun b=>
 (Za5 c.qq b 4096).bind fun e=>
 loop (Zeb a c b e) (([]:List (List Int)),0)
def Zeh (a:List Int):List Int×Int->Option ((List Int×Int) ⊕ (List Int))
 | (suppor3,b)=>
 bif decide (b<(a.length:Int)) then
 (gIdx a b).bind fun c=>
 bif c !=0 then
 (gApp 8 suppor3 [b]).bind fun e=>
 some (.inl (e,ε.wrap (b+1)))
 else
 some (.inl (suppor3,ε.wrap (b+1)))
 else
 some (.inr (suppor3))
def Zhr (a:List Int):Option (List Int):=
 loop (Zeh a) (([]:List Int),0)
def Zj2 (a:Z5):Option Int:=
 (gIdx a.Rows 0).bind fun b=>
 (ZX b).bind fun c=>
 some (c)
def Zec (c:Z5) (e:List (List Int)):List (List Int)×Int->Option ((List (List Int)×Int) ⊕ (Zc×Int))
 | (suppor4,a)=>
 bif decide (a<(e.length:Int)) then
 (gIdx e a).bind fun f=>
 (Zhr f).bind fun g=>
 (gApp 24 suppor4 [g]).bind fun h=>
 some (.inl (h,ε.wrap (a+1)))
 else
 (Zj2 (Z5.mk (Zf.mk c.Field.Prime c.Field.Degree c.Field.Poly) c.Rows)).bind fun i=>
 (Zgy i suppor4).bind fun b=>
 some (.inr (((Zc.mk b.1.Colors b.1.Edges),b.2)))
def ZfP (a:Z5):Option (Zc×Int):=
 (Zdc (Z5.mk (Zf.mk a.Field.Prime a.Field.Degree a.Field.Poly) a.Rows)).bind fun r8=>
 bif !r8 then
 some (((Zc.mk ([]:List Int) ([]:List Zd)),1))
 else
 (Za2 (Zf.mk a.Field.Prime a.Field.Degree a.Field.Poly)).bind fun c=>
 bif c !=2 then
 some (((Zc.mk ([]:List Int) ([]:List Zd)),6))
 else
 (Zhc (Z5.mk (Zf.mk a.Field.Prime a.Field.Degree a.Field.Poly) a.Rows)).bind fun b=>
 (gSl b 1 (b.length:Int)).bind fun e=>
 loop (Zec a e) (([]:List (List Int)),0)
def ZkQ (a:ZF) (b:Int):Option Int:=
 (ZeV (ZF.mk a.Kind a.Size a.Rows)).bind fun c=>
 bif !c then
 some (1)
 else
 bif a.Kind !=b then
 some (6)
 else
 some (0)
def Zlr (a:ZF):Option (Zc×Int):=
 (ZkQ (ZF.mk a.Kind a.Size a.Rows) 6).bind fun r8=>
 bif r8 !=0 then
 some (((Zc.mk ([]:List Int) ([]:List Zd)),r8))
 else
 (Zfn (ZF.mk a.Kind a.Size a.Rows)).bind fun b=>
 some (((Zc.mk b.1.Colors b.1.Edges),0))
def ZcA (a:ZF):Option (Zc×Int):=
 bif a.Kind==1 then
 (ZeZ a.Rows false).bind fun b=>
 some (((Zc.mk b.1.Colors b.1.Edges),b.2))
 else
 bif a.Kind==2 then
 (Zf6 (ZF.mk a.Kind a.Size a.Rows)).bind fun g=>
 (ZjV g).bind fun c=>
 some (((Zc.mk c.1.Colors c.1.Edges),c.2))
 else
 bif a.Kind==5 then
 (Zcf (ZF.mk a.Kind a.Size a.Rows)).bind fun h=>
 (ZfP h).bind fun e=>
 some (((Zc.mk e.1.Colors e.1.Edges),e.2))
 else
 bif a.Kind==6 then
 (Zlr (ZF.mk a.Kind a.Size a.Rows)).bind fun f=>
 some (((Zc.mk f.1.Colors f.1.Edges),f.2))
 else
 some (((Zc.mk ([]:List Int) ([]:List Zd)),6))
def Zep (xs:List (List Int)):Int×List (List Int)->Option ((Int×List (List Int)) ⊕ ((Int×List (List Int)) ⊕ (List (List Int))))
 | (b,a)=>
 bif decide (b<(xs.length:Int)) then
 (gIdx a b).bind fun c=>
 (ZcL c).bind fun e=>
 some (.inl (ε.wrap (b+1),(a.set b.toNat e)))
 else
 some (.inr (.inr (a)))
def Ze3 (e:Zc):Int×List (List Int)->Option ((Int×List (List Int)) ⊕ (List (List Int)))
 | (b,xs)=>
 bif decide (b<(e.Edges.length:Int)) then
 (gIdx e.Edges b).bind fun a=>
 (gIdx xs a.A).bind fun f=>
 (gApp 8 f [a.B]).bind fun c=>
 (gIdx (xs.set a.A.toNat c) a.B).bind fun g=>
 (gApp 8 g [a.A]).bind fun h=>
 some (.inl (ε.wrap (b+1),((xs.set a.A.toNat c).set a.B.toNat h)))
 else
 loop (Zep xs) (0,xs)
def ZhS (a:Zc):Option (List (List Int)):=
 (gMake 24 ([]:List Int) (a.Colors.length:Int) (a.Colors.length:Int)).bind fun b=>
 loop (Ze3 a) (0,b)
def ZhD (a:List (List Int)):Option (List (List Int)):=gApp 24 [] a
def Zhd (a:List (List Int)) (b:(List Int)->(List Int)->Option Bool):Option (List (List Int)):=if a.length<4611686018427387904 then cptL b a else none
def Zei (l:List Int) (a:Int) (xs:List (List Int)) (e:Int) (c:List Int):List Int×Int->Option ((List Int×Int) ⊕ ((Int×List (List Int)) ⊕ (List Int)))
 | (f,b)=>
 bif decide (b<(c.length:Int)) then
 (gIdx c b).bind fun g=>
 (gIdx l g).bind fun h=>
 (gApp 8 f [h]).bind fun i=>
 some (.inl (i,ε.wrap (b+1)))
 else
 (ZcL f).bind fun j=>
 (gApp 8 ([e]:List Int) j).bind fun k=>
 (gIdx xs a).bind fun o=>
 some (.inr (.inl (ε.wrap (a+1),(xs.set a.toNat k))))
def ZeH (c:List (List Int)) (e:List Int) (xs f:List (List Int)):Int×List Int->Option ((Int×List Int) ⊕ ((Int×List (List Int)) ⊕ (List Int)))
 | (a,b)=>
 bif decide (a<(xs.length:Int)) then
 (gIdx xs a).bind fun g=>
 (ZcM f g (fun c e=>Zak c e)).bind fun h=>
 (gIdx b a).bind fun i=>
 some (.inl (ε.wrap (a+1),(b.set a.toNat h.1)))
 else
 some (.inr (.inr (b)))
def Zfw (c:List (List Int)) (a:List Int):Int×List (List Int)->Option ((Int×List (List Int)) ⊕ (List Int))
 | (b,xs)=>
 bif decide (b<(a.length:Int)) then
 (gIdx a b).bind fun e=>
 (gIdx c b).bind fun f=>
 loop (Zei a b xs e f) (([]:List Int),0)
 else
 (ZhD xs).bind fun g=>
 (Zgf g (fun c a=>Zak c a)).bind fun h=>
 (Zhd h (fun c a=>Zb5 c a)).bind fun i=>
 (gMake 8 (0:Int) (a.length:Int) (a.length:Int)).bind fun j=>
 loop (ZeH c a xs i) (0,j)
def Zjh (c:List (List Int)) (a:List Int):Option (List Int):=
 (gMake 24 ([]:List Int) (a.length:Int) (a.length:Int)).bind fun b=>
 loop (Zfw c a) (0,b)
def ZlN (c:List Int):Option (List Int):=if c.length<4611686018427387904 then cptL (fun (a b:Int)=>some (a==b)) c else none
def Zfk (e:List Int):Option Int:=
 (ZbX e).bind fun a=>
 (ZcL a).bind fun b=>
 (ZlN b).bind fun c=>
 some ((c.length:Int))
def ZcH (e:List (List Int)):List Int->Option ((List Int) ⊕ (List Int))
 | a=>
 (Zjh e a).bind fun r8=>
 (Zfk r8).bind fun b=>
 (Zfk a).bind fun c=>
 bif b==c then
 some (.inr (r8))
 else
 some (.inl (r8))
def ZiX (c:List (List Int)) (a:List Int):Option (List Int):=
 loop (ZcH c) (a)
def ZbK (g:List Int) (b:Int):List Int×Int->Option ((List Int×Int) ⊕ ((Int) ⊕ (List Int)))
 | (vertic4,a)=>
 bif decide (a<(g.length:Int)) then
 (gIdx g a).bind fun c=>
 bif c==b then
 (gApp 8 vertic4 [a]).bind fun e=>
 some (.inl (e,ε.wrap (a+1)))
 else
 some (.inl (vertic4,ε.wrap (a+1)))
 else
 bif decide (((vertic4.length:Int):Int)>1) then
 some (.inr (.inr (vertic4)))
 else
 some (.inr (.inl (ε.wrap (b+1))))
def Zgc (c:List Int):Int->Option ((Int) ⊕ (List Int))
 | a=>
 bif decide (a<(c.length:Int)) then
 loop (ZbK c a) (([]:List Int),0)
 else
 some (.inr (([]:List Int)))
def Zhe (a:List Int):Option (List Int):=
 loop (Zgc a) (0)
def ZdM (e:Zc) (p1 xs:List Int):Int×List Zd->Option ((Int×List Zd) ⊕ ((Int×List Int) ⊕ (Zc)))
 | (a,b)=>
 bif decide (a<(e.Edges.length:Int)) then
 (gIdx e.Edges a).bind fun c=>
 (gIdx p1 c.A).bind fun f=>
 (gIdx p1 c.B).bind fun g=>
 (gApp 16 b [(Zd.mk f g)]).bind fun h=>
 some (.inl (ε.wrap (a+1),h))
 else
 (Ze2 b).bind fun i=>
 some (.inr (.inr ((Zc.mk xs i))))
def ZgJ (c:Zc) (p1:List Int):Int×List Int->Option ((Int×List Int) ⊕ (Zc))
 | (a,xs)=>
 bif decide (a<(c.Colors.length:Int)) then
 (gIdx c.Colors a).bind fun e=>
 (gIdx p1 a).bind fun b=>
 (gIdx xs b).bind fun f=>
 some (.inl (ε.wrap (a+1),(xs.set b.toNat e)))
 else
 loop (ZdM c p1 xs) (0,([]:List Zd))
def ZfQ (a:Zc) (p1:List Int):Option Zc:=
 (gMake 8 (0:Int) (a.Colors.length:Int) (a.Colors.length:Int)).bind fun b=>
 loop (ZgJ a p1) (0,b)
def Zfm (g:List Zd):List Int×Int->Option ((List Int×Int) ⊕ (List Int))
 | (a,c)=>
 bif decide (c<(g.length:Int)) then
 (gIdx g c).bind fun b=>
 (gApp 8 a ([b.A,b.B]:List Int)).bind fun e=>
 some (.inl (e,ε.wrap (c+1)))
 else
 some (.inr (a))
def Zgw (a:List Zd):Option (List Int):=
 loop (Zfm a) (([]:List Int),0)
def Zfo (b c:Zc):Option Int:=
 (Zak b.Colors c.Colors).bind fun a=>
 bif a !=0 then
 some (a)
 else
 (Zgw b.Edges).bind fun e=>
 (Zgw c.Edges).bind fun f=>
 (Zak e f).bind fun g=>
 some (g)
def Zc9 (a:ZG) (p1:List Int) (f:Int) (xs:List Int) (b:List Zd) (c:List (List Int)):Option (ZG):=
 bif decide (f<=0) then
 (gApp 24 c [p1]).bind fun e=>
 some ((ZG.mk (Zar.mk a.qcounter.qleft a.qcounter.qspent) (Zc.mk a.qgraph.Colors a.qgraph.Edges) a.qlists a.qnodes (ε.wrap (a.qleaves+1)) (Zc.mk xs b) e))
 else
 some ((ZG.mk (Zar.mk a.qcounter.qleft a.qcounter.qspent) (Zc.mk a.qgraph.Colors a.qgraph.Edges) a.qlists a.qnodes (ε.wrap (a.qleaves+1)) (Zc.mk xs b) c))
def Zc3 (a:ZG) (p1:List Int) (b:Zc) (c:Int):Option (ZG):=
 bif decide (c<0) then
 Zc9 a p1 c b.Colors b.Edges ([]:List (List Int))
 else
 Zc9 a p1 c a.qform.Colors a.qform.Edges a.qbest
def ZdB (a:ZG) (p1:List Int):Option ZG:=
 (ZfQ (Zc.mk a.qgraph.Colors a.qgraph.Edges) p1).bind fun b=>
 bif decide (((a.qbest.length:Int):Int)>0) then
 (Zfo (Zc.mk b.Colors b.Edges) (Zc.mk a.qform.Colors a.qform.Edges)).bind fun c=>
 Zc3 a p1 b c
 else
 Zc3 a p1 b (-1)
def ZhG (a:Zar):Option (Bool×Zar):=
 bif (a.qleft:Int)==0 then
 some ((false,(Zar.mk a.qleft true)))
 else
 some ((true,(Zar.mk (ε.wrap (a.qleft-1)) a.qspent)))
def ZeO (w:ZG->(List Int)->Option ZG) (f:ZG) (i:List Int) (j k l:Int) (xs:List Int) (g:List Zd) (h:List (List Int)) (e o:Int) (p:Bool):Int×List Int->Option ((Int×List Int) ⊕ ((Int×Int×Bool×Int×Int×List Int×List Zd×List (List Int)) ⊕ (ZG)))
 | (c,a)=>
 bif decide (c<(i.length:Int)) then
 (gIdx i c).bind fun r=>
 (gIdx a c).bind fun u=>
 some (.inl (ε.wrap (c+1),(a.set c.toNat (ε.wrap ((ε.wrap (2*r))+1)))))
 else
 (gIdx a e).bind fun s=>
 (gIdx a e).bind fun v=>
 (ZiX f.qlists (a.set e.toNat (ε.wrap (s-1)))).bind fun t=>
 (w (ZG.mk (Zar.mk o p) (Zc.mk f.qgraph.Colors f.qgraph.Edges) f.qlists (ε.wrap (k+1)) l (Zc.mk xs g) h) t).bind fun b=>
 some (.inr (.inl (ε.wrap (j+1),b.qcounter.qleft,b.qcounter.qspent,b.qnodes,b.qleaves,b.qform.Colors,b.qform.Edges,b.qbest)))
def ZjM (o:ZG->(List Int)->Option ZG) (l:ZG) (a:List Int) (e f g:Int) (xs:List Int) (b:List Zd) (c:List (List Int)) (h i:Int) (j:Bool):Option ((Int×Int×Bool×Int×Int×List Int×List Zd×List (List Int)) ⊕ (ZG)):=
 (gMake 8 (0:Int) (a.length:Int) (a.length:Int)).bind fun k=>
 loop (ZeO o l a e f g xs b c h i j) (0,k)
def Zcb (o:ZG->(List Int)->Option ZG) (a:ZG) (l j:List Int):Int×Int×Bool×Int×Int×List Int×List Zd×List (List Int)->Option ((Int×Int×Bool×Int×Int×List Int×List Zd×List (List Int)) ⊕ (ZG))
 | (i,q,f,g,h,xs,b,c)=>
 bif decide (i<(j.length:Int)) then
 (gIdx j i).bind fun k=>
 bif f then
 some (.inr ((ZG.mk (Zar.mk q f) (Zc.mk a.qgraph.Colors a.qgraph.Edges) a.qlists g h (Zc.mk xs b) c)))
 else
 (ZhG (Zar.mk q f)).bind fun e=>
 bif !e.1 then
 some (.inr ((ZG.mk (Zar.mk e.2.qleft e.2.qspent) (Zc.mk a.qgraph.Colors a.qgraph.Edges) a.qlists g h (Zc.mk xs b) c)))
 else
 ZjM o a l i g h xs b c k e.2.qleft e.2.qspent
 else
 some (.inr ((ZG.mk (Zar.mk q f) (Zc.mk a.qgraph.Colors a.qgraph.Edges) a.qlists g h (Zc.mk xs b) c)))
def q_impl_explorer_search (g:ZG->(List Int)->Option ZG) (a:ZG) (e:List Int):Option ZG:=
 (Zhe e).bind fun c=>
 bif ((c.length:Int):Int)==0 then
 (ZdB (ZG.mk (Zar.mk a.qcounter.qleft a.qcounter.qspent) (Zc.mk a.qgraph.Colors a.qgraph.Edges) a.qlists a.qnodes a.qleaves (Zc.mk a.qform.Colors a.qform.Edges) a.qbest) e).bind fun b=>
 some ((ZG.mk (Zar.mk b.qcounter.qleft b.qcounter.qspent) (Zc.mk a.qgraph.Colors a.qgraph.Edges) a.qlists b.qnodes b.qleaves (Zc.mk b.qform.Colors b.qform.Edges) b.qbest))
 else
 loop (Zcb g a e c) (0,a.qcounter.qleft,a.qcounter.qspent,a.qnodes,a.qleaves,a.qform.Colors,a.qform.Edges,a.qbest)
def pn_impl_explorer_search:Nat->(ZG->(List Int)->Option ZG)
 | 0=>(fun _ _=>none)
 | n+1=>q_impl_explorer_search (pn_impl_explorer_search n)
def Zoq:ZG->(List Int)->Option ZG:=(pn_impl_explorer_search fuel)
def ZhC (b:Zc) (g:Int):Option ((Option ZG)×Int):=
 (Zeq (Zc.mk b.Colors b.Edges)).bind fun r8=>
 bif !r8 then
 some ((none,1))
 else
 (ZfL g).bind fun e=>
 bif !e then
 some ((none,2))
 else
 (ZhS (Zc.mk b.Colors b.Edges)).bind fun c=>
 (ZiX c b.Colors).bind fun f=>
 (Zoq (ZG.mk (Zar.mk g false) (Zc.mk b.Colors b.Edges) c 0 0 (Zc.mk ([]:List Int) ([]:List Zd)) ([]:List (List Int))) f).bind fun a=>
 bif a.qcounter.qspent then
 some ((none,5))
 else
 some (((some (ZG.mk (Zar.mk a.qcounter.qleft a.qcounter.qspent) (Zc.mk b.Colors b.Edges) c a.qnodes a.qleaves (Zc.mk a.qform.Colors a.qform.Edges) a.qbest)),0))
def ZiG (c:Zc) (g:Int):Option (Zc×(List Int)×Int):=
 (ZhC (Zc.mk c.Colors c.Edges) g).bind fun e=>
 (match e with
 | (none,a)=>
 bif a !=0 then
 some ((Zc.mk ([]:List Int) ([]:List Zd),([]:List Int),a))
 else
 none
 | (some b,a)=>
 bif a !=0 then
 some ((Zc.mk ([]:List Int) ([]:List Zd),([]:List Int),a))
 else
 (gIdx b.qbest 0).bind fun f=>
 some ((b.qform,f,0))
 )
def ZjN (b a:Int):Option ByteArray:=if a=10/\-9223372036854775808<=b/\b<=9223372036854775807 then some (itoaB b) else none
def Zek (n0:Int):Option ByteArray:=
 (ZjN n0 10).bind fun a=>
 some (a)
def ZgN (a:List ByteArray) (b:ByteArray):Option ByteArray:=if a.length<=140737488355328/\(joinB a b).size<=140737488355328 then some (joinB a b) else none
def ZdK (n0:Int):Option Bool:=
 (Zab n0 (-999999999) 999999999).bind fun a=>
 some (!a)
def Zd6 (a:List Int):List ByteArray×Int->Option ((List ByteArray×Int) ⊕ (ByteArray))
 | (words3,b)=>
 bif decide (b<(a.length:Int)) then
 (gIdx a b).bind fun c=>
 (Zek c).bind fun e=>
 (gApp 16 words3 [e]).bind fun f=>
 some (.inl (f,ε.wrap (b+1)))
 else
 (ZgN words3 ⟨#[44]⟩).bind fun g=>
 some (.inr (g))
def Zjq (a:List Int):Option (ByteArray):=
 bif ((a.length:Int):Int)==0 then
 some (⟨#[45]⟩)
 else
 loop (Zd6 a) (([]:List ByteArray),0)
def ZiJ (a:List Int):Option ByteArray:=
 bif decide (((a.length:Int):Int)>100) then
 some (⟨#[]⟩)
 else
 (ZaT a (fun c=>ZdK c)).bind fun b=>
 bif b then
 some (⟨#[]⟩)
 else
 Zjq a
def ZdS (h:Zc):List ByteArray×Int->Option ((List ByteArray×Int) ⊕ (ByteArray))
 | (words3,a)=>
 bif decide (a<(h.Edges.length:Int)) then
 (gIdx h.Edges a).bind fun e=>
 (Zek e.A).bind fun b=>
 (Zek e.B).bind fun f=>
 (gFit b (⟨#[45]⟩:ByteArray)).bind fun _=>
 (gFit (b++(⟨#[45]⟩:ByteArray):ByteArray) f).bind fun _=>
 (gApp 16 words3 [(b++(⟨#[45]⟩:ByteArray):ByteArray)++f]).bind fun i=>
 some (.inl (i,ε.wrap (a+1)))
 else
 (ZiJ h.Colors).bind fun c=>
 (gFit c (⟨#[59]⟩:ByteArray)).bind fun _=>
 (ZgN words3 ⟨#[44]⟩).bind fun g=>
 (gFit (c++(⟨#[59]⟩:ByteArray):ByteArray) g).bind fun _=>
 some (.inr ((c++(⟨#[59]⟩:ByteArray):ByteArray)++g))
def ZiZ (a:Zc):Option ByteArray:=
 (Zeq (Zc.mk a.Colors a.Edges)).bind fun b=>
 bif !b then
 some (⟨#[]⟩)
 else
 loop (ZdS a) (([]:List ByteArray),0)
def ZeA (b:Zc) (e:Int):Option (ByteArray×Int):=
 (ZiG (Zc.mk b.Colors b.Edges) e).bind fun a=>
 bif a.2.2 !=0 then
 some ((⟨#[]⟩,a.2.2))
 else
 (ZiZ (Zc.mk a.1.Colors a.1.Edges)).bind fun c=>
 some ((c,0))
def ZiH (b:ZF) (g:Int):Option (ByteArray×Int):=
 (ZeV (ZF.mk b.Kind b.Size b.Rows)).bind fun f=>
 bif !f then
 some ((⟨#[]⟩,1))
 else
 (ZfL g).bind fun e=>
 bif !e then
 some ((⟨#[]⟩,2))
 else
 (ZcA (ZF.mk b.Kind b.Size b.Rows)).bind fun a=>
 bif a.2 !=0 then
 some ((⟨#[]⟩,a.2))
 else
 (ZeA (Zc.mk a.1.Colors a.1.Edges) g).bind fun c=>
 some ((c.1,c.2))
def Zjx (b f:List Int):Int->Option ((Int) ⊕ (Bool))
 | a=>
 bif decide (a<(b.length:Int)) then
 (gIdx b a).bind fun c=>
 (gIdx f a).bind fun e=>
 bif c !=e then
 some (.inr (false))
 else
 some (.inl (ε.wrap (a+1)))
 else
 some (.inr (true))
def Zg1 (a b:List Int):Option Bool:=
 bif ((a.length:Int):Int) !=(b.length:Int) then
 some (false)
 else
 loop (Zjx a b) (0)
def Zil (b g:List (List Int)):Int->Option ((Int) ⊕ (Bool))
 | a=>
 bif decide (a<(b.length:Int)) then
 (gIdx b a).bind fun c=>
 (gIdx g a).bind fun e=>
 (Zg1 c e).bind fun f=>
 bif !f then
 some (.inr (false))
 else
 some (.inl (ε.wrap (a+1)))
 else
 some (.inr (true))
def Zh3 (a b:List (List Int)):Option Bool:=
 bif ((a.length:Int):Int) !=(b.length:Int) then
 some (false)
 else
 loop (Zil a b) (0)
def Zhs (a b:ZF):Option Bool:=
 bif a.Kind !=b.Kind then
 some (false)
 else
 bif a.Size !=b.Size then
 some (false)
 else
 (Zh3 a.Rows b.Rows).bind fun c=>
 bif !c then
 some (false)
 else
 some (true)
def Zi1 (e:Zan) (a:ZF):Option (Bool):=
 (ZeL (Zan.mk e.Kind e.Size e.Rows)).bind fun b=>
 (Zhs (ZF.mk a.Kind a.Size a.Rows) b).bind fun c=>
 bif !c then
 some (false)
 else
 some (true)
def Zlq (g:Zan) (h:Int):Option Bool:=
 (Zit (Zan.mk g.Kind g.Size g.Rows) 1048576).bind fun e=>
 bif decide (e<0) then
 some (true)
 else
 (ZeL (Zan.mk g.Kind g.Size g.Rows)).bind fun f=>
 (Zig f h).bind fun b=>
 (ZeL (Zan.mk g.Kind g.Size g.Rows)).bind fun a=>
 (ZiH (ZF.mk a.Kind a.Size a.Rows) h).bind fun c=>
 bif !(c.1.toList==b.1.toList) then
 some (false)
 else
 bif c.2 !=b.2 then
 some (false)
 else
 Zi1 g a
end
end Go.Proofs.YtccncimchmimdaaGreatDoor
