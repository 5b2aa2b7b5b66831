import Derived.Test.YtghbgeaammnkcaaGreatDoorPuTxt
namespace Go.Proofs.YtghbgeaammnkcaaGreatDoor
set_option linter.unusedSimpArgs false
open Go Go.Vc
set_option linter.unusedVariables false
structure Zag where
 Kind:Int
 Size:Int
 Rows:List (List Int)
structure ZJ where
 Points:Int
 Blocks:List (List Int)
structure Zl where
 Kind:Int
 Size:Int
 Rows:List (List Int)
structure ZE where
 Levels:Int
 Columns:Int
 Rows:List (List Int)
structure Zd where
 Prime:Int
 Degree:Int
 Poly:List Int
structure ZQ where
 Field:Zd
 Rows:List (List Int)
structure ZT where
 A:Int
 B:Int
structure Zae where
 Colors:List Int
 Edges:List ZT
structure Za9 where
 Degree:Int
 Elements:List (List Int)
structure ZS where
 V:Int
 B:Int
 R:Int
 K:Int
 Lambda:Int
structure Zac where
 qq:Int
 qadd:List (List Int)
 qsub:List (List Int)
 qmul:List (List Int)
 qinv:List Int
noncomputable section
def Zep (b:List Int) (a:Int):Option Int:=
 bif decide ((IntKind.i64.wrap (a-(b.length:Int)):Int)<0) then
 some ((-1))
 else
 some (IntKind.i64.wrap (a-(b.length:Int)))
def ZiA (e:List (List Int)):Int×Int→Option ((Int×Int) ⊕ (Int))
 | (a,c)=>
 bif decide (c<(e.length:Int)) then
 (gIdx e c).bind fun f=>
 (Zep f a).bind fun b=>
 bif decide (b<0) then
 some (.inr ((-1)))
 else
 some (.inl (b,IntKind.i64.wrap (c+1)))
 else
 some (.inr (a))
def ZgI (b:List (List Int)) (a:Int):Option Int:=
 bif decide ((IntKind.i64.wrap (a-(b.length:Int)):Int)<0) then
 some ((-1))
 else
 loop (ZiA b) (IntKind.i64.wrap (a-(b.length:Int)),0)
def ZgM (b:Zag) (a:Int):Option Int:=
 (ZgI b.Rows a).bind fun r8=>
 bif decide (r8<0) then
 some ((-1))
 else
 some (r8)
def ZR (n0 b a:Int):Option Bool:=
 bif decide (n0≥b) then
 some (decide (n0≤a))
 else
 some (false)
def ZfQ (a:List Int) (n1:Int):Int→Option ((Int) ⊕ (Bool))
 | b=>
 bif decide (b<(a.length:Int)) then
 (gIdx a b).bind fun c=>
 bif c==n1 then
 some (.inr (true))
 else
 some (.inl (IntKind.i64.wrap (b+1)))
 else
 some (.inr (false))
def ZdO (a:List Int) (n1:Int):Option Bool:=
 loop (ZfQ a n1) (0)
def ZgB (a:List Int):Int→Option ((Int) ⊕ (Bool))
 | b=>
 bif decide (b<(a.length:Int)) then
 (gIdx a b).bind fun c=>
 (ZR c 0 (IntKind.i64.wrap ((a.length:Int)-1))).bind fun e=>
 bif !e then
 some (.inr (false))
 else
 (gSl a 0 b).bind fun f=>
 (gIdx a b).bind fun g=>
 (ZdO f g).bind fun h=>
 bif h then
 some (.inr (false))
 else
 some (.inl (IntKind.i64.wrap (b+1)))
 else
 some (.inr (true))
def ZdV (a:List Int):Option Bool:=
 bif decide (((a.length:Int):Int)>32) then
 some (false)
 else
 loop (ZgB a) (0)
def Zeu (c:List (List Int)) (e:Int):List Int×Int→Option ((List Int×Int) ⊕ ((Int) ⊕ ((Int) ⊕ (Bool))))
 | (a,b)=>
 bif decide (b<(c.length:Int)) then
 (gIdx c b).bind fun f=>
 (gIdx f e).bind fun g=>
 (gApp 8 a [g]).bind fun h=>
 some (.inl (h,IntKind.i64.wrap (b+1)))
 else
 (ZdV a).bind fun i=>
 bif !i then
 some (.inr (.inr (.inr (false))))
 else
 some (.inr (.inl (IntKind.i64.wrap (e+1))))
def ZeR (a:List (List Int)):Int→Option ((Int) ⊕ ((Int) ⊕ (Bool)))
 | b=>
 bif decide (b<(a.length:Int)) then
 loop (Zeu a b) (([]:List Int),0)
 else
 some (.inr (.inr (true)))
def Zgl (a:List (List Int)):Int→Option ((Int) ⊕ (Bool))
 | b=>
 bif decide (b<(a.length:Int)) then
 (gIdx a b).bind fun c=>
 bif ((c.length:Int):Int) !=(a.length:Int) then
 some (.inr (false))
 else
 (gIdx a b).bind fun e=>
 (ZdV e).bind fun f=>
 bif !f then
 some (.inr (false))
 else
 some (.inl (IntKind.i64.wrap (b+1)))
 else
 loop (ZeR a) (0)
def ZkU (a:List (List Int)):Option (Bool):=
 loop (Zgl a) (0)
def ZdZ (a:List (List Int)):Option Bool:=
 bif decide (((a.length:Int):Int)<1) then
 some (false)
 else
 bif decide (((a.length:Int):Int)>10) then
 some (false)
 else
 ZkU a
def Zef (a:List Int) (e c:Int):Int→Option ((Int) ⊕ (Bool))
 | b=>
 bif decide (b<(a.length:Int)) then
 (gIdx a b).bind fun f=>
 (ZR f e c).bind fun g=>
 bif !g then
 some (.inr (false))
 else
 bif decide (b>0) then
 (gIdx a (IntKind.i64.wrap (b-1))).bind fun h=>
 (gIdx a b).bind fun i=>
 bif decide (h≥i) then
 some (.inr (false))
 else
 some (.inl (IntKind.i64.wrap (b+1)))
 else
 some (.inl (IntKind.i64.wrap (b+1)))
 else
 some (.inr (true))
def ZcE (a:List Int) (c b:Int):Option Bool:=
 loop (Zef a c b) (0)
def ZhG (a:List Int) (points1:Int):Option Bool:=
 bif decide (((a.length:Int):Int)>0) then
 (ZcE a 0 (IntKind.i64.wrap (points1-1))).bind fun b=>
 some (b)
 else
 some (false)
def ZeL (a b:List Int):Option (Int):=
 bif decide (((a.length:Int):Int)<(b.length:Int)) then
 some ((-1))
 else
 bif decide (((a.length:Int):Int)>(b.length:Int)) then
 some (1)
 else
 some (0)
def Zfn (b c:List Int) (a:Int):Option ((Int) ⊕ (Int)):=
 (gIdx b a).bind fun e=>
 (gIdx c a).bind fun f=>
 bif decide (e<f) then
 some (.inr ((-1)))
 else
 (gIdx b a).bind fun g=>
 (gIdx c a).bind fun h=>
 bif decide (g>h) then
 some (.inr (1))
 else
 some (.inl (IntKind.i64.wrap (a+1)))
def Zco (a b:List Int):Int→Option ((Int) ⊕ (Int))
 | c=>
 bif decide (c<(a.length:Int)) then
 bif decide (c<(b.length:Int)) then
 Zfn a b c
 else
 (ZeL a b).map fun x=>.inr (x)
 else
 (ZeL a b).map fun x=>.inr (x)
def ZdN (a b:List Int):Option Int:=
 loop (Zco a b) (0)
def Zeg (b:ZJ):Int→Option ((Int) ⊕ (Bool))
 | a=>
 bif decide (a<(b.Blocks.length:Int)) then
 (gIdx b.Blocks a).bind fun c=>
 (ZhG c b.Points).bind fun e=>
 bif !e then
 some (.inr (false))
 else
 bif decide (a>0) then
 (gIdx b.Blocks (IntKind.i64.wrap (a-1))).bind fun f=>
 (gIdx b.Blocks a).bind fun g=>
 (ZdN f g).bind fun h=>
 bif decide (h>0) then
 some (.inr (false))
 else
 some (.inl (IntKind.i64.wrap (a+1)))
 else
 some (.inl (IntKind.i64.wrap (a+1)))
 else
 some (.inr (true))
def Zko (a:ZJ):Option (Bool):=
 loop (Zeg a) (0)
def ZhI (a:ZJ):Option Bool:=
 (ZR a.Points 1 32).bind fun r8=>
 bif !r8 then
 some (false)
 else
 bif decide (((a.Blocks.length:Int):Int)>128) then
 some (false)
 else
 Zko a
def Zi9 (c g:List Int):Int×Int→Option ((Int×Int) ⊕ (Int))
 | (a,b)=>
 bif decide (b<(c.length:Int)) then
 (gIdx c b).bind fun e=>
 (gIdx g b).bind fun f=>
 some (.inl (IntKind.i64.wrap (a+(IntKind.i64.wrap (e*f))),IntKind.i64.wrap (b+1)))
 else
 some (.inr (a))
def ZfD (a b:List Int):Option Int:=
 loop (Zi9 a b) (0,0)
def Zbb (b:List (List Int)) (c:Int):Int→Option ((Int) ⊕ ((Int) ⊕ (Bool)))
 | a=>
 bif decide (a<(b.length:Int)) then
 (gIdx b c).bind fun e=>
 (gIdx e a).bind fun f=>
 bif f !=1 then
 (gIdx b c).bind fun g=>
 (gIdx g a).bind fun h=>
 bif h !=(-1) then
 some (.inr (.inr (false)))
 else
 some (.inl (IntKind.i64.wrap (a+1)))
 else
 some (.inl (IntKind.i64.wrap (a+1)))
 else
 some (.inr (.inl (IntKind.i64.wrap (c+1))))
def ZdI (b:List (List Int)) (a:Int):Int→Option ((Int) ⊕ ((Int) ⊕ ((Int) ⊕ (Bool))))
 | y7=>
 bif decide (y7<a) then
 (gIdx b a).bind fun c=>
 (gIdx b y7).bind fun e=>
 (ZfD c e).bind fun f=>
 bif f !=0 then
 some (.inr (.inr (.inr (false))))
 else
 some (.inl (IntKind.i64.wrap (y7+1)))
 else
 some (.inr (.inl (IntKind.i64.wrap (a+1))))
def Zfj (a:List (List Int)):Int→Option ((Int) ⊕ ((Int) ⊕ (Bool)))
 | b=>
 bif decide (b<(a.length:Int)) then
 loop (ZdI a b) (0)
 else
 some (.inr (.inr (true)))
def Zgs (a:List (List Int)):Int→Option ((Int) ⊕ (Bool))
 | b=>
 bif decide (b<(a.length:Int)) then
 (gIdx a b).bind fun c=>
 bif ((c.length:Int):Int) !=(a.length:Int) then
 some (.inr (false))
 else
 loop (Zbb a b) (0)
 else
 loop (Zfj a) (0)
def Zl3 (a:List (List Int)):Option (Bool):=
 loop (Zgs a) (0)
def ZfJ (a:List (List Int)):Option Bool:=
 bif decide (((a.length:Int):Int)<1) then
 some (false)
 else
 bif decide (((a.length:Int):Int)>32) then
 some (false)
 else
 Zl3 a
def Zcw (a:Zl):Option ZE:=
 bif decide (((a.Rows.length:Int):Int)>0) then
 (gIdx a.Rows 0).bind fun b=>
 some ((ZE.mk a.Size (b.length:Int) a.Rows))
 else
 some ((ZE.mk a.Size 0 a.Rows))
def Zj4 (levels0 column1:Int):Option Bool:=
 (ZR levels0 2 16).bind fun a=>
 bif a then
 (ZR column1 1 8).bind fun b=>
 some (b)
 else
 some (false)
def ZdB (a:ZE) (b:Int):Int→Option ((Int) ⊕ ((Int) ⊕ (Bool)))
 | c=>
 (gIdx a.Rows b).bind fun e=>
 bif decide (c<(e.length:Int)) then
 (gIdx a.Rows b).bind fun f=>
 (gIdx f c).bind fun g=>
 (ZR g 0 (IntKind.i64.wrap (a.Levels-1))).bind fun h=>
 bif !h then
 some (.inr (.inr (false)))
 else
 some (.inl (IntKind.i64.wrap (c+1)))
 else
 some (.inr (.inl (IntKind.i64.wrap (b+1))))
def Zfv (a:ZE):Int→Option ((Int) ⊕ (Bool))
 | b=>
 bif decide (b<(a.Rows.length:Int)) then
 (gIdx a.Rows b).bind fun c=>
 bif ((c.length:Int):Int) !=a.Columns then
 some (.inr (false))
 else
 loop (ZdB a b) (0)
 else
 some (.inr (true))
def Zlq (a:ZE):Option (Bool):=
 loop (Zfv a) (0)
def Zfg (a:ZE):Option Bool:=
 (Zj4 a.Levels a.Columns).bind fun b=>
 bif !b then
 some (false)
 else
 bif decide (((a.Rows.length:Int):Int)>256) then
 some (false)
 else
 Zlq a
def Zk5 (a:Int):Int×Int→Option ((Int×Int) ⊕ ((Int) ⊕ (Int×Int)))
 | (c,b)=>
 bif decide (b>1) then
 (gNz a).bind fun _=>
 bif (Int.tmod b a:Int) !=0 then
 some (.inr (.inr ((0,0))))
 else
 (gNz a).bind fun _=>
 some (.inl (IntKind.i64.wrap (c+1),IntKind.i64.wrap (Int.tdiv b a)))
 else
 some (.inr (.inr ((a,c))))
def Zk7 (b:Int):Int→Option ((Int) ⊕ (Int×Int))
 | a=>
 (gNz a).bind fun _=>
 bif (Int.tmod b a:Int) !=0 then
 some (.inl (IntKind.i64.wrap (a+1)))
 else
 loop (Zk5 a) (0,b)
def ZbF (a:Int):Option (Int×Int):=
 (ZR a 2 64).bind fun r8=>
 bif !r8 then
 some ((0,0))
 else
 loop (Zk7 a) (2)
def Zc1 (p1:Int):Int×Int×List Int→Option ((Int×Int×List Int) ⊕ (List Int))
 | (a,b,c)=>
 bif decide (b>0) then
 (gNz p1).bind fun _=>
 (gApp 8 c [Int.tmod a p1]).bind fun e=>
 (gNz p1).bind fun _=>
 some (.inl (IntKind.i64.wrap (Int.tdiv a p1),IntKind.i64.wrap (b-1),e))
 else
 some (.inr (c))
def Zbd (a p1 n2:Int):Option (List Int):=
 loop (Zc1 p1) (a,n2,([]:List Int))
def Zlt (c:Int):Int×Int→Option ((Int×Int) ⊕ (Int))
 | (a,b)=>
 bif decide (a>0) then
 some (.inl (IntKind.i64.wrap (a-1),IntKind.i64.wrap (b*c)))
 else
 some (.inr (b))
def Zen (a k1:Int):Option Int:=
 loop (Zlt a) (k1,1)
def Zbl (a:List Int):Option (List Int):=
 (gApp 8 ([]:List Int) a).bind fun b=>
 some (b)
def Zd7 (c:List Int) (f e g:Int):Int×List Int→Option ((Int×List Int) ⊕ ((Int×List Int) ⊕ (List Int)))
 | (a,b)=>
 bif decide (a<(c.length:Int)) then
 (gIdx b (IntKind.i64.wrap ((IntKind.i64.wrap ((IntKind.i64.wrap (e-(c.length:Int)))+1))+a))).bind fun h=>
 (gIdx c a).bind fun i=>
 (gNz f).bind fun _=>
 (gIdx b (IntKind.i64.wrap ((IntKind.i64.wrap ((IntKind.i64.wrap (e-(c.length:Int)))+1))+a))).bind fun j=>
 some (.inl (IntKind.i64.wrap (a+1),(b.set (IntKind.i64.wrap ((IntKind.i64.wrap ((IntKind.i64.wrap (e-(c.length:Int)))+1))+a):Int).toNat (Int.tmod (IntKind.i64.wrap (h+(IntKind.i64.wrap ((IntKind.i64.wrap (f-g))*i)))) f))))
 else
 some (.inr (.inl (IntKind.i64.wrap (e-1),b)))
def Zcu (b:List Int):List Int→Option ((List Int) ⊕ ((Int×List Int) ⊕ (List Int)))
 | y7=>
 bif decide (((y7.length:Int):Int)≥(b.length:Int)) then
 (gSl y7 0 (IntKind.i64.wrap ((y7.length:Int)-1))).bind fun a=>
 some (.inl (a))
 else
 some (.inr (.inr (y7)))
def Zbu (a:List Int) (e:Int):Int×List Int→Option ((Int×List Int) ⊕ (List Int))
 | (b,xs)=>
 bif decide (b≥(IntKind.i64.wrap ((a.length:Int)-1))) then
 (gIdx xs b).bind fun c=>
 loop (Zd7 a e b c) (0,xs)
 else
 loop (Zcu a) (xs)
def ZcV (b c:List Int) (e:Int):Option (List Int):=
 (Zbl b).bind fun a=>
 loop (Zbu c e) (IntKind.i64.wrap ((a.length:Int)-1),a)
def ZeJ (b:List Int) (p1:Int):Int×Int→Option ((Int×Int) ⊕ (Int))
 | (a,c)=>
 bif decide (c≥0) then
 (gIdx b c).bind fun e=>
 some (.inl (IntKind.i64.wrap ((IntKind.i64.wrap (a*p1))+e),IntKind.i64.wrap (c-1)))
 else
 some (.inr (a))
def Zbe (a:List Int) (p1:Int):Option Int:=
 loop (ZeJ a p1) (0,IntKind.i64.wrap ((a.length:Int)-1))
def Zl2 (a:List Int) (p1 b:Int):Int→Option ((Int) ⊕ ((Int) ⊕ (Bool)))
 | c=>
 (Zen p1 b).bind fun e=>
 bif decide (c<e) then
 (Zbd c p1 b).bind fun f=>
 (gApp 8 f [1]).bind fun g=>
 (ZcV a g p1).bind fun h=>
 (Zbe h p1).bind fun i=>
 bif i==0 then
 some (.inr (.inr (false)))
 else
 some (.inl (IntKind.i64.wrap (c+1)))
 else
 some (.inr (.inl (IntKind.i64.wrap (b+1))))
def ZlL (a:List Int) (p1:Int):Int→Option ((Int) ⊕ (Bool))
 | b=>
 bif decide ((IntKind.i64.wrap (2*b):Int)≤(IntKind.i64.wrap ((a.length:Int)-1))) then
 loop (Zl2 a p1 b) (0)
 else
 some (.inr (true))
def Zgw (a:List Int) (p1:Int):Option Bool:=
 loop (ZlL a p1) (1)
def Zlr (a:Int×Int):Int→Option ((Int) ⊕ (Zd))
 | c=>
 (Zbd c a.1 a.2).bind fun e=>
 (gApp 8 e [1]).bind fun b=>
 (Zgw b a.1).bind fun f=>
 bif f then
 some (.inr ((Zd.mk a.1 a.2 b)))
 else
 some (.inl (IntKind.i64.wrap (c+1)))
def Zfo (a:Int):Option Zd:=
 (ZbF a).bind fun b=>
 loop (Zlr b) (0)
def Zbx (b:Zl):Option ZQ:=
 (ZbF b.Size).bind fun c=>
 bif c.1==0 then
 some ((ZQ.mk (Zd.mk 0 0 ([]:List Int)) ([]:List (List Int))))
 else
 (Zfo b.Size).bind fun a=>
 some ((ZQ.mk (Zd.mk a.Prime a.Degree a.Poly) b.Rows))
def Zlp (b:Zd) (a:Int×Int):Int→Option ((Int) ⊕ (Bool))
 | c=>
 bif decide (c<(b.Poly.length:Int)) then
 (gIdx b.Poly c).bind fun e=>
 (ZR e 0 (IntKind.i64.wrap (a.1-1))).bind fun f=>
 bif !f then
 some (.inr (false))
 else
 some (.inl (IntKind.i64.wrap (c+1)))
 else
 (Zgw b.Poly a.1).bind fun g=>
 some (.inr (g))
def Zjp (a:Zd):Option (Bool):=
 (Zen a.Prime a.Degree).bind fun c=>
 (ZbF c).bind fun b=>
 bif b.1 !=a.Prime then
 some (false)
 else
 loop (Zlp a b) (0)
def Zgi (a:Zd):Option Bool:=
 (ZR a.Prime 2 64).bind fun b=>
 bif !b then
 some (false)
 else
 (ZR a.Degree 1 6).bind fun c=>
 bif !c then
 some (false)
 else
 bif ((a.Poly.length:Int):Int) !=(IntKind.i64.wrap (a.Degree+1)) then
 some (false)
 else
 (gIdx a.Poly a.Degree).bind fun e=>
 bif e !=1 then
 some (false)
 else
 Zjp a
def Zbk (a:Zd):Option Int:=
 (Zen a.Prime a.Degree).bind fun b=>
 some (b)
def ZeG (b:List Int) (r8:Int):Int→Option ((Int) ⊕ (Bool))
 | a=>
 bif decide (a<(b.length:Int)) then
 (gIdx b a).bind fun c=>
 (ZR c 0 (IntKind.i64.wrap (r8-1))).bind fun e=>
 bif !e then
 some (.inr (false))
 else
 some (.inl (IntKind.i64.wrap (a+1)))
 else
 some (.inr (true))
def Zjq (a:Zd) (b:List Int):Option Bool:=
 (Zbk a).bind fun r8=>
 loop (ZeG b r8) (0)
def Zf6 (h:Zd) (a:List (List Int)):Int→Option ((Int) ⊕ (Bool))
 | b=>
 bif decide (b<(a.length:Int)) then
 (gIdx a b).bind fun c=>
 (gIdx a 0).bind fun e=>
 bif ((c.length:Int):Int) !=(e.length:Int) then
 some (.inr (false))
 else
 (gIdx a b).bind fun f=>
 (Zjq h f).bind fun g=>
 bif !g then
 some (.inr (false))
 else
 some (.inl (IntKind.i64.wrap (b+1)))
 else
 some (.inr (true))
def ZkW (a:Zd) (b:List (List Int)):Option (Bool):=
 loop (Zf6 a b) (0)
def Zjj (b:Zd) (a:List (List Int)):Option Bool:=
 (Zgi b).bind fun f=>
 bif !f then
 some (false)
 else
 bif ((a.length:Int):Int)==0 then
 some (false)
 else
 bif decide (((a.length:Int):Int)>32) then
 some (false)
 else
 (gIdx a 0).bind fun c=>
 bif ((c.length:Int):Int)==0 then
 some (false)
 else
 (gIdx a 0).bind fun e=>
 bif decide (((e.length:Int):Int)>32) then
 some (false)
 else
 ZkW b a
def Zbi (c:Int):Int×Int→Option ((Int×Int) ⊕ (Int))
 | (a,b)=>
 bif decide (a>0) then
 bif decide ((IntKind.i64.wrap (b*c):Int)>4096) then
 some (.inr (0))
 else
 some (.inl (IntKind.i64.wrap (a-1),IntKind.i64.wrap (b*c)))
 else
 some (.inr (b))
def Zi6 (a k1:Int):Option Int:=
 loop (Zbi a) (k1,1)
def Zir (b f:List Int):Int→Option ((Int) ⊕ (Bool))
 | a=>
 bif decide (a<(b.length:Int)) then
 (gIdx b a).bind fun c=>
 (gIdx f a).bind fun e=>
 bif c !=e then
 some (.inr (false))
 else
 some (.inl (IntKind.i64.wrap (a+1)))
 else
 some (.inr (true))
def ZiW (a b:List Int):Option Bool:=
 bif ((a.length:Int):Int) !=(b.length:Int) then
 some (false)
 else
 loop (Zir a b) (0)
def ZiG (b g:List (List Int)):Int→Option ((Int) ⊕ (Bool))
 | a=>
 bif decide (a<(b.length:Int)) then
 (gIdx b a).bind fun c=>
 (gIdx g a).bind fun e=>
 (ZiW c e).bind fun f=>
 bif !f then
 some (.inr (false))
 else
 some (.inl (IntKind.i64.wrap (a+1)))
 else
 some (.inr (true))
def ZfR (a b:List (List Int)):Option Bool:=
 bif ((a.length:Int):Int) !=(b.length:Int) then
 some (false)
 else
 loop (ZiG a b) (0)
def ZgK (f:Zd) (g e:List Int) (c:Int):Int×List Int→Option ((Int×List Int) ⊕ ((Int×List Int) ⊕ (Int)))
 | (a,b)=>
 bif decide (a<(e.length:Int)) then
 (gIdx b (IntKind.i64.wrap (c+a))).bind fun h=>
 (gIdx g c).bind fun i=>
 (gIdx e a).bind fun j=>
 (gNz f.Prime).bind fun _=>
 (gIdx b (IntKind.i64.wrap (c+a))).bind fun k=>
 some (.inl (IntKind.i64.wrap (a+1),(b.set (IntKind.i64.wrap (c+a):Int).toNat (Int.tmod (IntKind.i64.wrap (h+(IntKind.i64.wrap (i*j)))) f.Prime))))
 else
 some (.inr (.inl (IntKind.i64.wrap (c+1),b)))
def Zdk (a:Zd) (b e:List Int):Int×List Int→Option ((Int×List Int) ⊕ (Int))
 | (c,xs)=>
 bif decide (c<(b.length:Int)) then
 loop (ZgK a b e c) (0,xs)
 else
 (ZcV xs a.Poly a.Prime).bind fun f=>
 (Zbe f a.Prime).bind fun g=>
 some (.inr (g))
def ZeF (a:Zd) (f g:Int):Option Int:=
 (Zbd f a.Prime a.Degree).bind fun b=>
 (Zbd g a.Prime a.Degree).bind fun c=>
 (gMake 8 (0:Int) (IntKind.i64.wrap ((IntKind.i64.wrap (2*a.Degree))-1)) (IntKind.i64.wrap ((IntKind.i64.wrap (2*a.Degree))-1))).bind fun e=>
 loop (Zdk a b c) (0,e)
def Zfi (h:Zd) (c:List Int) (c2:Int):List Int×Int→Option ((List Int×Int) ⊕ (List Int))
 | (a,b)=>
 bif decide (b<(c.length:Int)) then
 (gIdx c b).bind fun e=>
 (ZeF h e c2).bind fun f=>
 (gApp 8 a [f]).bind fun g=>
 some (.inl (g,IntKind.i64.wrap (b+1)))
 else
 some (.inr (a))
def ZeZ (a:Zd) (b:List Int) (c2:Int):Option (List Int):=
 loop (Zfi a b c2) (([]:List Int),0)
def ZfO (c:List (List Int)):List (List Int)×Int→Option ((List (List Int)×Int) ⊕ (List (List Int)))
 | (a,b)=>
 bif decide (b<(c.length:Int)) then
 (gIdx c b).bind fun e=>
 (Zbl e).bind fun f=>
 (gApp 24 a [f]).bind fun g=>
 some (.inl (g,IntKind.i64.wrap (b+1)))
 else
 some (.inr (a))
def Zhm (a:List (List Int)):Option (List (List Int)):=
 loop (ZfO a) (([]:List (List Int)),0)
def ZiJ (b:Zd) (c:Int):Int→Option ((Int) ⊕ (Int))
 | a=>
 (ZeF b c a).bind fun e=>
 bif e !=1 then
 some (.inl (IntKind.i64.wrap (a+1)))
 else
 some (.inr (a))
def Zhf (a:Zd) (b:Int):Option Int:=
 loop (ZiJ a b) (1)
def ZfN (b:Zd) (k3:Int) (c:List Int):Int×List Int→Option ((Int×List Int) ⊕ (Int))
 | (a,xs)=>
 bif decide (a<(xs.length:Int)) then
 (gIdx xs a).bind fun e=>
 (gIdx c a).bind fun f=>
 (gNz b.Prime).bind fun _=>
 (gIdx xs a).bind fun h=>
 some (.inl (IntKind.i64.wrap (a+1),(xs.set a.toNat (Int.tmod (IntKind.i64.wrap (e+(IntKind.i64.wrap (k3*f)))) b.Prime))))
 else
 (Zbe xs b.Prime).bind fun g=>
 some (.inr (g))
def ZfH (a:Zd) (e f k3:Int):Option Int:=
 (Zbd e a.Prime a.Degree).bind fun b=>
 (Zbd f a.Prime a.Degree).bind fun c=>
 loop (ZfN a k3 c) (0,b)
def Zfq (c:Zd) (e w2:List Int) (k:Int):List Int×Int→Option ((List Int×Int) ⊕ (List Int))
 | (b,a)=>
 bif decide (a<(e.length:Int)) then
 (gIdx w2 a).bind fun f=>
 (ZeF c f k).bind fun g=>
 (gIdx e a).bind fun h=>
 (ZfH c h g (IntKind.i64.wrap (c.Prime-1))).bind fun i=>
 (gApp 8 b [i]).bind fun j=>
 some (.inl (j,IntKind.i64.wrap (a+1)))
 else
 some (.inr (b))
def Zjk (a:Zd) (b w2:List Int) (c:Int):Option (List Int):=
 loop (Zfq a b w2 c) (([]:List Int),0)
def ZeB (l:Zd) (h:List Int) (c:Int) (i:List Int):Int×List (List Int)→Option ((Int×List (List Int)) ⊕ ((List Int×Int×List (List Int)) ⊕ ((List (List Int))×(List Int))))
 | (b,a)=>
 bif decide (b<(a.length:Int)) then
 bif b !=(h.length:Int) then
 (gIdx a b).bind fun j=>
 (gIdx a b).bind fun k=>
 (gIdx k c).bind fun e=>
 (Zjk l j i e).bind fun f=>
 (gIdx a b).bind fun m=>
 some (.inl (IntKind.i64.wrap (b+1),(a.set b.toNat f)))
 else
 some (.inl (IntKind.i64.wrap (b+1),a))
 else
 (gApp 8 h [c]).bind fun g=>
 some (.inr (.inl (g,IntKind.i64.wrap (c+1),a)))
def Zaw (g:Zd) (b:List Int) (c:Int) (xs:List (List Int)) (a:Int):Option ((List Int×Int×List (List Int)) ⊕ ((List (List Int))×(List Int))):=
 bif a==(xs.length:Int) then
 some (.inl (b,IntKind.i64.wrap (c+1),xs))
 else
 (gIdx xs a).bind fun h=>
 (gIdx h c).bind fun i=>
 (Zhf g i).bind fun j=>
 (gIdx xs a).bind fun k=>
 (ZeZ g k j).bind fun e=>
 (gIdx xs (b.length:Int)).bind fun f=>
 (gIdx xs a).bind fun l=>
 (gIdx (xs.set a.toNat f) (b.length:Int)).bind fun m=>
 loop (ZeB g b c e) (0,((xs.set a.toNat f).set ((b.length:Int):Int).toNat e))
def Zct (c:Zd) (e:List Int) (b:Int) (xs:List (List Int)):Int→Option ((Int) ⊕ ((List Int×Int×List (List Int)) ⊕ ((List (List Int))×(List Int))))
 | a=>
 bif decide (a<(xs.length:Int)) then
 (gIdx xs a).bind fun f=>
 (gIdx f b).bind fun g=>
 bif g==0 then
 some (.inl (IntKind.i64.wrap (a+1)))
 else
 (Zaw c e b xs a).map fun x=>.inr (x)
 else
 (Zaw c e b xs a).map fun x=>.inr (x)
def ZiD (c:Zd) (a:List Int) (b:Int) (xs:List (List Int)):Option ((List Int×Int×List (List Int)) ⊕ ((List (List Int))×(List Int))):=
 loop (Zct c a b xs) ((a.length:Int))
def Za2 (c:Zd) (e:Int):List Int×Int×List (List Int)→Option ((List Int×Int×List (List Int)) ⊕ ((List (List Int))×(List Int)))
 | (a,b,xs)=>
 bif decide (b<e) then
 bif decide (((a.length:Int):Int)<(xs.length:Int)) then
 ZiD c a b xs
 else
 some (.inr ((xs,a)))
 else
 some (.inr ((xs,a)))
def Zg9 (b:Zd) (c:List (List Int)) (e:Int):Option ((List (List Int))×(List Int)):=
 (Zhm c).bind fun a=>
 loop (Za2 b e) (([]:List Int),0,a)
def Zcc (f:Zd) (b:List (List Int)):Option (List (List Int)):=
 (gIdx b 0).bind fun c=>
 (Zg9 f b (c.length:Int)).bind fun a=>
 (gSl a.1 0 (a.2.length:Int)).bind fun e=>
 some (e)
def Zdm (a:ZQ):Option (Bool):=
 (Zbk (Zd.mk a.Field.Prime a.Field.Degree a.Field.Poly)).bind fun b=>
 (Zi6 b (a.Rows.length:Int)).bind fun c=>
 bif c==0 then
 some (false)
 else
 (Zcc (Zd.mk a.Field.Prime a.Field.Degree a.Field.Poly) a.Rows).bind fun e=>
 (ZfR e a.Rows).bind fun f=>
 some (f)
def Zax (a:ZQ):Option Bool:=
 (Zjj (Zd.mk a.Field.Prime a.Field.Degree a.Field.Poly) a.Rows).bind fun b=>
 bif !b then
 some (false)
 else
 (gIdx a.Rows 0).bind fun c=>
 bif decide (((c.length:Int):Int)>32) then
 some (false)
 else
 bif decide (((a.Rows.length:Int):Int)>8) then
 some (false)
 else
 Zdm a
def Ziz (a:List Int):Int→Option ((Int) ⊕ (Bool))
 | b=>
 bif decide (b<(a.length:Int)) then
 (gIdx a b).bind fun c=>
 (ZR c 0 63).bind fun e=>
 bif !e then
 some (.inr (false))
 else
 some (.inl (IntKind.i64.wrap (b+1)))
 else
 some (.inr (true))
def Zhq (a:List Int):Option Bool:=
 bif decide (((a.length:Int):Int)>64) then
 some (false)
 else
 loop (Ziz a) (0)
def Zg2 (a b:ZT):Option Bool:=
 bif decide (a.A<b.A) then
 some (true)
 else
 bif a.A==b.A then
 some (decide (a.B<b.B))
 else
 some (false)
def Zc8 (c:Zae):Int→Option ((Int) ⊕ (Bool))
 | b=>
 bif decide (b<(c.Edges.length:Int)) then
 (gIdx c.Edges b).bind fun a=>
 (ZR a.A 0 (IntKind.i64.wrap ((c.Colors.length:Int)-1))).bind fun e=>
 bif !e then
 some (.inr (false))
 else
 (ZR a.B (IntKind.i64.wrap (a.A+1)) (IntKind.i64.wrap ((c.Colors.length:Int)-1))).bind fun f=>
 bif !f then
 some (.inr (false))
 else
 bif decide (b>0) then
 (gIdx c.Edges (IntKind.i64.wrap (b-1))).bind fun g=>
 (Zg2 g (ZT.mk a.A a.B)).bind fun h=>
 bif !h then
 some (.inr (false))
 else
 some (.inl (IntKind.i64.wrap (b+1)))
 else
 some (.inl (IntKind.i64.wrap (b+1)))
 else
 some (.inr (true))
def Zkl (a:Zae):Option (Bool):=
 loop (Zc8 a) (0)
def Zis (a:Zae):Option Bool:=
 (Zhq a.Colors).bind fun r8=>
 bif !r8 then
 some (false)
 else
 bif decide (((a.Edges.length:Int):Int)>512) then
 some (false)
 else
 Zkl a
def Zei (b:Zl) (c:List Int):Int×List ZT→Option ((Int×List ZT) ⊕ (Zae×Bool))
 | (a,xs)=>
 bif decide (a<(b.Rows.length:Int)) then
 (gIdx b.Rows a).bind fun e=>
 bif ((e.length:Int):Int) !=2 then
 some (.inr (((Zae.mk ([]:List Int) ([]:List ZT)),false)))
 else
 (gIdx b.Rows a).bind fun f=>
 (gIdx f 0).bind fun g=>
 (gIdx b.Rows a).bind fun h=>
 (gIdx h 1).bind fun i=>
 (gApp 16 xs [(ZT.mk g i)]).bind fun j=>
 some (.inl (IntKind.i64.wrap (a+1),j))
 else
 (Zis (Zae.mk c xs)).bind fun k=>
 some (.inr (((Zae.mk c xs),k)))
def ZhA (a:Zl):Option (Zae×Bool):=
 (ZR a.Size 0 64).bind fun b=>
 bif !b then
 some (((Zae.mk ([]:List Int) ([]:List ZT)),false))
 else
 (gMake 8 (0:Int) a.Size a.Size).bind fun c=>
 loop (Zei a c) (0,([]:List ZT))
def Zbg (c:List (List Int)) (p1:List Int):Int×Int→Option ((Int×Int) ⊕ (Int×Bool))
 | (b,a)=>
 bif decide (b<a) then
 (gNz 2).bind fun _=>
 (gIdx c (IntKind.i64.wrap (Int.tdiv (IntKind.i64.wrap (b+a)) 2))).bind fun f=>
 (ZdN f p1).bind fun e=>
 bif e==0 then
 some (.inr ((IntKind.i64.wrap (Int.tdiv (IntKind.i64.wrap (b+a)) 2),true)))
 else
 bif decide (e<0) then
 some (.inl (IntKind.i64.wrap ((IntKind.i64.wrap (Int.tdiv (IntKind.i64.wrap (b+a)) 2))+1),a))
 else
 some (.inl (b,IntKind.i64.wrap (Int.tdiv (IntKind.i64.wrap (b+a)) 2)))
 else
 some (.inr ((b,false)))
def Zey (a:List (List Int)) (p1:List Int):Option (Int×Bool):=
 loop (Zbg a p1) (0,(a.length:Int))
def ZgG (n0:Int):List Int×Int→Option ((List Int×Int) ⊕ (List Int))
 | (a,b)=>
 bif decide (b<n0) then
 (gApp 8 a [b]).bind fun c=>
 some (.inl (c,IntKind.i64.wrap (b+1)))
 else
 some (.inr (a))
def Zh6 (n0:Int):Option (List Int):=
 loop (ZgG n0) (([]:List Int),0)
def ZfP (c h:List Int):List Int×Int→Option ((List Int×Int) ⊕ (List Int))
 | (a,b)=>
 bif decide (b<(c.length:Int)) then
 (gIdx c b).bind fun e=>
 (gIdx h e).bind fun f=>
 (gApp 8 a [f]).bind fun g=>
 some (.inl (g,IntKind.i64.wrap (b+1)))
 else
 some (.inr (a))
def ZhY (a b:List Int):Option (List Int):=
 loop (ZfP a b) (([]:List Int),0)
def Zje (a:List (List Int)) (b:Int) (p2:List Int):Option (List (List Int)):=
 (gSl a 0 b).bind fun c=>
 (gApp 24 ([]:List (List Int)) c).bind fun e=>
 (gApp 24 e [p2]).bind fun f=>
 (gSl a b (a.length:Int)).bind fun g=>
 (gApp 24 f g).bind fun h=>
 some (h)
def ZaX (genera1:List (List Int)) (f g:Int):List (List Int)×List (List Int)×Int→Option ((List (List Int)×List (List Int)×Int) ⊕ ((List (List Int)×List (List Int)×Int) ⊕ ((List (List Int))×Bool)))
 | (b,a,c)=>
 bif decide (c<(genera1.length:Int)) then
 (gIdx a g).bind fun i=>
 (gIdx genera1 c).bind fun j=>
 (ZhY i j).bind fun e=>
 (Zey b e).bind fun h=>
 bif h.2 then
 some (.inl (b,a,IntKind.i64.wrap (c+1)))
 else
 bif ((b.length:Int):Int)==f then
 some (.inr (.inr ((([]:List (List Int)),false))))
 else
 (Zje b h.1 e).bind fun k=>
 (gApp 24 a [e]).bind fun l=>
 some (.inl (k,l,IntKind.i64.wrap (c+1)))
 else
 some (.inr (.inl (b,a,IntKind.i64.wrap (g+1))))
def Zcd (genera1:List (List Int)) (b:Int):List (List Int)×List (List Int)×Int→Option ((List (List Int)×List (List Int)×Int) ⊕ ((List (List Int))×Bool))
 | (a,queue10,c)=>
 bif decide (c<(queue10.length:Int)) then
 loop (ZaX genera1 b c) (a,queue10,0)
 else
 some (.inr ((a,true)))
def Zdq (degree0:Int) (genera1:List (List Int)) (a:Int):Option ((List (List Int))×Bool):=
 (Zh6 degree0).bind fun b=>
 loop (Zcd genera1 a) ([b],[b],0)
def ZbP (degree0:Int) (a:List (List Int)):List (List Int)×List (List Int)×Int→Option ((List (List Int)×List (List Int)×Int) ⊕ ((List (List Int))×Bool))
 | (c,b,e)=>
 bif decide (e<(a.length:Int)) then
 (gIdx a e).bind fun h=>
 (Zey b h).bind fun i=>
 bif i.2 then
 some (.inl (c,b,IntKind.i64.wrap (e+1)))
 else
 (gIdx a e).bind fun j=>
 (Zbl j).bind fun k=>
 (gApp 24 c [k]).bind fun f=>
 (Zdq degree0 f (a.length:Int)).bind fun g=>
 bif !g.2 then
 some (.inr ((([]:List (List Int)),false)))
 else
 some (.inl (f,g.1,IntKind.i64.wrap (e+1)))
 else
 (ZfR b a).bind fun l=>
 some (.inr ((c,l)))
def Zi2 (degree0:Int) (a:List (List Int)):Option ((List (List Int))×Bool):=
 (Zdq degree0 ([]:List (List Int)) 1).bind fun b=>
 loop (ZbP degree0 a) (([]:List (List Int)),b.1,0)
def Zdf (a:Za9):Int→Option ((Int) ⊕ (Bool))
 | b=>
 bif decide (b<(a.Elements.length:Int)) then
 (gIdx a.Elements b).bind fun c=>
 (ZdV c).bind fun e=>
 bif !e then
 some (.inr (false))
 else
 (gIdx a.Elements b).bind fun f=>
 bif ((f.length:Int):Int) !=a.Degree then
 some (.inr (false))
 else
 bif decide (b>0) then
 (gIdx a.Elements (IntKind.i64.wrap (b-1))).bind fun g=>
 (gIdx a.Elements b).bind fun h=>
 (ZdN g h).bind fun i=>
 bif decide (i≥0) then
 some (.inr (false))
 else
 some (.inl (IntKind.i64.wrap (b+1)))
 else
 some (.inl (IntKind.i64.wrap (b+1)))
 else
 (Zi2 a.Degree a.Elements).bind fun j=>
 some (.inr (j.2))
def ZlY (a:Za9):Option (Bool):=
 loop (Zdf a) (0)
def Zi1 (a:Za9):Option Bool:=
 (ZR a.Degree 1 32).bind fun b=>
 bif !b then
 some (false)
 else
 bif ((a.Elements.length:Int):Int)==0 then
 some (false)
 else
 bif decide (((a.Elements.length:Int):Int)>720) then
 some (false)
 else
 ZlY a
def ZZ (a:Zl):Option Bool:=
 bif a.Kind==1 then
 (ZdZ a.Rows).bind fun f=>
 bif f then
 some (((a.Rows.length:Int):Int)==a.Size)
 else
 some (false)
 else
 bif a.Kind==2 then
 (ZhI (ZJ.mk a.Size a.Rows)).bind fun g=>
 some (g)
 else
 bif a.Kind==3 then
 (ZfJ a.Rows).bind fun h=>
 bif h then
 some (((a.Rows.length:Int):Int)==a.Size)
 else
 some (false)
 else
 bif a.Kind==4 then
 (Zcw a).bind fun c=>
 bif decide (((a.Rows.length:Int):Int)>0) then
 (Zfg (ZE.mk c.Levels c.Columns c.Rows)).bind fun i=>
 some (i)
 else
 some (false)
 else
 bif a.Kind==5 then
 (Zbx a).bind fun b=>
 (Zax (ZQ.mk (Zd.mk b.Field.Prime b.Field.Degree b.Field.Poly) b.Rows)).bind fun j=>
 some (j)
 else
 bif a.Kind==6 then
 (ZhA a).bind fun k=>
 some (k.2)
 else
 bif a.Kind==7 then
 (Zi1 (Za9.mk a.Size a.Rows)).bind fun e=>
 some (e)
 else
 some (false)
def Zgd (a:List Int) (c e:Int):Option ((List Int×Int) ⊕ (ByteArray)):=
 (gApp 1 ([IntKind.u8.wrap (IntKind.i64.wrap (48+e))]:List Int) a).bind fun b=>
 (gNz 10).bind fun _=>
 some (.inl (b,IntKind.i64.wrap (Int.tdiv c 10)))
def Zba (n0:Int):List Int×Int→Option ((List Int×Int) ⊕ (ByteArray))
 | (a,b)=>
 bif b !=0 then
 (gNz 10).bind fun _=>
 bif decide ((Int.tmod b 10:Int)<0) then
 Zgd a b (IntKind.i64.wrap (0-(Int.tmod b 10)))
 else
 Zgd a b (Int.tmod b 10)
 else
 bif ((a.length:Int):Int)==0 then
 some (.inr (⟨#[48]⟩))
 else
 bif decide (n0<0) then
 (gByt a).bind fun c=>
 (gFit (⟨#[45]⟩:ByteArray) c).bind fun _=>
 some (.inr ((⟨#[45]⟩:ByteArray)++c))
 else
 (gByt a).bind fun e=>
 some (.inr (e))
def Zab (n0:Int):Option ByteArray:=
 loop (Zba n0) (([]:List Int),n0)
def Zdj (b:List (List Int)) (kind1:Int):Int→Option ((Int) ⊕ (Bool))
 | a=>
 bif decide (a<(b.length:Int)) then
 bif kind1==1 then
 (gIdx b a).bind fun h=>
 (gIdx h a).bind fun i=>
 bif i !=a then
 some (.inr (false))
 else
 bif kind1==2 then
 (gIdx b a).bind fun j=>
 (gIdx j a).bind fun k=>
 (gIdx b 0).bind fun l=>
 (gIdx l 0).bind fun m=>
 bif k !=m then
 some (.inr (false))
 else
 some (.inl (IntKind.i64.wrap (a+1)))
 else
 some (.inl (IntKind.i64.wrap (a+1)))
 else
 bif kind1==2 then
 (gIdx b a).bind fun c=>
 (gIdx c a).bind fun e=>
 (gIdx b 0).bind fun f=>
 (gIdx f 0).bind fun g=>
 bif e !=g then
 some (.inr (false))
 else
 some (.inl (IntKind.i64.wrap (a+1)))
 else
 some (.inl (IntKind.i64.wrap (a+1)))
 else
 some (.inr (true))
def Zhn (a:List (List Int)) (kind1:Int):Option Bool:=
 loop (Zdj a kind1) (0)
def ZcI (c:List (List Int)) (g:Int) (b:Bool):Int→Option ((Int) ⊕ (Bool))
 | a=>
 bif decide (a<(c.length:Int)) then
 bif b then
 (gIdx c g).bind fun h=>
 (gIdx h a).bind fun i=>
 bif i !=a then
 some (.inr (false))
 else
 bif !b then
 (gIdx c a).bind fun j=>
 (gIdx j g).bind fun k=>
 bif k !=a then
 some (.inr (false))
 else
 some (.inl (IntKind.i64.wrap (a+1)))
 else
 some (.inl (IntKind.i64.wrap (a+1)))
 else
 bif !b then
 (gIdx c a).bind fun e=>
 (gIdx e g).bind fun f=>
 bif f !=a then
 some (.inr (false))
 else
 some (.inl (IntKind.i64.wrap (a+1)))
 else
 some (.inl (IntKind.i64.wrap (a+1)))
 else
 some (.inr (true))
def Zeh (b:List (List Int)) (c:Int) (a:Bool):Option Bool:=
 loop (ZcI b c a) (0)
def Ze1 (c:List (List Int)) (a:Bool):Int→Option ((Int) ⊕ (Bool))
 | b=>
 bif decide (b<(c.length:Int)) then
 (Zeh c b a).bind fun e=>
 bif e then
 some (.inr (true))
 else
 some (.inl (IntKind.i64.wrap (b+1)))
 else
 some (.inr (false))
def Zgm (b:List (List Int)) (a:Bool):Option Bool:=
 loop (Ze1 b a) (0)
def Zes (a:List (List Int)) (e c:Int):Int→Option ((Int) ⊕ ((Int) ⊕ ((Int) ⊕ (Bool))))
 | b=>
 bif decide (b<(a.length:Int)) then
 (gIdx a e).bind fun f=>
 (gIdx f c).bind fun g=>
 (gIdx a g).bind fun h=>
 (gIdx h b).bind fun i=>
 (gIdx a e).bind fun j=>
 (gIdx a c).bind fun k=>
 (gIdx k b).bind fun l=>
 (gIdx j l).bind fun m=>
 bif i !=m then
 some (.inr (.inr (.inr (false))))
 else
 some (.inl (IntKind.i64.wrap (b+1)))
 else
 some (.inr (.inl (IntKind.i64.wrap (c+1))))
def Zer (a:List (List Int)) (b:Int):Int→Option ((Int) ⊕ ((Int) ⊕ (Bool)))
 | c=>
 bif decide (c<(a.length:Int)) then
 loop (Zes a b c) (0)
 else
 some (.inr (.inl (IntKind.i64.wrap (b+1))))
def ZhL (a:List (List Int)):Int→Option ((Int) ⊕ (Bool))
 | b=>
 bif decide (b<(a.length:Int)) then
 loop (Zer a b) (0)
 else
 some (.inr (true))
def Zij (a:List (List Int)):Option Bool:=
 loop (ZhL a) (0)
def Za7 (a:List (List Int)) (kind1 b:Int):Int→Option ((Int) ⊕ ((Int) ⊕ (Bool)))
 | y7=>
 bif decide (y7<(a.length:Int)) then
 bif kind1==3 then
 (gIdx a b).bind fun h=>
 (gIdx h y7).bind fun i=>
 (gIdx a y7).bind fun j=>
 (gIdx j b).bind fun k=>
 bif i !=k then
 some (.inr (.inr (false)))
 else
 bif kind1==7 then
 (gIdx a b).bind fun l=>
 (gIdx a y7).bind fun m=>
 (gIdx m b).bind fun o=>
 (gIdx l o).bind fun p=>
 bif p !=y7 then
 some (.inr (.inr (false)))
 else
 some (.inl (IntKind.i64.wrap (y7+1)))
 else
 some (.inl (IntKind.i64.wrap (y7+1)))
 else
 bif kind1==7 then
 (gIdx a b).bind fun c=>
 (gIdx a y7).bind fun e=>
 (gIdx e b).bind fun f=>
 (gIdx c f).bind fun g=>
 bif g !=y7 then
 some (.inr (.inr (false)))
 else
 some (.inl (IntKind.i64.wrap (y7+1)))
 else
 some (.inl (IntKind.i64.wrap (y7+1)))
 else
 some (.inr (.inl (IntKind.i64.wrap (b+1))))
def Zc3 (a:List (List Int)) (kind1:Int):Int→Option ((Int) ⊕ (Bool))
 | b=>
 bif decide (b<(a.length:Int)) then
 loop (Za7 a kind1 b) (0)
 else
 some (.inr (true))
def Zds (a:List (List Int)) (kind1:Int):Option Bool:=
 loop (Zc3 a kind1) (0)
def ZjG (a:List (List Int)) (kind1:Int) (j:Bool):Option (Bool):=
 bif j then
 (Zhn a kind1).bind fun b=>
 some (b)
 else
 bif kind1==4 then
 (Zgm a true).bind fun c=>
 some (c)
 else
 bif kind1==5 then
 (Zgm a false).bind fun e=>
 some (e)
 else
 bif kind1==6 then
 (Zij a).bind fun f=>
 some (f)
 else
 bif kind1==8 then
 (Zds a 3).bind fun g=>
 bif g then
 (Zds a 7).bind fun h=>
 some (h)
 else
 some (false)
 else
 (Zds a kind1).bind fun i=>
 some (i)
def Zil (a:List (List Int)) (kind1:Int):Option Bool:=
 bif kind1==1 then
 ZjG a kind1 (kind1==1)
 else
 ZjG a kind1 (kind1==2)
def Zb0 (f:List (List Int)):List Int×Int→Option ((List Int×Int) ⊕ ((List Int)×Int))
 | (b,a)=>
 bif decide (a≤8) then
 (Zil f a).bind fun c=>
 bif c then
 (gApp 8 b [a]).bind fun e=>
 some (.inl (e,IntKind.i64.wrap (a+1)))
 else
 some (.inl (b,IntKind.i64.wrap (a+1)))
 else
 some (.inr ((b,0)))
def ZjN (a:List (List Int)):Option ((List Int)×Int):=
 (ZdZ a).bind fun b=>
 bif !b then
 some ((([]:List Int),1))
 else
 loop (Zb0 a) (([]:List Int),1)
def Znt:Option (List ByteArray):=
 some (([⟨#[]⟩,⟨#[105,100,101,109,112,111,116,101,110,116]⟩,⟨#[117,110,105,112,111,116,101,110,116]⟩,⟨#[99,111,109,109,117,116,97,116,105,118,101]⟩,⟨#[108,101,102,116,45,117,110,105,116]⟩,⟨#[114,105,103,104,116,45,117,110,105,116]⟩,⟨#[97,115,115,111,99,105,97,116,105,118,101]⟩,⟨#[115,101,109,105,115,121,109,109,101,116,114,105,99]⟩,⟨#[115,121,109,109,101,116,114,105,99]⟩]:List ByteArray))
def ZdH (a:Int):Option ByteArray:=
 (ZR a 1 8).bind fun b=>
 bif !b then
 some (⟨#[]⟩)
 else
 (Znt).bind fun c=>
 (gIdx c a).bind fun e=>
 some (e)
def ZjC (a:List (List Int)) (b:List Int):Option (Bool):=
 (gIdx b 0).bind fun c=>
 (gIdx b 1).bind fun e=>
 (gIdx b 2).bind fun f=>
 (gIdx b 3).bind fun g=>
 (gIdx a c).bind fun h=>
 (gIdx h f).bind fun i=>
 (gIdx a e).bind fun j=>
 (gIdx j g).bind fun k=>
 bif i==k then
 (gIdx a c).bind fun l=>
 (gIdx l g).bind fun m=>
 (gIdx a e).bind fun o=>
 (gIdx o f).bind fun p=>
 some (m==p)
 else
 some (false)
def ZiQ (b:List (List Int)) (a:List Int):Option Bool:=
 bif ((a.length:Int):Int) !=4 then
 some (false)
 else
 (gSl a 0 2).bind fun c=>
 (ZcE c 0 (IntKind.i64.wrap ((b.length:Int)-1))).bind fun e=>
 bif !e then
 some (false)
 else
 (gSl a 2 (a.length:Int)).bind fun f=>
 (ZcE f 0 (IntKind.i64.wrap ((b.length:Int)-1))).bind fun g=>
 bif !g then
 some (false)
 else
 ZjC b a
def Zcy (e:List (List Int)) (f g c:Int):List (List Int)×Int→Option ((List (List Int)×Int) ⊕ ((List (List Int)×Int) ⊕ ((List (List Int)×Int) ⊕ ((List (List Int)×Int) ⊕ ((List (List Int))×Int)))))
 | (a,b)=>
 bif decide (b<(e.length:Int)) then
 (ZiQ e ([f,g,c,b]:List Int)).bind fun h=>
 bif h then
 (gApp 24 a [([f,g,c,b]:List Int)]).bind fun i=>
 some (.inl (i,IntKind.i64.wrap (b+1)))
 else
 some (.inl (a,IntKind.i64.wrap (b+1)))
 else
 some (.inr (.inl (a,IntKind.i64.wrap (c+1))))
def Zdc (c:List (List Int)) (f e:Int):List (List Int)×Int→Option ((List (List Int)×Int) ⊕ ((List (List Int)×Int) ⊕ ((List (List Int)×Int) ⊕ ((List (List Int))×Int))))
 | (a,b)=>
 bif decide (b<(c.length:Int)) then
 loop (Zcy c f e b) (a,IntKind.i64.wrap (b+1))
 else
 some (.inr (.inl (a,IntKind.i64.wrap (e+1))))
def Zdn (b:List (List Int)) (c:Int):List (List Int)×Int→Option ((List (List Int)×Int) ⊕ ((List (List Int)×Int) ⊕ ((List (List Int))×Int)))
 | (a,e)=>
 bif decide (e<(b.length:Int)) then
 loop (Zdc b c e) (a,0)
 else
 some (.inr (.inl (a,IntKind.i64.wrap (c+1))))
def ZcM (c:List (List Int)):List (List Int)×Int→Option ((List (List Int)×Int) ⊕ ((List (List Int))×Int))
 | (a,b)=>
 bif decide (b<(c.length:Int)) then
 loop (Zdn c b) (a,IntKind.i64.wrap (b+1))
 else
 some (.inr ((a,0)))
def Zi4 (a:List (List Int)):Option ((List (List Int))×Int):=
 (ZdZ a).bind fun b=>
 bif !b then
 some ((([]:List (List Int)),1))
 else
 loop (ZcM a) (([]:List (List Int)),0)
def Zez (k:List (List Int)) (b:(List Int)×Int):List ByteArray×Int→Option ((List ByteArray×Int) ⊕ (List ByteArray))
 | (a,e)=>
 bif decide (e<(b.1.length:Int)) then
 (gIdx b.1 e).bind fun f=>
 (ZdH f).bind fun g=>
 (gApp 16 a [g]).bind fun h=>
 some (.inl (h,IntKind.i64.wrap (e+1)))
 else
 (Zi4 k).bind fun i=>
 (Zab (i.1.length:Int)).bind fun c=>
 (gFit (⟨#[105,110,116,101,114,99,97,108,97,116,101,115,32]⟩:ByteArray) c).bind fun _=>
 (gApp 16 a [(⟨#[105,110,116,101,114,99,97,108,97,116,101,115,32]⟩:ByteArray)++c]).bind fun j=>
 some (.inr (j))
def Zhd (b:List (List Int)):Option (List ByteArray):=
 (Zab (b.length:Int)).bind fun a=>
 (gFit (⟨#[111,114,100,101,114,32]⟩:ByteArray) a).bind fun _=>
 (ZjN b).bind fun c=>
 loop (Zez b c) (([(⟨#[111,114,100,101,114,32]⟩:ByteArray)++a]:List ByteArray),0)
def Zc5 (e:ZJ) (l:Int) (b:List Int) (f:Int):Int×Int→Option ((Int×Int) ⊕ ((List Int×Int) ⊕ ((List Int×Int) ⊕ (List Int))))
 | (c,a)=>
 bif decide (a<(e.Blocks.length:Int)) then
 (gIdx e.Blocks a).bind fun g=>
 (ZdO g l).bind fun h=>
 bif h then
 (gIdx e.Blocks a).bind fun i=>
 (ZdO i f).bind fun j=>
 bif j then
 some (.inl (IntKind.i64.wrap (c+1),IntKind.i64.wrap (a+1)))
 else
 some (.inl (c,IntKind.i64.wrap (a+1)))
 else
 some (.inl (c,IntKind.i64.wrap (a+1)))
 else
 (gApp 8 b [c]).bind fun k=>
 some (.inr (.inl (k,IntKind.i64.wrap (f+1))))
def ZdX (b:ZJ) (c:Int):List Int×Int→Option ((List Int×Int) ⊕ ((List Int×Int) ⊕ (List Int)))
 | (a,e)=>
 bif decide (e<b.Points) then
 loop (Zc5 b c a e) (0,0)
 else
 some (.inr (.inl (a,IntKind.i64.wrap (c+1))))
def Zeq (c:ZJ):List Int×Int→Option ((List Int×Int) ⊕ (List Int))
 | (a,b)=>
 bif decide (b<c.Points) then
 loop (ZdX c b) (a,IntKind.i64.wrap (b+1))
 else
 some (.inr (a))
def ZjO (a:ZJ):Option (List Int):=
 loop (Zeq a) (([]:List Int),0)
def Zh3 (f:ZJ) (c:Int):Int×List Int→Option ((Int×List Int) ⊕ ((Int×List Int) ⊕ (List Int)))
 | (e,a)=>
 (gIdx f.Blocks c).bind fun g=>
 bif decide (e<(g.length:Int)) then
 (gIdx f.Blocks c).bind fun h=>
 (gIdx h e).bind fun b=>
 (gIdx a b).bind fun i=>
 (gIdx a b).bind fun j=>
 some (.inl (IntKind.i64.wrap (e+1),(a.set b.toNat (IntKind.i64.wrap (i+1)))))
 else
 some (.inr (.inl (IntKind.i64.wrap (c+1),a)))
def Zfm (a:ZJ):Int×List Int→Option ((Int×List Int) ⊕ (List Int))
 | (b,xs)=>
 bif decide (b<(a.Blocks.length:Int)) then
 loop (Zh3 a b) (0,xs)
 else
 some (.inr (xs))
def ZiS (a:ZJ):Option (List Int):=
 (gMake 8 (0:Int) a.Points a.Points).bind fun b=>
 loop (Zfm a) (0,b)
def Zcj (b:ZJ) (c a:List Int):Int→Option ((Int) ⊕ ((Int) ⊕ (ZS×Bool)))
 | y7=>
 bif decide (y7<(a.length:Int)) then
 (gIdx a y7).bind fun e=>
 (gIdx a 0).bind fun f=>
 bif e !=f then
 some (.inr (.inr (((ZS.mk 0 0 0 0 0),false))))
 else
 some (.inl (IntKind.i64.wrap (y7+1)))
 else
 (ZiS b).bind fun g=>
 (gIdx g 0).bind fun h=>
 (gIdx a 0).bind fun i=>
 some (.inr (.inr (((ZS.mk b.Points (b.Blocks.length:Int) h (c.length:Int) i),true))))
def ZbB (b:ZJ) (a:List Int):Int→Option ((Int) ⊕ (ZS×Bool))
 | c=>
 bif decide (c<(b.Blocks.length:Int)) then
 (gIdx b.Blocks c).bind fun e=>
 bif ((e.length:Int):Int) !=(a.length:Int) then
 some (.inr (((ZS.mk 0 0 0 0 0),false)))
 else
 bif decide (((a.length:Int):Int)<2) then
 some (.inr (((ZS.mk 0 0 0 0 0),false)))
 else
 some (.inl (IntKind.i64.wrap (c+1)))
 else
 (ZjO b).bind fun f=>
 loop (Zcj b a f) (0)
def Zd9 (a:ZJ):Option (ZS×Bool):=
 (gIdx a.Blocks 0).bind fun b=>
 loop (ZbB a b) (0)
def Zji (a:ZJ):Option (ZS×Bool):=
 bif decide (a.Points<2) then
 some (((ZS.mk 0 0 0 0 0),false))
 else
 bif ((a.Blocks.length:Int):Int)==0 then
 some (((ZS.mk 0 0 0 0 0),false))
 else
 Zd9 a
def Zg6 (h:ZJ):Option (List ByteArray):=
 (Zab h.Points).bind fun b=>
 (Zab (h.Blocks.length:Int)).bind fun c=>
 (gFit (⟨#[112,111,105,110,116,115,32]⟩:ByteArray) b).bind fun _=>
 (gFit (⟨#[98,108,111,99,107,115,32]⟩:ByteArray) c).bind fun _=>
 (Zji h).bind fun a=>
 bif a.2 then
 (Zab a.1.R).bind fun e=>
 (Zab a.1.K).bind fun f=>
 (Zab a.1.Lambda).bind fun g=>
 (gFit (⟨#[114,101,112,108,105,99,97,116,105,111,110,32]⟩:ByteArray) e).bind fun _=>
 (gFit (⟨#[98,108,111,99,107,32,115,105,122,101,32]⟩:ByteArray) f).bind fun _=>
 (gFit (⟨#[108,97,109,98,100,97,32]⟩:ByteArray) g).bind fun _=>
 (gApp 16 ([(⟨#[112,111,105,110,116,115,32]⟩:ByteArray)++b,(⟨#[98,108,111,99,107,115,32]⟩:ByteArray)++c]:List ByteArray) ([(⟨#[114,101,112,108,105,99,97,116,105,111,110,32]⟩:ByteArray)++e,(⟨#[98,108,111,99,107,32,115,105,122,101,32]⟩:ByteArray)++f,(⟨#[108,97,109,98,100,97,32]⟩:ByteArray)++g]:List ByteArray)).bind fun i=>
 some (i)
 else
 some (([(⟨#[112,111,105,110,116,115,32]⟩:ByteArray)++b,(⟨#[98,108,111,99,107,115,32]⟩:ByteArray)++c]:List ByteArray))
def ZgC (b:List (List Int)) (c:Int):Int×Int→Option ((Int×Int) ⊕ ((Int×Int) ⊕ (Int×Int)))
 | (a,k6)=>
 bif decide (k6<(b.length:Int)) then
 (gIdx b c).bind fun e=>
 (gIdx e k6).bind fun f=>
 some (.inl (IntKind.i64.wrap (a+f),IntKind.i64.wrap (k6+1)))
 else
 some (.inr (.inl (a,IntKind.i64.wrap (c+1))))
def ZeN (b:List (List Int)):Int×Int→Option ((Int×Int) ⊕ (Int×Int))
 | (a,c)=>
 bif decide (c<(b.length:Int)) then
 loop (ZgC b c) (a,0)
 else
 some (.inr ((a,0)))
def ZjA (a:List (List Int)):Option (Int×Int):=
 (ZfJ a).bind fun r8=>
 bif !r8 then
 some ((0,1))
 else
 loop (ZeN a) (0,0)
def ZkJ (b c:Int):Int×Int→Option ((Int×Int) ⊕ (Int))
 | (a,e)=>
 bif decide (e<c) then
 bif decide ((IntKind.i64.wrap (a*b):Int)>256) then
 some (.inr (257))
 else
 some (.inl (IntKind.i64.wrap (a*b),IntKind.i64.wrap (e+1)))
 else
 some (.inr (a))
def ZdL (a b:Int):Option Int:=
 loop (ZkJ a b) (1,0)
def Zlo (n0 k1:Int):Int×Int→Option ((Int×Int) ⊕ (Int))
 | (a,b)=>
 bif decide (b≤k1) then
 (gNz b).bind fun _=>
 some (.inl (IntKind.i64.wrap (Int.tdiv (IntKind.i64.wrap (a*(IntKind.i64.wrap ((IntKind.i64.wrap (n0-k1))+b)))) b),IntKind.i64.wrap (b+1)))
 else
 some (.inr (a))
def Zjy (n0 k1:Int):Option (Int):=
 loop (Zlo n0 k1) (1,1)
def Zcz (n0 k1:Int):Option Int:=
 (ZR n0 0 32).bind fun r8=>
 bif !r8 then
 some (0)
 else
 (ZR k1 0 n0).bind fun a=>
 bif !a then
 some (0)
 else
 Zjy n0 k1
def Zh2 (n0 k1 a:Int) (b:List Int) (c:Int):Option ((Int×List Int×Int) ⊕ (List Int)):=
 (Zcz (IntKind.i64.wrap ((IntKind.i64.wrap (n0-1))-c)) (IntKind.i64.wrap ((IntKind.i64.wrap (k1-1))-(b.length:Int)))).bind fun e=>
 bif decide (a<e) then
 (gApp 8 b [c]).bind fun f=>
 some (.inl (a,f,IntKind.i64.wrap (c+1)))
 else
 some (.inl (IntKind.i64.wrap (a-e),b,IntKind.i64.wrap (c+1)))
def Zcf (n0 k1:Int):Int×List Int×Int→Option ((Int×List Int×Int) ⊕ (List Int))
 | (b,a,c)=>
 bif decide (((a.length:Int):Int)<k1) then
 bif decide (c<n0) then
 Zh2 n0 k1 b a c
 else
 some (.inr (a))
 else
 some (.inr (a))
def Zkb (n0 k1 a:Int):Option (List Int):=
 loop (Zcf n0 k1) (a,([]:List Int),0)
def ZgD (g:ZE) (c:List Int) (e:Int) (xs:List Int):Int×Int→Option ((Int×Int) ⊕ ((Int×List Int) ⊕ ((Int) ⊕ (Int))))
 | (a,b)=>
 bif decide (b<(c.length:Int)) then
 (gIdx g.Rows e).bind fun h=>
 (gIdx c b).bind fun i=>
 (gIdx h i).bind fun j=>
 some (.inl (IntKind.i64.wrap ((IntKind.i64.wrap (a*g.Levels))+j),IntKind.i64.wrap (b+1)))
 else
 (gIdx xs a).bind fun f=>
 (gIdx xs a).bind fun k=>
 some (.inr (.inl (IntKind.i64.wrap (e+1),(xs.set a.toNat (IntKind.i64.wrap (f+1))))))
def ZeO (e:ZE) (b y7:Int) (xs:List Int):Int→Option ((Int) ⊕ ((Int×List Int) ⊕ ((Int) ⊕ (Int))))
 | a=>
 bif decide (a<b) then
 (gIdx xs a).bind fun c=>
 bif c !=(IntKind.i64.wrap (Int.tdiv (e.Rows.length:Int) b)) then
 some (.inr (.inr (.inr (0))))
 else
 some (.inl (IntKind.i64.wrap (a+1)))
 else
 some (.inr (.inr (.inl (IntKind.i64.wrap (y7+1)))))
def ZeM (b:ZE) (c y7:Int) (e:List Int):Int×List Int→Option ((Int×List Int) ⊕ ((Int) ⊕ (Int)))
 | (a,xs)=>
 bif decide (a<(b.Rows.length:Int)) then
 loop (ZgD b e a xs) (0,0)
 else
 loop (ZeO b c y7 xs) (0)
def Zd5 (b:ZE) (c a:Int):Int→Option ((Int) ⊕ (Int))
 | y7=>
 (Zcz b.Columns c).bind fun e=>
 bif decide (y7<e) then
 (Zkb b.Columns c y7).bind fun f=>
 (gMake 8 (0:Int) a a).bind fun g=>
 loop (ZeM b a y7 f) (0,g)
 else
 some (.inr (IntKind.i64.wrap (Int.tdiv (b.Rows.length:Int) a)))
def ZjM (b:ZE) (c a:Int):Option (Int):=
 (gNz a).bind fun _=>
 loop (Zd5 b c a) (0)
def ZeQ (b:ZE) (c:Int):Option Int:=
 (ZdL b.Levels c).bind fun a=>
 bif decide (a>256) then
 some (0)
 else
 bif ((b.Rows.length:Int):Int)==0 then
 some (0)
 else
 (gNz a).bind fun _=>
 bif (Int.tmod (b.Rows.length:Int) a:Int) !=0 then
 some (0)
 else
 ZjM b c a
def Zdg (b:ZE):Int→Option ((Int) ⊕ (Int))
 | a=>
 bif decide (a>0) then
 (ZeQ (ZE.mk b.Levels b.Columns b.Rows) a).bind fun c=>
 bif decide (c>0) then
 some (.inr (a))
 else
 some (.inl (IntKind.i64.wrap (a-1)))
 else
 some (.inr (0))
def Ziw (a:ZE):Option Int:=
 (Zfg (ZE.mk a.Levels a.Columns a.Rows)).bind fun b=>
 bif !b then
 some (0)
 else
 loop (Zdg a) (a.Columns)
def Zc9 (j:Zd) (b c:List Int):Int×List Int→Option ((Int×List Int) ⊕ (List Int))
 | (a,xs)=>
 bif decide (a<(b.length:Int)) then
 (gIdx c a).bind fun e=>
 bif e==0 then
 (gIdx b a).bind fun f=>
 (gIdx xs a).bind fun k=>
 some (.inl (IntKind.i64.wrap (a+1),(xs.set a.toNat f)))
 else
 (gIdx b a).bind fun g=>
 (gIdx c a).bind fun h=>
 (ZfH j g h 1).bind fun i=>
 (gIdx xs a).bind fun l=>
 some (.inl (IntKind.i64.wrap (a+1),(xs.set a.toNat i)))
 else
 some (.inr (xs))
def Zg4 (c:Zd) (a e:List Int):Option (List Int):=
 (gMake 8 (0:Int) (a.length:Int) (a.length:Int)).bind fun b=>
 loop (Zc9 c a e) (0,b)
def Zeb (c:ZQ) (e:Int) (k l:List (List Int)) (f:Int):List (List Int)×Int→Option ((List (List Int)×Int) ⊕ ((List (List Int)×Int) ⊕ ((List (List Int)×Int) ⊕ ((List (List Int)×Int) ⊕ (List (List Int))))))
 | (a,b)=>
 bif decide (b<e) then
 (gIdx k f).bind fun g=>
 (gIdx l b).bind fun h=>
 (Zg4 (Zd.mk c.Field.Prime c.Field.Degree c.Field.Poly) g h).bind fun i=>
 (gApp 24 a [i]).bind fun j=>
 some (.inl (j,IntKind.i64.wrap (b+1)))
 else
 some (.inr (.inl (a,IntKind.i64.wrap (f+1))))
def ZdJ (f:ZQ) (a:Int) (b:List (List Int)) (g:Int) (h:List (List Int)):List (List Int)×Int→Option ((List (List Int)×Int) ⊕ ((List (List Int)×Int) ⊕ ((List (List Int)×Int) ⊕ (List (List Int)))))
 | (c,e)=>
 bif decide (e<(b.length:Int)) then
 loop (Zeb f a b h e) (c,0)
 else
 some (.inr (.inr (.inl (c,IntKind.i64.wrap (g+1)))))
def ZeT (a:ZQ) (b:Int) (i:List (List Int)) (c:Int):List (List Int)×Int→Option ((List (List Int)×Int) ⊕ ((List (List Int)×Int) ⊕ (List (List Int))))
 | (e,y7)=>
 bif decide (y7<b) then
 (gIdx a.Rows c).bind fun f=>
 (ZeZ (Zd.mk a.Field.Prime a.Field.Degree a.Field.Poly) f y7).bind fun g=>
 (gApp 24 e [g]).bind fun h=>
 some (.inl (h,IntKind.i64.wrap (y7+1)))
 else
 loop (ZdJ a b i c e) (([]:List (List Int)),0)
def ZdP (a:ZQ) (b:Int):List (List Int)×Int→Option ((List (List Int)×Int) ⊕ (List (List Int)))
 | (c,e)=>
 bif decide (e<(a.Rows.length:Int)) then
 loop (ZeT a b c e) (([]:List (List Int)),0)
 else
 some (.inr (c))
def Zih (a:ZQ):Option (List (List Int)):=
 (gIdx a.Rows 0).bind fun b=>
 (gMake 8 (0:Int) (b.length:Int) (b.length:Int)).bind fun c=>
 (Zbk (Zd.mk a.Field.Prime a.Field.Degree a.Field.Poly)).bind fun e=>
 loop (ZdP a e) ([c],0)
def Zgy (a:List Int):Int×Int→Option ((Int×Int) ⊕ (Int))
 | (c,b)=>
 bif decide (b<(a.length:Int)) then
 (gIdx a b).bind fun e=>
 bif e !=0 then
 some (.inl (IntKind.i64.wrap (c+1),IntKind.i64.wrap (b+1)))
 else
 some (.inl (c,IntKind.i64.wrap (b+1)))
 else
 some (.inr (c))
def Zlb (a:List Int):Option Int:=
 loop (Zgy a) (0,0)
def Zek (b:List (List Int)):Int×List Int→Option ((Int×List Int) ⊕ (List Int))
 | (c,xs)=>
 bif decide (c<(b.length:Int)) then
 (gIdx b c).bind fun e=>
 (Zlb e).bind fun a=>
 (gIdx xs a).bind fun f=>
 (gIdx xs a).bind fun g=>
 some (.inl (IntKind.i64.wrap (c+1),(xs.set a.toNat (IntKind.i64.wrap (f+1)))))
 else
 some (.inr (xs))
def Zf3 (b:ZQ):Option (List Int):=
 (gIdx b.Rows 0).bind fun a=>
 (gMake 8 (0:Int) (IntKind.i64.wrap ((a.length:Int)+1)) (IntKind.i64.wrap ((a.length:Int)+1))).bind fun c=>
 (Zih b).bind fun e=>
 loop (Zek e) (0,c)
def Zgq (r8:List Int):Int→Option ((Int) ⊕ (Int×Int))
 | a=>
 (gIdx r8 a).bind fun b=>
 bif b==0 then
 some (.inl (IntKind.i64.wrap (a+1)))
 else
 some (.inr ((a,0)))
def Ziy (a:ZQ):Option (Int×Int):=
 (Zax (ZQ.mk (Zd.mk a.Field.Prime a.Field.Degree a.Field.Poly) a.Rows)).bind fun b=>
 bif !b then
 some ((0,1))
 else
 (Zf3 (ZQ.mk (Zd.mk a.Field.Prime a.Field.Degree a.Field.Poly) a.Rows)).bind fun r8=>
 loop (Zgq r8) (1)
def ZfV (b:List Int) (e:Int) (a:ByteArray):Option ((ByteArray×Int) ⊕ (ByteArray)):=
 (gIdx b e).bind fun f=>
 (Zab f).bind fun c=>
 (gFit a c).bind fun _=>
 some (.inl (a++c,IntKind.i64.wrap (e+1)))
def ZbH (a:List Int):ByteArray×Int→Option ((ByteArray×Int) ⊕ (ByteArray))
 | (b,c)=>
 bif decide (c<(a.length:Int)) then
 (gIdx a c).bind fun e=>
 (ZR e (-999999999) 999999999).bind fun f=>
 bif !f then
 some (.inr (⟨#[]⟩))
 else
 bif decide (c>0) then
 (gFit b (⟨#[44]⟩:ByteArray)).bind fun _=>
 ZfV a c (b++(⟨#[44]⟩:ByteArray))
 else
 ZfV a c b
 else
 some (.inr (b))
def ZjI (a:List Int):Option ByteArray:=
 bif decide (((a.length:Int):Int)>100) then
 some (⟨#[]⟩)
 else
 bif ((a.length:Int):Int)==0 then
 some (⟨#[45]⟩)
 else
 loop (ZbH a) (⟨#[]⟩,0)
def ZiY (a:ZQ):Option (List ByteArray):=
 (Ziy a).bind fun i=>
 (gIdx a.Rows 0).bind fun g=>
 (Zab (g.length:Int)).bind fun b=>
 (Zab (a.Rows.length:Int)).bind fun c=>
 (Zab i.1).bind fun e=>
 (Zf3 a).bind fun h=>
 (ZjI h).bind fun f=>
 (gFit (⟨#[108,101,110,103,116,104,32]⟩:ByteArray) b).bind fun _=>
 (gFit (⟨#[100,105,109,101,110,115,105,111,110,32]⟩:ByteArray) c).bind fun _=>
 (gFit (⟨#[100,105,115,116,97,110,99,101,32]⟩:ByteArray) e).bind fun _=>
 (gFit (⟨#[119,101,105,103,104,116,115,32]⟩:ByteArray) f).bind fun _=>
 some (([(⟨#[108,101,110,103,116,104,32]⟩:ByteArray)++b,(⟨#[100,105,109,101,110,115,105,111,110,32]⟩:ByteArray)++c,(⟨#[100,105,115,116,97,110,99,101,32]⟩:ByteArray)++e,(⟨#[119,101,105,103,104,116,115,32]⟩:ByteArray)++f]:List ByteArray))
def Zix (a:Zl):Option (List ByteArray):=
 bif a.Kind==1 then
 (Zhd a.Rows).bind fun p=>
 some (p)
 else
 bif a.Kind==2 then
 (Zg6 (ZJ.mk a.Size a.Rows)).bind fun r=>
 some (r)
 else
 bif a.Kind==3 then
 (ZjA a.Rows).bind fun s=>
 (Zab a.Size).bind fun g=>
 (gFit (⟨#[111,114,100,101,114,32]⟩:ByteArray) g).bind fun _=>
 (Zab s.1).bind fun h=>
 (gFit (⟨#[101,120,99,101,115,115,32]⟩:ByteArray) h).bind fun _=>
 some (([(⟨#[111,114,100,101,114,32]⟩:ByteArray)++g,(⟨#[101,120,99,101,115,115,32]⟩:ByteArray)++h]:List ByteArray))
 else
 bif a.Kind==4 then
 (Zcw a).bind fun b=>
 (Zab a.Size).bind fun i=>
 (Zab b.Columns).bind fun j=>
 (Zab (b.Rows.length:Int)).bind fun k=>
 (Ziw (ZE.mk b.Levels b.Columns b.Rows)).bind fun t=>
 (Zab t).bind fun l=>
 (gFit (⟨#[108,101,118,101,108,115,32]⟩:ByteArray) i).bind fun _=>
 (gFit (⟨#[99,111,108,117,109,110,115,32]⟩:ByteArray) j).bind fun _=>
 (gFit (⟨#[114,111,119,115,32]⟩:ByteArray) k).bind fun _=>
 (gFit (⟨#[115,116,114,101,110,103,116,104,32]⟩:ByteArray) l).bind fun _=>
 some (([(⟨#[108,101,118,101,108,115,32]⟩:ByteArray)++i,(⟨#[99,111,108,117,109,110,115,32]⟩:ByteArray)++j,(⟨#[114,111,119,115,32]⟩:ByteArray)++k,(⟨#[115,116,114,101,110,103,116,104,32]⟩:ByteArray)++l]:List ByteArray))
 else
 bif a.Kind==5 then
 (Zbx a).bind fun c=>
 (ZiY (ZQ.mk (Zd.mk c.Field.Prime c.Field.Degree c.Field.Poly) c.Rows)).bind fun u=>
 some (u)
 else
 bif a.Kind==6 then
 (Zab a.Size).bind fun m=>
 (Zab (a.Rows.length:Int)).bind fun o=>
 (gFit (⟨#[118,101,114,116,105,99,101,115,32]⟩:ByteArray) m).bind fun _=>
 (gFit (⟨#[101,100,103,101,115,32]⟩:ByteArray) o).bind fun _=>
 some (([(⟨#[118,101,114,116,105,99,101,115,32]⟩:ByteArray)++m,(⟨#[101,100,103,101,115,32]⟩:ByteArray)++o]:List ByteArray))
 else
 (Zab a.Size).bind fun e=>
 (Zab (a.Rows.length:Int)).bind fun f=>
 (gFit (⟨#[100,101,103,114,101,101,32]⟩:ByteArray) e).bind fun _=>
 (gFit (⟨#[101,108,101,109,101,110,116,115,32]⟩:ByteArray) f).bind fun _=>
 some (([(⟨#[100,101,103,114,101,101,32]⟩:ByteArray)++e,(⟨#[101,108,101,109,101,110,116,115,32]⟩:ByteArray)++f]:List ByteArray))
def Zhw (a:Zl):Option ((List ByteArray)×Int):=
 (ZZ (Zl.mk a.Kind a.Size a.Rows)).bind fun b=>
 bif !b then
 some ((([]:List ByteArray),1))
 else
 (Zix (Zl.mk a.Kind a.Size a.Rows)).bind fun c=>
 some ((c,0))
def ZgX (b:List Int):Int×List Int→Option ((Int×List Int) ⊕ (List Int))
 | (a,xs)=>
 bif decide (a<(b.length:Int)) then
 (gIdx b a).bind fun c=>
 (gIdx xs a).bind fun e=>
 some (.inl (IntKind.i64.wrap (a+1),(xs.set a.toNat c)))
 else
 some (.inr (xs))
def Zfw (a:List Int):Option (List Int):=
 (gMake 8 (0:Int) (a.length:Int) (a.length:Int)).bind fun b=>
 loop (ZgX a) (0,b)
def ZhT (b:List (List Int)):Int×List (List Int)→Option ((Int×List (List Int)) ⊕ (List (List Int)))
 | (a,xs)=>
 bif decide (a<(b.length:Int)) then
 (gIdx b a).bind fun c=>
 (Zfw c).bind fun e=>
 (gIdx xs a).bind fun f=>
 some (.inl (IntKind.i64.wrap (a+1),(xs.set a.toNat e)))
 else
 some (.inr (xs))
def Zgt (a:List (List Int)):Option (List (List Int)):=
 (gMake 24 ([]:List Int) (a.length:Int) (a.length:Int)).bind fun b=>
 loop (ZhT a) (0,b)
def Zc6 (a:Zag):Option Zl:=
 (Zgt a.Rows).bind fun b=>
 some ((Zl.mk a.Kind a.Size b))
def ZF (a:List (List Int)):Option Int:=
 some ((a.length:Int))
def Zbc (a:List Int):Option (List Int):=gApp 8 [] a
def Zf7 (lists0:List (List Int)):List (List Int)×Int→Option ((List (List Int)×Int) ⊕ (List (List Int)))
 | (a,b)=>
 bif decide (b<(lists0.length:Int)) then
 (gIdx lists0 b).bind fun c=>
 (Zbc c).bind fun e=>
 (gApp 24 a [e]).bind fun f=>
 some (.inl (f,IntKind.i64.wrap (b+1)))
 else
 some (.inr (a))
def Zcl (lists0:List (List Int)):Option (List (List Int)):=
 loop (Zf7 lists0) (([]:List (List Int)),0)
def ZH (a:List Int):Option Int:=
 some ((a.length:Int))
def Ze7 (a:Zl):Option ZE:=
 (Zcl a.Rows).bind fun r8=>
 bif decide (((a.Rows.length:Int):Int)>0) then
 (gIdx a.Rows 0).bind fun b=>
 (ZH b).bind fun c=>
 some ((ZE.mk a.Size c r8))
 else
 some ((ZE.mk a.Size 0 r8))
def Z2 (n0 b a:Int):Option Bool:=
 bif decide (n0≥b) then
 some (decide (n0≤a))
 else
 some (false)
def ZaG (b:List (List Int)) (c:(List Int)→Option Bool):Int→Option ((Int) ⊕ (Int))
 | a=>
 bif decide (a<(b.length:Int)) then
 (gIdx b a).bind fun e=>
 (c e).bind fun f=>
 bif f then
 some (.inr (a))
 else
 some (.inl (IntKind.i64.wrap (a+1)))
 else
 some (.inr ((-1)))
def Zdh (b:List (List Int)) (a:(List Int)→Option Bool):Option Int:=
 loop (ZaG b a) (0)
def Zgz (b:List (List Int)) (a:(List Int)→Option Bool):Option Bool:=
 (Zdh b a).bind fun c=>
 some (decide (c≥0))
def ZhH (a:List Int):Option (List Int):=if a.length<4611686018427387904 then some (sortI a) else none
def Zgh (e b:List Int):Int→Option ((Int) ⊕ (Bool))
 | a=>
 bif decide (a<(b.length:Int)) then
 (gIdx b a).bind fun c=>
 bif c !=a then
 some (.inr (false))
 else
 some (.inl (IntKind.i64.wrap (a+1)))
 else
 some (.inr (decide (((e.length:Int):Int)≤32)))
def ZfM (a:List Int):Option Bool:=
 (Zbc a).bind fun b=>
 (ZhH b).bind fun c=>
 loop (Zgh a c) (0)
def ZlI (a:List Int) (c:Int):Option Bool:=
 (ZH a).bind fun e=>
 bif e !=c then
 some (true)
 else
 (ZfM a).bind fun b=>
 some (!b)
def Ze4 (degree0:Int) (a:List (List Int)):Option Bool:=
 (Zgz a (fun b=>ZlI b degree0)).bind fun c=>
 some (!c)
def Zd6 (c:List (List Int)) (b:Int):List Int×Int→Option ((List Int×Int) ⊕ ((Int) ⊕ (Bool)))
 | (column5,a)=>
 bif decide (a<(c.length:Int)) then
 (gIdx c a).bind fun e=>
 (gIdx e b).bind fun f=>
 (gApp 8 column5 [f]).bind fun g=>
 some (.inl (g,IntKind.i64.wrap (a+1)))
 else
 (ZfM column5).bind fun h=>
 bif !h then
 some (.inr (.inr (false)))
 else
 some (.inr (.inl (IntKind.i64.wrap (b+1))))
def ZgR (b:List (List Int)):Int→Option ((Int) ⊕ (Bool))
 | a=>
 bif decide (a<(b.length:Int)) then
 loop (Zd6 b a) (([]:List Int),0)
 else
 some (.inr (true))
def Zls (a:List (List Int)):Option (Bool):=
 loop (ZgR a) (0)
def ZfF (a:List (List Int)):Option Bool:=
 (ZF a).bind fun r8=>
 (Z2 r8 1 10).bind fun b=>
 bif !b then
 some (false)
 else
 (Ze4 r8 a).bind fun c=>
 bif !c then
 some (false)
 else
 Zls a
def Zcr (a:List Int) (n1:Int):Int×Int→Option ((Int×Int) ⊕ (Bool))
 | (e,b)=>
 bif decide (b<(a.length:Int)) then
 (gIdx a b).bind fun c=>
 bif decide (c≤e) then
 some (.inr (false))
 else
 bif decide (c≥n1) then
 some (.inr (false))
 else
 some (.inl (c,IntKind.i64.wrap (b+1)))
 else
 (Z2 n1 0 32).bind fun f=>
 some (.inr (f))
def Zgk (a:List Int) (n1:Int):Option Bool:=
 loop (Zcr a n1) ((-1),0)
def ZiP (block0:List Int) (points1:Int):Option Bool:=
 bif decide (((block0.length:Int):Int)>0) then
 (Zgk block0 points1).bind fun a=>
 some (a)
 else
 some (false)
def ZhN (a:List Int) (b:Int):Option Bool:=
 (ZiP a b).bind fun c=>
 some (!c)
def ZkP (blocks0:List (List Int)) (points1:Int):Option Bool:=
 (Z2 points1 1 32).bind fun b=>
 bif b then
 (Zgz blocks0 (fun c=>ZhN c points1)).bind fun a=>
 some (!a)
 else
 some (false)
def ZeU (b:List (List Int)) (c:(List Int)→(List Int)→Option Int):Int→Option ((Int) ⊕ (Bool))
 | a=>
 bif decide (a>0) then
 (gIdx b a).bind fun e=>
 (gIdx b (IntKind.i64.wrap (a-1))).bind fun f=>
 (c e f).bind fun g=>
 bif decide (g<0) then
 some (.inr (false))
 else
 some (.inl (IntKind.i64.wrap (a-1)))
 else
 some (.inr (true))
def ZhK (a:List (List Int)) (b:(List Int)→(List Int)→Option Int):Option Bool:=
 loop (ZeU a b) (IntKind.i64.wrap ((a.length:Int)-1))
def Zb5 (a:Int):Option Bool:=
 some (a !=a)
def Zbs (b c:Int):Option Int:=
 (Zb5 b).bind fun r8=>
 (Zb5 c).bind fun a=>
 bif r8 then
 bif a then
 some (0)
 else
 some ((-1))
 else
 bif a then
 some (1)
 else
 bif decide (b<c) then
 some ((-1))
 else
 bif decide (b>c) then
 some (1)
 else
 some (0)
def Zbn (c s1:List Int):Int→Option ((Int) ⊕ (Int))
 | a=>
 bif decide (a<(c.length:Int)) then
 (gIdx c a).bind fun e=>
 bif decide (a≥(s1.length:Int)) then
 some (.inr (1))
 else
 (gIdx s1 a).bind fun f=>
 (Zbs e f).bind fun b=>
 bif b !=0 then
 some (.inr (b))
 else
 some (.inl (IntKind.i64.wrap (a+1)))
 else
 bif decide (((c.length:Int):Int)<(s1.length:Int)) then
 some (.inr ((-1)))
 else
 some (.inr (0))
def ZaD (a s1:List Int):Option Int:=
 loop (Zbn a s1) (0)
def ZiR (a:ZJ):Option Bool:=
 (ZkP a.Blocks a.Points).bind fun c=>
 bif c then
 bif decide (((a.Blocks.length:Int):Int)≤128) then
 (ZhK a.Blocks (fun e f=>ZaD e f)).bind fun b=>
 some (b)
 else
 some (false)
 else
 some (false)
def Zec (a:Zl):Option ZJ:=
 (Zcl a.Rows).bind fun b=>
 some ((ZJ.mk a.Size b))
def Zet (b:List Int) (c:Int→Option Bool):Int→Option ((Int) ⊕ (Int))
 | a=>
 bif decide (a<(b.length:Int)) then
 (gIdx b a).bind fun e=>
 (c e).bind fun f=>
 bif f then
 some (.inr (a))
 else
 some (.inl (IntKind.i64.wrap (a+1)))
 else
 some (.inr ((-1)))
def Zie (b:List Int) (a:Int→Option Bool):Option Int:=
 loop (Zet b a) (0)
def ZaU (b:List Int) (a:Int→Option Bool):Option Bool:=
 (Zie b a).bind fun c=>
 some (decide (c≥0))
def Zjs (a:Int):Option Bool:=
 bif a !=1 then
 some (a !=(-1))
 else
 some (false)
def ZdA (c:List Int) (e:Int) (f:List Int):Int×Int→Option ((Int×Int) ⊕ ((Int) ⊕ ((Int) ⊕ (Bool))))
 | (b,a)=>
 bif decide (a<(c.length:Int)) then
 (gIdx c a).bind fun g=>
 (gIdx f a).bind fun h=>
 some (.inl (IntKind.i64.wrap (b+(IntKind.i64.wrap (g*h))),IntKind.i64.wrap (a+1)))
 else
 bif b !=0 then
 some (.inr (.inr (.inr (false))))
 else
 some (.inr (.inl (IntKind.i64.wrap (e+1))))
def ZgA (c:Int) (e:List Int) (b:List (List Int)):Int→Option ((Int) ⊕ ((Int) ⊕ (Bool)))
 | a=>
 bif decide (a<(b.length:Int)) then
 (gIdx b a).bind fun f=>
 loop (ZdA e a f) (0,0)
 else
 some (.inr (.inl (IntKind.i64.wrap (c+1))))
def ZhO (e:List (List Int)) (a:Int) (b:List Int):Option ((Int) ⊕ (Bool)):=
 (gSl e 0 a).bind fun c=>
 loop (ZgA a b c) (0)
def Zdu (e:List (List Int)) (c:Int):Int→Option ((Int) ⊕ (Bool))
 | a=>
 bif decide (a<(e.length:Int)) then
 (gIdx e a).bind fun b=>
 (ZH b).bind fun f=>
 bif f !=c then
 some (.inr (false))
 else
 (ZaU b (fun i=>Zjs i)).bind fun g=>
 bif g then
 some (.inr (false))
 else
 ZhO e a b
 else
 (Z2 c 1 32).bind fun h=>
 some (.inr (h))
def Zfx (a:List (List Int)):Option Bool:=
 (ZF a).bind fun b=>
 loop (Zdu a b) (0)
def Zkw (levels0 column1:Int):Option Bool:=
 (Z2 levels0 2 16).bind fun a=>
 bif a then
 (Z2 column1 1 8).bind fun b=>
 some (b)
 else
 some (false)
def ZhJ (a:Int) (b:ZE):Option Bool:=
 (Z2 a 0 (IntKind.i64.wrap (b.Levels-1))).bind fun r8=>
 some (!r8)
def Zge (a:ZE):Int→Option ((Int) ⊕ (Bool))
 | b=>
 bif decide (b<(a.Rows.length:Int)) then
 (gIdx a.Rows b).bind fun c=>
 (ZH c).bind fun e=>
 bif e !=a.Columns then
 some (.inr (false))
 else
 (ZaU c (fun g=>ZhJ g (ZE.mk a.Levels a.Columns a.Rows))).bind fun f=>
 bif f then
 some (.inr (false))
 else
 some (.inl (IntKind.i64.wrap (b+1)))
 else
 some (.inr (true))
def Zlw (a:ZE):Option (Bool):=
 loop (Zge a) (0)
def Zgp (a:ZE):Option Bool:=
 (Zkw a.Levels a.Columns).bind fun b=>
 bif !b then
 some (false)
 else
 bif decide (((a.Rows.length:Int):Int)>256) then
 some (false)
 else
 Zlw a
def ZeV (a b power7:Int):Option ((Int×Int) ⊕ (Int)):=
 some (.inl (IntKind.i64.wrap (b-1),IntKind.i64.wrap (power7*a)))
def ZaV (b limit2:Int):Int×Int→Option ((Int×Int) ⊕ (Int))
 | (a,power7)=>
 bif decide (a>0) then
 bif decide (power7≤limit2) then
 ZeV b a power7
 else
 some (.inr (power7))
 else
 some (.inr (power7))
def Zau (a b limit2:Int):Option Int:=
 loop (ZaV a limit2) (b,1)
def Zby (a:Zd):Option Int:=
 (Zau a.Prime a.Degree 64).bind fun b=>
 some (b)
def Zca (a:Int) (e:List Int):Int×Int×List Int→Option ((Int×Int×List Int) ⊕ (List Int))
 | (c,b,xs)=>
 bif decide (b<(e.length:Int)) then
 (gNz a).bind fun _=>
 (gIdx xs b).bind fun f=>
 (gNz a).bind fun _=>
 some (.inl (IntKind.i64.wrap (Int.tdiv c a),IntKind.i64.wrap (b+1),(xs.set b.toNat (Int.tmod c a))))
 else
 some (.inr (xs))
def ZaR (n0 a count2:Int):Option (List Int):=
 (gMake 8 (0:Int) count2 count2).bind fun b=>
 loop (Zca a b) (n0,0,b)
def Zd1 (c:List Int) (e f g:Int):Int×List Int→Option ((Int×List Int) ⊕ ((Int×List Int) ⊕ (List Int)))
 | (a,b)=>
 bif decide (a<(c.length:Int)) then
 (gIdx c a).bind fun h=>
 (gIdx b (IntKind.i64.wrap ((IntKind.i64.wrap (f-(IntKind.i64.wrap ((c.length:Int)-1))))+a))).bind fun i=>
 (gNz e).bind fun _=>
 (gNz e).bind fun _=>
 (gIdx b (IntKind.i64.wrap ((IntKind.i64.wrap (f-(IntKind.i64.wrap ((c.length:Int)-1))))+a))).bind fun j=>
 some (.inl (IntKind.i64.wrap (a+1),(b.set (IntKind.i64.wrap ((IntKind.i64.wrap (f-(IntKind.i64.wrap ((c.length:Int)-1))))+a):Int).toNat (Int.tmod (IntKind.i64.wrap ((Int.tmod (IntKind.i64.wrap (i-(IntKind.i64.wrap (g*h)))) e)+e)) e))))
 else
 some (.inr (.inl (IntKind.i64.wrap (f-1),b)))
def Zbj (a:List Int) (f:Int):Int×List Int→Option ((Int×List Int) ⊕ (List Int))
 | (b,xs)=>
 bif decide (b≥(IntKind.i64.wrap ((a.length:Int)-1))) then
 (gIdx xs b).bind fun c=>
 loop (Zd1 a f b c) (0,xs)
 else
 (gSl xs 0 (if ((xs.length:Int):Int)<(IntKind.i64.wrap ((a.length:Int)-1)) then (xs.length:Int) else IntKind.i64.wrap ((a.length:Int)-1))).bind fun e=>
 some (.inr (e))
def ZcU (b c:List Int) (e:Int):Option (List Int):=
 (Zbc b).bind fun a=>
 loop (Zbj c e) (IntKind.i64.wrap ((a.length:Int)-1),a)
def Zhb (a:Int):Option Bool:=
 some (a !=0)
def ZiI (a:List Int):Option Bool:=
 (ZaU a (fun b=>Zhb b)).bind fun c=>
 some (!c)
def ZkS (a:List Int) (p1 b:Int):Int→Option ((Int) ⊕ ((Int) ⊕ (Bool)))
 | c=>
 (Zau p1 b 64).bind fun e=>
 bif decide (c<e) then
 (ZaR c p1 b).bind fun f=>
 (gApp 8 f [1]).bind fun g=>
 (ZcU a g p1).bind fun h=>
 (ZiI h).bind fun i=>
 bif i then
 some (.inr (.inr (false)))
 else
 some (.inl (IntKind.i64.wrap (c+1)))
 else
 some (.inr (.inl (IntKind.i64.wrap (b+1))))
def Zl0 (a:List Int) (p1 c:Int):Int→Option ((Int) ⊕ (Bool))
 | b=>
 bif decide ((IntKind.i64.wrap (2*b):Int)≤(IntKind.i64.wrap (c-1))) then
 loop (ZkS a p1 b) (0)
 else
 some (.inr (true))
def ZeX (a:List Int) (p1:Int):Option Bool:=
 (ZH a).bind fun b=>
 loop (Zl0 a p1 b) (1)
def Zdt (b:Int):Int×List Int→Option ((Int×List Int) ⊕ ((Int×List Int×Int) ⊕ (List Int)))
 | (a,factor3_2)=>
 (gNz b).bind fun _=>
 bif (Int.tmod a b:Int)==0 then
 (gApp 8 factor3_2 [b]).bind fun c=>
 (gNz b).bind fun _=>
 some (.inl (IntKind.i64.wrap (Int.tdiv a b),c))
 else
 some (.inr (.inl (a,factor3_2,IntKind.i64.wrap (b+1))))
def Zbq:Int×List Int×Int→Option ((Int×List Int×Int) ⊕ (List Int))
 | (a,factor3,b)=>
 bif decide ((IntKind.i64.wrap (b*b):Int)≤a) then
 loop (Zdt b) (a,factor3)
 else
 bif decide (a>1) then
 (gApp 8 factor3 [a]).bind fun c=>
 some (.inr (c))
 else
 some (.inr (factor3))
def Zb4 (n0:Int):Option (List Int):=
 (Z2 n0 1 1000000).bind fun a=>
 bif !a then
 some (([]:List Int))
 else
 loop (Zbq) (n0,([]:List Int),2)
def ZiX (n0:Int):Option Bool:=
 (Zb4 n0).bind fun a=>
 some (((a.length:Int):Int)==1)
def Zli (a:Zd):Int→Option ((Int) ⊕ (Bool))
 | b=>
 bif decide (b<(a.Poly.length:Int)) then
 (gIdx a.Poly b).bind fun c=>
 (Z2 c 0 (IntKind.i64.wrap (a.Prime-1))).bind fun e=>
 bif !e then
 some (.inr (false))
 else
 some (.inl (IntKind.i64.wrap (b+1)))
 else
 (ZeX a.Poly a.Prime).bind fun f=>
 some (.inr (f))
def ZjQ (a:Zd):Option (Bool):=
 loop (Zli a) (0)
def Zjr (a:Zd):Option (Bool):=
 (ZH a.Poly).bind fun b=>
 bif b !=(IntKind.i64.wrap (a.Degree+1)) then
 some (false)
 else
 (gIdx a.Poly a.Degree).bind fun c=>
 bif c !=1 then
 some (false)
 else
 ZjQ a
def Zfl (a:Zd):Option Bool:=
 (ZiX a.Prime).bind fun c=>
 bif !c then
 some (false)
 else
 bif decide (a.Degree<1) then
 some (false)
 else
 (Zau a.Prime a.Degree 64).bind fun b=>
 bif decide (b>64) then
 some (false)
 else
 Zjr a
def ZeP (a b:Int):Option Bool:=
 (Z2 a 0 (IntKind.i64.wrap (b-1))).bind fun c=>
 some (!c)
def ZkQ (b:Int) (a:List Int):Option Bool:=
 (ZaU a (fun c=>ZeP c b)).bind fun e=>
 some (!e)
def Zf9 (a:List Int) (c:List (List Int)) (e:Int):Option Bool:=
 (gIdx c 0).bind fun f=>
 bif ((a.length:Int):Int) !=(f.length:Int) then
 some (true)
 else
 (ZkQ e a).bind fun b=>
 some (!b)
def Zl6 (a:Zd) (b:List (List Int)):Option (Bool):=
 (Zby (Zd.mk a.Prime a.Degree a.Poly)).bind fun c=>
 (Zgz b (fun f=>Zf9 f b c)).bind fun e=>
 some (!e)
def Zhk (a:Zd) (b:List (List Int)):Option Bool:=
 (Zfl (Zd.mk a.Prime a.Degree a.Poly)).bind fun i=>
 bif !i then
 some (false)
 else
 (ZF b).bind fun c=>
 (Z2 c 1 32).bind fun e=>
 bif !e then
 some (false)
 else
 (gIdx b 0).bind fun f=>
 (ZH f).bind fun g=>
 (Z2 g 1 32).bind fun h=>
 bif !h then
 some (false)
 else
 Zl6 a b
def ZuD (digits0:List Int) (a:Int):Int×Int→Option ((Int×Int) ⊕ (Int))
 | (b,k6)=>
 bif decide (k6≥0) then
 (gIdx digits0 k6).bind fun c=>
 some (.inl (IntKind.i64.wrap ((IntKind.i64.wrap (b*a))+c),IntKind.i64.wrap (k6-1)))
 else
 some (.inr (b))
def Zh8 (digits0:List Int) (a:Int):Option Int:=
 loop (ZuD digits0 a) (0,IntKind.i64.wrap ((digits0.length:Int)-1))
def Zgx (b:Zd) (c:Int) (e f:List Int):Int×List Int→Option ((Int×List Int) ⊕ (Int))
 | (a,xs)=>
 bif decide (a<(e.length:Int)) then
 (gIdx xs a).bind fun g=>
 (gIdx f a).bind fun h=>
 (gNz b.Prime).bind fun _=>
 (gIdx xs a).bind fun j=>
 some (.inl (IntKind.i64.wrap (a+1),(xs.set a.toNat (Int.tmod (IntKind.i64.wrap ((IntKind.i64.wrap (g+(IntKind.i64.wrap (c*h))))+b.Prime)) b.Prime))))
 else
 (Zh8 xs b.Prime).bind fun i=>
 some (.inr (i))
def Zfa (a:Zd) (f g b:Int):Option Int:=
 (ZaR f a.Prime a.Degree).bind fun c=>
 (ZaR g a.Prime a.Degree).bind fun e=>
 loop (Zgx a b c e) (0,c)
def ZiT (f:Zd) (g e:List Int) (c:Int):Int×List Int→Option ((Int×List Int) ⊕ ((Int×List Int) ⊕ (Int)))
 | (a,b)=>
 bif decide (a<(e.length:Int)) then
 (gIdx b (IntKind.i64.wrap (c+a))).bind fun h=>
 (gIdx g c).bind fun i=>
 (gIdx e a).bind fun j=>
 (gNz f.Prime).bind fun _=>
 (gIdx b (IntKind.i64.wrap (c+a))).bind fun k=>
 some (.inl (IntKind.i64.wrap (a+1),(b.set (IntKind.i64.wrap (c+a):Int).toNat (Int.tmod (IntKind.i64.wrap (h+(IntKind.i64.wrap (i*j)))) f.Prime))))
 else
 some (.inr (.inl (IntKind.i64.wrap (c+1),b)))
def Zde (a:Zd) (b e:List Int):Int×List Int→Option ((Int×List Int) ⊕ (Int))
 | (c,xs)=>
 bif decide (c<(b.length:Int)) then
 loop (ZiT a b e c) (0,xs)
 else
 (ZcU xs a.Poly a.Prime).bind fun f=>
 (Zh8 f a.Prime).bind fun g=>
 some (.inr (g))
def ZjD (a:Zd) (f g:Int):Option Int:=
 (ZaR f a.Prime a.Degree).bind fun b=>
 (ZaR g a.Prime a.Degree).bind fun c=>
 (gMake 8 (0:Int) (IntKind.i64.wrap (2*a.Degree)) (IntKind.i64.wrap (2*a.Degree))).bind fun e=>
 loop (Zde a b c) (0,e)
def ZcJ (c:Zd) (o h:Int) (xs l m:List (List Int)):Int×List Int×List Int×List Int×List Int→Option ((Int×List Int×List Int×List Int×List Int) ⊕ ((Int×List (List Int)×List (List Int)×List (List Int)×List Int) ⊕ (Zac)))
 | (a,e,f,g,b)=>
 bif decide (a<o) then
 (Zfa (Zd.mk c.Prime c.Degree c.Poly) h a 1).bind fun j=>
 (Zfa (Zd.mk c.Prime c.Degree c.Poly) h a (-1)).bind fun k=>
 (ZjD (Zd.mk c.Prime c.Degree c.Poly) h a).bind fun i=>
 (gIdx f a).bind fun u=>
 (gIdx g a).bind fun v=>
 (gIdx b a).bind fun w=>
 (gIdx (b.set a.toNat i) a).bind fun p=>
 bif p==1 then
 (gIdx e h).bind fun x=>
 some (.inl (IntKind.i64.wrap (a+1),(e.set h.toNat a),(f.set a.toNat j),(g.set a.toNat k),(b.set a.toNat i)))
 else
 some (.inl (IntKind.i64.wrap (a+1),e,(f.set a.toNat j),(g.set a.toNat k),(b.set a.toNat i)))
 else
 (gApp 24 xs [f]).bind fun r=>
 (gApp 24 l [g]).bind fun s=>
 (gApp 24 m [b]).bind fun t=>
 some (.inr (.inl (IntKind.i64.wrap (h+1),r,s,t,e)))
def Ze8 (j:Zd) (a:Int):Int×List (List Int)×List (List Int)×List (List Int)×List Int→Option ((Int×List (List Int)×List (List Int)×List (List Int)×List Int) ⊕ (Zac))
 | (f,xs,b,c,e)=>
 bif decide (f<a) then
 (gMake 8 (0:Int) a a).bind fun g=>
 (gMake 8 (0:Int) a a).bind fun h=>
 (gMake 8 (0:Int) a a).bind fun i=>
 loop (ZcJ j a f xs b c) (0,e,g,h,i)
 else
 some (.inr ((Zac.mk a xs b c e)))
def Zf5 (b:Zd):Option Zac:=
 (Zby (Zd.mk b.Prime b.Degree b.Poly)).bind fun a=>
 (gMake 8 (0:Int) a a).bind fun c=>
 loop (Ze8 b a) (0,([]:List (List Int)),([]:List (List Int)),([]:List (List Int)),c)
def Zdv (a:List Int) (b:Int):Option Bool:=
 (gIdx a b).bind fun c=>
 some (c !=0)
def Zbw (c:Zac) (b:List Int) (factor3:Int):Int×List Int→Option ((Int×List Int) ⊕ (List Int))
 | (a,xs)=>
 bif decide (a<(b.length:Int)) then
 (gIdx b a).bind fun e=>
 (gIdx xs a).bind fun f=>
 (gIdx c.qadd f).bind fun g=>
 (gIdx c.qmul factor3).bind fun h=>
 (gIdx h e).bind fun i=>
 (gIdx g i).bind fun j=>
 (gIdx xs a).bind fun k=>
 some (.inl (IntKind.i64.wrap (a+1),(xs.set a.toNat j)))
 else
 some (.inr (xs))
def ZbC (c:Zac) (b a:List Int) (factor3:Int):Option (List Int):=
 loop (Zbw c a factor3) (0,b)
def Zdw (b:List Int) (c:Int) (xs:List (List Int)):Option ((List (List Int))×(List Int)×Int):=
 (gSl xs 0 (b.length:Int)).bind fun a=>
 some ((a,b,c))
def ZfE (e:Int) (a:List Int) (b:Int) (c:List (List Int)):Option ((List Int×Int×Int×List (List Int)) ⊕ ((List (List Int))×(List Int)×Int)):=
 some (.inl (a,b,IntKind.i64.wrap (e+1),c))
def ZdD (c:Zac) (e:List Int) (m a:Int) (b:List (List Int)) (f:List Int) (g:Bool):Option ((Int×List (List Int)) ⊕ ((Int×List (List Int)) ⊕ ((List Int×Int×Int×List (List Int)) ⊕ ((List (List Int))×(List Int)×Int)))):=
 bif g then
 (gIdx b (e.length:Int)).bind fun h=>
 (gIdx c.qsub 0).bind fun i=>
 (gIdx f m).bind fun j=>
 (gIdx i j).bind fun k=>
 (gNe a (e.length:Int)).bind fun o=>
 (ZbC (Zac.mk c.qq c.qadd c.qsub c.qmul c.qinv) f h k).bind fun l=>
 some (.inl (IntKind.i64.wrap (a+1),(b.set a.toNat l)))
 else
 some (.inl (IntKind.i64.wrap (a+1),b))
def ZbD (k:Zac) (c:List Int) (e h:Int) (i:List (List Int)):Int×List (List Int)→Option ((Int×List (List Int)) ⊕ ((Int×List (List Int)) ⊕ ((List Int×Int×Int×List (List Int)) ⊕ ((List (List Int))×(List Int)×Int))))
 | (b,a)=>
 bif decide (b<(i.length:Int)) then
 (gIdx a b).bind fun f=>
 bif b !=(c.length:Int) then
 (gIdx f e).bind fun j=>
 ZdD k c e b a f (j !=0)
 else
 ZdD k c e b a f false
 else
 (gApp 8 c [e]).bind fun g=>
 bif ((g.length:Int):Int)==(a.length:Int) then
 (Zdw g h a).map fun x=>.inr (.inr (.inr (x)))
 else
 (ZfE e g h a).map fun x=>.inr (.inr (x))
def Zgv (g:Zac) (b:List Int) (k l m:Int) (o:List Int):Int×List (List Int)→Option ((Int×List (List Int)) ⊕ ((List Int×Int×Int×List (List Int)) ⊕ ((List (List Int))×(List Int)×Int)))
 | (c,a)=>
 bif decide (c<(o.length:Int)) then
 (gIdx a (b.length:Int)).bind fun e=>
 (gIdx e c).bind fun p=>
 (gIdx a (b.length:Int)).bind fun f=>
 (gIdx g.qinv l).bind fun h=>
 (gIdx g.qmul h).bind fun i=>
 (gIdx i p).bind fun j=>
 (gIdx f c).bind fun r=>
 some (.inl (IntKind.i64.wrap (c+1),(a.set ((b.length:Int):Int).toNat (f.set c.toNat j))))
 else
 loop (ZbD g b k m a) (0,a)
def Zga (g:Zac) (a:List Int) (c f:Int) (b:List (List Int)):Option ((List Int×Int×Int×List (List Int)) ⊕ ((List (List Int))×(List Int)×Int)):=
 (gIdx b (a.length:Int)).bind fun h=>
 (gIdx h c).bind fun e=>
 (gIdx g.qmul f).bind fun i=>
 (gIdx i e).bind fun j=>
 (gIdx b (a.length:Int)).bind fun k=>
 loop (Zgv g a c e j k) (0,b)
def ZeW (f:Zac) (a:List Int) (g e:Int) (b:List (List Int)):Option ((List Int×Int×Int×List (List Int)) ⊕ ((List (List Int))×(List Int)×Int)):=
 (gSl b (a.length:Int) (b.length:Int)).bind fun i=>
 (Zdh i (fun f=>Zdv f e)).bind fun c=>
 bif decide (c<0) then
 ZfE e a 0 b
 else
 bif decide (c>0) then
 (gIdx b (IntKind.i64.wrap ((a.length:Int)+c))).bind fun h=>
 (gIdx b (a.length:Int)).bind fun j=>
 (gIdx b (a.length:Int)).bind fun m=>
 (gIdx (b.set ((a.length:Int):Int).toNat h) (IntKind.i64.wrap ((a.length:Int)+c))).bind fun o=>
 (gIdx f.qsub 0).bind fun k=>
 (gIdx k g).bind fun l=>
 Zga f a e l ((b.set ((a.length:Int):Int).toNat h).set (IntKind.i64.wrap ((a.length:Int)+c):Int).toNat j)
 else
 Zga f a e g b
def ZbS (g:Zac):List Int×Int×Int×List (List Int)→Option ((List Int×Int×Int×List (List Int)) ⊕ ((List (List Int))×(List Int)×Int))
 | (b,c,e,a)=>
 bif decide (((a.length:Int):Int)>0) then
 (gIdx a 0).bind fun f=>
 bif decide (e<(f.length:Int)) then
 ZeW g b c e a
 else
 (Zdw b c a).map fun x=>.inr (x)
 else
 (Zdw b c a).map fun x=>.inr (x)
def ZgO (b:Zac) (c:List (List Int)):Option ((List (List Int))×(List Int)×Int):=
 (Zcl c).bind fun a=>
 loop (ZbS b) (([]:List Int),1,0,a)
def ZhM (b s1:List (List Int)) (c:(List Int)→(List Int)→Option Bool):Int→Option ((Int) ⊕ (Bool))
 | a=>
 bif decide (a<(b.length:Int)) then
 (gIdx b a).bind fun e=>
 (gIdx s1 a).bind fun f=>
 (c e f).bind fun g=>
 bif !g then
 some (.inr (false))
 else
 some (.inl (IntKind.i64.wrap (a+1)))
 else
 some (.inr (true))
def Zk8 (a s1:List (List Int)) (b:(List Int)→(List Int)→Option Bool):Option Bool:=
 bif ((a.length:Int):Int) !=(s1.length:Int) then
 some (false)
 else
 loop (ZhM a s1 b) (0)
def Zh7 (b s1:List Int):Int→Option ((Int) ⊕ (Bool))
 | a=>
 bif decide (a<(b.length:Int)) then
 (gIdx b a).bind fun c=>
 (gIdx s1 a).bind fun e=>
 bif c !=e then
 some (.inr (false))
 else
 some (.inl (IntKind.i64.wrap (a+1)))
 else
 some (.inr (true))
def Zgr (a s1:List Int):Option Bool:=
 bif ((a.length:Int):Int) !=(s1.length:Int) then
 some (false)
 else
 loop (Zh7 a s1) (0)
def ZiO (a b:List (List Int)):Option Bool:=
 (Zk8 a b (fun c e=>Zgr c e)).bind fun f=>
 some (f)
def Zkq (a:ZQ):Option (Bool):=
 (Zf5 (Zd.mk a.Field.Prime a.Field.Degree a.Field.Poly)).bind fun b=>
 (ZgO b a.Rows).bind fun c=>
 (ZiO c.1 a.Rows).bind fun e=>
 some (e)
def Zdr (a:ZQ):Option Bool:=
 (Zhk (Zd.mk a.Field.Prime a.Field.Degree a.Field.Poly) a.Rows).bind fun b=>
 bif !b then
 some (false)
 else
 bif decide (((a.Rows.length:Int):Int)>8) then
 some (false)
 else
 (Zby (Zd.mk a.Field.Prime a.Field.Degree a.Field.Poly)).bind fun c=>
 (ZF a.Rows).bind fun e=>
 (Zau c e 4096).bind fun f=>
 bif decide (f>4096) then
 some (false)
 else
 Zkq a
def ZbM (r8:List Int):Int→Option ((Int) ⊕ (Int×Int))
 | a=>
 bif decide (a<(r8.length:Int)) then
 (gIdx r8 a).bind fun b=>
 (gIdx r8 0).bind fun c=>
 bif b !=c then
 some (.inr ((0,0)))
 else
 some (.inl (IntKind.i64.wrap (a+1)))
 else
 bif ((r8.length:Int):Int)==0 then
 some (.inr ((0,0)))
 else
 (ZH r8).bind fun e=>
 (gIdx r8 0).bind fun f=>
 some (.inr ((f,e)))
def Zb1 (n0:Int):Option (Int×Int):=
 (Zb4 n0).bind fun r8=>
 loop (ZbM r8) (0)
def Zk0 (a:Int×Int):Int→Option ((Int) ⊕ (Zd×Int))
 | b=>
 (ZaR b a.1 a.2).bind fun c=>
 (gApp 8 c [1]).bind fun e=>
 (ZeX e a.1).bind fun f=>
 bif !f then
 some (.inl (IntKind.i64.wrap (b+1)))
 else
 (ZaR b a.1 a.2).bind fun g=>
 (gApp 8 g [1]).bind fun h=>
 some (.inr (((Zd.mk a.1 a.2 h),0)))
def ZiC (a:Int×Int):Option (Zd×Int):=
 loop (Zk0 a) (0)
def ZbU (a:Int):Option (Zd×Int):=
 (Zb1 a).bind fun b=>
 bif b.1==0 then
 some (((Zd.mk 0 0 ([]:List Int)),2))
 else
 bif decide (a>64) then
 some (((Zd.mk 0 0 ([]:List Int)),2))
 else
 ZiC b
def Zce (a:Zl):Option ZQ:=
 (ZbU a.Size).bind fun r8=>
 (Zcl a.Rows).bind fun b=>
 some ((ZQ.mk (Zd.mk r8.1.Prime r8.1.Degree r8.1.Poly) b))
def Zev (a:List Int):Int→Option ((Int) ⊕ (Int))
 | c=>
 bif decide (c<(a.length:Int)) then
 (gIdx a c).bind fun b=>
 bif b !=0 then
 some (.inr (b))
 else
 some (.inl (IntKind.i64.wrap (c+1)))
 else
 some (.inr (0))
def ZgW (a:List Int):Option Int:=
 loop (Zev a) (0)
def Zjw (a b:ZT):Option Int:=
 (Zbs a.A b.A).bind fun f=>
 (Zbs a.B b.B).bind fun c=>
 (ZgW ([f,c]:List Int)).bind fun e=>
 some (e)
def Zl5 (n0:Int):Option Bool:=
 (Z2 n0 0 63).bind fun a=>
 some (a)
def Zk1 (n0:Int):Option Bool:=
 (Zl5 n0).bind fun a=>
 some (!a)
def ZgS (colors0:List Int):Option Bool:=
 bif decide (((colors0.length:Int):Int)≤64) then
 (ZaU colors0 (fun a=>Zk1 a)).bind fun r8=>
 some (!r8)
 else
 some (false)
def Zbt (b:Zae):Int→Option ((Int) ⊕ (Bool))
 | c=>
 bif decide (c<(b.Edges.length:Int)) then
 (gIdx b.Edges c).bind fun a=>
 bif decide (a.A<0) then
 some (.inr (false))
 else
 bif decide (a.A≥a.B) then
 some (.inr (false))
 else
 (ZH b.Colors).bind fun e=>
 bif decide (a.B≥e) then
 some (.inr (false))
 else
 bif decide (c>0) then
 (gIdx b.Edges (IntKind.i64.wrap (c-1))).bind fun f=>
 (Zjw f (ZT.mk a.A a.B)).bind fun g=>
 bif decide (g≥0) then
 some (.inr (false))
 else
 some (.inl (IntKind.i64.wrap (c+1)))
 else
 some (.inl (IntKind.i64.wrap (c+1)))
 else
 (ZgS b.Colors).bind fun h=>
 bif h then
 some (.inr (decide (((b.Edges.length:Int):Int)≤512)))
 else
 some (.inr (false))
def Zhs (a:Zae):Option Bool:=
 loop (Zbt a) (0)
def ZcA (e:Zl) (c:List Int):Int×List ZT→Option ((Int×List ZT) ⊕ (Zae×Bool))
 | (a,xs)=>
 bif decide (a<(e.Rows.length:Int)) then
 (gIdx e.Rows a).bind fun b=>
 bif ((b.length:Int):Int) !=2 then
 some (.inr (((Zae.mk ([]:List Int) ([]:List ZT)),false)))
 else
 (gIdx b 0).bind fun f=>
 (gIdx b 1).bind fun g=>
 (gApp 16 xs [(ZT.mk f g)]).bind fun h=>
 some (.inl (IntKind.i64.wrap (a+1),h))
 else
 (Zhs (Zae.mk c xs)).bind fun i=>
 some (.inr (((Zae.mk c xs),i)))
def Zjm (a:Zl):Option (Zae×Bool):=
 (Z2 a.Size 0 64).bind fun c=>
 bif !c then
 some (((Zae.mk ([]:List Int) ([]:List ZT)),false))
 else
 (gMake 8 (0:Int) a.Size a.Size).bind fun b=>
 loop (ZcA a b) (0,([]:List ZT))
def ZbR (b:List Int):Int×List Int→Option ((Int×List Int) ⊕ (List Int))
 | (a,xs)=>
 bif decide (a<(b.length:Int)) then
 (gIdx xs a).bind fun c=>
 some (.inl (IntKind.i64.wrap (a+1),(xs.set a.toNat a)))
 else
 some (.inr (xs))
def Zcg (n0:Int):Option (List Int):=
 (gMake 8 (0:Int) n0 n0).bind fun a=>
 loop (ZbR a) (0,a)
def ZfZ (b:List Int):Int×List Int→Option ((Int×List Int) ⊕ (ByteArray))
 | (a,xs)=>
 bif decide (a<(b.length:Int)) then
 (gIdx b a).bind fun c=>
 (gIdx xs a).bind fun f=>
 some (.inl (IntKind.i64.wrap (a+1),(xs.set a.toNat (IntKind.u8.wrap c))))
 else
 (gByt xs).bind fun e=>
 some (.inr (e))
def Ze9 (a:List Int):Option ByteArray:=
 (gMake 1 (0:Int) (a.length:Int) (a.length:Int)).bind fun b=>
 loop (ZfZ a) (0,b)
def Ze2 (e f g:List Int):Int×List Int→Option ((Int×List Int) ⊕ (List Int))
 | (a,xs)=>
 bif decide (a<(g.length:Int)) then
 (gIdx e a).bind fun b=>
 (gIdx f b).bind fun c=>
 (gIdx xs a).bind fun h=>
 some (.inl (IntKind.i64.wrap (a+1),(xs.set a.toNat c)))
 else
 some (.inr (xs))
def ZhU (a c:List Int):Option (List Int):=
 (gMake 8 (0:Int) (a.length:Int) (a.length:Int)).bind fun b=>
 loop (Ze2 a c b) (0,b)
open Classical in
def Zif (b:List (List Int)) (e:(List Int)→(List Int)→Option Int):Option (List (List Int)):=if (∀ a∈b,∀ c∈b,e a c=some (lexC a c))∧b.length<4611686018427387904 then some (sortRows b) else none
def ZbL (genera1:List (List Int)) (f:Int):List (List Int)×Int×List (ByteArray×Bool)→Option ((List (List Int)×Int×List (ByteArray×Bool)) ⊕ ((List (List Int)×Int×List (ByteArray×Bool)) ⊕ ((List (List Int))×Bool)))
 | (elemen6_2,b,a)=>
 bif decide (b<(genera1.length:Int)) then
 (gIdx genera1 b).bind fun g=>
 (gIdx elemen6_2 f).bind fun h=>
 (ZhU h g).bind fun c=>
 (Ze9 c).bind fun e=>
 bif !(mpGet a e false) then
 (gApp 24 elemen6_2 [c]).bind fun i=>
 some (.inl (i,IntKind.i64.wrap (b+1),(mpSet a e true)))
 else
 some (.inl (elemen6_2,IntKind.i64.wrap (b+1),a))
 else
 bif decide (((elemen6_2.length:Int):Int)>720) then
 some (.inr (.inr ((([]:List (List Int)),false))))
 else
 some (.inr (.inl (elemen6_2,IntKind.i64.wrap (f+1),a)))
def Zb8 (genera1:List (List Int)):List (List Int)×Int×List (ByteArray×Bool)→Option ((List (List Int)×Int×List (ByteArray×Bool)) ⊕ ((List (List Int))×Bool))
 | (elemen6,a,mp)=>
 bif decide (a<(elemen6.length:Int)) then
 loop (ZbL genera1 a) (elemen6,0,mp)
 else
 (Zif elemen6 (fun c e=>ZaD c e)).bind fun b=>
 some (.inr ((b,true)))
def ZdC (degree0:Int) (genera1:List (List Int)):Option ((List (List Int))×Bool):=
 (Zcg degree0).bind fun a=>
 (gIdx ([a]) 0).bind fun b=>
 (Ze9 b).bind fun c=>
 loop (Zb8 genera1) ([a],0,(mpSet ([]:List (ByteArray×Bool)) c true))
def ZeS (e:List (List Int)) (target1:List Int) (c:(List Int)→(List Int)→Option Int):Int×Int→Option ((Int×Int) ⊕ (Int×Bool))
 | (a,b)=>
 bif decide (a<b) then
 (gNn 1).bind fun _=>
 (gIdx e (IntKind.i64.wrap (Int.fdiv (IntKind.u64.wrap (IntKind.i64.wrap (a+b))) (2^min (1:Int).toNat IntKind.u64.bits)))).bind fun f=>
 (c f target1).bind fun g=>
 bif decide (g<0) then
 some (.inl (IntKind.i64.wrap ((IntKind.i64.wrap (Int.fdiv (IntKind.u64.wrap (IntKind.i64.wrap (a+b))) (2^min (1:Int).toNat IntKind.u64.bits)))+1),b))
 else
 some (.inl (a,IntKind.i64.wrap (Int.fdiv (IntKind.u64.wrap (IntKind.i64.wrap (a+b))) (2^min (1:Int).toNat IntKind.u64.bits))))
 else
 bif decide (a<(e.length:Int)) then
 (gIdx e a).bind fun h=>
 (c h target1).bind fun i=>
 some (.inr ((a,i==0)))
 else
 some (.inr ((a,false)))
def ZiH (a:List (List Int)) (target1:List Int) (b:(List Int)→(List Int)→Option Int):Option (Int×Bool):=
 loop (ZeS a target1 b) (0,(a.length:Int))
def Zho (degree0:Int) (genera7:List (List Int)) (c:Int) (e:List Int):Option ((List (List Int)×List (List Int)×Bool×Int) ⊕ ((List (List Int))×(List (List Int))×Bool)):=
 (gApp 24 genera7 [e]).bind fun a=>
 (ZdC degree0 a).bind fun b=>
 some (.inl (a,b.1,b.2,IntKind.i64.wrap (c+1)))
def ZaO (degree0:Int) (elemen1:List (List Int)):List (List Int)×List (List Int)×Bool×Int→Option ((List (List Int)×List (List Int)×Bool×Int) ⊕ ((List (List Int))×(List (List Int))×Bool))
 | (genera7,a,c,b)=>
 bif decide (b<(elemen1.length:Int)) then
 (gIdx elemen1 b).bind fun e=>
 (ZiH a e (fun g h=>ZaD g h)).bind fun f=>
 bif f.2 then
 some (.inl (genera7,a,c,IntKind.i64.wrap (b+1)))
 else
 bif !c then
 some (.inl (genera7,a,c,IntKind.i64.wrap (b+1)))
 else
 Zho degree0 genera7 b e
 else
 some (.inr ((genera7,a,c)))
def ZjH (degree0:Int) (elemen1:List (List Int)):Option ((List (List Int))×(List (List Int))×Bool):=
 (ZdC degree0 ([]:List (List Int))).bind fun a=>
 loop (ZaO degree0 elemen1) (([]:List (List Int)),a.1,a.2,0)
def Zeo (a:Za9):Int→Option ((Int) ⊕ (Bool))
 | b=>
 bif decide (b<(a.Elements.length:Int)) then
 (gIdx a.Elements (IntKind.i64.wrap (b-1))).bind fun e=>
 (gIdx a.Elements b).bind fun f=>
 (ZaD e f).bind fun g=>
 bif decide (g≥0) then
 some (.inr (false))
 else
 some (.inl (IntKind.i64.wrap (b+1)))
 else
 (ZjH a.Degree a.Elements).bind fun c=>
 bif c.2.2 then
 some (.inr (((c.2.1.length:Int):Int)==(a.Elements.length:Int)))
 else
 some (.inr (false))
def ZkO (a:Za9):Option (Bool):=
 loop (Zeo a) (1)
def Zjv (a:Za9):Option Bool:=
 (Z2 a.Degree 1 32).bind fun c=>
 bif !c then
 some (false)
 else
 bif decide (((a.Elements.length:Int):Int)<1) then
 some (false)
 else
 bif decide (((a.Elements.length:Int):Int)>720) then
 some (false)
 else
 (Ze4 a.Degree a.Elements).bind fun b=>
 bif !b then
 some (false)
 else
 ZkO a
def Zky (a:Zl):Option Za9:=
 (Zcl a.Rows).bind fun b=>
 some ((Za9.mk a.Size b))
def ZgQ (a:Zl):Option Bool:=
 bif a.Kind==1 then
 (ZF a.Rows).bind fun b=>
 bif b==a.Size then
 (ZfF a.Rows).bind fun c=>
 some (c)
 else
 some (false)
 else
 bif a.Kind==2 then
 (Zec (Zl.mk a.Kind a.Size a.Rows)).bind fun e=>
 (ZiR e).bind fun f=>
 some (f)
 else
 bif a.Kind==3 then
 (ZF a.Rows).bind fun g=>
 bif g==a.Size then
 (Zfx a.Rows).bind fun h=>
 some (h)
 else
 some (false)
 else
 bif a.Kind==4 then
 bif decide (((a.Rows.length:Int):Int)>0) then
 (Ze7 (Zl.mk a.Kind a.Size a.Rows)).bind fun i=>
 (Zgp i).bind fun j=>
 some (j)
 else
 some (false)
 else
 bif a.Kind==5 then
 (Zce (Zl.mk a.Kind a.Size a.Rows)).bind fun k=>
 (Zdr k).bind fun l=>
 some (l)
 else
 bif a.Kind==6 then
 (Zjm (Zl.mk a.Kind a.Size a.Rows)).bind fun m=>
 some (m.2)
 else
 bif a.Kind==7 then
 (Zky (Zl.mk a.Kind a.Size a.Rows)).bind fun o=>
 (Zjv o).bind fun p=>
 some (p)
 else
 some (false)
def Zj3 (b a:Int):Option ByteArray:=if a=10∧-9223372036854775808≤b∧b≤9223372036854775807 then some (itoaB b) else none
def ZfY (n0:Int):Option ByteArray:=
 (Zj3 n0 10).bind fun a=>
 some (a)
def Zad (a:ByteArray) (n1:Int):Option ByteArray:=
 (gFit a (⟨#[32]⟩:ByteArray)).bind fun _=>
 (ZfY n1).bind fun r8=>
 (gFit (a++(⟨#[32]⟩:ByteArray):ByteArray) r8).bind fun _=>
 some ((a++(⟨#[32]⟩:ByteArray):ByteArray)++r8)
def ZiN (e:List (List Int)) (b:Int→Option Bool):Int→Option ((Int) ⊕ (Bool))
 | a=>
 bif decide (a<(e.length:Int)) then
 (b a).bind fun c=>
 bif !c then
 some (.inr (false))
 else
 some (.inl (IntKind.i64.wrap (a+1)))
 else
 some (.inr (true))
def ZaT (b:List (List Int)) (a:Int→Option Bool):Option Bool:=
 loop (ZiN b a) (0)
def ZjE (a:Int) (b:List (List Int)):Option Bool:=
 (gIdx b a).bind fun c=>
 (gIdx c a).bind fun e=>
 some (e==a)
def Zjo (a:Int) (b:List (List Int)):Option Bool:=
 (gIdx b a).bind fun f=>
 (gIdx f a).bind fun g=>
 (gIdx b 0).bind fun c=>
 (gIdx c 0).bind fun e=>
 some (g==e)
def Zcp (a:List (List Int)) (b:Int→Int→Option Bool):Option Bool:=ZaT a (fun c=>ZaT a (fun e=>b c e))
def Zhu (a b:Int) (c:List (List Int)):Option Bool:=
 (gIdx c a).bind fun h=>
 (gIdx h b).bind fun e=>
 (gIdx c b).bind fun f=>
 (gIdx f a).bind fun g=>
 some (e==g)
def ZbT (a:List Int) (b:List (List Int)):Option Bool:=
 (ZF b).bind fun c=>
 (Zcg c).bind fun e=>
 (Zgr a e).bind fun r8=>
 some (r8)
def Zid (a:List (List Int)):Option Int:=
 (Zdh a (fun b=>ZbT b a)).bind fun c=>
 some (c)
def Zha (a:Int) (c:List (List Int)) (e:Int):Option Bool:=
 (gIdx c a).bind fun f=>
 (gIdx f e).bind fun b=>
 some (b==a)
def ZgE (b:List (List Int)):Int→Option ((Int) ⊕ (Int))
 | a=>
 bif decide (a<(b.length:Int)) then
 (ZaT b (fun e=>Zha e b a)).bind fun c=>
 bif c then
 some (.inr (a))
 else
 some (.inl (IntKind.i64.wrap (a+1)))
 else
 some (.inr ((-1)))
def Zhh (a:List (List Int)):Option Int:=
 loop (ZgE a) (0)
def Zlm (b:Int) (a:List (List Int)) (c e:Int):Option Bool:=
 (gIdx a c).bind fun m=>
 (gIdx m e).bind fun f=>
 (gIdx a f).bind fun g=>
 (gIdx g b).bind fun h=>
 (gIdx a c).bind fun i=>
 (gIdx a e).bind fun j=>
 (gIdx j b).bind fun k=>
 (gIdx i k).bind fun l=>
 some (h==l)
def Zlf (b c:Int) (a:List (List Int)):Option Bool:=
 (ZaT a (fun e=>Zlm e a b c)).bind fun r8=>
 some (r8)
def ZgH (a:List (List Int)):Option Bool:=
 (Zcp a (fun b c=>Zlf b c a)).bind fun e=>
 some (e)
def Zhi (a b:Int) (c:List (List Int)):Option Bool:=
 (gIdx c a).bind fun h=>
 (gIdx c b).bind fun e=>
 (gIdx e a).bind fun f=>
 (gIdx h f).bind fun g=>
 some (g==b)
def q_impl_satisfies (rf_impl_satisfies:(List (List Int))→Int→Option Bool) (a:List (List Int)) (kind1:Int):Option Bool:=
 bif kind1==1 then
 (ZaT a (fun b=>ZjE b a)).bind fun e=>
 some (e)
 else
 bif kind1==2 then
 (ZaT a (fun b=>Zjo b a)).bind fun f=>
 some (f)
 else
 bif kind1==3 then
 (Zcp a (fun b c=>Zhu b c a)).bind fun g=>
 some (g)
 else
 bif kind1==4 then
 (Zid a).bind fun h=>
 some (decide (h≥0))
 else
 bif kind1==5 then
 (Zhh a).bind fun i=>
 some (decide (i≥0))
 else
 bif kind1==6 then
 (ZgH a).bind fun j=>
 some (j)
 else
 bif kind1==7 then
 (Zcp a (fun b c=>Zhi b c a)).bind fun k=>
 some (k)
 else
 (rf_impl_satisfies a 3).bind fun l=>
 bif l then
 (rf_impl_satisfies a 7).bind fun m=>
 some (m)
 else
 some (false)
def pn_impl_satisfies:Nat→((List (List Int))→Int→Option Bool)
 | 0=>(fun _ _=>none)
 | n+1=>q_impl_satisfies (pn_impl_satisfies n)
def ZlC:(List (List Int))→Int→Option Bool:=(pn_impl_satisfies fuel)
def Zch (e:List (List Int)):List Int×Int→Option ((List Int×Int) ⊕ ((List Int)×Int))
 | (kinds4,a)=>
 bif decide (a≤8) then
 (ZlC e a).bind fun b=>
 bif b then
 (gApp 8 kinds4 [a]).bind fun c=>
 some (.inl (c,IntKind.i64.wrap (a+1)))
 else
 some (.inl (kinds4,IntKind.i64.wrap (a+1)))
 else
 some (.inr ((kinds4,0)))
def ZhC (a:List (List Int)):Option ((List Int)×Int):=
 (ZfF a).bind fun b=>
 bif !b then
 some ((([]:List Int),1))
 else
 loop (Zch a) (([]:List Int),1)
def Zfc (a:Int):Option ByteArray:=
 (Z2 a 1 8).bind fun b=>
 bif !b then
 some (⟨#[]⟩)
 else
 (gIdx ([⟨#[105,100,101,109,112,111,116,101,110,116]⟩,⟨#[117,110,105,112,111,116,101,110,116]⟩,⟨#[99,111,109,109,117,116,97,116,105,118,101]⟩,⟨#[108,101,102,116,45,117,110,105,116]⟩,⟨#[114,105,103,104,116,45,117,110,105,116]⟩,⟨#[97,115,115,111,99,105,97,116,105,118,101]⟩,⟨#[115,101,109,105,115,121,109,109,101,116,114,105,99]⟩,⟨#[115,121,109,109,101,116,114,105,99]⟩]:List ByteArray) (IntKind.i64.wrap (a-1))).bind fun c=>
 some (c)
def Zea (f g y7:Int) (a:List (List Int)) (b:Int) (c:Bool):Option ((List (List Int)×Int) ⊕ ((List (List Int)×Int) ⊕ ((List (List Int)×Int) ⊕ ((List (List Int)×Int) ⊕ (List (List Int)))))):=
 bif c then
 (gApp 24 a [([f,g,y7,b]:List Int)]).bind fun e=>
 some (.inl (e,IntKind.i64.wrap (b+1)))
 else
 some (.inl (a,IntKind.i64.wrap (b+1)))
def ZbO (c:List (List Int)) (g e f y7:Int):List (List Int)×Int→Option ((List (List Int)×Int) ⊕ ((List (List Int)×Int) ⊕ ((List (List Int)×Int) ⊕ ((List (List Int)×Int) ⊕ (List (List Int))))))
 | (a,b)=>
 bif decide (b<g) then
 (gIdx c e).bind fun h=>
 (gIdx h y7).bind fun i=>
 (gIdx c f).bind fun j=>
 (gIdx j b).bind fun k=>
 bif i==k then
 (gIdx c e).bind fun l=>
 (gIdx l b).bind fun m=>
 (gIdx c f).bind fun o=>
 (gIdx o y7).bind fun p=>
 Zea e f y7 a b (m==p)
 else
 Zea e f y7 a b false
 else
 some (.inr (.inl (a,IntKind.i64.wrap (y7+1))))
def ZcO (e:List (List Int)) (b f c:Int):List (List Int)×Int→Option ((List (List Int)×Int) ⊕ ((List (List Int)×Int) ⊕ ((List (List Int)×Int) ⊕ (List (List Int)))))
 | (a,y7)=>
 bif decide (y7<b) then
 loop (ZbO e b f c y7) (a,IntKind.i64.wrap (y7+1))
 else
 some (.inr (.inl (a,IntKind.i64.wrap (c+1))))
def Zc4 (f:List (List Int)) (b c:Int):List (List Int)×Int→Option ((List (List Int)×Int) ⊕ ((List (List Int)×Int) ⊕ (List (List Int))))
 | (a,e)=>
 bif decide (e<b) then
 loop (ZcO f b c e) (a,0)
 else
 some (.inr (.inl (a,IntKind.i64.wrap (c+1))))
def ZcX (e:List (List Int)) (a:Int):List (List Int)×Int→Option ((List (List Int)×Int) ⊕ (List (List Int)))
 | (c,b)=>
 bif decide (b<a) then
 loop (Zc4 e a b) (c,IntKind.i64.wrap (b+1))
 else
 some (.inr (c))
def Zhj (a:List (List Int)):Option (List (List Int)):=
 (ZF a).bind fun b=>
 loop (ZcX a b) (([]:List (List Int)),0)
def Zd2 (k:Zl) (b:(List Int)×Int):List ByteArray×Int→Option ((List ByteArray×Int) ⊕ (List ByteArray))
 | (lines3,a)=>
 bif decide (a<(b.1.length:Int)) then
 (gIdx b.1 a).bind fun c=>
 (Zfc c).bind fun e=>
 (gApp 16 lines3 [e]).bind fun f=>
 some (.inl (f,IntKind.i64.wrap (a+1)))
 else
 (Zhj k.Rows).bind fun g=>
 (ZF g).bind fun h=>
 (Zad ⟨#[105,110,116,101,114,99,97,108,97,116,101,115]⟩ h).bind fun i=>
 (gApp 16 lines3 [i]).bind fun j=>
 some (.inr (j))
def ZhP (a:Zl):Option (List ByteArray):=
 (Zad ⟨#[111,114,100,101,114]⟩ a.Size).bind fun b=>
 (ZhC a.Rows).bind fun c=>
 loop (Zd2 a c) (([b]:List ByteArray),0)
def Zf8 (n0:Int) (c:Int→Int→Option Int) (i:List (List Int)) (e:Int):List Int×Int→Option ((List Int×Int) ⊕ ((List (List Int)×Int) ⊕ (List (List Int))))
 | (a,b)=>
 bif decide (b<n0) then
 (c e b).bind fun f=>
 (gApp 8 a [f]).bind fun g=>
 some (.inl (g,IntKind.i64.wrap (b+1)))
 else
 (gApp 24 i [a]).bind fun h=>
 some (.inr (.inl (h,IntKind.i64.wrap (e+1))))
def Zff (n0:Int) (a:Int→Int→Option Int):List (List Int)×Int→Option ((List (List Int)×Int) ⊕ (List (List Int)))
 | (b,c)=>
 bif decide (c<n0) then
 loop (Zf8 n0 a b c) (([]:List Int),0)
 else
 some (.inr (b))
def Zg0 (n0:Int) (a:Int→Int→Option Int):Option (List (List Int)):=
 loop (Zff n0 a) (([]:List (List Int)),0)
def Zkv (a b:Int):Option Int:=
 some (0)
def Zht (n0:Int):Option (List (List Int)):=
 (Zg0 n0 (fun a b=>Zkv a b)).bind fun c=>
 some (c)
def ZdS (h f:Int) (g:List Int):Int×List (List Int)→Option ((Int×List (List Int)) ⊕ ((Int×List (List Int)) ⊕ ((Int×List (List Int)) ⊕ (List Int))))
 | (b,a)=>
 bif decide (b<(g.length:Int)) then
 (gIdx g b).bind fun c=>
 (gIdx a f).bind fun e=>
 (gIdx e c).bind fun i=>
 (gIdx e c).bind fun j=>
 some (.inl (IntKind.i64.wrap (b+1),(a.set f.toNat (e.set c.toNat (IntKind.i64.wrap (i+1))))))
 else
 some (.inr (.inl (IntKind.i64.wrap (h+1),a)))
def Zee (e:Int) (a:List Int):Int×List (List Int)→Option ((Int×List (List Int)) ⊕ ((Int×List (List Int)) ⊕ (List Int)))
 | (b,c)=>
 bif decide (b<(a.length:Int)) then
 (gIdx a b).bind fun f=>
 (gSl a (IntKind.i64.wrap (b+1)) (a.length:Int)).bind fun g=>
 loop (ZdS b f g) (0,c)
 else
 some (.inr (.inl (IntKind.i64.wrap (e+1),c)))
def Zdi (xs:List (List Int)):List Int×Int→Option ((List Int×Int) ⊕ ((Int×List (List Int)) ⊕ (List Int)))
 | (b,a)=>
 bif decide (a<(xs.length:Int)) then
 (gIdx xs a).bind fun c=>
 (gSl c (IntKind.i64.wrap (a+1)) (c.length:Int)).bind fun e=>
 (gApp 8 b e).bind fun f=>
 some (.inl (f,IntKind.i64.wrap (a+1)))
 else
 some (.inr (.inr (b)))
def Zgf (b:ZJ):Int×List (List Int)→Option ((Int×List (List Int)) ⊕ (List Int))
 | (a,xs)=>
 bif decide (a<(b.Blocks.length:Int)) then
 (gIdx b.Blocks a).bind fun c=>
 loop (Zee a c) (0,xs)
 else
 loop (Zdi xs) (([]:List Int),0)
def Zim (a:ZJ):Option (List Int):=
 (Zht a.Points).bind fun b=>
 loop (Zgf a) (0,b)
def ZbX (f:Int) (e:List Int):Int×List Int→Option ((Int×List Int) ⊕ ((Int×List Int) ⊕ (List Int)))
 | (b,a)=>
 bif decide (b<(e.length:Int)) then
 (gIdx e b).bind fun c=>
 (gIdx a c).bind fun g=>
 (gIdx a c).bind fun h=>
 some (.inl (IntKind.i64.wrap (b+1),(a.set c.toNat (IntKind.i64.wrap (g+1)))))
 else
 some (.inr (.inl (IntKind.i64.wrap (f+1),a)))
def ZfA (b:ZJ):Int×List Int→Option ((Int×List Int) ⊕ (List Int))
 | (a,xs)=>
 bif decide (a<(b.Blocks.length:Int)) then
 (gIdx b.Blocks a).bind fun c=>
 loop (ZbX a c) (0,xs)
 else
 some (.inr (xs))
def Zik (a:ZJ):Option (List Int):=
 (gMake 8 (0:Int) a.Points a.Points).bind fun b=>
 loop (ZfA a) (0,b)
def ZcB (b:ZJ) (a:List Int):Int→Option ((Int) ⊕ ((Int) ⊕ (ZS×Bool)))
 | c=>
 bif decide (c<(a.length:Int)) then
 (gIdx a c).bind fun e=>
 (gIdx a 0).bind fun f=>
 bif e !=f then
 some (.inr (.inr (((ZS.mk 0 0 0 0 0),false))))
 else
 some (.inl (IntKind.i64.wrap (c+1)))
 else
 (ZF b.Blocks).bind fun g=>
 (Zik (ZJ.mk b.Points b.Blocks)).bind fun h=>
 (gIdx h 0).bind fun i=>
 (gIdx b.Blocks 0).bind fun j=>
 (ZH j).bind fun k=>
 (gIdx a 0).bind fun l=>
 some (.inr (.inr (((ZS.mk b.Points g i k l),true))))
def Zcs (b:ZJ) (c:List Int):Int→Option ((Int) ⊕ (ZS×Bool))
 | a=>
 bif decide (a<(b.Blocks.length:Int)) then
 (gIdx b.Blocks a).bind fun e=>
 (gIdx b.Blocks 0).bind fun f=>
 bif ((e.length:Int):Int) !=(f.length:Int) then
 some (.inr (((ZS.mk 0 0 0 0 0),false)))
 else
 some (.inl (IntKind.i64.wrap (a+1)))
 else
 loop (ZcB b c) (0)
def ZiB (a:ZJ):Option (ZS×Bool):=
 (Zim (ZJ.mk a.Points a.Blocks)).bind fun b=>
 loop (Zcs a b) (0)
def Zhg (a:ZJ):Option (ZS×Bool):=
 bif decide (a.Points<2) then
 some (((ZS.mk 0 0 0 0 0),false))
 else
 bif ((a.Blocks.length:Int):Int)==0 then
 some (((ZS.mk 0 0 0 0 0),false))
 else
 (gIdx a.Blocks 0).bind fun b=>
 bif decide (((b.length:Int):Int)<2) then
 some (((ZS.mk 0 0 0 0 0),false))
 else
 ZiB a
def ZiU (b:Zl):Option (List ByteArray):=
 (Zad ⟨#[112,111,105,110,116,115]⟩ b.Size).bind fun r8=>
 (ZF b.Rows).bind fun e=>
 (Zad ⟨#[98,108,111,99,107,115]⟩ e).bind fun c=>
 (Zec (Zl.mk b.Kind b.Size b.Rows)).bind fun f=>
 (Zhg f).bind fun a=>
 bif a.2 then
 (Zad ⟨#[114,101,112,108,105,99,97,116,105,111,110]⟩ a.1.R).bind fun g=>
 (Zad ⟨#[98,108,111,99,107,32,115,105,122,101]⟩ a.1.K).bind fun h=>
 (Zad ⟨#[108,97,109,98,100,97]⟩ a.1.Lambda).bind fun i=>
 (gApp 16 ([r8,c]:List ByteArray) ([g,h,i]:List ByteArray)).bind fun j=>
 some (j)
 else
 some (([r8,c]:List ByteArray))
def ZfU (e:Int) (c:List Int):Int×Int→Option ((Int×Int) ⊕ ((Int×Int) ⊕ (Int×Int)))
 | (a,b)=>
 bif decide (b<(c.length:Int)) then
 (gIdx c b).bind fun f=>
 some (.inl (IntKind.i64.wrap (a+f),IntKind.i64.wrap (b+1)))
 else
 some (.inr (.inl (a,IntKind.i64.wrap (e+1))))
def Zdx (c:List (List Int)):Int×Int→Option ((Int×Int) ⊕ (Int×Int))
 | (a,b)=>
 bif decide (b<(c.length:Int)) then
 (gIdx c b).bind fun e=>
 loop (ZfU b e) (a,0)
 else
 some (.inr ((a,0)))
def Zhx (a:List (List Int)):Option (Int×Int):=
 (Zfx a).bind fun b=>
 bif !b then
 some ((0,1))
 else
 loop (Zdx a) (0,0)
def ZfX (i:ZE) (column1:List Int) (c:Int) (xs e:List Int):Int×Int→Option ((Int×Int) ⊕ ((Int×List Int) ⊕ (Int)))
 | (b,a)=>
 bif decide (a<(column1.length:Int)) then
 (gIdx column1 a).bind fun f=>
 (gIdx e f).bind fun g=>
 some (.inl (IntKind.i64.wrap ((IntKind.i64.wrap (b*i.Levels))+g),IntKind.i64.wrap (a+1)))
 else
 (gIdx xs b).bind fun h=>
 (gIdx xs b).bind fun j=>
 some (.inr (.inl (IntKind.i64.wrap (c+1),(xs.set b.toNat (IntKind.i64.wrap (h+1))))))
def ZeD (xs:List Int):Int→Option ((Int) ⊕ ((Int×List Int) ⊕ (Int)))
 | a=>
 bif decide (a<(xs.length:Int)) then
 (gIdx xs a).bind fun b=>
 (gIdx xs 0).bind fun c=>
 bif b !=c then
 some (.inr (.inr (0)))
 else
 some (.inl (IntKind.i64.wrap (a+1)))
 else
 (gIdx xs 0).bind fun e=>
 some (.inr (.inr (e)))
def Zd0 (b:ZE) (column1:List Int):Int×List Int→Option ((Int×List Int) ⊕ (Int))
 | (a,xs)=>
 bif decide (a<(b.Rows.length:Int)) then
 (gIdx b.Rows a).bind fun c=>
 loop (ZfX b column1 a xs c) (0,0)
 else
 loop (ZeD xs) (0)
def Zdz (b:ZE) (column1:List Int):Option Int:=
 (ZH column1).bind fun c=>
 (Zau b.Levels c 256).bind fun a=>
 (gMake 8 (0:Int) a a).bind fun e=>
 loop (Zd0 b column1) (0,e)
def ZeA (b:List Int) (c e:Int):Int×List Int→Option ((Int×List Int) ⊕ ((Int) ⊕ ((List Int)×Bool)))
 | (a,xs)=>
 bif decide (a<c) then
 (gIdx b e).bind fun f=>
 (gIdx xs a).bind fun g=>
 some (.inl (IntKind.i64.wrap (a+1),(xs.set a.toNat (IntKind.i64.wrap ((IntKind.i64.wrap ((IntKind.i64.wrap (f+1))+a))-e)))))
 else
 some (.inr (.inr ((xs,true))))
def ZeY (n0:Int) (a:List Int) (c:Int):Int→Option ((Int) ⊕ ((List Int)×Bool))
 | b=>
 bif decide (b≥0) then
 (gIdx a b).bind fun e=>
 bif e==(IntKind.i64.wrap ((IntKind.i64.wrap (n0-c))+b)) then
 some (.inl (IntKind.i64.wrap (b-1)))
 else
 (Zbc a).bind fun f=>
 loop (ZeA a c b) (b,f)
 else
 some (.inr ((([]:List Int),false)))
def ZiZ (n0:Int) (a:List Int):Option ((List Int)×Bool):=
 (Zgk a n0).bind fun c=>
 bif !c then
 some ((([]:List Int),false))
 else
 (ZH a).bind fun b=>
 loop (ZeY n0 a b) (IntKind.i64.wrap (b-1))
def Zcm (a:ZE) (e:Int):List Int×Bool→Option ((List Int×Bool) ⊕ (Int))
 | (column5,b)=>
 bif b then
 (Zdz (ZE.mk a.Levels a.Columns a.Rows) column5).bind fun f=>
 bif f==0 then
 some (.inr (0))
 else
 (ZiZ a.Columns column5).bind fun c=>
 some (.inl (c.1,c.2))
 else
 some (.inr (e))
def Zem (a:ZE) (c:Int):Option Int:=
 (Zau a.Levels c 256).bind fun e=>
 (ZF a.Rows).bind fun f=>
 bif decide (e>f) then
 some (0)
 else
 (Zcg c).bind fun b=>
 (Zdz (ZE.mk a.Levels a.Columns a.Rows) b).bind fun g=>
 loop (Zcm a g) (b,true)
def ZbJ (b:ZE):Int→Option ((Int) ⊕ (Int))
 | a=>
 bif decide (a≥1) then
 (Zem (ZE.mk b.Levels b.Columns b.Rows) a).bind fun c=>
 bif decide (c>0) then
 some (.inr (a))
 else
 some (.inl (IntKind.i64.wrap (a-1)))
 else
 some (.inr (0))
def ZgJ (a:ZE):Option Int:=
 (Zgp (ZE.mk a.Levels a.Columns a.Rows)).bind fun b=>
 bif !b then
 some (0)
 else
 loop (ZbJ a) (a.Columns)
def Ze6 (a:ZQ):Option Int:=
 (gIdx a.Rows 0).bind fun b=>
 (ZH b).bind fun c=>
 some (c)
def Zd8 (b:Zac) (c:List (List Int)) (messag2:List Int):Int×List Int→Option ((Int×List Int) ⊕ (List Int))
 | (a,xs)=>
 bif decide (a<(messag2.length:Int)) then
 (gIdx messag2 a).bind fun e=>
 (gIdx c a).bind fun f=>
 (ZbC (Zac.mk b.qq b.qadd b.qsub b.qmul b.qinv) xs f e).bind fun g=>
 some (.inl (IntKind.i64.wrap (a+1),g))
 else
 some (.inr (xs))
def Zjg (e:Zac) (a:List (List Int)) (messag2:List Int):Option (List Int):=
 (gIdx a 0).bind fun b=>
 (gMake 8 (0:Int) (b.length:Int) (b.length:Int)).bind fun c=>
 loop (Zd8 e a messag2) (0,c)
def Ze0:Int×Int×List Int→Option ((Int×Int×List Int) ⊕ (List Int))
 | (a,b,xs)=>
 bif decide (a<b) then
 (gIdx xs b).bind fun c=>
 (gIdx xs a).bind fun e=>
 (gIdx xs a).bind fun f=>
 (gIdx (xs.set a.toNat c) b).bind fun g=>
 some (.inl (IntKind.i64.wrap (a+1),IntKind.i64.wrap (b-1),((xs.set a.toNat c).set b.toNat e)))
 else
 some (.inr (xs))
def ZgN (a:List Int):Option (List Int):=
 loop (Ze0) (0,IntKind.i64.wrap ((a.length:Int)-1),a)
def Zg8 (n0 a count2:Int):Option (List Int):=
 (ZaR n0 a count2).bind fun b=>
 (ZgN b).bind fun c=>
 some (c)
def ZdT (i:ZQ) (a:Zac) (c e:Int):List (List Int)×Int→Option ((List (List Int)×Int) ⊕ (List (List Int)))
 | (words5,b)=>
 bif decide (b<e) then
 (Zg8 b a.qq c).bind fun f=>
 (Zjg (Zac.mk a.qq a.qadd a.qsub a.qmul a.qinv) i.Rows f).bind fun g=>
 (gApp 24 words5 [g]).bind fun h=>
 some (.inl (h,IntKind.i64.wrap (b+1)))
 else
 some (.inr (words5))
def ZjL (a:ZQ):Option (List (List Int)):=
 (Zf5 (Zd.mk a.Field.Prime a.Field.Degree a.Field.Poly)).bind fun c=>
 (ZF a.Rows).bind fun b=>
 (Zau c.qq b 4096).bind fun e=>
 loop (ZdT a c b e) (([]:List (List Int)),0)
def ZfS (a:List Int):Int×Int→Option ((Int×Int) ⊕ (Int))
 | (weight3,b)=>
 bif decide (b<(a.length:Int)) then
 (gIdx a b).bind fun c=>
 bif c !=0 then
 some (.inl (IntKind.i64.wrap (weight3+1),IntKind.i64.wrap (b+1)))
 else
 some (.inl (weight3,IntKind.i64.wrap (b+1)))
 else
 some (.inr (weight3))
def ZkH (a:List Int):Option Int:=
 loop (ZfS a) (0,0)
def Zd3 (c:List (List Int)):Int×List Int→Option ((Int×List Int) ⊕ (List Int))
 | (a,xs)=>
 bif decide (a<(c.length:Int)) then
 (gIdx c a).bind fun e=>
 (ZkH e).bind fun b=>
 (gIdx xs b).bind fun f=>
 (gIdx xs b).bind fun g=>
 some (.inl (IntKind.i64.wrap (a+1),(xs.set b.toNat (IntKind.i64.wrap (f+1)))))
 else
 some (.inr (xs))
def Zfb (a:ZQ):Option (List Int):=
 (Ze6 (ZQ.mk (Zd.mk a.Field.Prime a.Field.Degree a.Field.Poly) a.Rows)).bind fun b=>
 (gMake 8 (0:Int) (IntKind.i64.wrap (b+1)) (IntKind.i64.wrap (b+1))).bind fun e=>
 (ZjL (ZQ.mk (Zd.mk a.Field.Prime a.Field.Degree a.Field.Poly) a.Rows)).bind fun c=>
 loop (Zd3 c) (0,e)
def Zfh (b:List Int):Int→Option ((Int) ⊕ (Int×Int))
 | a=>
 (gIdx b a).bind fun c=>
 bif c==0 then
 some (.inl (IntKind.i64.wrap (a+1)))
 else
 some (.inr ((a,0)))
def ZiK (a:ZQ):Option (Int×Int):=
 (Zdr (ZQ.mk (Zd.mk a.Field.Prime a.Field.Degree a.Field.Poly) a.Rows)).bind fun c=>
 bif !c then
 some ((0,1))
 else
 (Zfb (ZQ.mk (Zd.mk a.Field.Prime a.Field.Degree a.Field.Poly) a.Rows)).bind fun b=>
 loop (Zfh b) (1)
def Zd4 (n0:Int):Option Bool:=
 (Z2 n0 (-999999999) 999999999).bind fun a=>
 some (!a)
def ZhR (a:List ByteArray) (s1:ByteArray):Option ByteArray:=if a.length≤140737488355328∧(joinB a s1).size≤140737488355328 then some (joinB a s1) else none
def Zex (a:List Int):List ByteArray×Int→Option ((List ByteArray×Int) ⊕ (ByteArray))
 | (words3,b)=>
 bif decide (b<(a.length:Int)) then
 (gIdx a b).bind fun c=>
 (ZfY c).bind fun e=>
 (gApp 16 words3 [e]).bind fun f=>
 some (.inl (f,IntKind.i64.wrap (b+1)))
 else
 (ZhR words3 ⟨#[44]⟩).bind fun g=>
 some (.inr (g))
def Zg1 (a:List Int):Option (ByteArray):=
 bif ((a.length:Int):Int)==0 then
 some (⟨#[45]⟩)
 else
 loop (Zex a) (([]:List ByteArray),0)
def ZgY (a:List Int):Option ByteArray:=
 bif decide (((a.length:Int):Int)>100) then
 some (⟨#[]⟩)
 else
 (ZaU a (fun c=>Zd4 c)).bind fun b=>
 bif b then
 some (⟨#[]⟩)
 else
 Zg1 a
def Zi7 (b:Zl):Option (List ByteArray):=
 (Zce (Zl.mk b.Kind b.Size b.Rows)).bind fun r8=>
 (ZiK (ZQ.mk (Zd.mk r8.Field.Prime r8.Field.Degree r8.Field.Poly) r8.Rows)).bind fun c=>
 (Ze6 (ZQ.mk (Zd.mk r8.Field.Prime r8.Field.Degree r8.Field.Poly) r8.Rows)).bind fun e=>
 (Zad ⟨#[108,101,110,103,116,104]⟩ e).bind fun f=>
 (ZF r8.Rows).bind fun g=>
 (Zad ⟨#[100,105,109,101,110,115,105,111,110]⟩ g).bind fun h=>
 (Zad ⟨#[100,105,115,116,97,110,99,101]⟩ c.1).bind fun i=>
 (Zfb (ZQ.mk (Zd.mk r8.Field.Prime r8.Field.Degree r8.Field.Poly) r8.Rows)).bind fun j=>
 (ZgY j).bind fun a=>
 (gFit (⟨#[119,101,105,103,104,116,115,32]⟩:ByteArray) a).bind fun _=>
 (gApp 16 ([f,h,i]:List ByteArray) [(⟨#[119,101,105,103,104,116,115,32]⟩:ByteArray)++a]).bind fun k=>
 some (k)
def ZbY (a:Zl):Option ((List ByteArray)×Int):=
 (ZgQ (Zl.mk a.Kind a.Size a.Rows)).bind fun v=>
 bif !v then
 some ((([]:List ByteArray),1))
 else
 (ZF a.Rows).bind fun c=>
 bif a.Kind==1 then
 (ZhP (Zl.mk a.Kind a.Size a.Rows)).bind fun e=>
 some ((e,0))
 else
 bif a.Kind==2 then
 (ZiU (Zl.mk a.Kind a.Size a.Rows)).bind fun f=>
 some ((f,0))
 else
 bif a.Kind==3 then
 (Zhx a.Rows).bind fun g=>
 (Zad ⟨#[111,114,100,101,114]⟩ a.Size).bind fun h=>
 (Zad ⟨#[101,120,99,101,115,115]⟩ g.1).bind fun i=>
 some ((([h,i]:List ByteArray),0))
 else
 bif a.Kind==4 then
 (Ze7 (Zl.mk a.Kind a.Size a.Rows)).bind fun b=>
 (Zad ⟨#[108,101,118,101,108,115]⟩ b.Levels).bind fun j=>
 (Zad ⟨#[99,111,108,117,109,110,115]⟩ b.Columns).bind fun k=>
 (Zad ⟨#[114,111,119,115]⟩ c).bind fun l=>
 (ZgJ (ZE.mk b.Levels b.Columns b.Rows)).bind fun m=>
 (Zad ⟨#[115,116,114,101,110,103,116,104]⟩ m).bind fun o=>
 some ((([j,k,l,o]:List ByteArray),0))
 else
 bif a.Kind==5 then
 (Zi7 (Zl.mk a.Kind a.Size a.Rows)).bind fun p=>
 some ((p,0))
 else
 bif a.Kind==6 then
 (Zad ⟨#[118,101,114,116,105,99,101,115]⟩ a.Size).bind fun r=>
 (Zad ⟨#[101,100,103,101,115]⟩ c).bind fun s=>
 some ((([r,s]:List ByteArray),0))
 else
 (Zad ⟨#[100,101,103,114,101,101]⟩ a.Size).bind fun t=>
 (Zad ⟨#[101,108,101,109,101,110,116,115]⟩ c).bind fun u=>
 some ((([t,u]:List ByteArray),0))
def Zh0 (b f:List ByteArray):Int→Option ((Int) ⊕ (Bool))
 | a=>
 bif decide (a<(b.length:Int)) then
 (gIdx b a).bind fun c=>
 (gIdx f a).bind fun e=>
 bif !(c.toList==e.toList) then
 some (.inr (false))
 else
 some (.inl (IntKind.i64.wrap (a+1)))
 else
 some (.inr (true))
def Zew (a b:List ByteArray):Option Bool:=
 bif ((a.length:Int):Int) !=(b.length:Int) then
 some (false)
 else
 loop (Zh0 a b) (0)
def ZjK (b f:List Int):Int→Option ((Int) ⊕ (Bool))
 | a=>
 bif decide (a<(b.length:Int)) then
 (gIdx b a).bind fun c=>
 (gIdx f a).bind fun e=>
 bif c !=e then
 some (.inr (false))
 else
 some (.inl (IntKind.i64.wrap (a+1)))
 else
 some (.inr (true))
def ZfK (a b:List Int):Option Bool:=
 bif ((a.length:Int):Int) !=(b.length:Int) then
 some (false)
 else
 loop (ZjK a b) (0)
def Zia (b g:List (List Int)):Int→Option ((Int) ⊕ (Bool))
 | a=>
 bif decide (a<(b.length:Int)) then
 (gIdx b a).bind fun c=>
 (gIdx g a).bind fun e=>
 (ZfK c e).bind fun f=>
 bif !f then
 some (.inr (false))
 else
 some (.inl (IntKind.i64.wrap (a+1)))
 else
 some (.inr (true))
def Zi3 (a b:List (List Int)):Option Bool:=
 bif ((a.length:Int):Int) !=(b.length:Int) then
 some (false)
 else
 loop (Zia a b) (0)
def ZhX (a b:Zl):Option Bool:=
 bif a.Kind !=b.Kind then
 some (false)
 else
 bif a.Size !=b.Size then
 some (false)
 else
 (Zi3 a.Rows b.Rows).bind fun c=>
 bif !c then
 some (false)
 else
 some (true)
def Zip:Int×Int×List Int→Option ((Int×Int×List Int) ⊕ (Int×(List Int)))
 | (a,b,xs)=>
 bif decide (b<(xs.length:Int)) then
 (gIdx xs b).bind fun c=>
 some (.inl (IntKind.i64.wrap (a+1),IntKind.i64.wrap (b+1),(xs.set b.toNat a)))
 else
 some (.inr ((a,xs)))
def ZhQ (a:List Int) (k1:Int):Option (Int×(List Int)):=
 loop (Zip) (k1,0,a)
def Zh5:Int×Int×List (List Int)→Option ((Int×Int×List (List Int)) ⊕ (Int×(List (List Int))))
 | (a,b,xs)=>
 bif decide (b<(xs.length:Int)) then
 (gIdx xs b).bind fun e=>
 (ZhQ e a).bind fun c=>
 some (.inl (c.1,IntKind.i64.wrap (b+1),(xs.set b.toNat c.2)))
 else
 some (.inr ((a,xs)))
def Zja (a:List (List Int)) (k1:Int):Option (Int×(List (List Int))):=
 loop (Zh5) (k1,0,a)
def ZhW (a:Zl) (k1:Int):Option (Int×Zl):=
 (Zja a.Rows k1).bind fun r8=>
 some ((r8.1,(Zl.mk a.Kind a.Size r8.2)))
def Zgu:Int×ByteArray→Option ((Int×ByteArray) ⊕ (ByteArray))
 | (b,a)=>
 bif decide (b>0) then
 (gNz 10).bind fun _=>
 (gByt ([IntKind.u8.wrap (IntKind.i64.wrap (48+(Int.tmod b 10)))]:List Int)).bind fun c=>
 (gFit c a).bind fun _=>
 (gNz 10).bind fun _=>
 some (.inl (IntKind.i64.wrap (Int.tdiv b 10),c++a))
 else
 (gFit (⟨#[109]⟩:ByteArray) a).bind fun _=>
 some (.inr ((⟨#[109]⟩:ByteArray)++a))
def ZcZ (a:Int):Option ByteArray:=
 bif decide (a≤0) then
 some (⟨#[109,48]⟩)
 else
 loop (Zgu) (a,⟨#[]⟩)
def Zfs:Int×Int×List ByteArray→Option ((Int×Int×List ByteArray) ⊕ (Int×(List ByteArray)))
 | (a,b,xs)=>
 bif decide (b<(xs.length:Int)) then
 (ZcZ a).bind fun c=>
 (gIdx xs b).bind fun e=>
 some (.inl (IntKind.i64.wrap (a+1),IntKind.i64.wrap (b+1),(xs.set b.toNat c)))
 else
 some (.inr ((a,xs)))
def Zjz (a:List ByteArray) (k1:Int):Option (Int×(List ByteArray)):=
 loop (Zfs) (k1,0,a)
def ZiL (c:List ByteArray):Int×Int→Option ((Int×Int) ⊕ (Int))
 | (a,b)=>
 bif decide (b<(c.length:Int)) then
 (ZcZ a).bind fun e=>
 (gIdx c b).bind fun f=>
 bif !(f.toList==e.toList) then
 some (.inr ((-1)))
 else
 some (.inl (IntKind.i64.wrap (a+1),IntKind.i64.wrap (b+1)))
 else
 some (.inr (a))
def Zgj (a:List ByteArray) (k1:Int):Option Int:=
 loop (ZiL a) (k1,0)
def ZiV (a:Int×(List ByteArray)):Option (Bool):=
 (Zgj a.2 1).bind fun b=>
 bif decide (b<0) then
 some (false)
 else
 bif b !=a.1 then
 some (false)
 else
 some (true)
def Zg3 (f:Zag) (b g:(List ByteArray)×Int):Option (Bool):=
 (Zjz g.1 1).bind fun a=>
 (Zgj a.2 1).bind fun c=>
 bif decide (c<0) then
 some (false)
 else
 bif c !=a.1 then
 some (false)
 else
 (Zc6 (Zag.mk f.Kind f.Size f.Rows)).bind fun h=>
 (ZbY h).bind fun e=>
 (Zew e.1 b.1).bind fun i=>
 bif !i then
 some (false)
 else
 bif e.2 !=b.2 then
 some (false)
 else
 ZiV a
def Zjx (e:Zag) (b:(List ByteArray)×Int) (a:Zl) (c:(List ByteArray)×Int):Option (Bool):=
 (Zc6 (Zag.mk e.Kind e.Size e.Rows)).bind fun f=>
 (ZhX (Zl.mk a.Kind a.Size a.Rows) f).bind fun g=>
 bif !g then
 some (false)
 else
 (ZhW (Zl.mk a.Kind a.Size a.Rows) 1).bind fun h=>
 bif decide (h.1<0) then
 some (false)
 else
 (Zew c.1 b.1).bind fun i=>
 bif !i then
 some (false)
 else
 bif c.2 !=b.2 then
 some (false)
 else
 Zg3 e b c
def ZjW (a:Zag):Option Bool:=
 (ZgM (Zag.mk a.Kind a.Size a.Rows) 1048576).bind fun f=>
 bif decide (f<0) then
 some (true)
 else
 (Zc6 (Zag.mk a.Kind a.Size a.Rows)).bind fun g=>
 (Zhw g).bind fun c=>
 (Zc6 (Zag.mk a.Kind a.Size a.Rows)).bind fun b=>
 (ZbY (Zl.mk b.Kind b.Size b.Rows)).bind fun e=>
 (Zew e.1 c.1).bind fun h=>
 bif !h then
 some (false)
 else
 bif e.2 !=c.2 then
 some (false)
 else
 Zjx a c b e
end
end Go.Proofs.YtghbgeaammnkcaaGreatDoor
