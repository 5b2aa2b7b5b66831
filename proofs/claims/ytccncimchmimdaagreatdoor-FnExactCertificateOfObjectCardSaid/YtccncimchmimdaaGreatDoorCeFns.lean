import Derived.Test.YtccncimchmimdaaGreatDoorPuEvS
import Derived.Test.YtccncimchmimdaaGreatDoorPuFns
namespace Go.Proofs.YtccncimchmimdaaGreatDoor
open Go Go.Vc
set_option linter.unusedVariables false
set_option linter.unusedSimpArgs false
set_option maxRecDepth 20000
noncomputable instance:Frc Zf where
 frc p k:=Zf.rec (fun x0 x1 x2=>Frc.frc x0 fun x0=>Frc.frc x1 fun x1=>Frc.frc x2 fun x2=>k (.mk x0 x1 x2)) p
 ok p k:=by cases p;show Frc.frc _ _=_;simp only [Frc.ok]
theorem θ {p q:Prop} (g:q) (h:q->p:=by intro f;(try simp only [<-cw_ok,<-ZA,<-Zx,<-Zv,<-Zt,<-Zu,<-Zy,<-ZE,GT.gt,GE.ge]);(repeat' (with_reducible first|exact Le.rfl|assumption|apply f.1|apply f.2.1|apply f.2.2.1|apply f.2.2.2.1|apply f.2.2.2.2.1|apply f.2.2.2.2.2.1|apply f.2.2.2.2.2.2.1|apply f|apply f.2|apply f.2.2|apply f.2.2.2|apply f.2.2.2.2|apply f.2.2.2.2.2|apply f.2.2.2.2.2.2|apply f.2.2.2.2.2.2.2|exact ZD _ _ _|exact ZB _ _ _ _|(refine le_if ?_ ?_)|(refine ZC ?_ fun _=>?_)|(refine Zw ?_)|(refine Zz fun _=>?_)))):p:=h g
noncomputable def ZgK (F:Nat) (n0 b a:Int):Option Bool:=
 bif lei (b) (n0) then
  some (lei (n0) (a))
 else
  some (false)
theorem Zn3 {F:Nat} (n0 b a:Int)  :Le (ZgK F n0 b a) (Z2 n0 b a):=by
 unfold ZgK Z2
 exact θ trivial
noncomputable def Znq (F:Nat) (a:Int):Int×Int->Option ((Int×Int) ⊕ ((Int) ⊕ (Int×Int)))
 | (c,b)=>
  bif lti (1) (b) then
   fbind (cNz a) fun _=>
   bif !eqi (Int.tmod b a) (0) then
    some (.inr (.inr ((0,0))))
   else
    fbind (cNz a) fun _=>
    some (.inl (cw (c+1),cw (Int.tdiv b a)))
  else
   some (.inr (.inr ((a,c))))
theorem ZF7 {F:Nat} (a:Int)  (e:_):Le (Znq F a e) (Zmr a e):=by
 obtain ⟨b,c⟩:=e
 unfold Znq Zmr
 exact θ trivial
noncomputable def Zog (F:Nat) (b:Int):Int->Option ((Int) ⊕ (Int×Int))
 | a=>
  fbind (cNz a) fun _=>
  bif !eqi (Int.tmod b a) (0) then
   some (.inl (cw (a+1)))
  else
   lpF F (Znq F a) (0,b)
theorem Zz8 {F:Nat} (a:Int)  (c:_):Le (Zog F a c) (Zkt a c):=by
 unfold Zog Zkt
 exact θ (@ZF7 F)
noncomputable def Zlp (F:Nat) (a:Int):Option (Int×Int):=
 fbind (ZgK F a 2 64) fun r8=>
 bif !r8 then
  some ((0,0))
 else
  lpF F (Zog F a) (2)
theorem Zr {F:Nat} (a:Int)  :Le (Zlp F a) (ZbY a):=by
 unfold Zlp ZbY
 exact θ (And.intro (@Zn3 F) (@Zz8 F))
noncomputable def ZqS (F:Nat) (p1:Int):Int×Int×List Int->Option ((Int×Int×List Int) ⊕ (List Int))
 | (a,b,c)=>
  bif lti (0) (b) then
   fbind (cNz p1) fun _=>
   fbind (cApp 8 c [Int.tmod a p1]) fun e=>
   fbind (cNz p1) fun _=>
   some (.inl (cw (Int.tdiv a p1),cw (b-1),e))
  else
   some (.inr (c))
theorem Zxm {F:Nat} (p1:Int)  (e:_):Le (ZqS F p1 e) (Zdp p1 e):=by
 obtain ⟨a,b,c⟩:=e
 unfold ZqS Zdp
 exact θ trivial
noncomputable def Zk2 (F:Nat) (a p1 n2:Int):Option (List Int):=
 lpF F (ZqS F p1) (a,n2,([]:List Int))
theorem ZtP {F:Nat} (a p1 n2:Int)  :Le (Zk2 F a p1 n2) (Za1 a p1 n2):=by
 unfold Zk2 Za1
 exact θ (@Zxm F)
noncomputable def ZpQ (F:Nat) (c:Int):Int×Int->Option ((Int×Int) ⊕ (Int))
 | (a,b)=>
  bif lti (0) (a) then
   some (.inl (cw (a-1),cw (b*c)))
  else
   some (.inr (b))
theorem Zw8 {F:Nat} (a:Int)  (e:_):Le (ZpQ F a e) (Zk1 a e):=by
 obtain ⟨b,c⟩:=e
 unfold ZpQ Zk1
 exact θ trivial
noncomputable def ZjE (F:Nat) (a k1:Int):Option Int:=
 lpF F (ZpQ F a) (k1,1)
theorem ZnO {F:Nat} (a k1:Int)  :Le (ZjE F a k1) (ZeB a k1):=by
 unfold ZjE ZeB
 exact θ (@Zw8 F)
noncomputable def Zob (F:Nat) (a:List Int):Option (List Int):=
 fbind (cApp 8 ([]:List Int) a) fun b=>
 some (b)
theorem ZCo {F:Nat} (a:List Int)  :Le (Zob F a) (ZaX a):=by
 unfold Zob ZaX
 exact θ trivial
noncomputable def Zpx (F:Nat) (c:List Int) (f e g:Int):Int×List Int->Option ((Int×List Int) ⊕ ((Int×List Int) ⊕ (List Int)))
 | (a,b)=>
  bif lti (a) ((c.length:Int)) then
   fbind (cIdx b (cw ((cw ((cw (e-(c.length:Int)))+1))+a))) fun h=>
   fbind (cIdx c a) fun i=>
   fbind (cNz f) fun _=>
   fbind (cIdx b (cw ((cw ((cw (e-(c.length:Int)))+1))+a))) fun j=>
   some (.inl (cw (a+1),(b.set (cw ((cw ((cw (e-(c.length:Int)))+1))+a):Int).toNat (Int.tmod (cw (h+(cw ((cw (f-g))*i)))) f))))
  else
   some (.inr (.inl (cw (e-1),b)))
theorem ZDL {F:Nat} (b:List Int) (c e a:Int)  (h:_):Le (Zpx F b c e a h) (Zd8 b c e a h):=by
 obtain ⟨g,f⟩:=h
 unfold Zpx Zd8
 exact θ trivial
noncomputable def Zpg (F:Nat) (c:List Int):List Int->Option ((List Int) ⊕ ((Int×List Int) ⊕ (List Int)))
 | a=>
  bif lei ((c.length:Int)) ((a.length:Int)) then
   fbind (cSl a 0 (cw ((a.length:Int)-1))) fun b=>
   some (.inl (b))
  else
   some (.inr (.inr (a)))
theorem ZB4 {F:Nat} (a:List Int)  (c:_):Le (Zpg F a c) (Zcn a c):=by
 unfold Zpg Zcn
 exact θ trivial
noncomputable def ZpG (F:Nat) (a:List Int) (e:Int):Int×List Int->Option ((Int×List Int) ⊕ (List Int))
 | (b,xs)=>
  bif lei ((cw ((a.length:Int)-1))) (b) then
   fbind (cIdx xs b) fun c=>
   lpF F (Zpx F a e b c) (0,xs)
  else
   lpF F (Zpg F a) (xs)
theorem ZyL {F:Nat} (a:List Int) (b:Int)  (e:_):Le (ZpG F a b e) (ZbB a b e):=by
 obtain ⟨c,xs⟩:=e
 unfold ZpG ZbB
 exact θ (And.intro (@ZDL F) (@ZB4 F))
noncomputable def Znn (F:Nat) (b c:List Int) (e:Int):Option (List Int):=
 fbind (Zob F b) fun a=>
 lpF F (ZpG F c e) (cw ((a.length:Int)-1),a)
theorem ZyE {F:Nat} (a b:List Int) (c:Int)  :Le (Znn F a b c) (Zc2 a b c):=by
 unfold Znn Zc2
 exact θ (And.intro (@ZCo F) (@ZyL F))
noncomputable def Zm5 (F:Nat) (b:List Int) (p1:Int):Int×Int->Option ((Int×Int) ⊕ (Int))
 | (a,c)=>
  bif lei (0) (c) then
   fbind (cIdx b c) fun e=>
   some (.inl (cw ((cw (a*p1))+e),cw (c-1)))
  else
   some (.inr (a))
theorem ZCU {F:Nat} (a:List Int) (p1:Int)  (e:_):Le (Zm5 F a p1 e) (Zey a p1 e):=by
 obtain ⟨b,c⟩:=e
 unfold Zm5 Zey
 exact θ trivial
noncomputable def ZmP (F:Nat) (a:List Int) (p1:Int):Option Int:=
 lpF F (Zm5 F a p1) (0,cw ((a.length:Int)-1))
theorem Zwk {F:Nat} (a:List Int) (p1:Int)  :Le (ZmP F a p1) (Za6 a p1):=by
 unfold ZmP Za6
 exact θ (@ZCU F)
noncomputable def Zn4 (F:Nat) (a:List Int) (p1 b:Int):Int->Option ((Int) ⊕ ((Int) ⊕ (Bool)))
 | c=>
  fbind (ZjE F p1 b) fun e=>
  bif lti (c) (e) then
   fbind (Zk2 F c p1 b) fun f=>
   fbind (cApp 8 f [1]) fun g=>
   fbind (Znn F a g p1) fun h=>
   fbind (ZmP F h p1) fun i=>
   bif eqi (i) (0) then
    some (.inr (.inr (false)))
   else
    some (.inl (cw (c+1)))
  else
   some (.inr (.inl (cw (b+1))))
theorem ZEC {F:Nat} (a:List Int) (p1 b:Int)  (c:_):Le (Zn4 F a p1 b c) (ZlM a p1 b c):=by
 unfold Zn4 ZlM
 exact θ (And.intro (@ZnO F)<|And.intro (@ZtP F)<|And.intro (@ZyE F) (@Zwk F))
noncomputable def Zpp (F:Nat) (a:List Int) (p1:Int):Int->Option ((Int) ⊕ (Bool))
 | b=>
  bif lei (cw (2*b)) ((cw ((a.length:Int)-1))) then
   lpF F (Zn4 F a p1 b) (0)
  else
   some (.inr (true))
theorem Zx7 {F:Nat} (a:List Int) (p1:Int)  (c:_):Le (Zpp F a p1 c) (Zki a p1 c):=by
 unfold Zpp Zki
 exact θ (@ZEC F)
noncomputable def ZkI (F:Nat) (a:List Int) (p1:Int):Option Bool:=
 lpF F (Zpp F a p1) (1)
theorem ZsU {F:Nat} (a:List Int) (p1:Int)  :Le (ZkI F a p1) (Zgr a p1):=by
 unfold ZkI Zgr
 exact θ (@Zx7 F)
noncomputable def ZnA (F:Nat) (a:Int×Int):Int->Option ((Int) ⊕ (Zf))
 | c=>
  fbind (Zk2 F c a.1 a.2) fun e=>
  fbind (cApp 8 e [1]) fun b=>
  fbind (ZkI F b a.1) fun f=>
  bif f then
   some (.inr ((Zf.mk a.1 a.2 b)))
  else
   some (.inl (cw (c+1)))
theorem Zxv {F:Nat} (a:Int×Int)  (c:_):Le (ZnA F a c) (ZkS a c):=by
 unfold ZnA ZkS
 exact θ (And.intro (@ZtP F) (@ZsU F))
noncomputable def Zu7 (F:Nat) (a:Int):Option Zf:=
 fbind (Zlp F a) fun b=>
 lpF F (ZnA F b) (0)
theorem Zad {F:Nat} (a:Int)  :Le (Zu7 F a) (Zff a):=by
 unfold Zu7 Zff
 exact θ (And.intro (@Zr F) (@Zxv F))
noncomputable def Zn6 (F:Nat) (b:Zf) (a:Int×Int):Int->Option ((Int) ⊕ (Bool))
 | c=>
  bif lti (c) ((b.Poly.length:Int)) then
   fbind (cIdx b.Poly c) fun e=>
   fbind (ZgK F e 0 (cw (a.1-1))) fun f=>
   bif !f then
    some (.inr (false))
   else
    some (.inl (cw (c+1)))
  else
   fbind (ZkI F b.Poly a.1) fun g=>
   some (.inr (g))
theorem Zyg {F:Nat} (b:Zf) (a:Int×Int)  (c:_):Le (Zn6 F b a c) (Zj0 b a c):=by
 unfold Zn6 Zj0
 exact θ (And.intro (@Zn3 F) (@ZsU F))
noncomputable def ZoE (F:Nat) (a:Zf):Option (Bool):=
 fbind (ZjE F a.Prime a.Degree) fun c=>
 fbind (Zlp F c) fun b=>
 bif !eqi (b.1) (a.Prime) then
  some (false)
 else
  lpF F (Zn6 F a b) (0)
theorem ZFA {F:Nat} (a:Zf)  :Le (ZoE F a) (Zg7 a):=by
 unfold ZoE Zg7
 exact θ (And.intro (@ZnO F)<|And.intro (@Zr F) (@Zyg F))
noncomputable def Zsf (F:Nat) (a:Zf):Option Bool:=
 fbind (ZgK F a.Prime 2 64) fun b=>
 bif !b then
  some (false)
 else
  fbind (ZgK F a.Degree 1 6) fun c=>
  bif !c then
   some (false)
  else
   bif !eqi ((a.Poly.length:Int)) ((cw (a.Degree+1))) then
    some (false)
   else
    fbind (cIdx a.Poly a.Degree) fun e=>
    bif !eqi (e) (1) then
     some (false)
    else
     ZoE F a
theorem Z8 {F:Nat} (a:Zf)  :Le (Zsf F a) (ZgB a):=by
 unfold Zsf ZgB
 exact θ (And.intro (@Zn3 F) (@ZFA F))
noncomputable def ZtY (F:Nat) (a:Zf):Option Int:=
 fbind (ZjE F a.Prime a.Degree) fun b=>
 some (b)
theorem Z9 {F:Nat} (a:Zf)  :Le (ZtY F a) (Za8 a):=by
 unfold ZtY Za8
 exact θ (@ZnO F)
noncomputable def Zl9 (F:Nat) (n0 b a:Int):Option Bool:=
 bif lei (b) (n0) then
  some (lei (n0) (a))
 else
  some (false)
theorem Zvf {F:Nat} (n0 b a:Int)  :Le (Zl9 F n0 b a) (Zab n0 b a):=by
 unfold Zl9 Zab
 exact θ trivial
noncomputable def Zng (F:Nat) (a:List Int):Option (List Int):=cApp 8 [] a
theorem Zy4 {F:Nat} (a:List Int)  :Le (Zng F a) (ZbX a):=by
 unfold Zng ZbX
 exact θ trivial
noncomputable def Ziz (F:Nat) (a:List Int):Option Int:=
 some ((a.length:Int))
theorem ZoF {F:Nat} (a:List Int)  :Le (Ziz F a) (ZX a):=by
 unfold Ziz ZX
 exact θ trivial
noncomputable def Zph (F:Nat) (b:List Int) (c:Int->Option Bool):Int->Option ((Int) ⊕ (Int))
 | a=>
  bif lti (a) ((b.length:Int)) then
   fbind (cIdx b a) fun e=>
   fbind (c e) fun f=>
   bif f then
    some (.inr (a))
   else
    some (.inl (cw (a+1)))
  else
   some (.inr ((-1)))
theorem ZCI {F:Nat} (c:List Int) (a g:Int->Option Bool) (b:∀ e,Le (a e) (g e)) (h:_):Le (Zph F c a h) (Zd2 c g h):=by
 unfold Zph Zd2
 try simp only [<-cw_ok,<-ZA,<-Zx,<-Zv,<-Zt,<-Zu,<-Zy,<-ZE,GT.gt,GE.ge]
 repeat' (with_reducible first|exact Le.rfl|assumption|exact ZD _ _ _|exact ZB _ _ _ _|(refine le_if ?_ ?_)|(refine ZC ?_ fun _=>?_)|(refine Zw ?_)|(refine Zz fun _=>?_))
 all_goals (first|exact b _|skip)
noncomputable def ZpI (F:Nat) (b:List Int) (a:Int->Option Bool):Option Int:=
 lpF F (Zph F b a) (0)
theorem Zv3 {F:Nat} (c:List Int) (a g:Int->Option Bool) (b:∀ e,Le (a e) (g e)):Le (ZpI F c a) (Zhx c g):=by
 unfold ZpI Zhx
 try simp only [<-cw_ok,<-ZA,<-Zx,<-Zv,<-Zt,<-Zu,<-Zy,<-ZE,GT.gt,GE.ge]
 repeat' (with_reducible first|exact Le.rfl|assumption|(refine ZCI _ _ _ ?_ _;intros)|exact ZD _ _ _|exact ZB _ _ _ _|(refine le_if ?_ ?_)|(refine ZC ?_ fun _=>?_)|(refine Zw ?_)|(refine Zz fun _=>?_))
 all_goals (first|exact b _|skip)
noncomputable def Zna (F:Nat) (b:List Int) (a:Int->Option Bool):Option Bool:=
 fbind (ZpI F b a) fun c=>
 some (lei (0) (c))
theorem Zxt {F:Nat} (c:List Int) (a g:Int->Option Bool) (b:∀ e,Le (a e) (g e)):Le (Zna F c a) (ZaT c g):=by
 unfold Zna ZaT
 try simp only [<-cw_ok,<-ZA,<-Zx,<-Zv,<-Zt,<-Zu,<-Zy,<-ZE,GT.gt,GE.ge]
 repeat' (with_reducible first|exact Le.rfl|assumption|(refine Zv3 _ _ _ ?_;intros)|exact ZD _ _ _|exact ZB _ _ _ _|(refine le_if ?_ ?_)|(refine ZC ?_ fun _=>?_)|(refine Zw ?_)|(refine Zz fun _=>?_))
 all_goals (first|exact b _|skip)
noncomputable def Zox (F:Nat) (a b c:Int):Option ((Int×Int) ⊕ (Int)):=
 some (.inl (cw (b-1),cw (c*a)))
theorem ZD7 {F:Nat} (a b c:Int)  :Le (Zox F a b c) (ZeY a b c):=by
 unfold Zox ZeY
 exact θ trivial
noncomputable def ZqH (F:Nat) (b c:Int):Int×Int->Option ((Int×Int) ⊕ (Int))
 | (a,power7)=>
  bif lti (0) (a) then
   bif lei (power7) (c) then
    Zox F b a power7
   else
    some (.inr (power7))
  else
   some (.inr (power7))
theorem ZCl {F:Nat} (a c:Int)  (e:_):Le (ZqH F a c e) (ZaR a c e):=by
 obtain ⟨b,g⟩:=e
 unfold ZqH ZaR
 exact θ (@ZD7 F)
noncomputable def Zij (F:Nat) (a b c:Int):Option Int:=
 lpF F (ZqH F a c) (b,1)
theorem ZnF {F:Nat} (a b c:Int)  :Le (Zij F a b c) (Za5 a b c):=by
 unfold Zij Za5
 exact θ (@ZCl F)
noncomputable def Zum (F:Nat) (a:Zf):Option Int:=
 fbind (Zij F a.Prime a.Degree 64) fun b=>
 some (b)
theorem Zaa {F:Nat} (a:Zf)  :Le (Zum F a) (Za2 a):=by
 unfold Zum Za2
 exact θ (@ZnF F)
noncomputable def Zm3 (F:Nat) (a:Int) (e:List Int):Int×Int×List Int->Option ((Int×Int×List Int) ⊕ (List Int))
 | (c,b,xs)=>
  bif lti (b) ((e.length:Int)) then
   fbind (cNz a) fun _=>
   fbind (cIdx xs b) fun f=>
   fbind (cNz a) fun _=>
   some (.inl (cw (Int.tdiv c a),cw (b+1),(xs.set (b:Int).toNat (Int.tmod c a))))
  else
   some (.inr (xs))
theorem ZEU {F:Nat} (a:Int) (b:List Int)  (g:_):Le (Zm3 F a b g) (ZcC a b g):=by
 obtain ⟨c,e,xs⟩:=g
 unfold Zm3 ZcC
 exact θ trivial
noncomputable def ZiE (F:Nat) (n0 a c:Int):Option (List Int):=
 fbind (cMake 8 (0:Int) c c) fun b=>
 lpF F (Zm3 F a b) (n0,0,b)
theorem Zt2 {F:Nat} (n0 a c:Int)  :Le (ZiE F n0 a c) (ZaS n0 a c):=by
 unfold ZiE ZaS
 exact θ (@ZEU F)
noncomputable def Zqk (F:Nat) (c:List Int) (e f g:Int):Int×List Int->Option ((Int×List Int) ⊕ ((Int×List Int) ⊕ (List Int)))
 | (a,b)=>
  bif lti (a) ((c.length:Int)) then
   fbind (cIdx c a) fun h=>
   fbind (cIdx b (cw ((cw (f-(cw ((c.length:Int)-1))))+a))) fun i=>
   fbind (cNz e) fun _=>
   fbind (cNz e) fun _=>
   fbind (cIdx b (cw ((cw (f-(cw ((c.length:Int)-1))))+a))) fun j=>
   some (.inl (cw (a+1),(b.set (cw ((cw (f-(cw ((c.length:Int)-1))))+a):Int).toNat (Int.tmod (cw ((Int.tmod (cw (i-(cw (g*h)))) e)+e)) e))))
  else
   some (.inr (.inl (cw (f-1),b)))
theorem ZD0 {F:Nat} (b:List Int) (c e a:Int)  (h:_):Le (Zqk F b c e a h) (ZeT b c e a h):=by
 obtain ⟨g,f⟩:=h
 unfold Zqk ZeT
 exact θ trivial
noncomputable def Zqe (F:Nat) (a:List Int) (f:Int):Int×List Int->Option ((Int×List Int) ⊕ (List Int))
 | (b,xs)=>
  bif lei ((cw ((a.length:Int)-1))) (b) then
   fbind (cIdx xs b) fun c=>
   lpF F (Zqk F a f b c) (0,xs)
  else
   fbind (cSl xs 0 (if ((xs.length:Int):Int)<(cw ((a.length:Int)-1)) then (xs.length:Int) else cw ((a.length:Int)-1))) fun e=>
   some (.inr (e))
theorem ZEG {F:Nat} (a:List Int) (b:Int)  (e:_):Le (Zqe F a b e) (Zbz a b e):=by
 obtain ⟨c,xs⟩:=e
 unfold Zqe Zbz
 exact θ (@ZD0 F)
noncomputable def Zpo (F:Nat) (b c:List Int) (e:Int):Option (List Int):=
 fbind (Zng F b) fun a=>
 lpF F (Zqe F c e) (cw ((a.length:Int)-1),a)
theorem Zxh {F:Nat} (a b:List Int) (c:Int)  :Le (Zpo F a b c) (ZcJ a b c):=by
 unfold Zpo ZcJ
 exact θ (And.intro (@Zy4 F) (@ZEG F))
noncomputable def Zqw (F:Nat) (a:Int):Option Bool:=
 some (!eqi (a) (0))
theorem ZDC {F:Nat} (a:Int)  :Le (Zqw F a) (Zip a):=by
 unfold Zqw Zip
 exact θ trivial
noncomputable def Zny (F:Nat) (a:List Int):Option Bool:=
 fbind (Zna F a (fun b=>Zqw F b)) fun c=>
 some (!c)
theorem ZCH {F:Nat} (a:List Int)  :Le (Zny F a) (ZhI a):=by
 unfold Zny ZhI
 try simp only [<-cw_ok,<-ZA,<-Zx,<-Zv,<-Zt,<-Zu,<-Zy,<-ZE,GT.gt,GE.ge]
 repeat' (with_reducible first|exact Le.rfl|assumption|(refine Zxt _ _ _ ?_;intros)|exact ZDC _|exact ZD _ _ _|exact ZB _ _ _ _|(refine le_if ?_ ?_)|(refine ZC ?_ fun _=>?_)|(refine Zw ?_)|(refine Zz fun _=>?_))
noncomputable def Zol (F:Nat) (a:List Int) (p1 b:Int):Int->Option ((Int) ⊕ ((Int) ⊕ (Bool)))
 | c=>
  fbind (Zij F p1 b 64) fun e=>
  bif lti (c) (e) then
   fbind (ZiE F c p1 b) fun f=>
   fbind (cApp 8 f [1]) fun g=>
   fbind (Zpo F a g p1) fun h=>
   fbind (Zny F h) fun i=>
   bif i then
    some (.inr (.inr (false)))
   else
    some (.inl (cw (c+1)))
  else
   some (.inr (.inl (cw (b+1))))
theorem ZGd {F:Nat} (a:List Int) (p1 b:Int)  (c:_):Le (Zol F a p1 b c) (ZlX a p1 b c):=by
 unfold Zol ZlX
 exact θ (And.intro (@ZnF F)<|And.intro (@Zt2 F)<|And.intro (@Zxh F) (@ZCH F))
noncomputable def Znz (F:Nat) (a:List Int) (p1 c:Int):Int->Option ((Int) ⊕ (Bool))
 | b=>
  bif lei (cw (2*b)) ((cw (c-1))) then
   lpF F (Zol F a p1 b) (0)
  else
   some (.inr (true))
theorem ZDX {F:Nat} (a:List Int) (p1 b:Int)  (c:_):Le (Znz F a p1 b c) (Zme a p1 b c):=by
 unfold Znz Zme
 exact θ (@ZGd F)
noncomputable def ZlZ (F:Nat) (a:List Int) (p1:Int):Option Bool:=
 fbind (Ziz F a) fun b=>
 lpF F (Znz F a p1 b) (1)
theorem Zu4 {F:Nat} (a:List Int) (p1:Int)  :Le (ZlZ F a p1) (Zgq a p1):=by
 unfold ZlZ Zgq
 exact θ (And.intro (@ZoF F) (@ZDX F))
noncomputable def Zpq (F:Nat) (b:Int):Int×List Int->Option ((Int×List Int) ⊕ ((Int×List Int×Int) ⊕ (List Int)))
 | (a,factor3_2)=>
  fbind (cNz b) fun _=>
  bif eqi (Int.tmod a b) (0) then
   fbind (cApp 8 factor3_2 [b]) fun c=>
   fbind (cNz b) fun _=>
   some (.inl (cw (Int.tdiv a b),c))
  else
   some (.inr (.inl (a,factor3_2,cw (b+1))))
theorem ZxY {F:Nat} (a:Int)  (e:_):Le (Zpq F a e) (Zc7 a e):=by
 obtain ⟨b,c⟩:=e
 unfold Zpq Zc7
 exact θ trivial
noncomputable def Zn0 (F:Nat):Int×List Int×Int->Option ((Int×List Int×Int) ⊕ (List Int))
 | (a,factor3,b)=>
  bif lei (cw (b*b)) (a) then
   lpF F (Zpq F b) (a,factor3)
  else
   bif lti (1) (a) then
    fbind (cApp 8 factor3 [a]) fun c=>
    some (.inr (c))
   else
    some (.inr (factor3))
theorem ZAt {F:Nat}   (c:_):Le (Zn0 F  c) (Zbi  c):=by
 obtain ⟨a,e,b⟩:=c
 unfold Zn0 Zbi
 exact θ (@ZxY F)
noncomputable def ZlO (F:Nat) (n0:Int):Option (List Int):=
 fbind (Zl9 F n0 1 1000000) fun a=>
 bif !a then
  some (([]:List Int))
 else
  lpF F (Zn0 F) (n0,([]:List Int),2)
theorem Zva {F:Nat} (n0:Int)  :Le (ZlO F n0) (Zb1 n0):=by
 unfold ZlO Zb1
 try simp only [<-cw_ok,<-ZA,<-Zx,<-Zv,<-Zt,<-Zu,<-Zy,<-ZE,GT.gt,GE.ge]
 repeat' (with_reducible first|exact Le.rfl|assumption|exact Zvf _ _ _|exact ZAt  _|exact ZD _ _ _|exact ZB _ _ _ _|(refine le_if ?_ ?_)|(refine ZC ?_ fun _=>?_)|(refine Zw ?_)|(refine Zz fun _=>?_))
noncomputable def ZoP (F:Nat) (n0:Int):Option Bool:=
 fbind (ZlO F n0) fun a=>
 some (eqi ((a.length:Int)) (1))
theorem ZF4 {F:Nat} (n0:Int)  :Le (ZoP F n0) (ZiR n0):=by
 unfold ZoP ZiR
 exact θ (@Zva F)
noncomputable def Znk (F:Nat) (a:Zf):Int->Option ((Int) ⊕ (Bool))
 | b=>
  bif lti (b) ((a.Poly.length:Int)) then
   fbind (cIdx a.Poly b) fun c=>
   fbind (Zl9 F c 0 (cw (a.Prime-1))) fun e=>
   bif !e then
    some (.inr (false))
   else
    some (.inl (cw (b+1)))
  else
   fbind (ZlZ F a.Poly a.Prime) fun f=>
   some (.inr (f))
theorem Zzt {F:Nat} (a:Zf)  (c:_):Le (Znk F a c) (ZlP a c):=by
 unfold Znk ZlP
 exact θ (And.intro (@Zvf F) (@Zu4 F))
noncomputable def ZoZ (F:Nat) (a:Zf):Option (Bool):=
 lpF F (Znk F a) (0)
theorem ZzG {F:Nat} (a:Zf)  :Le (ZoZ F a) (Zh0 a):=by
 unfold ZoZ Zh0
 exact θ (@Zzt F)
noncomputable def ZoQ (F:Nat) (a:Zf):Option (Bool):=
 fbind (Ziz F a.Poly) fun b=>
 bif !eqi (b) ((cw (a.Degree+1))) then
  some (false)
 else
  fbind (cIdx a.Poly a.Degree) fun c=>
  bif !eqi (c) (1) then
   some (false)
  else
   ZoZ F a
theorem ZAE {F:Nat} (a:Zf)  :Le (ZoQ F a) (ZiA a):=by
 unfold ZoQ ZiA
 exact θ (And.intro (@ZoF F) (@ZzG F))
noncomputable def ZsC (F:Nat) (a:Zf):Option Bool:=
 fbind (ZoP F a.Prime) fun c=>
 bif !c then
  some (false)
 else
  bif lti (a.Degree) (1) then
   some (false)
  else
   fbind (Zij F a.Prime a.Degree 64) fun b=>
   bif lti (64) (b) then
    some (false)
   else
    ZoQ F a
theorem Zac {F:Nat} (a:Zf)  :Le (ZsC F a) (ZgH a):=by
 unfold ZsC ZgH
 exact θ (And.intro (@ZF4 F)<|And.intro (@ZnF F) (@ZAE F))
noncomputable def ZnN (F:Nat) (r8:List Int):Int->Option ((Int) ⊕ (Int×Int))
 | a=>
  bif lti (a) ((r8.length:Int)) then
   fbind (cIdx r8 a) fun b=>
   fbind (cIdx r8 0) fun c=>
   bif !eqi (b) (c) then
    some (.inr ((0,0)))
   else
    some (.inl (cw (a+1)))
  else
   bif eqi ((r8.length:Int)) (0) then
    some (.inr ((0,0)))
   else
    fbind (Ziz F r8) fun e=>
    fbind (cIdx r8 0) fun f=>
    some (.inr ((f,e)))
theorem ZBj {F:Nat} (r8:List Int)  (a:_):Le (ZnN F r8 a) (ZbC r8 a):=by
 unfold ZnN ZbC
 exact θ (@ZoF F)
noncomputable def ZqR (F:Nat) (n0:Int):Option (Int×Int):=
 fbind (ZlO F n0) fun r8=>
 lpF F (ZnN F r8) (0)
theorem ZtS {F:Nat} (n0:Int)  :Le (ZqR F n0) (Zb2 n0):=by
 unfold ZqR Zb2
 exact θ (And.intro (@Zva F) (@ZBj F))
noncomputable def Zo9 (F:Nat) (a:Int×Int):Int->Option ((Int) ⊕ (Zf×Int))
 | b=>
  fbind (ZiE F b a.1 a.2) fun c=>
  fbind (cApp 8 c [1]) fun e=>
  fbind (ZlZ F e a.1) fun f=>
  bif !f then
   some (.inl (cw (b+1)))
  else
   fbind (ZiE F b a.1 a.2) fun g=>
   fbind (cApp 8 g [1]) fun h=>
   some (.inr (((Zf.mk a.1 a.2 h),0)))
theorem Zwd {F:Nat} (a:Int×Int)  (c:_):Le (Zo9 F a c) (Zmb a c):=by
 unfold Zo9 Zmb
 exact θ (And.intro (@Zt2 F) (@Zu4 F))
noncomputable def ZqP (F:Nat) (a:Int×Int):Option (Zf×Int):=
 lpF F (Zo9 F a) (0)
theorem Zys {F:Nat} (a:Int×Int)  :Le (ZqP F a) (ZiV a):=by
 unfold ZqP ZiV
 exact θ (@Zwd F)
noncomputable def Zvl (F:Nat) (a:Int):Option (Zf×Int):=
 fbind (ZqR F a) fun b=>
 bif eqi (b.1) (0) then
  some (((Zf.mk 0 0 ([]:List Int)),2))
 else
  bif lti (64) (a) then
   some (((Zf.mk 0 0 ([]:List Int)),2))
  else
   ZqP F b
theorem Zs {F:Nat} (a:Int)  :Le (Zvl F a) (ZbI a):=by
 unfold Zvl ZbI
 exact θ (And.intro (@ZtS F) (@Zys F))
end Go.Proofs.YtccncimchmimdaaGreatDoor
