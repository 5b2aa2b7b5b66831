import Derived.Test.YtccncimchmimdaaGreatDoorVcTxt
import Derived.Test.YtccncimchmimdaaGreatDoorVcQ
import Derived.Test.YtccncimchmimdaaGreatDoorPuFns
import Derived.Test.YtccncimchmimdaaGreatDoorVcFns
import Derived.Test.YtccncimchmimdaaGreatDoorVcFld
import Derived.Test.YtccncimchmimdaaGreatDoorVcCl
import Derived.Test.YtccncimchmimdaaGreatDoorVcCpt
import Derived.Test.YtccncimchmimdaaGreatDoorVcGrow
import Derived.Test.YtccncimchmimdaaGreatDoorVcSortI
import Derived.Test.YtccncimchmimdaaGreatDoorVcSortK
import Derived.Test.YtccncimchmimdaaGreatDoorVcLay
open Go.IntKind renaming i64->ε
namespace Go.Proofs.YtccncimchmimdaaGreatDoor
open Go Go.Vc
set_option linter.unusedVariables false
set_option linter.unusedSimpArgs false
set_option maxRecDepth 20000
def ZtU:El Zan:=El.iso (El.pair eI (El.pair eI (El.sl eL))) (fun x=>(x.Kind,x.Size,x.Rows)) (Zan.mk (0:Int) (0:Int) ([]:List (List Int))) rfl
theorem Zxr {j:CM} {L:Rws} {cs:List Value} {x:Zan} (h:ZtU.R j L cs x):∃ f:Value,cs=[.int .i64 x.Kind,.int .i64 x.Size,f]/\SlC j eL f x.Rows:=by
  obtain ⟨_,_,_,_,rfl,_,a,b⟩:=h;obtain ⟨_,rfl⟩:=a;obtain ⟨_,_,_,_,rfl,_,c,e⟩:=b;obtain ⟨_,rfl⟩:=c;obtain ⟨_,g,rfl,i⟩:=e;exact ⟨g,rfl,i⟩
def Zh:El Zd:=El.iso (El.pair eI eI) (fun x=>(x.A,x.B)) (Zd.mk (0:Int) (0:Int)) rfl
theorem frzf_T_impl_Edge:Frz Zh Zh:=Zx3 (ZED (Za _) (Za _))
theorem Zof:Plain Zh:=ZAQ (ZwY (Zbe _) (Zbe _))
theorem Zay {c:CM} {L:Rws} {cs:List Value} {x:Zd} (h:Zh.R c L cs x):cs=[.int .i64 x.A,.int .i64 x.B]:=by
  obtain ⟨_,_,_,_,rfl,_,a,b⟩:=h;obtain ⟨_,rfl⟩:=a;obtain ⟨_,rfl⟩:=b;rfl
abbrev zR (f:FuncId) (a:Array Value) (h:Heap) (ψ:CM) (u:Value):Prop:=CallsH P f a h fun v h'=>v=u/\S ψ h h' []
abbrev zL {α:Type} (f:FuncId) (a:Array Value) (h:Heap) (ψ:CM) (E:El α) (r:List α):Prop:=CallsH P f a h fun v h'=>∃ w0:Value,v=w0/\S ψ h h' [.it (El.ow E) [w0] r]
section
variable {ψ:CM} {h:Heap} (hψ:CLe ψ (hcell h))
include hψ
theorem Zzu {b v0 a r} (D:ZeX b a=some r) (c:SlC (hcell h) eI v0 b):zR 20 #[v0,.int .i64 a] h ψ (.int .i64 r):=by
 apply ZCv;rw [ZeX] at D;have C:=sZ hψ;refine vL c C.le ?_;exact brQ D (fun D=>tZ) fun D=>tZ
theorem ZBo {i v0 b r} (D:Zhl i b=some r) (c:SlC (hcell h) eL v0 i):zR 9 #[v0,.int .i64 b] h ψ (.int .i64 r):=by
 apply ZB2;rw [Zhl] at D;have C:=sZ hψ;refine vL c C.le<|brQ D (fun D=>tZ) fun D=>lp2 D (nlS C) fun m g t j a C D I=>?_;rw [Zik] at D;refine vL c C.le<|brR D (fun D=>tZ) fun D=>ixV c C.le D fun k l f D=>cl0 D C (fun s _ _ e=>Zzu s.fle e (f.mono C.le)) fun o p C D=>⟨_,rfl,?_⟩;exact brQ D (fun D=>tZ) fun D=>tZ
theorem ZEv {c b a r} (D:Zit c a=some r) (e:SlC (hcell h) eL b c.Rows):zR 4 #[.agg #[.int .i64 c.Kind,.int .i64 c.Size,b],.int .i64 a] h ψ (.int .i64 r):=by
 apply ZEl;rw [Zit] at D;have C:=sZ hψ;refine new_S C fun j g C=>bV C 0 2<|cl0 D C (fun s _ _ f=>ZBo s.fle f (e.mono C.le)) fun r8 i C D=>⟨_,rfl,?_⟩;exact brQ D (fun D=>tZ) fun D=>tZ
theorem Zas {n0 b a r} (D:Z2 n0 b a=some r)  :zR 11 #[.int .i64 n0,.int .i64 b,.int .i64 a] h ψ (.bool r):=by
 apply ZFU;rw [Z2] at D;have C:=sZ hψ;exact brQ D (fun D=>tZ) fun D=>tZ
theorem ZtW {b v0 n1 r} (D:Zgm b n1=some r) (c:SlC (hcell h) eI v0 b):zR 71 #[v0,.int .i64 n1] h ψ (.bool r):=by
 apply ZDq;rw [Zgm] at D;have C:=sZ hψ;refine lp1 D (nlS C) fun m g e a C D I=>?_;rw [Zga] at D;refine vL c C.le<|brR D (fun D=>tZ) fun D=>ixI (c.mono C.le) D fun f D=>?_;exact brQ D (fun D=>tZ) fun D=>tZ
theorem Zow {i v0 r} (D:ZdG i=some r) (b:SlC (hcell h) eI v0 i):zR 56 #[v0] h ψ (.bool r):=by
 apply ZFt;rw [ZdG] at D;have C:=sZ hψ;refine vL b C.le<|brQ D (fun D=>tZ) fun D=>lp1 D (nlS C) fun m k l a C D I=>?_;rw [ZfG] at D;refine vL b C.le<|brR D (fun D=>tZ) fun D=>ixI (b.mono C.le) D fun o D=>vL b C.le<|cl0 D C (fun s _ _ c=>Zas s.fle c) fun p t C D=>⟨_,rfl,?_⟩;refine brQ D (fun D=>tZ) fun D=>?_;obtain ⟨u,e,D⟩:=obind D;refine Zjs none (some k) b e rfl fun v f=>ixI (b.mono C.le) D fun w D=>cl0 D C (fun j _ _ g=>ZtW j.fle g (f.mono C.le)) fun x y C D=>⟨_,rfl,?_⟩;exact brQ D (fun D=>tZ) fun D=>tZ
theorem ZsG {i v0 r} (D:Zgn i=some r) (j:SlC (hcell h) eL v0 i):zR 21 #[v0] h ψ (.bool r):=by
 apply ZGB;rw [Zgn] at D;have C:=sZ hψ;refine vL j C.le<|⟨fun k=>S ψ h k []/\Zky i=some r,?_,?_⟩
 ·refine brQ D (fun D=>tZ) fun D=>?_;exact brQ D (fun D=>tZ) fun D=>tZ
 ·rintro _ k ⟨C,D⟩;rw [Zky] at D;refine lp1 D (nlS C) fun m x4 a7 a C D I=>?_;rw [Zgs] at D;refine brQ D (fun D=>?_) fun D=>?_
  ·refine ixV j C.le D fun a8 a9 f D=>vL f C.le<|brQ D (fun D=>tZ) fun D=>ixV j C.le D fun aa ab v D=>cl0 D C (fun s _ _ p=>Zow s.fle p (v.mono C.le)) fun ac ad C D=>⟨_,rfl,?_⟩;exact brQ D (fun D=>tZ) fun D=>tZ
  ·refine lp1 D (nlS C) fun w y5 ae x C D b=>?_;rw [Zd1] at D;refine brQ D (fun D=>?_) fun D=>?_
   ·refine ZR (E:=eI) (css:=[]) (xs:=([]:List Int)) C (fun _=>rfl) rfl rfl fun af ag C=>?_;obtain ⟨y,c⟩:=Zl D;refine ⟨fun l v6 x7 o=>∃ e:List Int,S ψ h o [.it oL [v6] e]/\loopN (Zdz i y5) l (e,x7)=some x,⟨y,_,pk C [0],c⟩,?_⟩;rintro l _ v6 x7 o ⟨e,C,c⟩;obtain ⟨a3,ah,rfl,D,g⟩:=Zk c;rw [Zdz] at D;refine brQ D (fun D=>?_) fun D=>?_
    ·refine ixV j C.le D fun ai aj a4 D=>ixI (a4.mono C.le) D fun ak D=>?_;obtain ⟨al,t,D⟩:=obind D;refine ZP C 0 rfl (fun _=>⟨rfl,rfl⟩) rfl rfl t fun am an C=>?_;dsimp at C;obtain rfl:=oI D;exact ⟨a3,ltS,_,pk C [0],g⟩
    ·refine cl0 D C (fun a5 _ _ u=>Zow a5.fle u (C.rdL 0 rfl (Za _))) fun ao ap C D=>⟨_,rfl,?_⟩;refine brQ D (fun D=>?_) fun D=>?_
     ·obtain rfl:=oI D;obtain rfl:=oI g;obtain rfl:=oI b;obtain rfl:=oI I;exact ⟨rfl,nlS C⟩
     ·obtain rfl:=oI D;obtain rfl:=oI g;exact ⟨w,ltS,nlS C,b⟩
   ·obtain rfl:=oI D;obtain rfl:=oI b;obtain rfl:=oI I;exact ⟨rfl,nlS C⟩
theorem ZDN {b v0 e c r} (D:Zih b e c=some r) (f:SlC (hcell h) eI v0 b):zR 107 #[v0,.int .i64 e,.int .i64 c] h ψ (.bool r):=by
 apply ZCf;rw [Zih] at D;have C:=sZ hψ;refine lp1 D (nlS C) fun m t i a C D I=>?_;rw [ZdN] at D;refine vL f C.le<|brR D (fun D=>tZ) fun D=>ixI (f.mono C.le) D fun j D=>cl0 D C (fun s _ _ g=>Zas s.fle g) fun k l C D=>⟨_,rfl,?_⟩;refine brQ D (fun D=>tZ) fun D=>brR D (fun D=>tZ) fun D=>ixI (f.mono C.le) D fun o D=>ixI (f.mono C.le) D fun p D=>?_;exact brQ D (fun D=>tZ) fun D=>tZ
theorem ZGx {a v0 points1 r} (D:ZjD a points1=some r) (b:SlC (hcell h) eI v0 a):zR 57 #[v0,.int .i64 points1] h ψ (.bool r):=by
 apply Zzs;rw [ZjD] at D;have C:=sZ hψ;refine vL b C.le<|brR D (fun D=>tZ) fun D=>cl0 D C (fun s _ _ c=>ZDN s.fle c (b.mono C.le)) fun e f C D=>⟨_,rfl,?_⟩;exact tZ
theorem ZdR {e v0 f v1 r} (D:Zbn e f=some r) (b:SlC (hcell h) eI v0 e) (c:SlC (hcell h) eI v1 f):zR 58 #[v0,v1] h ψ (.int .i64 r):=by
 apply ZvY;rw [Zbn] at D;have C:=sZ hψ;refine ⟨fun g=>S ψ h g []/\ZeU e f=some r,?_,?_⟩
 ·refine lp1 D (nlS C) fun m k o a C D I=>?_;rw [Zcl] at D;refine ⟨fun i=>S ψ h i []/\ZgI e f k=some a,?_,?_⟩
  ·refine vL b C.le<|brQ D (fun D=>?_) fun D=>?_
   ·refine vL c C.le<|brQ D (fun D=>tZ) fun D=>?_;obtain ⟨l,j,rfl⟩:=omap D;obtain rfl:=oI I;exact ⟨nlS C,j⟩
   ·obtain ⟨l,j,rfl⟩:=omap D;obtain rfl:=oI I;exact ⟨nlS C,j⟩
  ·rintro _ i ⟨C,D⟩;rw [ZgI] at D;refine ixI (b.mono C.le) D fun p D=>ixI (c.mono C.le) D fun s D=>brQ D (fun D=>tZ) fun D=>ixI (b.mono C.le) D fun t D=>ixI (c.mono C.le) D fun u D=>?_;exact brQ D (fun D=>tZ) fun D=>tZ
 ·rintro _ g ⟨C,D⟩;rw [ZeU] at D;refine vL b C.le<|vL c C.le<|brQ D (fun D=>tZ) fun D=>vL b C.le<|vL c C.le ?_;exact brQ D (fun D=>tZ) fun D=>tZ
theorem ZET {g o e r} (D:ZhR g=some r) (b:CellsC (hcell h) o [.int .i64 g.Points,e]) (c:SlC (hcell h) eL e g.Blocks):zR 22 #[.pointer (some o)] h ψ (.bool r):=by
 apply ZyI;rw [ZhR] at D;have C:=sZ hψ;refine ⟨fun i=>S ψ h i []/\ZkP g=some r,?_,?_⟩
 ·refine kI b C.le 0<|cl0 D C (fun p _ _ j=>Zas p.fle j) fun r8 w C D=>⟨_,rfl,?_⟩;refine brQ D (fun D=>tZ) fun D=>kV b C.le 1<|vL c C.le ?_;exact brQ D (fun D=>tZ) fun D=>tZ
 ·rintro _ i ⟨C,D⟩;rw [ZkP] at D;refine lp1 D (nlS C) fun m i3 x a C D I=>?_;rw [ZdT] at D;refine kV b C.le 1<|vL c C.le<|brR D (fun D=>tZ) fun D=>kV b C.le 1<|ixV c C.le D fun y a0 f D=>kI b C.le 0<|cl0 D C (fun s _ _ k=>ZGx s.fle k (f.mono C.le)) fun a1 a2 C D=>⟨_,rfl,?_⟩;refine brQ D (fun D=>tZ) fun D=>brR D (fun D=>tZ) fun D=>kV b C.le 1<|ixV c C.le D fun a3 a4 t D=>kV b C.le 1<|ixV c C.le D fun a5 a6 u D=>cl0 D C (fun v _ _ l=>ZdR v.fle l (t.mono C.le) (u.mono C.le)) fun a7 a8 C D=>⟨_,rfl,?_⟩;exact brQ D (fun D=>tZ) fun D=>tZ
theorem ZB5 {b v0 c v1 r} (D:ZfK b c=some r) (e:SlC (hcell h) eI v0 b) (f:SlC (hcell h) eI v1 c):zR 59 #[v0,v1] h ψ (.int .i64 r):=by
 apply ZxP;rw [ZfK] at D;have C:=sZ hψ;refine lp2 D (nlS C) fun m g l i a C D I=>?_;rw [ZhA] at D;refine vL e C.le<|brR D (fun D=>tZ) fun D=>ixI (e.mono C.le) D fun j D=>ixI (f.mono C.le) D fun k D=>?_;exact tZ
theorem ZwV {k v0 r} (D:ZhW k=some r) (g:SlC (hcell h) eL v0 k):zR 23 #[v0] h ψ (.bool r):=by
 apply ZDm;rw [ZhW] at D;have C:=sZ hψ;refine vL g C.le<|⟨fun i=>S ψ h i []/\ZlE k=some r,?_,?_⟩
 ·refine brQ D (fun D=>tZ) fun D=>?_;exact brQ D (fun D=>tZ) fun D=>tZ
 ·rintro _ i ⟨C,D⟩;rw [ZlE] at D;refine lp1 D (nlS C) fun m y4 x a C D I=>?_;rw [Zf4] at D;refine brQ D (fun D=>?_) fun D=>?_
  ·refine ixV g C.le D fun y a0 f D=>vL f C.le<|brQ D (fun D=>tZ) fun D=>lp1 D (nlS C) fun j y5 a1 a2 C D b=>?_;rw [Za9] at D;refine brQ D (fun D=>?_) fun D=>?_
   ·refine ixV g C.le D fun a3 a4 o D=>ixI (o.mono C.le) D fun a5 D=>brQ D (fun D=>?_) fun D=>?_
    ·refine ixV g C.le D fun a6 a7 p D=>ixI (p.mono C.le) D fun a8 D=>brQ D (fun D=>?_) fun D=>?_
     ·obtain rfl:=oI D;obtain rfl:=oI b;obtain rfl:=oI I;exact ⟨rfl,nlS C⟩
     ·obtain rfl:=oI D;exact ⟨j,ltS,nlS C,b⟩
    ·obtain rfl:=oI D;exact ⟨j,ltS,nlS C,b⟩
   ·obtain rfl:=oI D;obtain rfl:=oI b;exact ⟨m,ltS,nlS C,I⟩
  ·refine lp1 D (nlS C) fun t y6 a9 aa C D c=>?_;rw [Zfx] at D;refine brQ D (fun D=>?_) fun D=>?_
   ·refine lp1 D (nlS C) fun u y7 ab ac C D e=>?_;rw [ZdD] at D;refine brQ D (fun D=>?_) fun D=>?_
    ·refine ixV g C.le D fun ad ae v D=>ixV g C.le D fun af ag w D=>cl0 D C (fun s _ _ l=>ZB5 s.fle l (v.mono C.le) (w.mono C.le)) fun ah ai C D=>⟨_,rfl,?_⟩;refine brQ D (fun D=>?_) fun D=>?_
     ·obtain rfl:=oI D;obtain rfl:=oI e;obtain rfl:=oI c;obtain rfl:=oI I;exact ⟨rfl,nlS C⟩
     ·obtain rfl:=oI D;exact ⟨u,ltS,nlS C,e⟩
    ·obtain rfl:=oI D;obtain rfl:=oI e;exact ⟨t,ltS,nlS C,c⟩
   ·obtain rfl:=oI D;obtain rfl:=oI c;obtain rfl:=oI I;exact ⟨rfl,nlS C⟩
theorem ZxC {i j b r} (D:Zjt i=some r) (e:CellsC (hcell h) j [.int .i64 i.Kind,.int .i64 i.Size,b]) (a:SlC ψ eL b i.Rows):CallsH P 24 #[.pointer (some j)] h (fun v h'=>∃ w0:Value,v=.agg #[.int .i64 r.Levels,.int .i64 r.Columns,w0]/\S ψ h h' [.it (El.sl eL) [w0] r.Rows]):=by
 apply ZEe;rw [Zjt] at D;have C:=sZ hψ;refine new_S C fun b2 k C=>⟨fun _=>False,?_⟩;have g:=C;have c:=eX k;refine ZnC C fun b3 t xE C=>⟨eZ (c.trans xE),?_⟩;replace c:=c.trans xE;refine ZL<|kI e g.le 1<|ZW<|kV e g.le 2<|Zo (a.mono C.leF).one<|Zb C 0 rfl rfl rfl rfl fun u C=>Zb C 0 rfl rfl rfl rfl fun w C=>Zb C 0 rfl rfl rfl (a.mono C.leF).one fun x C=>?_;dsimp at C;refine kV e C.le 2<|vL a C.leF<|brQ D (fun D=>?_) fun D=>?_
 ·refine kV e C.le 2<|ixV a C.leF D fun y a0 f D=>vL f C.leF<|Zb C 0 rfl rfl rfl rfl fun a1 C=>?_;dsimp at C;refine bI C 0 0<|bI C 0 1<|bV C 0 2<|Zb C 1 rfl rfl rfl rfl fun a2 C=>Zb C 1 rfl rfl rfl rfl fun a3 C=>Zb C 1 rfl rfl rfl (a.mono C.leF).one fun l C=>?_;dsimp at C;refine bI C 1 0<|bI C 1 1<|bV C 1 2 ?_;have C:=C.arg a;obtain rfl:=oI D;exact ⟨b,rfl,pk C [0]⟩
 ·refine bI C 0 0<|bI C 0 1<|bV C 0 2<|Zb C 1 rfl rfl rfl rfl fun o C=>Zb C 1 rfl rfl rfl rfl fun p C=>Zb C 1 rfl rfl rfl (a.mono C.leF).one fun s C=>?_;dsimp at C;refine bI C 1 0<|bI C 1 1<|bV C 1 2 ?_;have C:=C.arg a;obtain rfl:=oI D;exact ⟨b,rfl,pk C [0]⟩
theorem ZyU {levels0 column1 r} (D:ZkH levels0 column1=some r)  :zR 60 #[.int .i64 levels0,.int .i64 column1] h ψ (.bool r):=by
 apply ZDs;rw [ZkH] at D;have C:=sZ hψ;refine cl0 D C (fun s _ _ c=>Zas s.fle c) fun g e C D=>⟨_,rfl,?_⟩;refine brR D (fun D=>tZ) fun D=>cl0 D C (fun b _ _ a=>Zas b.fle a) fun i f C D=>⟨_,rfl,?_⟩;exact tZ
theorem ZFL {g o i r} (D:Zi8 g=some r) (b:CellsC (hcell h) o [.int .i64 g.Levels,.int .i64 g.Columns,i]) (c:SlC (hcell h) eL i g.Rows):zR 25 #[.pointer (some o)] h ψ (.bool r):=by
 apply ZxV;rw [Zi8] at D;have C:=sZ hψ;refine ⟨fun j=>S ψ h j []/\ZlA g=some r,?_,?_⟩
 ·refine kI b C.le 0<|kI b C.le 1<|cl0 D C (fun p _ _ k=>ZyU p.fle k) fun w x C D=>⟨_,rfl,?_⟩;refine brQ D (fun D=>tZ) fun D=>kV b C.le 2<|vL c C.le ?_;exact brQ D (fun D=>tZ) fun D=>tZ
 ·rintro _ j ⟨C,D⟩;rw [ZlA] at D;refine lp1 D (nlS C) fun m y3 y a C D I=>?_;rw [ZfE] at D;refine kV b C.le 2<|vL c C.le<|brR D (fun D=>tZ) fun D=>kV b C.le 2<|ixV c C.le D fun a0 a1 f D=>vL f C.le<|kI b C.le 1<|brQ D (fun D=>tZ) fun D=>lp1 D (nlS C) fun t y4 a2 a3 C D e=>?_;rw [ZdZ] at D;refine kV b C.le 2<|ixV c C.le D fun a4 a5 u D=>vL u C.le<|brQ D (fun D=>?_) fun D=>?_
  ·refine kV b C.le 2<|ixV c C.le D fun a6 a7 v D=>ixI (v.mono C.le) D fun a8 D=>kI b C.le 0<|cl0 D C (fun s _ _ l=>Zas s.fle l) fun a9 aa C D=>⟨_,rfl,?_⟩;refine brQ D (fun D=>?_) fun D=>?_
   ·obtain rfl:=oI D;obtain rfl:=oI e;obtain rfl:=oI I;exact ⟨rfl,nlS C⟩
   ·obtain rfl:=oI D;exact ⟨t,ltS,nlS C,e⟩
  ·obtain rfl:=oI D;obtain rfl:=oI e;exact ⟨m,ltS,nlS C,I⟩
theorem ZnL {g r} (D:ZbY g=some r)  :zR 61 #[.int .i64 g] h ψ (.tuple #[.int .i64 r.1,.int .i64 r.2]):=by
 apply Zzb;rw [ZbY] at D;have C:=sZ hψ;refine cl0 D C (fun s _ _ j=>Zas s.fle j) fun r8 k C D=>⟨_,rfl,?_⟩;refine brQ D (fun D=>tZ) fun D=>lp1 D (nlS C) fun m t l a C D I=>?_;rw [Zkt] at D;obtain ⟨_,c,D⟩:=obind D;refine ⟨Zap c,?_⟩;refine brQ D (fun D=>tZ) fun D=>lp2 D (nlS C) fun i u v o p C D b=>?_;rw [Zmr] at D;refine brQ D (fun D=>?_) fun D=>?_
 ·obtain ⟨_,e,D⟩:=obind D;refine ⟨Zap e,?_⟩;refine brQ D (fun D=>?_) fun D=>?_
  ·obtain rfl:=oI D;obtain rfl:=oI b;obtain rfl:=oI I;exact ⟨rfl,nlS C⟩
  ·obtain ⟨_,f,D⟩:=obind D;refine ⟨Zap f,?_⟩;obtain rfl:=oI D;exact ⟨i,ltS,nlS C,b⟩
 ·obtain rfl:=oI D;obtain rfl:=oI b;obtain rfl:=oI I;exact ⟨rfl,nlS C⟩
theorem Ze8 {l p1 n2 r} (D:Za1 l p1 n2=some r)  :zL 108 #[.int .i64 l,.int .i64 p1,.int .i64 n2] h ψ eI r:=by
 apply ZGm;rw [Za1] at D;have C:=sZ hψ;refine ZR (E:=eI) (css:=[]) (xs:=([]:List Int)) C (fun _=>rfl) rfl rfl fun w s C=>?_;obtain ⟨o,g⟩:=Zl D;refine ⟨fun n c e i f=>∃ b:List Int,S ψ h f [.it oL [i] b]/\loopN (Zdp p1) n (c,e,b)=some r,⟨o,_,pk C [0],g⟩,?_⟩;rintro n _ c e i f ⟨b,C,g⟩;obtain ⟨m,a,rfl,D,I⟩:=Zk g;rw [Zdp] at D;refine brQ D (fun D=>?_) fun D=>?_
 ·obtain ⟨_,p,D⟩:=obind D;refine ⟨Zap p,?_⟩;obtain ⟨t,j,D⟩:=obind D;refine ZP C 0 rfl (fun _=>⟨rfl,rfl⟩) rfl rfl j fun u v C=>?_;dsimp at C;obtain ⟨_,k,D⟩:=obind D;refine ⟨Zap k,?_⟩;obtain rfl:=oI D;exact ⟨m,ltS,_,pk C [0],I⟩
 ·obtain rfl:=oI D;obtain rfl:=oI I;exact ⟨i,rfl,pk C [0]⟩
theorem Zqh {b k1 r} (D:ZeB b k1=some r)  :zR 112 #[.int .i64 b,.int .i64 k1] h ψ (.int .i64 r):=by
 apply ZwX;rw [ZeB] at D;have C:=sZ hψ;refine lp2 D (nlS C) fun m c e f a C D I=>?_;rw [Zk1] at D;exact brQ D (fun D=>tZ) fun D=>tZ
theorem Zhy {a v0 r} (D:ZaX a=some r) (b:SlC (hcell h) eI v0 a):zL 119 #[v0] h ψ eI r:=by
 apply ZDp;rw [ZaX] at D;have C:=sZ hψ;refine ZR (E:=eI) (css:=[]) (xs:=([]:List Int)) C (fun _=>rfl) rfl rfl fun i f C=>?_;obtain ⟨j,c,D⟩:=obind D;refine app_S C 0 rfl (Zcj (Zbe _) (b.mono C.le)) rfl rfl c fun e g C=>?_;dsimp at C;obtain rfl:=oI D;exact ⟨e,rfl,pk C [0]⟩
theorem ZsF {y0 v0 f v1 j r} (D:Zc2 y0 f j=some r) (f0:SlC (hcell h) eI v0 y0) (f1:SlC (hcell h) eI v1 f):zL 162 #[v0,v1,.int .i64 j] h ψ eI r:=by
 apply ZEO;rw [Zc2] at D;have C:=sZ hψ;refine cl1 D C (fun s _ _ hx=>Zhy s.fle hx (f0.mono C.le)) fun af l ag C D=>⟨_,rfl,?_⟩;refine vL f1 C.le<|Zp (C.rdL 0 rfl (Za _)) ?_;obtain ⟨a7,x⟩:=Zl D;refine ⟨fun n y o=>∃ xs:List Int,S ψ h o [.it oL [l] xs]/\loopN (ZbB f j) n (y,xs)=some r,⟨a7,_,pk C [0],x⟩,?_⟩;rintro n _ y o ⟨xs,C,x⟩;obtain ⟨m,a,rfl,D,I⟩:=Zk x;rw [ZbB] at D;refine brQ D (fun D=>?_) fun D=>?_
 ·refine ixI (C.rdL 0 rfl (Za _)) D fun a8 D=>?_;obtain ⟨a9,b⟩:=Zl D;refine ⟨fun p t u=>∃ c:List Int,S ψ h u [.it oL [l] c]/\loopN (Zd8 f j y a8) p (t,c)=some a,⟨a9,_,pk C [0],b⟩,?_⟩;rintro p _ t u ⟨c,C,b⟩;obtain ⟨aa,ah,rfl,D,g⟩:=Zk b;rw [Zd8] at D;refine brQ D (fun D=>?_) fun D=>?_
  ·refine ixI (C.rdL 0 rfl (Za _)) D fun ai D=>ixI (f1.mono C.le) D fun aj D=>?_;obtain ⟨_,a0,D⟩:=obind D;refine ⟨Zap a0,?_⟩;refine ixA (C.rdL 0 rfl (Za _)) D fun ak al a1 a2 D=>st1_S C 0 rfl a1 a2 rfl (fun _=>⟨rfl,rfl⟩) fun am C=>?_;dsimp at C;obtain rfl:=oI D;exact ⟨aa,ltS,_,pk C [0],g⟩
  ·obtain rfl:=oI D;obtain rfl:=oI g;exact ⟨m,ltS,_,pk C [0],I⟩
 ·obtain ⟨ab,e⟩:=Zl D;refine ⟨fun v v7 w=>∃ k:List Int,S ψ h w [.it oL [v7] k]/\loopN (Zcn f) v k=some a,⟨ab,_,pk C [0],e⟩,?_⟩;rintro v _ v7 w ⟨k,C,e⟩;obtain ⟨ac,an,rfl,D,i⟩:=Zk e;rw [Zcn] at D;refine Zp (C.rdL 0 rfl (Za _))<|brQ D (fun D=>?_) fun D=>?_
  ·refine Zp (C.rdL 0 rfl (Za _)) ?_;obtain ⟨ao,a4,D⟩:=obind D;refine cut_S none (some (ε.wrap ((k.length:Int)-1))) C 0 rfl a4 rfl fun ap C=>?_;dsimp at C;obtain rfl:=oI D;exact ⟨ac,ltS,_,pk C [0],i⟩
  ·obtain rfl:=oI D;obtain rfl:=oI i;obtain rfl:=oI I;exact ⟨v7,rfl,pk C [0]⟩
theorem Zop {b v0 p1 r} (D:Za6 b p1=some r) (c:SlC (hcell h) eI v0 b):zR 163 #[v0,.int .i64 p1] h ψ (.int .i64 r):=by
 apply ZCE;rw [Za6] at D;have C:=sZ hψ;refine vL c C.le<|lp2 D (nlS C) fun m e i f a C D I=>?_;rw [Zey] at D;refine brR D (fun D=>tZ) fun D=>ixI (c.mono C.le) D fun g D=>?_;exact tZ
theorem Zq4 {c v0 p1 r} (D:Zgr c p1=some r) (j:SlC (hcell h) eI v0 c):zR 109 #[v0,.int .i64 p1] h ψ (.bool r):=by
 apply ZCB;rw [Zgr] at D;have C:=sZ hψ;refine vL j C.le<|lp1 D (nlS C) fun m d6 u a C D I=>?_;rw [Zki] at D;refine brR D (fun D=>tZ) fun D=>lp1 D (nlS C) fun k n7 v w C D b=>?_;rw [ZlM] at D;refine cl0 D C (fun s _ _ t=>Zqh s.fle t) fun x y C D=>⟨_,rfl,?_⟩;refine brQ D (fun D=>?_) fun D=>?_
 ·refine cl1 D C (fun l _ _ e=>Ze8 l.fle e) fun a0 a1 a2 C D=>⟨_,rfl,?_⟩;obtain ⟨a3,f,D⟩:=obind D;refine ZP C 0 rfl (fun _=>⟨rfl,rfl⟩) rfl rfl f fun a4 a5 C=>?_;dsimp at C;refine cl1 D C (fun o _ _ g=>ZsF o.fle g (j.mono C.le) (C.rdL 0 rfl (Za _))) fun a6 a7 a8 C D=>⟨_,rfl,?_⟩;refine cl0 D C (fun p _ _ i=>Zop p.fle i (C.rdL 0 rfl (Za _))) fun a9 aa C D=>⟨_,rfl,?_⟩;refine brQ D (fun D=>?_) fun D=>?_
  ·obtain rfl:=oI D;obtain rfl:=oI b;obtain rfl:=oI I;exact ⟨rfl,nlS C⟩
  ·obtain rfl:=oI D;exact ⟨k,ltS,nlS C,b⟩
 ·obtain rfl:=oI D;obtain rfl:=oI b;exact ⟨m,ltS,nlS C,I⟩
theorem ZAq {f r} (D:Zff f=some r)  :CallsH P 62 #[.int .i64 f] h (fun v h'=>∃ w0:Value,v=.agg #[.int .i64 r.Prime,.int .i64 r.Degree,w0]/\S ψ h h' [.it oL [w0] r.Poly]):=by
 apply Zwm;rw [Zff] at D;have C:=sZ hψ;refine new_S C fun k p C=>cl0 D C (fun s _ _ l=>ZnL s.fle l) fun r9 t C D=>⟨_,_,rfl,?_⟩;refine lp1 (os:=[.box k [.int .i64 0,.int .i64 0,(.slice none 0 0)]]) D (pk C [0]) fun m n5 u a C D I=>?_;rw [ZkS] at D;refine cl1 D C (fun g _ _ b=>Ze8 g.fle b) fun w x y C D=>⟨_,rfl,?_⟩;obtain ⟨a0,c,D⟩:=obind D;refine ZP C 0 rfl (fun _=>⟨rfl,rfl⟩) rfl rfl c fun i a1 C=>?_;dsimp at C;refine cl0 D C (fun j _ _ e=>Zq4 j.fle e (C.rdL 0 rfl (Za _))) fun a2 a3 C D=>⟨_,rfl,?_⟩;refine brQ D (fun D=>?_) fun D=>?_
 ·refine Zo (C.rdL 0 rfl (Za _)).one<|Zb C 1 rfl rfl rfl rfl fun a4 C=>Zb C 1 rfl rfl rfl rfl fun a5 C=>Zb C 1 rfl rfl rfl (C.rdL 0 rfl (Za _)).one fun o C=>?_;dsimp at C;refine bI C 1 0<|bI C 1 1<|bV C 1 2 ?_;obtain rfl:=oI D;obtain rfl:=oI I;exact ⟨i,rfl,pk C [0]⟩
 ·obtain rfl:=oI D;exact ⟨m,ltS,pk C [1],I⟩
theorem Zuo {i p a r} (D:Zbd i=some r) (f:CellsC (hcell h) p [.int .i64 i.Kind,.int .i64 i.Size,a]) (b:SlC ψ eL a i.Rows):CallsH P 26 #[.pointer (some p)] h (fun v h'=>∃ w0:Value,∃ w1:Value,v=.agg #[.int .i64 r.Field.Prime,.int .i64 r.Field.Degree,w0,w1]/\S ψ h h' [.it oL [w0] r.Field.Poly,.it (El.sl eL) [w1] r.Rows]):=by
 apply ZCT;rw [Zbd] at D;have C:=sZ hψ;refine new_S C fun b2 a2 C=>kI f C.le 1<|cl0 D C (fun s _ _ w=>ZnL s.fle w) fun a3 t C D=>⟨_,_,rfl,?_⟩;refine brQ D (fun D=>?_) fun D=>?_
 ·refine Zb C 0 rfl rfl rfl rfl fun a4 C=>Zb C 0 rfl rfl rfl rfl fun a5 C=>Zb C 0 rfl rfl rfl rfl fun a6 C=>Zb C 0 rfl rfl rfl rfl fun a7 C=>?_;dsimp at C;refine bI C 0 0<|bI C 0 1<|bV C 0 2<|bV C 0 3 ?_;have C:=C.nilO (E:=eI);have C:=C.nilF (E:=eL);obtain rfl:=oI D;exact ⟨(.slice none 0 0),(.slice none 0 0),rfl,pk C [1,0]⟩
 ·refine ⟨fun _=>False,?_⟩;have j:=C;have c:=eX t;refine kI f C.le 1 ?_;obtain ⟨a8,l,D⟩:=obind D;obtain ⟨x,a9,g,k⟩:=id C;refine (ZAq g.fle l).mono fun aa ab ⟨u,o,e⟩=>⟨_,_,_,o,eZ (c.trans e.ext),?_⟩;replace c:=c.trans e.ext;replace C:=join1 g k e;clear e g k;refine ZW<|kV f j.le 2<|Zo (b.mono C.leF).one<|Zb C 1 rfl rfl rfl rfl fun ac C=>Zb C 1 rfl rfl rfl rfl fun y C=>Zb C 1 rfl rfl rfl (C.rdL 0 rfl (Za _)).one fun a0 C=>Zb C 1 rfl rfl rfl (b.mono C.leF).one fun a1 C=>?_;dsimp at C;refine bI C 1 0<|bI C 1 1<|bV C 1 2<|bV C 1 3 ?_;have C:=C.arg b;obtain rfl:=oI D;exact ⟨u,a,rfl,pk C [1,0]⟩
theorem Zyq {e p f r} (D:ZgB e=some r) (b:CellsC (hcell h) p [.int .i64 e.Prime,.int .i64 e.Degree,f]) (c:SlC (hcell h) eI f e.Poly):zR 110 #[.pointer (some p)] h ψ (.bool r):=by
 apply ZAu;rw [ZgB] at D;have C:=sZ hψ;refine ⟨fun g=>S ψ h g []/\Zg7 e=some r,?_,?_⟩
 ·refine kI b C.le 0<|cl0 D C (fun t _ _ i=>Zas t.fle i) fun a0 a1 C D=>⟨_,rfl,?_⟩;refine brQ D (fun D=>tZ) fun D=>kI b C.le 1<|cl0 D C (fun u _ _ j=>Zas u.fle j) fun a2 a3 C D=>⟨_,rfl,?_⟩;refine brQ D (fun D=>tZ) fun D=>kV b C.le 2<|vL c C.le<|kI b C.le 1<|brQ D (fun D=>tZ) fun D=>kV b C.le 2<|kI b C.le 1<|ixI (c.mono C.le) D fun a4 D=>?_;exact brQ D (fun D=>tZ) fun D=>tZ
 ·rintro _ g ⟨C,D⟩;rw [Zg7] at D;refine kI b C.le 0<|kI b C.le 1<|cl0 D C (fun s _ _ y=>Zqh s.fle y) fun a5 a6 C D=>⟨_,rfl,?_⟩;refine cl0 D C (fun v _ _ k=>ZnL v.fle k) fun a7 a8 C D=>⟨_,_,rfl,?_⟩;refine kI b C.le 0<|brQ D (fun D=>tZ) fun D=>lp1 D (nlS C) fun m y6 a9 a C D I=>?_;rw [Zj0] at D;refine kV b C.le 2<|vL c C.le<|brQ D (fun D=>?_) fun D=>?_
  ·refine kV b C.le 2<|ixI (c.mono C.le) D fun aa D=>cl0 D C (fun w _ _ l=>Zas w.fle l) fun ab ac C D=>⟨_,rfl,?_⟩;exact brQ D (fun D=>tZ) fun D=>tZ
  ·refine kV b C.le 2<|cl0 D C (fun x _ _ o=>Zq4 x.fle o (c.mono C.le)) fun ad ae C D=>⟨_,rfl,?_⟩;exact tZ
theorem Zmo {b e a r} (D:Za8 b=some r) (c:CellsC (hcell h) e [.int .i64 b.Prime,.int .i64 b.Degree,a]) (f:SlC (hcell h) eI a b.Poly):zR 65 #[.pointer (some e)] h ψ (.int .i64 r):=by
 apply ZAI;rw [Za8] at D;have C:=sZ hψ;refine kI c C.le 0<|kI c C.le 1<|cl0 D C (fun s _ _ g=>Zqh s.fle g) fun i j C D=>⟨_,rfl,?_⟩;exact tZ
theorem ZFX {e i b v1 c r} (D:Zh4 e v1=some r) (j:CellsC (hcell h) i [.int .i64 e.Prime,.int .i64 e.Degree,b]) (f:SlC (hcell h) eI b e.Poly) (k:SlC (hcell h) eI c v1):zR 111 #[.pointer (some i),c] h ψ (.bool r):=by
 apply ZB3;rw [Zh4] at D;have C:=sZ hψ;refine cl0 D C (fun s _ _ o=>Zmo s.fle o (j.mono C.le) (f.mono C.le)) fun r8 p C D=>⟨_,rfl,?_⟩;refine lp1 D (nlS C) fun m x t a C D I=>?_;rw [ZeQ] at D;refine vL k C.le<|brR D (fun D=>tZ) fun D=>ixI (k.mono C.le) D fun u D=>cl0 D C (fun l _ _ g=>Zas l.fle g) fun v w C D=>⟨_,rfl,?_⟩;exact brQ D (fun D=>tZ) fun D=>tZ
theorem Zzg {c p e k v1 r} (D:Zhw c k=some r) (i:CellsC (hcell h) p [.int .i64 c.Prime,.int .i64 c.Degree,e]) (g:SlC (hcell h) eI e c.Poly) (b:SlC (hcell h) eL v1 k):zR 63 #[.pointer (some p),v1] h ψ (.bool r):=by
 apply ZF2;rw [Zhw] at D;have C:=sZ hψ;refine ⟨fun j=>S ψ h j []/\Zj4 c k=some r,?_,?_⟩
 ·refine cl0 D C (fun t _ _ l=>Zyq t.fle l (i.mono C.le) (g.mono C.le)) fun r7 y C D=>⟨_,rfl,?_⟩;refine brQ D (fun D=>tZ) fun D=>vL b C.le<|brQ D (fun D=>tZ) fun D=>vL b C.le<|brQ D (fun D=>tZ) fun D=>ixV b C.le D fun a0 a1 u D=>vL u C.le<|brQ D (fun D=>tZ) fun D=>ixV b C.le D fun a2 a3 v D=>vL v C.le ?_;exact brQ D (fun D=>tZ) fun D=>tZ
 ·rintro _ j ⟨C,D⟩;rw [Zj4] at D;refine lp1 D (nlS C) fun m i5 a4 a C D I=>?_;rw [Zfc] at D;refine vL b C.le<|brR D (fun D=>tZ) fun D=>ixV b C.le D fun a5 a6 f D=>vL f C.le<|ixV b C.le D fun a7 a8 w D=>vL w C.le<|brQ D (fun D=>tZ) fun D=>ixV b C.le D fun a9 aa x D=>cl0 D C (fun s _ _ o=>ZFX s.fle o (i.mono C.le) (g.mono C.le) (x.mono C.le)) fun ab ac C D=>⟨_,rfl,?_⟩;exact brQ D (fun D=>tZ) fun D=>tZ
theorem ZD3 {b k1 r} (D:Zjv b k1=some r)  :zR 64 #[.int .i64 b,.int .i64 k1] h ψ (.int .i64 r):=by
 apply ZEX;rw [Zjv] at D;have C:=sZ hψ;refine lp2 D (nlS C) fun m c f e a C D I=>?_;rw [Zbw] at D;refine brR D (fun D=>tZ) fun D=>?_;exact brQ D (fun D=>tZ) fun D=>tZ
theorem ZDJ {c v0 e v1 r} (D:ZiD c e=some r) (b:SlC (hcell h) eI v0 c) (f:SlC (hcell h) eI v1 e):zR 113 #[v0,v1] h ψ (.bool r):=by
 apply ZEE;rw [ZiD] at D;have C:=sZ hψ;refine vL b C.le<|vL f C.le<|brQ D (fun D=>tZ) fun D=>lp1 D (nlS C) fun m k g a C D I=>?_;rw [Zia] at D;refine vL b C.le<|brR D (fun D=>tZ) fun D=>ixI (b.mono C.le) D fun i D=>ixI (f.mono C.le) D fun j D=>?_;exact brQ D (fun D=>tZ) fun D=>tZ
theorem ZtV {e v0 g v1 r} (D:Zfz e g=some r) (b:SlC (hcell h) eL v0 e) (i:SlC (hcell h) eL v1 g):zR 66 #[v0,v1] h ψ (.bool r):=by
 apply ZvU;rw [Zfz] at D;have C:=sZ hψ;refine vL b C.le<|vL i C.le<|brQ D (fun D=>tZ) fun D=>lp1 D (nlS C) fun m w k a C D I=>?_;rw [Zju] at D;refine vL b C.le<|brR D (fun D=>tZ) fun D=>ixV b C.le D fun l o f D=>ixV i C.le D fun p t j D=>cl0 D C (fun s _ _ c=>ZDJ s.fle c (f.mono C.le) (j.mono C.le)) fun u v C D=>⟨_,rfl,?_⟩;exact brQ D (fun D=>tZ) fun D=>tZ
theorem ZpE {k p0 l y1 y2 r} (D:Zet k y1 y2=some r) (b:CellsC (hcell h) p0 [.int .i64 k.Prime,.int .i64 k.Degree,l]) (a5:SlC (hcell h) eI l k.Poly):zR 170 #[.pointer (some p0),.int .i64 y1,.int .i64 y2] h ψ (.int .i64 r):=by
 apply ZBp;rw [Zet] at D;have C:=sZ hψ;refine kI b C.le 0<|kI b C.le 1<|cl1 D C (fun s _ _ hx=>Ze8 s.fle hx) fun g x ao C D=>⟨_,rfl,?_⟩;refine kI b C.le 0<|kI b C.le 1<|cl1 D C (fun ah _ _ a6=>Ze8 ah.fle a6) fun i y ap C D=>⟨_,rfl,?_⟩;refine kI b C.le 1 ?_;obtain ⟨aq,a7,D⟩:=obind D;refine Zaj (E:=eI) C rfl a7 fun a0 ar C=>?_;obtain ⟨ai,hn⟩:=Zl D;refine ⟨fun n o p=>∃ xs:List Int,S ψ h p [.it oL [a0] xs,.it oL [y] i,.it oL [x] g]/\loopN (Zds k g i) n (o,xs)=some r,⟨ai,_,pk C [0,1,2],hn⟩,?_⟩;rintro n _ o p ⟨xs,C,hn⟩;obtain ⟨m,a,rfl,D,I⟩:=Zk hn;rw [Zds] at D;refine Zp (C.rdL 2 rfl (Za _))<|brQ D (fun D=>?_) fun D=>?_
 ·obtain ⟨aj,e⟩:=Zl D;refine ⟨fun a1 a2 a3=>∃ f:List Int,S ψ h a3 [.it oL [a0] f,.it oL [y] i,.it oL [x] g]/\loopN (ZhO k g i o) a1 (a2,f)=some a,⟨aj,_,pk C [0,1,2],e⟩,?_⟩;rintro a1 _ a2 a3 ⟨f,C,e⟩;obtain ⟨ak,au,rfl,D,t⟩:=Zk e;rw [ZhO] at D;refine Zp (C.rdL 1 rfl (Za _))<|brQ D (fun D=>?_) fun D=>?_
  ·refine ixI (C.rdL 0 rfl (Za _)) D fun av D=>ixI (C.rdL 2 rfl (Za _)) D fun aw D=>ixI (C.rdL 1 rfl (Za _)) D fun ax D=>kI b C.le 0 ?_;obtain ⟨_,a9,D⟩:=obind D;refine ⟨Zap a9,?_⟩;refine ixA (C.rdL 0 rfl (Za _)) D fun ay az aa ab D=>st1_S C 0 rfl aa ab rfl (fun _=>⟨rfl,rfl⟩) fun b0 C=>?_;dsimp at C;obtain rfl:=oI D;exact ⟨ak,ltS,_,pk C [0,1,2],t⟩
  ·obtain rfl:=oI D;obtain rfl:=oI t;exact ⟨m,ltS,_,pk C [0,1,2],I⟩
 ·refine ⟨fun _=>False,?_⟩;have u:=C;have c:=eX p;refine kV b C.le 2<|kI b C.le 0 ?_;obtain ⟨b1,ac,D⟩:=obind D;obtain ⟨an,b2,v,a4⟩:=id C;refine (ZsF v.fle ac (C.rdL 0 rfl (Za _)) (a5.mono C.le)).mono fun b3 b4 ⟨b5,ad,j⟩=>⟨_,ad,eZ (c.trans j.ext),?_⟩;replace c:=c.trans j.ext;replace C:=join1 v a4 j;clear j v a4;refine ZL<|kI b u.le 0<|cl0 D C (fun al _ _ w=>Zop al.fle w (C.rdL 0 rfl (Za _))) fun b6 b7 C D=>⟨_,rfl,?_⟩;exact tZ
theorem ZrY {c p e v1 f c2 r} (D:Zfr c v1 c2=some r) (t:CellsC (hcell h) p [.int .i64 c.Prime,.int .i64 c.Degree,e]) (i:SlC (hcell h) eI e c.Poly) (u:SlC (hcell h) eI f v1):zL 120 #[.pointer (some p),f,.int .i64 c2] h ψ eI r:=by
 apply Zyz;rw [Zfr] at D;have C:=sZ hψ;refine ZR (E:=eI) (css:=[]) (xs:=([]:List Int)) C (fun _=>rfl) rfl rfl fun v9 x C=>?_;obtain ⟨v,j⟩:=Zl D;refine ⟨fun n k w g=>∃ b:List Int,S ψ h g [.it oL [k] b]/\loopN (ZfS c v1 c2) n (b,w)=some r,⟨v,_,pk C [0],j⟩,?_⟩;rintro n _ k w g ⟨b,C,j⟩;obtain ⟨m,a,rfl,D,I⟩:=Zk j;rw [ZfS] at D;refine vL u C.le<|brQ D (fun D=>?_) fun D=>?_
 ·refine ixI (u.mono C.le) D fun y D=>cl0 D C (fun s _ _ l=>ZpE s.fle l (t.mono C.le) (i.mono C.le)) fun a0 a1 C D=>⟨_,rfl,?_⟩;obtain ⟨a2,o,D⟩:=obind D;refine ZP C 0 rfl (fun _=>⟨rfl,rfl⟩) rfl rfl o fun a3 a4 C=>?_;dsimp at C;obtain rfl:=oI D;exact ⟨m,ltS,_,pk C [0],I⟩
 ·obtain rfl:=oI D;obtain rfl:=oI I;exact ⟨k,rfl,pk C [0]⟩
theorem ZxK {e v0 r} (D:Zjj e=some r) (l:SlC (hcell h) eL v0 e):zL 164 #[v0] h ψ eL r:=by
 apply ZxS;rw [Zjj] at D;have C:=sZ hψ;refine ZR (E:=eL) (css:=[]) (xs:=([]:List (List Int))) C (fun _=>rfl) rfl rfl fun v5 t C=>?_;obtain ⟨o,g⟩:=Zl D;refine ⟨fun n i p c=>∃ b:List (List Int),S ψ h c [.it (El.ow eL) [i] b]/\loopN (ZfR e) n (b,p)=some r,⟨o,_,pk C [0],g⟩,?_⟩;rintro n _ i p c ⟨b,C,g⟩;obtain ⟨m,a,rfl,D,I⟩:=Zk g;rw [ZfR] at D;refine vL l C.le<|brQ D (fun D=>?_) fun D=>?_
 ·refine ixV l C.le D fun u v f D=>cl1 D C (fun s _ _ j=>Zhy s.fle j (f.mono C.le)) fun w x y C D=>⟨_,rfl,?_⟩;refine Zo (C.rdL 0 rfl (Za _)).one ?_;have C:=C.freeze 0 rfl (Zg (Za _));dsimp at C;have C:=C.copyF 0 rfl;obtain ⟨a0,k,D⟩:=obind D;refine Zat C 1 rfl rfl rfl k fun a1 a2 C=>?_;dsimp at C;obtain rfl:=oI D;exact ⟨m,ltS,_,pk C [1],I⟩
 ·obtain rfl:=oI D;obtain rfl:=oI I;exact ⟨i,rfl,pk C [0]⟩
theorem ZDt {c f b g r} (D:Zio c g=some r) (i:CellsC (hcell h) f [.int .i64 c.Prime,.int .i64 c.Degree,b]) (e:SlC (hcell h) eI b c.Poly):zR 165 #[.pointer (some f),.int .i64 g] h ψ (.int .i64 r):=by
 apply Zz2;rw [Zio] at D;have C:=sZ hψ;refine lp1 D (nlS C) fun m o k a C D I=>?_;rw [Zhu] at D;refine cl0 D C (fun s _ _ j=>ZpE s.fle j (i.mono C.le) (e.mono C.le)) fun p l C D=>⟨_,rfl,?_⟩;exact brQ D (fun D=>tZ) fun D=>tZ
theorem Zur {c u e v w k3 r} (D:ZfV c v w k3=some r) (b:CellsC (hcell h) u [.int .i64 c.Prime,.int .i64 c.Degree,e]) (a4:SlC (hcell h) eI e c.Poly):zR 171 #[.pointer (some u),.int .i64 v,.int .i64 w,.int .i64 k3] h ψ (.int .i64 r):=by
 apply Zwo;rw [ZfV] at D;have C:=sZ hψ;refine kI b C.le 0<|kI b C.le 1<|cl1 D C (fun s _ _ hx=>Ze8 s.fle hx) fun a6 x a7 C D=>⟨_,rfl,?_⟩;refine kI b C.le 0<|kI b C.le 1<|cl1 D C (fun y _ _ j=>Ze8 y.fle j) fun f a0 a8 C D=>⟨_,rfl,?_⟩;obtain ⟨a2,k⟩:=Zl D;refine ⟨fun n g i=>∃ xs:List Int,S ψ h i [.it oL [a0] f,.it oL [x] xs]/\loopN (ZgL c k3 f) n (g,xs)=some r,⟨a2,_,pk C [0,1],k⟩,?_⟩;rintro n _ g i ⟨xs,C,k⟩;obtain ⟨m,a,rfl,D,I⟩:=Zk k;rw [ZgL] at D;refine Zp (C.rdL 1 rfl (Za _))<|brQ D (fun D=>?_) fun D=>?_
 ·refine ixI (C.rdL 1 rfl (Za _)) D fun a9 D=>ixI (C.rdL 0 rfl (Za _)) D fun aa D=>kI b C.le 0 ?_;obtain ⟨_,l,D⟩:=obind D;refine ⟨Zap l,?_⟩;refine ixA (C.rdL 1 rfl (Za _)) D fun ab ac o p D=>st1_S C 1 rfl o p rfl (fun _=>⟨rfl,rfl⟩) fun ad C=>?_;dsimp at C;obtain rfl:=oI D;exact ⟨m,ltS,_,pk C [0,1],I⟩
 ·refine kI b C.le 0<|cl0 D C (fun a3 _ _ t=>Zop a3.fle t (C.rdL 1 rfl (Za _))) fun ae af C D=>⟨_,rfl,?_⟩;exact tZ
theorem ZvH {f p0 g v1 i w2 v2 u r} (D:Zi2 f v1 w2 u=some r) (j:CellsC (hcell h) p0 [.int .i64 f.Prime,.int .i64 f.Degree,g]) (k:SlC (hcell h) eI g f.Poly) (v:SlC (hcell h) eI i v1) (f2:SlC (hcell h) eI v2 w2):zL 166 #[.pointer (some p0),i,v2,.int .i64 u] h ψ eI r:=by
 apply ZDr;rw [Zi2] at D;have C:=sZ hψ;refine ZR (E:=eI) (css:=[]) (xs:=([]:List Int)) C (fun _=>rfl) rfl rfl fun aa ab C=>?_;obtain ⟨a6,w⟩:=Zl D;refine ⟨fun n x o l=>∃ b:List Int,S ψ h l [.it oL [x] b]/\loopN (ZfA f v1 w2 u) n (b,o)=some r,⟨a6,_,pk C [0],w⟩,?_⟩;rintro n _ x o l ⟨b,C,w⟩;obtain ⟨m,a,rfl,D,I⟩:=Zk w;rw [ZfA] at D;refine vL v C.le<|brQ D (fun D=>?_) fun D=>?_
 ·refine ⟨fun _=>False,?_⟩;have e:=C;have c:=eX l;refine ixI (f2.mono C.le) D fun ac D=>?_;obtain ⟨ad,y,D⟩:=obind D;obtain ⟨φ,L,s,p⟩:=id C;refine (ZpE s.fle y (j.mono C.le) (k.mono C.le)).mono fun ae af ⟨eq,t⟩=>⟨_,eq,eZ (c.trans t.ext),?_⟩;replace c:=c.trans t.ext;replace C:=join0 s p t;clear t s p;refine ixA (v.mono C.le) D fun ag ah a0 a1 D=>ZL<|ldI_C (v.mono e.le) a0 a1<|ZL<|kI j e.le 0<|cl0 D C (fun a7 _ _ a2=>Zur a7.fle a2 (j.mono C.le) (k.mono C.le)) fun ai aj C D=>⟨_,rfl,?_⟩;obtain ⟨ak,a3,D⟩:=obind D;refine ZP C 0 rfl (fun _=>⟨rfl,rfl⟩) rfl rfl a3 fun al am C=>?_;dsimp at C;obtain rfl:=oI D;exact ⟨m,ltS,_,pk C [0],I⟩
 ·obtain rfl:=oI D;obtain rfl:=oI I;exact ⟨x,rfl,pk C [0]⟩
theorem ZAZ {g p0 w y1 v1 y2 r} (D:ZlU g y1 y2=some r) (x:CellsC (hcell h) p0 [.int .i64 g.Prime,.int .i64 g.Degree,w]) (k:SlC (hcell h) eI w g.Poly) (f1:SlC (hcell h) eL v1 y1):CallsH P 114 #[.pointer (some p0),v1,.int .i64 y2] h (fun v h'=>∃ w0:Value,∃ w1:Value,v=.tuple #[w0,w1]/\S ψ h h' [.it (El.ow eL) [w0] r.1,.it oL [w1] r.2]):=by
 apply ZAO;rw [ZlU] at D;have C:=sZ hψ;refine cl1 D C (fun s _ _ hx=>ZxK s.fle hx (f1.mono C.le)) fun bz b c0 C D=>⟨_,rfl,?_⟩;refine ZR (E:=eI) (css:=[]) (xs:=([]:List Int)) C (fun _=>rfl) rfl rfl fun c3 c4 C=>?_;obtain ⟨b5,hn⟩:=Zl D;refine ⟨fun n i j ab=>∃ c:List Int,∃ xs:List (List Int),S ψ h ab [.it oL [i] c,.it (El.ow eL) [b] xs]/\loopN (Zcz g y2) n (c,j,xs)=some r,⟨b5,_,_,pk C [0,1],hn⟩,?_⟩;rintro n _ i j ab ⟨c,xs,C,hn⟩;obtain ⟨m,a,rfl,D,I⟩:=Zk hn;rw [Zcz] at D;refine ⟨fun ac=>S ψ h ac [.it oL [i] c,.it (El.ow eL) [b] xs]/\ZhP g c j xs=some a,?_,?_⟩
 ·refine brQ D (fun D=>?_) fun D=>?_
  ·refine Zp (C.rdL 0 rfl (Za _))<|Zp (C.rdL 1 rfl (ZK _))<|brQ D (fun D=>?_) fun D=>?_
   ·exact ⟨pk C [0,1],D⟩
   ·obtain rfl:=oI D;obtain rfl:=oI I;exact ⟨b,i,rfl,pk C [1,0]⟩
  ·obtain rfl:=oI D;obtain rfl:=oI I;exact ⟨b,i,rfl,pk C [1,0]⟩
 ·rintro _ ac ⟨C,D⟩;rw [ZhP] at D;refine Zp (C.rdL 0 rfl (Za _))<|⟨fun ae y=>S ψ h y [.it oL [i] c,.it (El.ow eL) [b] xs]/\ZaC g c j xs ae=some a,?_,?_⟩
  ·refine lp1 (os:=[.it oL [i] c,.it (El.ow eL) [b] xs]) D (pk C [0,1]) fun b6 bf bi c5 C D l=>?_;rw [Zb9] at D;refine Zp (C.rdL 1 rfl (ZK _))<|brQ D (fun D=>?_) fun D=>?_
   ·refine ixA (C.rdL 1 rfl (ZK _)) D fun c6 c7 a2 a3 D=>ZaQ C 1 rfl a2 a3 fun c8 C=>ixI (C.rdF 0 rfl) D fun c9 D=>brQ D (fun D=>?_) fun D=>?_
    ·obtain rfl:=oI D;exact ⟨b6,ltS,pk C [1,2],l⟩
    ·obtain ⟨xm,hq,rfl⟩:=omap D;obtain rfl:=oI l;exact ⟨pk C [1,2],hq⟩
   ·obtain ⟨xm,hq,rfl⟩:=omap D;obtain rfl:=oI l;exact ⟨pk C [0,1],hq⟩
  ·rintro _ ae y ⟨C,D⟩;rw [ZaC] at D;refine Zp (C.rdL 1 rfl (ZK _))<|brQ D (fun D=>?_) fun D=>?_
   ·obtain rfl:=oI D;exact ⟨m,ltS,_,_,pk C [0,1],I⟩
   ·refine ⟨fun _=>False,?_⟩;have a4:=C;have e:=eX y;refine ixA (C.rdL 1 rfl (ZK _)) D fun b7 ca ad an D=>ZaQ C 1 rfl ad an fun b8 C=>ixI (C.rdF 0 rfl) D fun cb D=>?_;obtain ⟨cc,ao,D⟩:=obind D;obtain ⟨bm,cd,a0,af⟩:=id C;refine (ZDt a0.fle ao (x.mono C.le) (k.mono C.le)).mono fun ce cf ⟨ap,u⟩=>⟨_,ap,eZ (e.trans u.ext),?_⟩;replace e:=e.trans u.ext;replace C:=join0 a0 af u;clear u a0 af;refine ixA (C.rdL 2 rfl (ZK _)) D fun cg ch aq ar D=>ZW<|ldV_C (a4.rdL 1 rfl (ZK _)) (CLe.refl _) aq ar fun cj f=>cl1 D C (fun b9 _ _ au=>ZrY b9.fle au (x.mono C.le) (k.mono C.le) (f.mono (CLe.ext e))) fun ag ba ck C D=>⟨_,rfl,?_⟩;refine ixA (C.rdL 3 rfl (ZK _)) D fun bb cm av aw D=>ZaQ C 3 rfl av aw fun bc C=>ixA (C.rdL 4 rfl (ZK _)) D fun cn co ax ay D=>?_;have C:=C.copyF 0 rfl;refine Zf9 C 4 rfl ax ay rfl fun cp C=>?_;dsimp at C;refine ixA (C.rdL 4 rfl (ZK _)) D fun cq cr az b0 D=>?_;have C:=C.freeze 1 rfl (Zg (Za _));dsimp at C;have C:=C.copyF 1 rfl;refine Zf9 C 4 rfl az b0 rfl fun bn C=>?_;dsimp at C;obtain ⟨bd,o⟩:=Zl D;refine ⟨fun ah ai a1=>∃ p:List (List Int),S ψ h a1 [.it eL [bc] bb,.it eL [ba] ag,.it eL [b8] b7,.it oL [i] c,.it (El.ow eL) [b] p]/\loopN (Zeo g c j ag) ah (ai,p)=some a,⟨bd,_,pk C [0,1,2,3,4],o⟩,?_⟩;rintro ah _ ai a1 ⟨p,C,o⟩;obtain ⟨aj,ct,rfl,D,t⟩:=Zk o;rw [Zeo] at D;refine Zp (C.rdL 4 rfl (ZK _))<|brQ D (fun D=>?_) fun D=>?_
    ·refine brQ D (fun D=>?_) fun D=>?_
     ·refine ixA (C.rdL 4 rfl (ZK _)) D fun cu cv b1 a5 D=>ZaQ C 4 rfl b1 a5 fun cx C=>ixA (C.rdL 5 rfl (ZK _)) D fun cy cz b2 a6 D=>ZaQ C 5 rfl b2 a6 fun d0 C=>ixI (C.rdF 0 rfl) D fun bo D=>cl1 D C (fun be _ _ a7=>ZvH be.fle a7 (x.mono C.le) (k.mono C.le) (C.rdF 1 rfl) (C.rdF 3 rfl)) fun bp bq br C D=>⟨_,rfl,?_⟩;refine ixA (C.rdL 7 rfl (ZK _)) D fun bs bt a8 a9 D=>?_;have C:=C.freeze 0 rfl (Zg (Za _));dsimp at C;have C:=C.copyF 0 rfl;refine Zf9 C 7 rfl a8 a9 rfl fun bu C=>?_;dsimp at C;obtain rfl:=oI D;exact ⟨aj,ltS,_,pk C [3,4,5,6,7],t⟩
     ·obtain rfl:=oI D;exact ⟨aj,ltS,_,pk C [0,1,2,3,4],t⟩
    ·obtain ⟨bv,aa,D⟩:=obind D;refine ZP C 3 rfl (fun _=>⟨rfl,rfl⟩) rfl rfl aa fun bw bx C=>?_;dsimp at C;obtain rfl:=oI D;obtain rfl:=oI t;exact ⟨m,ltS,_,_,pk C [3,4],I⟩
theorem ZFG {b i a j v1 r} (D:ZfW b j=some r) (k:CellsC (hcell h) i [.int .i64 b.Prime,.int .i64 b.Degree,a]) (c:SlC (hcell h) eI a b.Poly) (l:SlC (hcell h) eL v1 j):zL 67 #[.pointer (some i),v1] h ψ eL r:=by
 apply Zyf;rw [ZfW] at D;have C:=sZ hψ;refine ixV l C.le D fun u v f D=>vL f C.le<|cl2 D C (fun s _ _ e=>ZAZ s.fle e (k.mono C.le) (c.mono C.le) (l.mono C.le)) fun o w t x C D=>⟨_,_,rfl,?_⟩;refine Zp (C.rdL 1 rfl (Za _)) ?_;obtain ⟨y,g,D⟩:=obind D;refine cut_S none (some (o.2.length:Int)) C 0 rfl g rfl fun p C=>?_;dsimp at C;obtain rfl:=oI D;exact ⟨p,rfl,pk C [0]⟩
theorem Zwr {j p0 k l r} (D:ZaA j=some r) (a:CellsC (hcell h) p0 [.int .i64 j.Field.Prime,.int .i64 j.Field.Degree,k,l]) (c:SlC (hcell h) eI k j.Field.Poly) (b:SlC (hcell h) eL l j.Rows):zR 27 #[.pointer (some p0)] h ψ (.bool r):=by
 apply ZCg;rw [ZaA] at D;have C:=sZ hψ;refine ⟨fun o=>S ψ h o []/\Zc5 j=some r,?_,?_⟩
 ·refine kV a C.le 3<|cl0 D C (fun a5 _ _ y=>Zzg a5.fle y (CellsC.part 0 3 (a.mono C.le)) (c.mono C.le) (b.mono C.le)) fun ac ad C D=>⟨_,rfl,?_⟩;refine brQ D (fun D=>tZ) fun D=>kV a C.le 3<|ixV b C.le D fun ae af f D=>vL f C.le<|brQ D (fun D=>tZ) fun D=>kV a C.le 3<|vL b C.le ?_;exact brQ D (fun D=>tZ) fun D=>tZ
 ·rintro _ o ⟨C,D⟩;rw [Zc5] at D;refine ⟨fun _=>False,?_⟩;have u:=C;have e:=eX o;obtain ⟨ag,hx,D⟩:=obind D;obtain ⟨φ,L,s,w⟩:=id C;refine (Zmo s.fle hx (CellsC.part 0 3 (a.mono C.le)) (c.mono C.le)).mono fun ah ai ⟨eq,t⟩=>⟨_,eq,eZ (e.trans t.ext),?_⟩;replace e:=e.trans t.ext;replace C:=join0 s w t;clear t s w;refine ZW<|kV a u.le 3<|vL b C.le<|cl0 D C (fun a6 _ _ a0=>ZD3 a6.fle a0) fun aj a7 C D=>⟨_,rfl,?_⟩;refine brQ D (fun D=>tZ) fun D=>⟨fun _=>False,?_⟩;have v:=C;have g:=eX a7;refine kV a C.le 3 ?_;obtain ⟨ak,a1,D⟩:=obind D;obtain ⟨ab,al,p,x⟩:=id C;refine (ZFG p.fle a1 (CellsC.part 0 3 (a.mono C.le)) (c.mono C.le) (b.mono C.le)).mono fun am an ⟨ao,a2,i⟩=>⟨_,a2,eZ (g.trans i.ext),?_⟩;replace g:=g.trans i.ext;replace C:=join1 p x i;clear i p x;refine ZW<|kV a v.le 3<|cl0 D C (fun a8 _ _ a3=>ZtV a8.fle a3 (C.rdL 0 rfl (ZK _)) (b.mono C.le)) fun ap aq C D=>⟨_,rfl,?_⟩;exact tZ
theorem ZA4 {b v0 r} (D:Zjl b=some r) (c:SlC (hcell h) eI v0 b):zR 115 #[v0] h ψ (.bool r):=by
 apply ZzZ;rw [Zjl] at D;have C:=sZ hψ;refine vL c C.le<|brQ D (fun D=>tZ) fun D=>lp1 D (nlS C) fun m k f a C D I=>?_;rw [Ziq] at D;refine vL c C.le<|brR D (fun D=>tZ) fun D=>ixI (c.mono C.le) D fun g D=>cl0 D C (fun s _ _ e=>Zas s.fle e) fun i j C D=>⟨_,rfl,?_⟩;exact brQ D (fun D=>tZ) fun D=>tZ
theorem ZEF {a b r} (D:Zjg a b=some r)  :zR 116 #[.agg #[.int .i64 a.A,.int .i64 a.B],.agg #[.int .i64 b.A,.int .i64 b.B]] h ψ (.bool r):=by
 apply Zza;rw [Zjg] at D;have C:=sZ hψ;refine new_S C fun f c C=>new_S C fun g e C=>bI C 1 0<|bI C 0 0<|brQ D (fun D=>tZ) fun D=>bI C 1 0<|bI C 0 0<|brR D (fun D=>tZ) fun D=>bI C 1 1<|bI C 0 1 ?_;exact tZ
theorem ZuR {i c e r} (D:Zfl i=some r) (f:SlC (hcell h) eI c i.Colors) (b:SlC (hcell h) Zh e i.Edges):zR 68 #[.agg #[c,e]] h ψ (.bool r):=by
 apply ZDI;rw [Zfl] at D;have C:=sZ hψ;refine new_S C fun w a7 C=>⟨fun j=>S ψ h j [.box w [c,e]]/\Zlg i=some r,?_,?_⟩
 ·refine bV C 0 0<|cl0 D C (fun x _ _ k=>ZA4 x.fle k (f.mono C.le)) fun r8 a2 C D=>⟨_,rfl,?_⟩;refine brQ D (fun D=>tZ) fun D=>bV C 0 1<|vL b C.le<|brQ D (fun D=>tZ) fun D=>?_;exact ⟨pk C [0],D⟩
 ·rintro _ j ⟨C,D⟩;rw [Zlg] at D;refine bV C 0 0<|vL f C.le<|lp1 (os:=[.box w [c,e]]) D (pk C [0]) fun m i4 a8 a C D I=>?_;rw [Zdg] at D;refine bV C 0 1<|vL b C.le<|brR D (fun D=>tZ) fun D=>bV C 0 1<|ixA (b.mono C.le) D fun a9 aa ad hx D=>?_;obtain ⟨cs,y,hr⟩:=b.cells ad hx rfl;obtain rfl:=Zay hr;refine kI y C.le 0<|kI y C.le 1<|new_S C fun b5 ab C=>Zb C 0 rfl rfl rfl rfl fun ac C=>Zb C 0 rfl rfl rfl rfl fun ae C=>?_;dsimp at C;refine bI C 0 0<|cl0 D C (fun s _ _ l=>Zas s.fle l) fun af ag C D=>⟨_,rfl,?_⟩;refine brQ D (fun D=>tZ) fun D=>bI C 0 1<|bI C 0 0<|cl0 D C (fun a0 _ _ o=>Zas a0.fle o) fun ah ai C D=>⟨_,rfl,?_⟩;refine brQ D (fun D=>tZ) fun D=>brQ D (fun D=>?_) fun D=>?_
  ·refine bV C 1 1<|ixA (b.mono C.le) D fun aj ak p t D=>?_;obtain ⟨a5,g,u⟩:=b.cells p t rfl;obtain rfl:=Zay u;refine kI g C.le 0<|kI g C.le 1<|bI C 0 0<|bI C 0 1<|cl0 D C (fun a1 _ _ v=>ZEF a1.fle v) fun al a6 C D=>⟨_,rfl,?_⟩;refine brQ D (fun D=>tZ) fun D=>?_;obtain rfl:=oI D;exact ⟨m,ltS,pk C [1],I⟩
  ·obtain rfl:=oI D;exact ⟨m,ltS,pk C [1],I⟩
theorem Zr9 {o p0 p r} (D:Zgx o=some r) (b:CellsC (hcell h) p0 [.int .i64 o.Kind,.int .i64 o.Size,p]) (c:SlC (hcell h) eL p o.Rows):CallsH P 28 #[.pointer (some p0)] h (fun v h'=>∃ w0:Value,∃ w1:Value,v=.tuple #[.agg #[w0,w1],.bool r.2]/\S ψ h h' [.it oL [w0] r.1.Colors,.it (El.ow Zh) [w1] r.1.Edges]):=by
 apply ZDb;rw [Zgx] at D;have C:=sZ hψ;refine new_S C fun b2 ao C=>kI b C.le 1<|cl0 D C (fun s _ _ hx=>Zas s.fle hx) fun ap aq C D=>⟨_,rfl,?_⟩;refine brQ D (fun D=>?_) fun D=>?_
 ·refine Zb C 0 rfl rfl rfl rfl fun ar C=>Zb C 0 rfl rfl rfl rfl fun au C=>?_;dsimp at C;refine bV C 0 0<|bV C 0 1 ?_;have C:=C.nilO (E:=eI);have C:=C.nilO (E:=Zh);obtain rfl:=oI D;exact ⟨(.slice none 0 0),(.slice none 0 0),rfl,pk C [1,0]⟩
 ·refine kI b C.le 1 ?_;obtain ⟨x,a0,D⟩:=obind D;refine Zaj (E:=eI) C rfl a0 fun t av C=>Zo (C.rdL 0 rfl (Za _)).one<|new_S C fun b4 aw C=>Zb C 0 rfl rfl rfl (C.rdL 1 rfl (Za _)).one fun ax C=>Zb C 0 rfl rfl rfl rfl fun ay C=>?_;dsimp at C;have C:=C.nilO (E:=Zh);obtain ⟨a6,hn⟩:=Zl D;refine ⟨fun n y5 e=>∃ xs:List Zd,∃ k:Value,S ψ h e [.box b4 [t,k],.it oL [t] x,.box b2 [(.slice none 0 0),(.slice none 0 0)],.it (El.ow Zh) [k] xs]/\loopN (Zd5 o x) n (y5,xs)=some r,⟨a6,_,_,pk C [1,2,3,0],hn⟩,?_⟩;rintro n _ y5 e ⟨xs,k,C,hn⟩;obtain ⟨m,a,rfl,D,I⟩:=Zk hn;rw [Zd5] at D;refine kV b C.le 2<|vL c C.le<|brQ D (fun D=>?_) fun D=>?_
  ·refine kV b C.le 2<|ixV c C.le D fun az b0 f D=>vL f C.le<|brQ D (fun D=>?_) fun D=>?_
   ·refine Zb C 2 rfl rfl rfl rfl fun af C=>Zb C 2 rfl rfl rfl rfl fun ag C=>?_;dsimp at C;refine bV C 2 0<|bV C 2 1 ?_;have C:=C.nilO (E:=eI);have C:=C.nilO (E:=Zh);obtain rfl:=oI D;obtain rfl:=oI I;exact ⟨(.slice none 0 0),(.slice none 0 0),rfl,pk C [1,0]⟩
   ·refine ⟨fun _=>False,?_⟩;have w:=C;have j:=eX e;refine kV b C.le 2<|ixV c C.le D fun b1 b3 a8 D=>ixI (a8.mono C.le) D fun a9 D=>kV b C.le 2<|ixV c C.le D fun b5 b6 aa D=>ixI (aa.mono C.le) D fun ab D=>Z3 C fun b7 ah xE C=>⟨eZ (j.trans xE),?_⟩;replace j:=j.trans xE;refine ZW<|ldV_K (w.cells 0 rfl) 1 rfl rfl ?_;obtain ⟨b8,a2,D⟩:=obind D;refine ZjX C 4 rfl 0 rfl (fun _=>⟨[.int .i64 a9],[.int .i64 ab],[],[],rfl,rfl,⟨rfl,rfl⟩,⟨rfl,rfl⟩⟩) rfl rfl a2 fun b9 ai xE C=>Zb C 1 rfl rfl rfl (C.rdL 4 rfl frzf_T_impl_Edge).one fun aj C=>?_;dsimp at C;obtain rfl:=oI D;exact ⟨m,ltS,_,_,pk C [1,2,3,4],I⟩
  ·refine ⟨fun _=>False,?_⟩;have i:=C;have g:=eX e;refine bV C 0 0<|bV C 0 1 ?_;obtain ⟨ba,a3,D⟩:=obind D;obtain ⟨ak,bb,u,y⟩:=id C;refine (ZuR u.fle a3 (C.rdL 1 rfl (Za _)) (C.rdL 3 rfl frzf_T_impl_Edge)).mono fun bc al ⟨a4,l⟩=>⟨_,a4,eZ (g.trans l.ext),?_⟩;replace g:=g.trans l.ext;replace C:=join0 u y l;clear l u y;refine ZW<|ldV_K (i.cells 0 rfl) 0 rfl rfl<|ZW<|ldV_K (i.cells 0 rfl) 1 rfl rfl<|Zb C 2 rfl rfl rfl (C.rdL 1 rfl (Za _)).one fun am C=>Zb C 2 rfl rfl rfl (C.rdL 3 rfl frzf_T_impl_Edge).one fun an C=>?_;dsimp at C;refine bV C 2 0<|bV C 2 1 ?_;obtain rfl:=oI D;obtain rfl:=oI I;exact ⟨t,k,rfl,pk C [1,3]⟩
theorem Zt4 {b v0 p1 v1 r} (D:Zex b p1=some r) (e:SlC (hcell h) eL v0 b) (i:SlC (hcell h) eI v1 p1):zR 118 #[v0,v1] h ψ (.tuple #[.int .i64 r.1,.bool r.2]):=by
 apply ZA8;rw [Zex] at D;have C:=sZ hψ;refine vL e C.le<|lp2 D (nlS C) fun m j g l a C D I=>?_;rw [Zbu] at D;refine brR D (fun D=>tZ) fun D=>?_;obtain ⟨_,k,D⟩:=obind D;refine ⟨Zap k,?_⟩;refine ixV e C.le D fun o p f D=>cl0 D C (fun s _ _ c=>ZdR s.fle c (f.mono C.le) (i.mono C.le)) fun t u C D=>⟨_,rfl,?_⟩;refine brQ D (fun D=>tZ) fun D=>?_;exact brQ D (fun D=>tZ) fun D=>tZ
theorem ZwE {n0 r} (D:Zhn n0=some r)  :zL 167 #[.int .i64 n0] h ψ eI r:=by
 apply ZE8;rw [Zhn] at D;have C:=sZ hψ;refine ZR (E:=eI) (css:=[]) (xs:=([]:List Int)) C (fun _=>rfl) rfl rfl fun s k C=>?_;obtain ⟨g,e⟩:=Zl D;refine ⟨fun n f i c=>∃ b:List Int,S ψ h c [.it oL [f] b]/\loopN (ZgU n0) n (b,i)=some r,⟨g,_,pk C [0],e⟩,?_⟩;rintro n _ f i c ⟨b,C,e⟩;obtain ⟨m,a,rfl,D,I⟩:=Zk e;rw [ZgU] at D;refine brQ D (fun D=>?_) fun D=>?_
 ·obtain ⟨l,j,D⟩:=obind D;refine ZP C 0 rfl (fun _=>⟨rfl,rfl⟩) rfl rfl j fun o p C=>?_;dsimp at C;obtain rfl:=oI D;exact ⟨m,ltS,_,pk C [0],I⟩
 ·obtain rfl:=oI D;obtain rfl:=oI I;exact ⟨f,rfl,pk C [0]⟩
theorem ZzD {e v0 f v1 r} (D:ZhL e f=some r) (k:SlC (hcell h) eI v0 e) (p:SlC (hcell h) eI v1 f):zL 168 #[v0,v1] h ψ eI r:=by
 apply Zx4;rw [ZhL] at D;have C:=sZ hψ;refine ZR (E:=eI) (css:=[]) (xs:=([]:List Int)) C (fun _=>rfl) rfl rfl fun y s C=>?_;obtain ⟨l,g⟩:=Zl D;refine ⟨fun n i o c=>∃ b:List Int,S ψ h c [.it oL [i] b]/\loopN (Zg0 e f) n (b,o)=some r,⟨l,_,pk C [0],g⟩,?_⟩;rintro n _ i o c ⟨b,C,g⟩;obtain ⟨m,a,rfl,D,I⟩:=Zk g;rw [Zg0] at D;refine vL k C.le<|brQ D (fun D=>?_) fun D=>?_
 ·refine ixI (k.mono C.le) D fun t D=>ixI (p.mono C.le) D fun u D=>?_;obtain ⟨v,j,D⟩:=obind D;refine ZP C 0 rfl (fun _=>⟨rfl,rfl⟩) rfl rfl j fun w x C=>?_;dsimp at C;obtain rfl:=oI D;exact ⟨m,ltS,_,pk C [0],I⟩
 ·obtain rfl:=oI D;obtain rfl:=oI I;exact ⟨i,rfl,pk C [0]⟩
theorem ZDa {a v0 b p2 j r} (D:Zjk a b p2=some r) (k:SlC ψ eL v0 a) (l:SlC ψ eI j p2):zL 169 #[v0,.int .i64 b,j] h ψ eL r:=by
 apply ZBw;rw [Zjk] at D;have C:=sZ hψ;refine ZR (E:=eL) (css:=[]) (xs:=([]:List (List Int))) C (fun _=>rfl) rfl rfl fun v8 t C=>?_;obtain ⟨u,s,D⟩:=obind D;refine Zjs none (some b) k s rfl fun v f=>?_;have C:=C.arg f;obtain ⟨w,c,D⟩:=obind D;refine app_S C 1 rfl (ZoC 0 rfl) rfl rfl c fun x y C=>?_;dsimp at C;refine Zo (l.mono C.leF).one ?_;have C:=C.arg l;obtain ⟨a0,e,D⟩:=obind D;refine Zat C 1 rfl rfl rfl e fun a1 a2 C=>?_;dsimp at C;obtain ⟨a3,g,D⟩:=obind D;refine Zjs (some b) none k g rfl fun a4 o=>?_;have C:=C.arg o;obtain ⟨a5,i,D⟩:=obind D;refine app_S C 2 rfl (ZoC 0 rfl) rfl rfl i fun p a6 C=>?_;dsimp at C;obtain rfl:=oI D;exact ⟨p,rfl,pk C [2]⟩
theorem Zsk {degree0 genera1 v1 e r} (D:ZcY degree0 genera1 e=some r) (f1:SlC (hcell h) eL v1 genera1):CallsH P 117 #[.int .i64 degree0,v1,.int .i64 e] h (fun v h'=>∃ w0:Value,v=.tuple #[w0,.bool r.2]/\S ψ h h' [.it (El.ow eL) [w0] r.1]):=by
 apply Zyp;rw [ZcY] at D;have C:=sZ hψ;refine cl1 D C (fun s _ _ hx=>ZwE s.fle hx) fun p t ak C D=>⟨_,rfl,?_⟩;refine Zo (C.rdL 0 rfl (Za _)).one ?_;have C:=C.freeze 0 rfl (Zg (Za _));dsimp at C;have C:=C.copyF 0 rfl;refine Zmk C fun al am C=>Zo (C.rdF 1 rfl).one ?_;have C:=C.copyF 1 rfl;refine Zmk C fun an ao C=>?_;obtain ⟨ab,hn⟩:=Zl D;refine ⟨fun n v9 u l w=>∃ g:List (List Int),∃ a3:List (List Int),S ψ h w [.it (El.ow eL) [u] a3,.it (El.ow eL) [v9] g,.it eL [t] p]/\loopN (Zcg genera1 e) n (g,a3,l)=some r,⟨ab,_,_,pk C [0,1,2],hn⟩,?_⟩;rintro n _ v9 u l w ⟨g,a3,C,hn⟩;obtain ⟨m,a,rfl,D,I⟩:=Zk hn;rw [Zcg] at D;refine Zp (C.rdL 0 rfl (ZK _))<|brQ D (fun D=>?_) fun D=>?_
 ·obtain ⟨ac,j⟩:=Zl D;refine ⟨fun x o k y a0=>∃ c:List (List Int),∃ b:List (List Int),S ψ h a0 [.it (El.ow eL) [k] b,.it (El.ow eL) [o] c,.it eL [t] p]/\loopN (ZaU genera1 e l) x (c,b,y)=some a,⟨ac,_,_,pk C [0,1,2],j⟩,?_⟩;rintro x _ o k y a0 ⟨c,b,C,j⟩;obtain ⟨a1,ap,rfl,D,i⟩:=Zk j;rw [ZaU] at D;refine vL f1 C.le<|brQ D (fun D=>?_) fun D=>?_
  ·refine ixA (C.rdL 0 rfl (ZK _)) D fun aq ar ad a5 D=>ZaQ C 0 rfl ad a5 fun au C=>ixV f1 C.le D fun av aw f D=>cl1 D C (fun ae _ _ a6=>ZzD ae.fle a6 (C.rdF 0 rfl) (f.mono C.le)) fun ax ay az C D=>⟨_,rfl,?_⟩;refine cl0 D C (fun af _ _ a7=>Zt4 af.fle a7 (C.rdL 3 rfl (ZK _)) (C.rdL 0 rfl (Za _))) fun b0 b1 C D=>⟨_,_,rfl,?_⟩;refine brQ D (fun D=>?_) fun D=>?_
   ·obtain rfl:=oI D;exact ⟨a1,ltS,_,_,pk C [2,3,4],i⟩
   ·refine Zp (C.rdL 3 rfl (ZK _))<|brQ D (fun D=>?_) fun D=>?_
    ·have C:=C.nilO (E:=eL);obtain rfl:=oI D;obtain rfl:=oI i;obtain rfl:=oI I;exact ⟨(.slice none 0 0),rfl,pk C [0]⟩
    ·have C:=C.freeze 3 rfl (Zg (ZK _));dsimp at C;have C:=C.freeze 0 rfl (Zg (Za _));dsimp at C;refine cl1 D C (fun ag a2 _ a8=>ZDa ag.fle a8 (frF a2 3 rfl) (frF a2 0 rfl)) fun b2 b3 b4 C D=>⟨_,rfl,?_⟩;refine Zo (C.rdF 1 rfl).one ?_;have C:=C.copyF 1 rfl;obtain ⟨b5,a9,D⟩:=obind D;refine Zat C 3 rfl rfl rfl a9 fun b6 aj C=>?_;dsimp at C;obtain rfl:=oI D;exact ⟨a1,ltS,_,_,pk C [3,0,5],i⟩
  ·obtain rfl:=oI D;obtain rfl:=oI i;exact ⟨m,ltS,_,_,pk C [0,1,2],I⟩
 ·obtain rfl:=oI D;obtain rfl:=oI I;exact ⟨v9,rfl,pk C [1]⟩
theorem ZCk {degree0 b v1 r} (D:Zhi degree0 b=some r) (g:SlC (hcell h) eL v1 b):CallsH P 69 #[.int .i64 degree0,v1] h (fun v h'=>∃ w0:Value,v=.tuple #[w0,.bool r.2]/\S ψ h h' [.it (El.ow eL) [w0] r.1]):=by
 apply ZEr;rw [Zhi] at D;have C:=sZ hψ;refine ZR (E:=eL) (css:=[]) (xs:=([]:List (List Int))) C (fun _=>rfl) rfl rfl fun a6 a7 C=>cl1 D C (fun s _ _ hx=>Zsk s.fle hx (C.rdL 0 rfl (ZK _))) fun a8 a9 aa C D=>⟨_,_,rfl,?_⟩;obtain ⟨w,j⟩:=Zl D;refine ⟨fun n k x y i=>∃ e:List (List Int),∃ c:List (List Int),S ψ h i [.it (El.ow eL) [x] c,.it (El.ow eL) [k] e]/\loopN (ZbF degree0 b) n (e,c,y)=some r,⟨w,_,_,pk C [0,1],j⟩,?_⟩;rintro n _ k x y i ⟨e,c,C,j⟩;obtain ⟨m,a,rfl,D,I⟩:=Zk j;rw [ZbF] at D;refine vL g C.le<|brQ D (fun D=>?_) fun D=>?_
 ·refine ixV g C.le D fun ab ac f D=>cl0 D C (fun a0 _ _ l=>Zt4 a0.fle l (C.rdL 0 rfl (ZK _)) (f.mono C.le)) fun ad ae C D=>⟨_,_,rfl,?_⟩;refine brQ D (fun D=>?_) fun D=>?_
  ·obtain rfl:=oI D;exact ⟨m,ltS,_,_,pk C [0,1],I⟩
  ·refine ixV g C.le D fun af ag a1 D=>cl1 D C (fun a2 _ _ o=>Zhy a2.fle o (a1.mono C.le)) fun ah ai aj C D=>⟨_,rfl,?_⟩;refine Zo (C.rdL 0 rfl (Za _)).one ?_;have C:=C.freeze 0 rfl (Zg (Za _));dsimp at C;have C:=C.copyF 0 rfl;obtain ⟨ak,p,D⟩:=obind D;refine Zat C 2 rfl rfl rfl p fun al am C=>?_;dsimp at C;refine vL g C.le<|cl1 D C (fun a3 _ _ t=>Zsk a3.fle t (C.rdL 2 rfl (ZK _))) fun an ao ap C D=>⟨_,_,rfl,?_⟩;refine brQ D (fun D=>?_) fun D=>?_
   ·have C:=C.nilO (E:=eL);obtain rfl:=oI D;obtain rfl:=oI I;exact ⟨(.slice none 0 0),rfl,pk C [0]⟩
   ·obtain rfl:=oI D;exact ⟨m,ltS,_,_,pk C [0,3],I⟩
 ·refine cl0 D C (fun a4 _ _ u=>ZtV a4.fle u (C.rdL 0 rfl (ZK _)) (g.mono C.le)) fun aq ar C D=>⟨_,rfl,?_⟩;obtain rfl:=oI D;obtain rfl:=oI I;exact ⟨k,rfl,pk C [1]⟩
theorem ZFb {g p e r} (D:Zjz g=some r) (b:CellsC (hcell h) p [.int .i64 g.Degree,e]) (c:SlC (hcell h) eL e g.Elements):zR 29 #[.pointer (some p)] h ψ (.bool r):=by
 apply ZCe;rw [Zjz] at D;have C:=sZ hψ;refine ⟨fun i=>S ψ h i []/\Zlu g=some r,?_,?_⟩
 ·refine kI b C.le 0<|cl0 D C (fun t _ _ j=>Zas t.fle j) fun a0 a1 C D=>⟨_,rfl,?_⟩;refine brQ D (fun D=>tZ) fun D=>kV b C.le 1<|vL c C.le<|brQ D (fun D=>tZ) fun D=>kV b C.le 1<|vL c C.le ?_;exact brQ D (fun D=>tZ) fun D=>tZ
 ·rintro _ i ⟨C,D⟩;rw [Zlu] at D;refine lp1 D (nlS C) fun m y3 a2 a C D I=>?_;rw [Zdi] at D;refine kV b C.le 1<|vL c C.le<|brQ D (fun D=>?_) fun D=>?_
  ·refine kV b C.le 1<|ixV c C.le D fun a3 a4 f D=>cl0 D C (fun s _ _ k=>Zow s.fle k (f.mono C.le)) fun a5 a6 C D=>⟨_,rfl,?_⟩;refine brQ D (fun D=>tZ) fun D=>kV b C.le 1<|ixV c C.le D fun a7 a8 u D=>vL u C.le<|kI b C.le 0<|brQ D (fun D=>tZ) fun D=>brR D (fun D=>tZ) fun D=>kV b C.le 1<|ixV c C.le D fun a9 aa v D=>kV b C.le 1<|ixV c C.le D fun ab ac w D=>cl0 D C (fun x _ _ l=>ZdR x.fle l (v.mono C.le) (w.mono C.le)) fun ad ae C D=>⟨_,rfl,?_⟩;exact brQ D (fun D=>tZ) fun D=>tZ
  ·refine kI b C.le 0<|kV b C.le 1<|cl1 D C (fun y _ _ o=>ZCk y.fle o (c.mono C.le)) fun af ag ah C D=>⟨_,_,rfl,?_⟩;exact tZ
theorem ZFm {e v c r} (D:ZaO e=some r) (b:CellsC (hcell h) v [.int .i64 e.Kind,.int .i64 e.Size,c]) (a:SlC ψ eL c e.Rows):zR 10 #[.pointer (some v)] h ψ (.bool r):=by
 apply ZDO;rw [ZaO] at D;have C:=sZ hψ;refine kI b C.le 0<|brQ D (fun D=>?_) fun D=>?_
 ·refine kV b C.le 2<|cl0 D C (fun s _ _ hx=>ZsG s.fle hx (a.mono C.leF)) fun am an C D=>⟨_,rfl,?_⟩;refine brR D (fun D=>tZ) fun D=>kV b C.le 2<|vL a C.leF<|kI b C.le 1 ?_;exact tZ
 ·refine brQ D (fun D=>?_) fun D=>?_
  ·refine kI b C.le 1<|kV b C.le 2<|Zo (a.mono C.leF).one<|new_S C fun ao ap C=>cl0 D C (fun w _ _ i=>ZET w.fle i (C.cells 0 rfl) (a.mono C.leF)) fun aq ar C D=>⟨_,rfl,?_⟩;exact tZ
  ·refine brQ D (fun D=>?_) fun D=>?_
   ·refine kV b C.le 2<|cl0 D C (fun x _ _ j=>ZwV x.fle j (a.mono C.leF)) fun au av C D=>⟨_,rfl,?_⟩;refine brR D (fun D=>tZ) fun D=>kV b C.le 2<|vL a C.leF<|kI b C.le 1 ?_;exact tZ
   ·refine brQ D (fun D=>?_) fun D=>?_
    ·refine cl1 D C (fun f _ _ k=>ZxC f.fle k (b.mono C.le) (a.mono f.bas)) fun aw ax ay C D=>⟨_,_,_,rfl,?_⟩;refine new_S C fun b3 az C=>Zb C 0 rfl rfl rfl rfl fun b0 C=>Zb C 0 rfl rfl rfl rfl fun b1 C=>Zb C 0 rfl rfl rfl (C.rdF 1 rfl).one fun a6 C=>?_;dsimp at C;refine kV b C.le 2<|vL a C.leF<|brR D (fun D=>tZ) fun D=>cl0 D C (fun y _ _ l=>ZFL y.fle l (C.cells 0 rfl) (C.rdF 1 rfl)) fun b2 a7 C D=>⟨_,rfl,?_⟩;exact tZ
    ·refine brQ D (fun D=>?_) fun D=>?_
     ·refine cl2 D C (fun g _ _ o=>Zuo g.fle o (b.mono C.le) (a.mono g.bas)) fun b6 b7 a3 a8 C D=>⟨_,_,_,_,rfl,?_⟩;refine new_S C fun b4 a9 C=>Zb C 0 rfl rfl rfl rfl fun aa C=>Zb C 0 rfl rfl rfl rfl fun ab C=>Zb C 0 rfl rfl rfl (C.rdL 1 rfl (Za _)).one fun ac C=>Zb C 0 rfl rfl rfl (C.rdF 2 rfl).one fun ad C=>?_;dsimp at C;refine cl0 D C (fun a0 _ _ p=>Zwr a0.fle p (C.cells 0 rfl) (C.rdL 1 rfl (Za _)) (C.rdF 2 rfl)) fun b8 ae C D=>⟨_,rfl,?_⟩;exact tZ
     ·refine brQ D (fun D=>?_) fun D=>?_
      ·refine cl2 D C (fun a1 _ _ t=>Zr9 a1.fle t (b.mono C.le) (a.mono C.leF)) fun b9 ba a4 af C D=>⟨_,_,_,rfl,?_⟩;refine new_S C fun b5 ag C=>Zb C 0 rfl rfl rfl (C.rdL 1 rfl (Za _)).one fun ah C=>Zb C 0 rfl rfl rfl (C.rdL 2 rfl frzf_T_impl_Edge).one fun ai C=>?_;dsimp at C;exact tZ
      ·refine brR D (fun D=>tZ) fun D=>kI b C.le 1<|kV b C.le 2<|Zo (a.mono C.leF).one<|new_S C fun bb aj C=>cl0 D C (fun a2 _ _ u=>ZFb a2.fle u (C.cells 0 rfl) (a.mono C.leF)) fun ak al C D=>⟨_,rfl,?_⟩;exact tZ
theorem Zzv {g v0 y1 r} (D:Zi9 g y1=some r) (f0:SlC (hcell h) eL v0 g):CallsH P 70 #[v0,.bool y1] h (fun v h'=>∃ w0:Value,∃ w1:Value,v=.agg #[w0,w1]/\S ψ h h' [.it oL [w0] r.Colors,.it (El.ow Zh) [w1] r.Edges]):=by
 apply ZCp;rw [Zi9] at D;have C:=sZ hψ;refine new_S C fun o bg C=>vL f0 C.le<|new_S C fun p bh C=>Zb C 0 rfl rfl rfl rfl fun bi C=>Zb C 0 rfl rfl rfl rfl fun bj C=>?_;dsimp at C;have C:=C.nilO (E:=eI);obtain ⟨al,hn⟩:=Zl D;refine ⟨fun n y7 ac=>∃ xs:List Int,∃ j:Value,S ψ h ac [.box p [j,(.slice none 0 0)],.box o [(.slice none 0 0),(.slice none 0 0)],.it oL [j] xs]/\loopN (Zfp g y1) n (y7,xs)=some r,⟨al,_,_,pk C [1,2,0],hn⟩,?_⟩;rintro n _ y7 ac ⟨xs,j,C,hn⟩;obtain ⟨m,a,rfl,D,I⟩:=Zk hn;rw [Zfp] at D;refine brQ D (fun D=>?_) fun D=>?_
 ·refine ⟨fun y8 ad=>S ψ h ad [.box p [j,(.slice none 0 0)],.box o [(.slice none 0 0),(.slice none 0 0)],.it oL [j] xs]/\Zha y7 xs y8=some a,?_,?_⟩
  ·refine brQ D (fun D=>?_) fun D=>?_
   ·obtain ⟨_,ao,D⟩:=obind D;refine ⟨Zap ao,?_⟩;exact ⟨pk C [0,1,2],D⟩
   ·exact ⟨pk C [0,1,2],D⟩
  ·rintro _ y8 ad ⟨C,D⟩;rw [Zha] at D;refine bV C 0 0 ?_;obtain ⟨bk,hx,D⟩:=obind D;refine ZP C 2 rfl (fun _=>⟨rfl,rfl⟩) rfl rfl hx fun bm bn C=>Zb C 0 rfl rfl rfl (C.rdL 2 rfl (Za _)).one fun bo C=>?_;dsimp at C;obtain rfl:=oI D;exact ⟨m,ltS,_,_,pk C [0,1,2],I⟩
 ·obtain ⟨av,s⟩:=Zl D;refine ⟨fun ae y9 a3=>∃ c:List Int,∃ b:Value,S ψ h a3 [.box p [b,(.slice none 0 0)],.box o [(.slice none 0 0),(.slice none 0 0)],.it oL [b] c]/\loopN (ZcI g) ae (y9,c)=some a,⟨av,_,_,pk C [0,1,2],s⟩,?_⟩;rintro ae _ y9 a3 ⟨c,b,C,s⟩;obtain ⟨ax,ay,rfl,D,a4⟩:=Zk s;rw [ZcI] at D;refine brQ D (fun D=>?_) fun D=>?_
  ·refine bV C 0 0 ?_;obtain ⟨bp,ap,D⟩:=obind D;refine ZP C 2 rfl (fun _=>⟨rfl,rfl⟩) rfl rfl ap fun bq ba C=>Zb C 0 rfl rfl rfl (C.rdL 2 rfl (Za _)).one fun bb C=>?_;dsimp at C;obtain rfl:=oI D;exact ⟨ax,ltS,_,_,pk C [0,1,2],a4⟩
  ·have C:=C.nilO (E:=Zh);obtain ⟨az,t⟩:=Zl D;refine ⟨fun af i a5=>∃ u:List Zd,∃ a1:Value,S ψ h a5 [.box p [b,a1],.box o [(.slice none 0 0),(.slice none 0 0)],.it oL [b] c,.it (El.ow Zh) [a1] u]/\loopN (ZdU g c) af (i,u)=some ay,⟨az,_,_,pk C [1,2,3,0],t⟩,?_⟩;rintro af _ i a5 ⟨u,a1,C,t⟩;obtain ⟨b0,b1,rfl,D,a6⟩:=Zk t;rw [ZdU] at D;refine brQ D (fun D=>?_) fun D=>?_
   ·obtain ⟨b2,w⟩:=Zl D;refine ⟨fun ag k a7=>∃ x:List Zd,∃ a8:Value,S ψ h a7 [.box p [b,a8],.box o [(.slice none 0 0),(.slice none 0 0)],.it oL [b] c,.it (El.ow Zh) [a8] x]/\loopN (ZdC g i) ag (k,x)=some b1,⟨b2,_,_,pk C [0,1,2,3],w⟩,?_⟩;rintro ag _ k a7 ⟨x,a8,C,w⟩;obtain ⟨b3,b5,rfl,D,a9⟩:=Zk w;rw [ZdC] at D;refine brQ D (fun D=>?_) fun D=>?_
    ·obtain ⟨b7,y⟩:=Zl D;refine ⟨fun ah a2 aa=>∃ e:List Zd,∃ l:Value,S ψ h aa [.box p [b,l],.box o [(.slice none 0 0),(.slice none 0 0)],.it oL [b] c,.it (El.ow Zh) [l] e]/\loopN (ZbM g i k) ah (a2,e)=some b5,⟨b7,_,_,pk C [0,1,2,3],y⟩,?_⟩;rintro ah _ a2 aa ⟨e,l,C,y⟩;obtain ⟨ai,b8,rfl,D,a0⟩:=Zk y;rw [ZbM] at D;refine brQ D (fun D=>?_) fun D=>?_
     ·refine ⟨fun aj ab=>S ψ h ab [.box p [b,l],.box o [(.slice none 0 0),(.slice none 0 0)],.it oL [b] c,.it (El.ow Zh) [l] e]/\Zcm g i k a2 e aj=some b8,?_,?_⟩
      ·refine brQ D (fun D=>?_) fun D=>?_
       ·exact ⟨pk C [0,1,2,3],D⟩
       ·refine brQ D (fun D=>?_) fun D=>?_
        ·exact ⟨pk C [0,1,2,3],D⟩
        ·refine ixV f0 C.le D fun br bs f D=>ixI (f.mono C.le) D fun bt D=>?_;exact ⟨pk C [0,1,2,3],D⟩
      ·rintro _ aj ab ⟨C,D⟩;rw [Zcm] at D;refine brQ D (fun D=>?_) fun D=>?_
       ·refine bV C 0 1 ?_;obtain ⟨bu,aq,D⟩:=obind D;refine ZP C 3 rfl (fun _=>⟨[.int .i64 i],[.int .i64 (ε.wrap ((ε.wrap ((ε.wrap (3*(g.length:Int)))+(ε.wrap (k*(g.length:Int)))))+a2))],[],[],rfl,rfl,⟨rfl,rfl⟩,⟨rfl,rfl⟩⟩) rfl rfl aq fun bv bc C=>Zb C 0 rfl rfl rfl (C.rdL 3 rfl frzf_T_impl_Edge).one fun bd C=>?_;dsimp at C;obtain rfl:=oI D;exact ⟨ai,ltS,_,_,pk C [0,1,2,3],a0⟩
       ·obtain rfl:=oI D;exact ⟨ai,ltS,_,_,pk C [0,1,2,3],a0⟩
     ·obtain rfl:=oI D;obtain rfl:=oI a0;exact ⟨b3,ltS,_,_,pk C [0,1,2,3],a9⟩
    ·obtain rfl:=oI D;obtain rfl:=oI a9;exact ⟨b0,ltS,_,_,pk C [0,1,2,3],a6⟩
   ·refine bV C 0 0<|bV C 0 1<|Zb C 1 rfl rfl rfl (C.rdL 2 rfl (Za _)).one fun be C=>Zb C 1 rfl rfl rfl (C.rdL 3 rfl frzf_T_impl_Edge).one fun bf C=>?_;dsimp at C;refine bV C 1 0<|bV C 1 1 ?_;obtain rfl:=oI D;obtain rfl:=oI a6;obtain rfl:=oI a4;obtain rfl:=oI I;exact ⟨b,a1,rfl,pk C [2,3]⟩
theorem ZCx {e v0 classe1 r} (D:Zgd e classe1=some r) (b:SlC (hcell h) eL v0 e):CallsH P 30 #[v0,.bool classe1] h (fun v h'=>∃ w0:Value,∃ w1:Value,v=.tuple #[.agg #[w0,w1],.int .i64 r.2]/\S ψ h h' [.it oL [w0] r.1.Colors,.it (El.ow Zh) [w1] r.1.Edges]):=by
 apply ZyY;rw [Zgd] at D;have C:=sZ hψ;refine new_S C fun b4 k C=>cl0 D C (fun s _ _ i=>ZsG s.fle i (b.mono C.le)) fun r7 l C D=>⟨_,rfl,?_⟩;refine brQ D (fun D=>?_) fun D=>?_
 ·refine Zb C 0 rfl rfl rfl rfl fun o C=>Zb C 0 rfl rfl rfl rfl fun p C=>?_;dsimp at C;refine bV C 0 0<|bV C 0 1 ?_;have C:=C.nilO (E:=eI);have C:=C.nilO (E:=Zh);obtain rfl:=oI D;exact ⟨(.slice none 0 0),(.slice none 0 0),rfl,pk C [1,0]⟩
 ·refine vL b C.le<|brQ D (fun D=>?_) fun D=>?_
  ·refine Zb C 0 rfl rfl rfl rfl fun t C=>Zb C 0 rfl rfl rfl rfl fun u C=>?_;dsimp at C;refine bV C 0 0<|bV C 0 1 ?_;have C:=C.nilO (E:=eI);have C:=C.nilO (E:=Zh);obtain rfl:=oI D;exact ⟨(.slice none 0 0),(.slice none 0 0),rfl,pk C [1,0]⟩
  ·refine cl2 D C (fun f _ _ c=>Zzv f.fle c (b.mono C.le)) fun w g a x C D=>⟨_,_,rfl,?_⟩;refine Zb C 2 rfl rfl rfl (C.rdL 0 rfl (Za _)).one fun y C=>Zb C 2 rfl rfl rfl (C.rdL 1 rfl frzf_T_impl_Edge).one fun j C=>?_;dsimp at C;refine bV C 2 0<|bV C 2 1 ?_;obtain rfl:=oI D;exact ⟨g,a,rfl,pk C [0,1]⟩
theorem ZyJ {g p0 y r} (D:Zib g=some r) (i:CellsC (hcell h) p0 [.int .i64 g.Points,y]) (e:SlC (hcell h) eL y g.Blocks):CallsH P 31 #[.pointer (some p0)] h (fun v h'=>∃ w0:Value,∃ w1:Value,v=.tuple #[.agg #[w0,w1],.int .i64 r.2]/\S ψ h h' [.it oL [w0] r.1.Colors,.it (El.ow Zh) [w1] r.1.Edges]):=by
 apply ZyQ;rw [Zib] at D;have C:=sZ hψ;refine new_S C fun b2 b8 C=>kI i C.le 0<|kV i C.le 1<|vL e C.le<|brQ D (fun D=>?_) fun D=>?_
 ·refine Zb C 0 rfl rfl rfl rfl fun b9 C=>Zb C 0 rfl rfl rfl rfl fun ba C=>?_;dsimp at C;refine bV C 0 0<|bV C 0 1 ?_;have C:=C.nilO (E:=eI);have C:=C.nilO (E:=Zh);obtain rfl:=oI D;exact ⟨(.slice none 0 0),(.slice none 0 0),rfl,pk C [1,0]⟩
 ·refine new_S C fun b5 bb C=>Zb C 0 rfl rfl rfl rfl fun bc C=>Zb C 0 rfl rfl rfl rfl fun bd C=>?_;dsimp at C;have C:=C.nilO (E:=eI);obtain ⟨aj,hn⟩:=Zl D;refine ⟨fun n y6 a8=>∃ xs:List Int,∃ a0:Value,S ψ h a8 [.box b5 [a0,(.slice none 0 0)],.box b2 [(.slice none 0 0),(.slice none 0 0)],.it oL [a0] xs]/\loopN (Zd0 g) n (y6,xs)=some r,⟨aj,_,_,pk C [1,2,0],hn⟩,?_⟩;rintro n _ y6 a8 ⟨xs,a0,C,hn⟩;obtain ⟨m,a,rfl,D,I⟩:=Zk hn;rw [Zd0] at D;refine brQ D (fun D=>?_) fun D=>?_
  ·refine bV C 0 0 ?_;obtain ⟨be,hx,D⟩:=obind D;refine ZP C 2 rfl (fun _=>⟨rfl,rfl⟩) rfl rfl hx fun bf bg C=>Zb C 0 rfl rfl rfl (C.rdL 2 rfl (Za _)).one fun aw C=>?_;dsimp at C;obtain rfl:=oI D;exact ⟨m,ltS,_,_,pk C [0,1,2],I⟩
  ·obtain ⟨al,j⟩:=Zl D;refine ⟨fun a9 y7 a1=>∃ b:List Int,∃ c:Value,S ψ h a1 [.box b5 [c,(.slice none 0 0)],.box b2 [(.slice none 0 0),(.slice none 0 0)],.it oL [c] b]/\loopN (Zdy g) a9 (y7,b)=some a,⟨al,_,_,pk C [0,1,2],j⟩,?_⟩;rintro a9 _ y7 a1 ⟨b,c,C,j⟩;obtain ⟨an,ao,rfl,D,k⟩:=Zk j;rw [Zdy] at D;refine kV i C.le 1<|vL e C.le<|brQ D (fun D=>?_) fun D=>?_
   ·refine bV C 0 0 ?_;obtain ⟨bh,ae,D⟩:=obind D;refine ZP C 2 rfl (fun _=>⟨rfl,rfl⟩) rfl rfl ae fun bi ax C=>Zb C 0 rfl rfl rfl (C.rdL 2 rfl (Za _)).one fun ay C=>?_;dsimp at C;obtain rfl:=oI D;exact ⟨an,ltS,_,_,pk C [0,1,2],k⟩
   ·have C:=C.nilO (E:=Zh);obtain ⟨ap,l⟩:=Zl D;refine ⟨fun aa y8 a2=>∃ o:List Zd,∃ x:Value,S ψ h a2 [.box b5 [c,x],.box b2 [(.slice none 0 0),(.slice none 0 0)],.it oL [c] b,.it (El.ow Zh) [x] o]/\loopN (ZcW g b) aa (y8,o)=some ao,⟨ap,_,_,pk C [1,2,3,0],l⟩,?_⟩;rintro aa _ y8 a2 ⟨o,x,C,l⟩;obtain ⟨aq,ar,rfl,D,p⟩:=Zk l;rw [ZcW] at D;refine brQ D (fun D=>?_) fun D=>?_
    ·obtain ⟨au,t⟩:=Zl D;refine ⟨fun ab y9 a3=>∃ u:List Zd,∃ a4:Value,S ψ h a3 [.box b5 [c,a4],.box b2 [(.slice none 0 0),(.slice none 0 0)],.it oL [c] b,.it (El.ow Zh) [a4] u]/\loopN (Zdm g y8) ab (y9,u)=some ar,⟨au,_,_,pk C [0,1,2,3],t⟩,?_⟩;rintro ab _ y9 a3 ⟨u,a4,C,t⟩;obtain ⟨ac,bj,rfl,D,w⟩:=Zk t;rw [Zdm] at D;refine kV i C.le 1<|vL e C.le<|brQ D (fun D=>?_) fun D=>?_
     ·refine kV i C.le 1<|ixV e C.le D fun bk bm f D=>cl0 D C (fun s _ _ ag=>ZtW s.fle ag (f.mono C.le)) fun bn az C D=>⟨_,rfl,?_⟩;refine brQ D (fun D=>?_) fun D=>?_
      ·refine bV C 0 1 ?_;obtain ⟨bo,ah,D⟩:=obind D;refine ZP C 3 rfl (fun _=>⟨[.int .i64 y8],[.int .i64 (ε.wrap (g.Points+y9))],[],[],rfl,rfl,⟨rfl,rfl⟩,⟨rfl,rfl⟩⟩) rfl rfl ah fun bp b0 C=>Zb C 0 rfl rfl rfl (C.rdL 3 rfl frzf_T_impl_Edge).one fun b1 C=>?_;dsimp at C;obtain rfl:=oI D;exact ⟨ac,ltS,_,_,pk C [0,1,2,3],w⟩
      ·obtain rfl:=oI D;exact ⟨ac,ltS,_,_,pk C [0,1,2,3],w⟩
     ·obtain rfl:=oI D;obtain rfl:=oI w;exact ⟨aq,ltS,_,_,pk C [0,1,2,3],p⟩
    ·refine bV C 0 1<|Zp (C.rdL 3 rfl frzf_T_impl_Edge)<|brQ D (fun D=>?_) fun D=>?_
     ·refine Zb C 1 rfl rfl rfl rfl fun b3 C=>Zb C 1 rfl rfl rfl rfl fun b4 C=>?_;dsimp at C;refine bV C 1 0<|bV C 1 1 ?_;have C:=C.nilO (E:=eI);have C:=C.nilO (E:=Zh);obtain rfl:=oI D;obtain rfl:=oI p;obtain rfl:=oI k;obtain rfl:=oI I;exact ⟨(.slice none 0 0),(.slice none 0 0),rfl,pk C [1,0]⟩
     ·refine bV C 0 0<|bV C 0 1<|Zb C 1 rfl rfl rfl (C.rdL 2 rfl (Za _)).one fun b6 C=>Zb C 1 rfl rfl rfl (C.rdL 3 rfl frzf_T_impl_Edge).one fun b7 C=>?_;dsimp at C;refine bV C 1 0<|bV C 1 1 ?_;obtain rfl:=oI D;obtain rfl:=oI p;obtain rfl:=oI k;obtain rfl:=oI I;exact ⟨c,x,rfl,pk C [2,3]⟩
theorem Zv0 {b w c i v1 j x r} (D:Zho b i j=some r) (y:CellsC (hcell h) w [.int .i64 b.Prime,.int .i64 b.Degree,c]) (k:SlC (hcell h) eI c b.Poly) (e:SlC (hcell h) eI v1 i) (f2:SlC (hcell h) eI x j):zL 121 #[.pointer (some w),v1,x] h ψ eI r:=by
 apply ZEL;rw [Zho] at D;have C:=sZ hψ;refine vL e C.le ?_;obtain ⟨a5,hx,D⟩:=obind D;refine Zaj (E:=eI) C rfl hx fun f a6 C=>?_;obtain ⟨a2,l⟩:=Zl D;refine ⟨fun n i8 g=>∃ xs:List Int,S ψ h g [.it oL [f] xs]/\loopN (ZcG b i j) n (i8,xs)=some r,⟨a2,_,pk C [0],l⟩,?_⟩;rintro n _ i8 g ⟨xs,C,l⟩;obtain ⟨m,a,rfl,D,I⟩:=Zk l;rw [ZcG] at D;refine vL e C.le<|brQ D (fun D=>?_) fun D=>?_
 ·refine ixI (f2.mono C.le) D fun a7 D=>brQ D (fun D=>?_) fun D=>?_
  ·refine ixI (e.mono C.le) D fun a8 D=>ixA (C.rdL 0 rfl (Za _)) D fun a9 aa o p D=>st1_S C 0 rfl o p rfl (fun _=>⟨rfl,rfl⟩) fun ab C=>?_;dsimp at C;obtain rfl:=oI D;exact ⟨m,ltS,_,pk C [0],I⟩
  ·refine ixI (e.mono C.le) D fun ac D=>ixI (f2.mono C.le) D fun ad D=>cl0 D C (fun s _ _ t=>Zur s.fle t (y.mono C.le) (k.mono C.le)) fun ae af C D=>⟨_,rfl,?_⟩;refine ixA (C.rdL 0 rfl (Za _)) D fun ag ah u v D=>st1_S C 0 rfl u v rfl (fun _=>⟨rfl,rfl⟩) fun ai C=>?_;dsimp at C;obtain rfl:=oI D;exact ⟨m,ltS,_,pk C [0],I⟩
 ·obtain rfl:=oI D;obtain rfl:=oI I;exact ⟨f,rfl,pk C [0]⟩
theorem ZEh {c p0 x y r} (D:ZjG c=some r) (b:CellsC (hcell h) p0 [.int .i64 c.Field.Prime,.int .i64 c.Field.Degree,x,y]) (g:SlC (hcell h) eI x c.Field.Poly) (i:SlC (hcell h) eL y c.Rows):zL 72 #[.pointer (some p0)] h ψ eL r:=by
 apply ZwU;rw [ZjG] at D;have C:=sZ hψ;refine kV b C.le 3<|ixV i C.le D fun bb bc f D=>vL f C.le ?_;obtain ⟨t,af,D⟩:=obind D;refine Zaj (E:=eI) C rfl af fun u bd C=>Zo (C.rdL 0 rfl (Za _)).one ?_;have C:=C.freeze 0 rfl (Zg (Za _));dsimp at C;have C:=C.copyF 0 rfl;refine Zmk C fun be bf C=>cl0 D C (fun s _ _ ag=>Zmo s.fle ag (CellsC.part 0 3 (b.mono C.le)) (g.mono C.le)) fun v bg C D=>⟨_,rfl,?_⟩;obtain ⟨au,hn⟩:=Zl D;refine ⟨fun n w y5 a9=>∃ e:List (List Int),S ψ h a9 [.it (El.ow eL) [w] e,.it eL [u] t]/\loopN (ZdL c v) n (e,y5)=some r,⟨au,_,pk C [0,1],hn⟩,?_⟩;rintro n _ w y5 a9 ⟨e,C,hn⟩;obtain ⟨m,a,rfl,D,I⟩:=Zk hn;rw [ZdL] at D;refine kV b C.le 3<|vL i C.le<|brQ D (fun D=>?_) fun D=>?_
 ·refine ZR (E:=eL) (css:=[]) (xs:=([]:List (List Int))) C (fun _=>rfl) rfl rfl fun bh bi C=>?_;obtain ⟨av,j⟩:=Zl D;refine ⟨fun aa v6 y7 ab=>∃ k:List (List Int),S ψ h ab [.it (El.ow eL) [v6] k,.it (El.ow eL) [w] e,.it eL [u] t]/\loopN (ZdI c v e y5) aa (k,y7)=some a,⟨av,_,pk C [0,1,2],j⟩,?_⟩;rintro aa _ v6 y7 ab ⟨k,C,j⟩;obtain ⟨ax,ay,rfl,D,a0⟩:=Zk j;rw [ZdI] at D;refine brQ D (fun D=>?_) fun D=>?_
  ·refine kV b C.le 3<|ixV i C.le D fun bj bk az D=>cl1 D C (fun b0 _ _ ai=>ZrY b0.fle ai (CellsC.part 0 3 (b.mono C.le)) (g.mono C.le) (az.mono C.le)) fun bm bn bo C D=>⟨_,rfl,?_⟩;refine Zo (C.rdL 0 rfl (Za _)).one ?_;have C:=C.freeze 0 rfl (Zg (Za _));dsimp at C;have C:=C.copyF 0 rfl;obtain ⟨bp,aj,D⟩:=obind D;refine Zat C 1 rfl rfl rfl aj fun bq br C=>?_;dsimp at C;obtain rfl:=oI D;exact ⟨ax,ltS,_,pk C [1,2,3],a0⟩
  ·refine ZR (E:=eL) (css:=[]) (xs:=([]:List (List Int))) C (fun _=>rfl) rfl rfl fun bs b8 C=>?_;obtain ⟨b1,l⟩:=Zl D;refine ⟨fun ac v8 y9 a1=>∃ y8:List (List Int),S ψ h a1 [.it (El.ow eL) [v8] y8,.it (El.ow eL) [v6] k,.it (El.ow eL) [w] e,.it eL [u] t]/\loopN (ZeE c v e y5 k) ac (y8,y9)=some ay,⟨b1,_,pk C [0,1,2,3],l⟩,?_⟩;rintro ac _ v8 y9 a1 ⟨y8,C,l⟩;obtain ⟨b3,b4,rfl,D,a2⟩:=Zk l;rw [ZeE] at D;refine Zp (C.rdL 2 rfl (ZK _))<|brQ D (fun D=>?_) fun D=>?_
   ·obtain ⟨b5,o⟩:=Zl D;refine ⟨fun ad a3 ae a4=>∃ p:List (List Int),S ψ h a4 [.it (El.ow eL) [a3] p,.it (El.ow eL) [v6] k,.it (El.ow eL) [w] e,.it eL [u] t]/\loopN (Zew c v e k y9) ad (p,ae)=some b4,⟨b5,_,pk C [0,1,2,3],o⟩,?_⟩;rintro ad _ a3 ae a4 ⟨p,C,o⟩;obtain ⟨b6,bt,rfl,D,a5⟩:=Zk o;rw [Zew] at D;refine brQ D (fun D=>?_) fun D=>?_
    ·refine ixA (C.rdL 2 rfl (ZK _)) D fun bu bv am an D=>ZaQ C 2 rfl am an fun bw C=>ixA (C.rdL 2 rfl (ZK _)) D fun bx bz ao ap D=>ZaQ C 2 rfl ao ap fun c0 C=>cl1 D C (fun b7 _ _ aq=>Zv0 b7.fle aq (CellsC.part 0 3 (b.mono C.le)) (g.mono C.le) (C.rdF 1 rfl) (C.rdF 0 rfl)) fun c3 c4 b9 C D=>⟨_,rfl,?_⟩;refine Zo (C.rdL 0 rfl (Za _)).one ?_;have C:=C.freeze 0 rfl (Zg (Za _));dsimp at C;have C:=C.copyF 0 rfl;obtain ⟨c5,a8,D⟩:=obind D;refine Zat C 3 rfl rfl rfl a8 fun c6 ba C=>?_;dsimp at C;obtain rfl:=oI D;exact ⟨b6,ltS,_,pk C [3,4,5,6],a5⟩
    ·obtain rfl:=oI D;obtain rfl:=oI a5;exact ⟨b3,ltS,_,pk C [0,1,2,3],a2⟩
   ·obtain rfl:=oI D;obtain rfl:=oI a2;obtain rfl:=oI a0;exact ⟨m,ltS,_,pk C [0,3],I⟩
 ·obtain rfl:=oI D;obtain rfl:=oI I;exact ⟨w,rfl,pk C [0]⟩
theorem Zz1 {y p0 a0 a1 r} (D:ZfH y=some r) (a2:CellsC (hcell h) p0 [.int .i64 y.Field.Prime,.int .i64 y.Field.Degree,a0,a1]) (a3:SlC (hcell h) eI a0 y.Field.Poly) (a4:SlC (hcell h) eL a1 y.Rows):CallsH P 32 #[.pointer (some p0)] h (fun v h'=>∃ w0:Value,∃ w1:Value,v=.tuple #[.agg #[w0,w1],.int .i64 r.2]/\S ψ h h' [.it oL [w0] r.1.Colors,.it (El.ow Zh) [w1] r.1.Edges]):=by
 apply ZwG;rw [ZfH] at D;have C:=sZ hψ;refine new_S C fun b2 bj C=>cl0 D C (fun s _ _ hx=>Zmo s.fle hx (CellsC.part 0 3 (a2.mono C.le)) (a3.mono C.le)) fun bk bm C D=>⟨_,rfl,?_⟩;refine brQ D (fun D=>?_) fun D=>?_
 ·refine Zb C 0 rfl rfl rfl rfl fun bn C=>Zb C 0 rfl rfl rfl rfl fun bo C=>?_;dsimp at C;refine bV C 0 0<|bV C 0 1 ?_;have C:=C.nilO (E:=eI);have C:=C.nilO (E:=Zh);obtain rfl:=oI D;exact ⟨(.slice none 0 0),(.slice none 0 0),rfl,pk C [1,0]⟩
 ·refine kV a2 C.le 3<|ixV a4 C.le D fun g bp f D=>vL f C.le<|cl1 D C (fun ar _ _ aj=>ZEh ar.fle aj (a2.mono C.le) (a3.mono C.le) (a4.mono C.le)) fun c w bq C D=>⟨_,rfl,?_⟩;refine Zp (C.rdL 0 rfl (ZK _))<|brQ D (fun D=>?_) fun D=>?_
  ·refine Zb C 1 rfl rfl rfl rfl fun br C=>Zb C 1 rfl rfl rfl rfl fun bs C=>?_;dsimp at C;refine bV C 1 0<|bV C 1 1 ?_;have C:=C.nilO (E:=eI);have C:=C.nilO (E:=Zh);obtain rfl:=oI D;exact ⟨(.slice none 0 0),(.slice none 0 0),rfl,pk C [1,0]⟩
  ·refine new_S C fun b6 bt C=>Zb C 0 rfl rfl rfl rfl fun b7 C=>Zb C 0 rfl rfl rfl rfl fun b8 C=>?_;dsimp at C;have C:=C.nilO (E:=eI);obtain ⟨au,hn⟩:=Zl D;refine ⟨fun n y7 a5=>∃ xs:List Int,∃ a6:Value,S ψ h a5 [.box b6 [a6,(.slice none 0 0)],.it (El.ow eL) [w] c,.box b2 [(.slice none 0 0),(.slice none 0 0)],.it oL [a6] xs]/\loopN (Zdt g c) n (y7,xs)=some r,⟨au,_,_,pk C [1,2,3,0],hn⟩,?_⟩;rintro n _ y7 a5 ⟨xs,a6,C,hn⟩;obtain ⟨m,a,rfl,D,I⟩:=Zk hn;rw [Zdt] at D;refine brQ D (fun D=>?_) fun D=>?_
   ·refine bV C 0 0 ?_;obtain ⟨bu,al,D⟩:=obind D;refine ZP C 3 rfl (fun _=>⟨rfl,rfl⟩) rfl rfl al fun bv b9 C=>Zb C 0 rfl rfl rfl (C.rdL 3 rfl (Za _)).one fun ba C=>?_;dsimp at C;obtain rfl:=oI D;exact ⟨m,ltS,_,_,pk C [0,1,2,3],I⟩
   ·obtain ⟨aw,i⟩:=Zl D;refine ⟨fun af y8 a7=>∃ b:List Int,∃ e:Value,S ψ h a7 [.box b6 [e,(.slice none 0 0)],.it (El.ow eL) [w] c,.box b2 [(.slice none 0 0),(.slice none 0 0)],.it oL [e] b]/\loopN (ZcK g c) af (y8,b)=some a,⟨aw,_,_,pk C [0,1,2,3],i⟩,?_⟩;rintro af _ y8 a7 ⟨b,e,C,i⟩;obtain ⟨ay,az,rfl,D,j⟩:=Zk i;rw [ZcK] at D;refine Zp (C.rdL 1 rfl (ZK _))<|brQ D (fun D=>?_) fun D=>?_
    ·refine bV C 0 0 ?_;obtain ⟨bw,am,D⟩:=obind D;refine ZP C 3 rfl (fun _=>⟨rfl,rfl⟩) rfl rfl am fun bx bb C=>Zb C 0 rfl rfl rfl (C.rdL 3 rfl (Za _)).one fun bc C=>?_;dsimp at C;obtain rfl:=oI D;exact ⟨ay,ltS,_,_,pk C [0,1,2,3],j⟩
    ·have C:=C.nilO (E:=Zh);obtain ⟨b0,k⟩:=Zl D;refine ⟨fun ag y9 a8=>∃ l:List Zd,∃ x:Value,S ψ h a8 [.box b6 [e,x],.it (El.ow eL) [w] c,.box b2 [(.slice none 0 0),(.slice none 0 0)],.it oL [e] b,.it (El.ow Zh) [x] l]/\loopN (Zdb g c b) ag (y9,l)=some az,⟨b0,_,_,pk C [1,2,3,4,0],k⟩,?_⟩;rintro ag _ y9 a8 ⟨l,x,C,k⟩;obtain ⟨b1,b3,rfl,D,o⟩:=Zk k;rw [Zdb] at D;refine brQ D (fun D=>?_) fun D=>?_
     ·obtain ⟨b4,p⟩:=Zl D;refine ⟨fun ah a9 aa=>∃ t:List Zd,∃ ab:Value,S ψ h aa [.box b6 [e,ab],.it (El.ow eL) [w] c,.box b2 [(.slice none 0 0),(.slice none 0 0)],.it oL [e] b,.it (El.ow Zh) [ab] t]/\loopN (ZcU g c y9) ah (a9,t)=some b3,⟨b4,_,_,pk C [0,1,2,3,4],p⟩,?_⟩;rintro ah _ a9 aa ⟨t,ab,C,p⟩;obtain ⟨ai,bz,rfl,D,u⟩:=Zk p;rw [ZcU] at D;refine Zp (C.rdL 1 rfl (ZK _))<|brQ D (fun D=>?_) fun D=>?_
      ·refine ixA (C.rdL 1 rfl (ZK _)) D fun c0 c3 an ao D=>ZaQ C 1 rfl an ao fun c4 C=>ixI (C.rdF 0 rfl) D fun c5 D=>brQ D (fun D=>?_) fun D=>?_
       ·refine bV C 1 1 ?_;obtain ⟨c6,ap,D⟩:=obind D;refine ZP C 5 rfl (fun _=>⟨[.int .i64 y9],[.int .i64 (ε.wrap ((ε.wrap ((g.length:Int)+a9))-1))],[],[],rfl,rfl,⟨rfl,rfl⟩,⟨rfl,rfl⟩⟩) rfl rfl ap fun c7 bd C=>Zb C 1 rfl rfl rfl (C.rdL 5 rfl frzf_T_impl_Edge).one fun be C=>?_;dsimp at C;obtain rfl:=oI D;exact ⟨ai,ltS,_,_,pk C [1,2,3,4,5],u⟩
       ·obtain rfl:=oI D;exact ⟨ai,ltS,_,_,pk C [1,2,3,4,5],u⟩
      ·obtain rfl:=oI D;obtain rfl:=oI u;exact ⟨b1,ltS,_,_,pk C [0,1,2,3,4],o⟩
     ·refine bV C 0 1<|Zp (C.rdL 4 rfl frzf_T_impl_Edge)<|brQ D (fun D=>?_) fun D=>?_
      ·refine Zb C 2 rfl rfl rfl rfl fun bf C=>Zb C 2 rfl rfl rfl rfl fun bg C=>?_;dsimp at C;refine bV C 2 0<|bV C 2 1 ?_;have C:=C.nilO (E:=eI);have C:=C.nilO (E:=Zh);obtain rfl:=oI D;obtain rfl:=oI o;obtain rfl:=oI j;obtain rfl:=oI I;exact ⟨(.slice none 0 0),(.slice none 0 0),rfl,pk C [1,0]⟩
      ·refine bV C 0 0<|bV C 0 1<|Zb C 2 rfl rfl rfl (C.rdL 3 rfl (Za _)).one fun bh C=>Zb C 2 rfl rfl rfl (C.rdL 4 rfl frzf_T_impl_Edge).one fun bi C=>?_;dsimp at C;refine bV C 2 0<|bV C 2 1 ?_;obtain rfl:=oI D;obtain rfl:=oI o;obtain rfl:=oI j;obtain rfl:=oI I;exact ⟨e,x,rfl,pk C [3,4]⟩
theorem ZwO {e u c r} (D:ZcD e=some r) (b:CellsC (hcell h) u [.int .i64 e.Kind,.int .i64 e.Size,c]) (a:SlC ψ eL c e.Rows):CallsH P 12 #[.pointer (some u)] h (fun v h'=>∃ w0:Value,∃ w1:Value,v=.tuple #[.agg #[w0,w1],.int .i64 r.2]/\S ψ h h' [.it oL [w0] r.1.Colors,.it (El.ow Zh) [w1] r.1.Edges]):=by
 apply ZGo;rw [ZcD] at D;have C:=sZ hψ;refine new_S C fun b2 an C=>kI b C.le 0<|brQ D (fun D=>?_) fun D=>?_
 ·refine kV b C.le 2<|cl2 D C (fun s _ _ hx=>ZCx s.fle hx (a.mono C.leF)) fun ao w f ap C D=>⟨_,_,_,rfl,?_⟩;refine Zb C 2 rfl rfl rfl (C.rdL 0 rfl (Za _)).one fun aq C=>Zb C 2 rfl rfl rfl (C.rdL 1 rfl frzf_T_impl_Edge).one fun ar C=>?_;dsimp at C;refine bV C 2 0<|bV C 2 1 ?_;obtain rfl:=oI D;exact ⟨w,f,rfl,pk C [0,1]⟩
 ·refine brQ D (fun D=>?_) fun D=>?_
  ·refine kI b C.le 1<|kV b C.le 2<|Zo (a.mono C.leF).one<|new_S C fun au av C=>cl2 D C (fun x _ _ l=>ZyJ x.fle l (C.cells 0 rfl) (a.mono C.leF)) fun aw y g ax C D=>⟨_,_,_,rfl,?_⟩;refine Zb C 3 rfl rfl rfl (C.rdL 0 rfl (Za _)).one fun ay C=>Zb C 3 rfl rfl rfl (C.rdL 1 rfl frzf_T_impl_Edge).one fun az C=>?_;dsimp at C;refine bV C 3 0<|bV C 3 1 ?_;obtain rfl:=oI D;exact ⟨y,g,rfl,pk C [0,1]⟩
  ·refine brQ D (fun D=>?_) fun D=>?_
   ·refine cl2 D C (fun k _ _ o=>Zuo k.fle o (b.mono C.le) (a.mono k.bas)) fun b0 b1 a4 a6 C D=>⟨_,_,_,_,rfl,?_⟩;refine new_S C fun b4 a7 C=>Zb C 0 rfl rfl rfl rfl fun a8 C=>Zb C 0 rfl rfl rfl rfl fun a9 C=>Zb C 0 rfl rfl rfl (C.rdL 1 rfl (Za _)).one fun aa C=>Zb C 0 rfl rfl rfl (C.rdF 2 rfl).one fun ab C=>?_;dsimp at C;refine cl2 D C (fun a0 _ _ p=>Zz1 a0.fle p (C.cells 0 rfl) (C.rdL 1 rfl (Za _)) (C.rdF 2 rfl)) fun b3 a1 i ac C D=>⟨_,_,_,rfl,?_⟩;refine Zb C 5 rfl rfl rfl (C.rdL 0 rfl (Za _)).one fun ad C=>Zb C 5 rfl rfl rfl (C.rdL 1 rfl frzf_T_impl_Edge).one fun ae C=>?_;dsimp at C;refine bV C 5 0<|bV C 5 1 ?_;obtain rfl:=oI D;exact ⟨a1,i,rfl,pk C [0,1]⟩
   ·refine brQ D (fun D=>?_) fun D=>?_
    ·refine cl2 D C (fun a2 _ _ t=>Zr9 a2.fle t (b.mono C.le) (a.mono C.leF)) fun b6 a3 j af C D=>⟨_,_,_,rfl,?_⟩;refine new_S C fun b5 ag C=>Zb C 0 rfl rfl rfl (C.rdL 1 rfl (Za _)).one fun ah C=>Zb C 0 rfl rfl rfl (C.rdL 2 rfl frzf_T_impl_Edge).one fun ai C=>?_;dsimp at C;refine bV C 0 0<|bV C 0 1<|Zb C 3 rfl rfl rfl (C.rdL 1 rfl (Za _)).one fun aj C=>Zb C 3 rfl rfl rfl (C.rdL 2 rfl frzf_T_impl_Edge).one fun ak C=>?_;dsimp at C;refine bV C 3 0<|bV C 3 1 ?_;obtain rfl:=oI D;exact ⟨a3,j,rfl,pk C [1,2]⟩
    ·refine Zb C 0 rfl rfl rfl rfl fun al C=>Zb C 0 rfl rfl rfl rfl fun am C=>?_;dsimp at C;refine bV C 0 0<|bV C 0 1 ?_;have C:=C.nilO (E:=eI);have C:=C.nilO (E:=Zh);obtain rfl:=oI D;exact ⟨(.slice none 0 0),(.slice none 0 0),rfl,pk C [1,0]⟩
theorem Zx5 {budget0 r} (D:Zjm budget0=some r)  :zR 73 #[.int .i64 budget0] h ψ (.bool r):=by
 apply ZGe;rw [Zjm] at D;have C:=sZ hψ;refine cl0 D C (fun s _ _ a=>Zas s.fle a) fun c b C D=>⟨_,rfl,?_⟩;exact tZ
theorem ZsR {k b c r} (D:ZeF k=some r) (v:SlC (hcell h) eI b k.Colors) (e:SlC (hcell h) Zh c k.Edges):zL 172 #[.agg #[b,c]] h ψ (El.ow El.bool) r:=by
 apply ZDh;rw [ZeF] at D;have C:=sZ hψ;refine new_S C fun b1 ak C=>bV C 0 0<|vL v C.le<|ZR (E:=(El.ow El.bool)) (css:=[]) (xs:=([]:List (List Bool))) C (fun _=>rfl) rfl rfl fun al am C=>?_;obtain ⟨a7,w⟩:=Zl D;refine ⟨fun n p i5 s=>∃ f:List (List Bool),S ψ h s [.it (El.ow (El.ow El.bool)) [p] f,.box b1 [b,c]]/\loopN (ZgD k) n (f,i5)=some r,⟨a7,_,pk C [0,1],w⟩,?_⟩;rintro n _ p i5 s ⟨f,C,w⟩;obtain ⟨m,a,rfl,D,I⟩:=Zk w;rw [ZgD] at D;refine brQ D (fun D=>?_) fun D=>?_
 ·obtain ⟨an,hx,D⟩:=obind D;refine Zaj (E:=El.bool) C rfl hx fun ao ap C=>Zo (C.rdL 0 rfl Zbx).one ?_;obtain ⟨aq,x,D⟩:=obind D;refine Zat C 0 rfl rfl rfl x fun ar au C=>?_;dsimp at C;obtain rfl:=oI D;exact ⟨m,ltS,_,pk C [0,1],I⟩
 ·obtain ⟨a9,g⟩:=Zl D;refine ⟨fun t i6 u=>∃ xs:List (List Bool),S ψ h u [.it (El.ow (El.ow El.bool)) [p] xs,.box b1 [b,c]]/\loopN (ZeC k) t (i6,xs)=some a,⟨a9,_,pk C [0,1],g⟩,?_⟩;rintro t _ i6 u ⟨xs,C,g⟩;obtain ⟨ab,av,rfl,D,l⟩:=Zk g;rw [ZeC] at D;refine bV C 1 1<|vL e C.le<|brQ D (fun D=>?_) fun D=>?_
  ·refine bV C 1 1<|ixA (e.mono C.le) D fun aw ax ad y D=>?_;obtain ⟨cs,ck,hr⟩:=e.cells ad y rfl;obtain rfl:=Zay hr;refine kI ck C.le 0<|kI ck C.le 1<|new_S C fun b7 ay C=>Zb C 0 rfl rfl rfl rfl fun az C=>Zb C 0 rfl rfl rfl rfl fun ah C=>?_;dsimp at C;refine bI C 0 0<|ixA (C.rdL 1 rfl (Zg Zbx)) D fun b0 b2 a0 i D=>Zbr C 1 rfl a0 i fun b3 hd=>bI C 0 1<|ixA (C.rowC 1 rfl hd i Zbx) D fun b4 b5 a1 a2 D=>ZjO C 1 rfl hd i a1 a2 rfl (fun _=>⟨rfl,rfl⟩) fun ai C=>?_;dsimp at C;refine bI C 0 1<|ixA (C.rdL 1 rfl (Zg Zbx)) D fun b6 b8 a3 j D=>Zbr C 1 rfl a3 j fun b9 o=>bI C 0 0<|ixA (C.rowC 1 rfl o j Zbx) D fun ba bb a4 a5 D=>ZjO C 1 rfl o j a4 a5 rfl (fun _=>⟨rfl,rfl⟩) fun aj C=>?_;dsimp at C;obtain rfl:=oI D;exact ⟨ab,ltS,_,pk C [1,2],l⟩
  ·obtain rfl:=oI D;obtain rfl:=oI l;obtain rfl:=oI I;exact ⟨p,rfl,pk C [0]⟩
theorem ZCY {u c e r} (D:ZjF u=some r) (v:SlC (hcell h) eI c u.Colors) (w:SlC (hcell h) Zh e u.Edges):zL 122 #[.agg #[c,e]] h ψ eL r:=by
 apply ZEz;rw [ZjF] at D;have C:=sZ hψ;refine new_S C fun b1 af C=>bV C 0 0<|bV C 0 1<|cl1 D C (fun s _ _ hx=>ZsR s.fle hx (v.mono C.le) (w.mono C.le)) fun j v9 ag C D=>⟨_,rfl,?_⟩;have C:=C.freeze 0 rfl (Zg (Zg Zbx));dsimp at C;refine ZR (E:=eL) (css:=[]) (xs:=([]:List (List Int))) C (fun _=>rfl) rfl rfl fun ah ai C=>?_;obtain ⟨a8,x⟩:=Zl D;refine ⟨fun n k y l=>∃ b:List (List Int),S ψ h l [.it (El.ow eL) [k] b,.it (El.sl (El.sl El.bool)) [v9] j,.box b1 [c,e]]/\loopN (ZfI j) n (b,y)=some r,⟨a8,_,pk C [0,1,2],x⟩,?_⟩;rintro n _ k y l ⟨b,C,x⟩;obtain ⟨m,a,rfl,D,I⟩:=Zk x;rw [ZfI] at D;refine Zp (C.rdF 1 rfl)<|brQ D (fun D=>?_) fun D=>?_
 ·refine ZR (E:=eI) (css:=[]) (xs:=([]:List Int)) C (fun _=>rfl) rfl rfl fun aj ak C=>?_;obtain ⟨a9,g⟩:=Zl D;refine ⟨fun o v6 b7 p=>∃ f:List Int,S ψ h p [.it oL [v6] f,.it (El.ow eL) [k] b,.it (El.sl (El.sl El.bool)) [v9] j,.box b1 [c,e]]/\loopN (ZcV j b y) o (f,b7)=some a,⟨a9,_,pk C [0,1,2,3],g⟩,?_⟩;rintro o _ v6 b7 p ⟨f,C,g⟩;obtain ⟨t,al,rfl,D,i⟩:=Zk g;rw [ZcV] at D;refine Zp (C.rdF 2 rfl)<|brQ D (fun D=>?_) fun D=>?_
  ·refine ixA (C.rdF 2 rfl) D fun am an ad a0 D=>Zok C 2 rfl ad a0 fun ao C=>ixA (C.rdF 0 rfl) D fun ap aq a1 a2 D=>ldB_C (C.rdF 0 rfl) a1 a2<|brQ D (fun D=>?_) fun D=>?_
   ·obtain ⟨ar,a3,D⟩:=obind D;refine ZP C 1 rfl (fun _=>⟨rfl,rfl⟩) rfl rfl a3 fun au av C=>?_;dsimp at C;obtain rfl:=oI D;exact ⟨t,ltS,_,pk C [1,2,3,4],i⟩
   ·obtain rfl:=oI D;exact ⟨t,ltS,_,pk C [1,2,3,4],i⟩
  ·refine Zo (C.rdL 0 rfl (Za _)).one ?_;have C:=C.freeze 0 rfl (Zg (Za _));dsimp at C;have C:=C.copyF 0 rfl;obtain ⟨aw,a4,D⟩:=obind D;refine Zat C 1 rfl rfl rfl a4 fun ax ay C=>?_;dsimp at C;obtain rfl:=oI D;obtain rfl:=oI i;exact ⟨m,ltS,_,pk C [1,2,3],I⟩
 ·obtain rfl:=oI D;obtain rfl:=oI I;exact ⟨k,rfl,pk C [0]⟩
theorem ZBO {b v0 n1 r} (D:Zmf b n1=some r) (j:SlC (hcell h) eI v0 b):zL 208 #[v0,.int .i64 n1] h ψ eI r:=by
 apply ZCz;rw [Zmf] at D;have C:=sZ hψ;refine ZR (E:=eI) (css:=[]) (xs:=([]:List Int)) C (fun _=>rfl) rfl rfl fun v8 a1 C=>?_;obtain ⟨y,u⟩:=Zl D;refine ⟨fun n k g l o=>∃ c:List Int,S ψ h o [.it oL [k] c]/\loopN (ZaJ b n1) n (c,g,l)=some r,⟨y,_,pk C [0],u⟩,?_⟩;rintro n _ k g l o ⟨c,C,u⟩;obtain ⟨m,a,rfl,D,I⟩:=Zk u;rw [ZaJ] at D;refine vL j C.le<|brQ D (fun D=>?_) fun D=>?_
 ·refine ⟨fun i f p=>∃ e:List Int,S ψ h p [.it oL [i] e]/\Zb7 b l e f=some a,?_,?_⟩
  ·refine ⟨fun s t=>S ψ h t [.it oL [k] c]/\ZcF b n1 c g l s=some a,?_,?_⟩
   ·refine brQ D (fun D=>?_) fun D=>?_
    ·refine ixI (j.mono C.le) D fun a2 D=>?_;exact ⟨pk C [0],D⟩
    ·exact ⟨pk C [0],D⟩
   ·rintro _ s t ⟨C,D⟩;rw [ZcF] at D;refine brQ D (fun D=>?_) fun D=>?_
    ·refine ixI (j.mono C.le) D fun a3 D=>brQ D (fun D=>?_) fun D=>?_
     ·obtain ⟨a4,v,D⟩:=obind D;refine ZP C 0 rfl (fun _=>⟨rfl,rfl⟩) rfl rfl v fun a5 a6 C=>?_;dsimp at C;exact ⟨_,pk C [0],D⟩
     ·exact ⟨_,pk C [0],D⟩
    ·exact ⟨_,pk C [0],D⟩
  ·rintro _ i f p ⟨e,C,D⟩;rw [Zb7] at D;refine ixI (j.mono C.le) D fun a7 D=>?_;obtain ⟨a8,w,D⟩:=obind D;refine ZP C 0 rfl (fun _=>⟨rfl,rfl⟩) rfl rfl w fun a9 aa C=>?_;dsimp at C;obtain rfl:=oI D;exact ⟨m,ltS,_,pk C [0],I⟩
 ·refine brQ D (fun D=>?_) fun D=>?_
  ·obtain ⟨ab,x,D⟩:=obind D;refine ZP C 0 rfl (fun _=>⟨rfl,rfl⟩) rfl rfl x fun a0 ac C=>?_;dsimp at C;obtain rfl:=oI D;obtain rfl:=oI I;exact ⟨a0,rfl,pk C [0]⟩
  ·obtain rfl:=oI D;obtain rfl:=oI I;exact ⟨k,rfl,pk C [0]⟩
theorem ZpJ {b v0 r} (D:ZeJ b=some r) (i:SlC (hcell h) eI v0 b):zR 176 #[v0] h ψ (.int .i64 r):=by
 apply Zzq;rw [ZeJ] at D;have C:=sZ hψ;refine ZR (E:=eI) (css:=[]) (xs:=([]:List Int)) C (fun _=>rfl) rfl rfl fun w o C=>?_;obtain ⟨j,f⟩:=Zl D;refine ⟨fun n k l e=>∃ c:List Int,S ψ h e [.it oL [k] c]/\loopN (Zf5 b) n (c,l)=some r,⟨j,_,pk C [0],f⟩,?_⟩;rintro n _ k l e ⟨c,C,f⟩;obtain ⟨m,a,rfl,D,I⟩:=Zk f;rw [Zf5] at D;refine vL i C.le<|brQ D (fun D=>?_) fun D=>?_
 ·refine ixI (i.mono C.le) D fun p D=>cl1 D C (fun s _ _ g=>ZBO s.fle g (C.rdL 0 rfl (Za _))) fun t u v C D=>⟨_,rfl,?_⟩;obtain rfl:=oI D;exact ⟨m,ltS,_,pk C [0],I⟩
 ·refine Zp (C.rdL 0 rfl (Za _)) ?_;exact tZ
theorem ZvD {b v0 r} (D:ZiM b=some r) (f0:SlC (hcell h) eI v0 b):zL 209 #[v0] h ψ eI r:=by
 apply Zxy;rw [ZiM] at D;have C:=sZ hψ;refine ZR (E:=eI) (css:=[]) (xs:=([]:List Int)) C (fun _=>rfl) rfl rfl fun v7 a5 C=>?_;obtain ⟨a1,o⟩:=Zl D;refine ⟨fun n p s g=>∃ c:List Int,S ψ h g [.it oL [p] c]/\loopN (ZgX b) n (c,s)=some r,⟨a1,_,pk C [0],o⟩,?_⟩;rintro n _ p s g ⟨c,C,o⟩;obtain ⟨m,a,rfl,D,I⟩:=Zk o;rw [ZgX] at D;refine vL f0 C.le<|brQ D (fun D=>?_) fun D=>?_
 ·refine Zp (C.rdL 0 rfl (Za _))<|ixI (f0.mono C.le) D fun a6 D=>?_;obtain ⟨a7,t,D⟩:=obind D;refine ZP C 0 rfl (fun _=>⟨rfl,rfl⟩) rfl rfl t fun i a8 C=>?_;dsimp at C;obtain ⟨a2,e⟩:=Zl D;refine ⟨fun j u k=>∃ xs:List Int,S ψ h k [.it oL [i] xs]/\loopN (ZcX s) j (u,xs)=some a,⟨a2,_,pk C [0],e⟩,?_⟩;rintro j _ u k ⟨xs,C,e⟩;obtain ⟨a3,a4,rfl,D,f⟩:=Zk e;rw [ZcX] at D;refine ⟨fun l=>S ψ h l [.it oL [i] xs]/\ZkL u xs=some a4,?_,?_⟩
  ·refine brQ D (fun D=>?_) fun D=>?_
   ·refine ixI (C.rdL 0 rfl (Za _)) D fun a9 D=>ixI (C.rdL 0 rfl (Za _)) D fun aa D=>brQ D (fun D=>?_) fun D=>?_
    ·exact ⟨pk C [0],D⟩
    ·obtain rfl:=oI D;obtain rfl:=oI f;exact ⟨m,ltS,_,pk C [0],I⟩
   ·obtain rfl:=oI D;obtain rfl:=oI f;exact ⟨m,ltS,_,pk C [0],I⟩
  ·rintro _ l ⟨C,D⟩;rw [ZkL] at D;refine ixI (C.rdL 0 rfl (Za _)) D fun ab D=>ixI (C.rdL 0 rfl (Za _)) D fun ac D=>ixA (C.rdL 0 rfl (Za _)) D fun ad ae v w D=>st1_S C 0 rfl v w rfl (fun _=>⟨rfl,rfl⟩) fun af C=>?_;dsimp at C;refine ixA (C.rdL 0 rfl (Za _)) D fun ag ah x y D=>st1_S C 0 rfl x y rfl (fun _=>⟨rfl,rfl⟩) fun ai C=>?_;dsimp at C;obtain rfl:=oI D;exact ⟨a3,ltS,_,pk C [0],f⟩
 ·obtain rfl:=oI D;obtain rfl:=oI I;exact ⟨p,rfl,pk C [0]⟩
theorem ZCM {lists0 v0 k v1 r} (D:ZkR lists0 k=some r) (x:SlC ψ eL v0 lists0) (i:SlC ψ eI v1 k):zL 210 #[v0,v1] h ψ eL r:=by
 apply ZEn;rw [ZkR] at D;have C:=sZ hψ;refine ZR (E:=eL) (css:=[]) (xs:=([]:List (List Int))) C (fun _=>rfl) rfl rfl fun v9 a7 C=>?_;obtain ⟨a4,y⟩:=Zl D;refine ⟨fun n l g o p=>∃ b:List (List Int),S ψ h p [.it (El.ow eL) [l] b]/\loopN (ZaH lists0 k) n (b,g,o)=some r,⟨a4,_,pk C [0],y⟩,?_⟩;rintro n _ l g o p ⟨b,C,y⟩;obtain ⟨m,a,rfl,D,I⟩:=Zk y;rw [ZaH] at D;refine vL x C.leF<|brQ D (fun D=>?_) fun D=>?_
 ·refine ixV x C.leF D fun a8 a9 f D=>cl0 D C (fun s _ _ a0=>ZdR s.fle a0 (f.mono C.leF) (i.mono C.leF)) fun a5 aa C D=>⟨_,rfl,?_⟩;refine ⟨fun j e t=>∃ c:List (List Int),S ψ h t [.it (El.ow eL) [j] c]/\Zco lists0 o c e=some a,?_,?_⟩
  ·refine ⟨fun u v=>S ψ h v [.it (El.ow eL) [l] b]/\Zdd lists0 k b g o a5 u=some a,?_,?_⟩
   ·refine brQ D (fun D=>?_) fun D=>?_
    ·exact ⟨pk C [0],D⟩
    ·exact ⟨pk C [0],D⟩
   ·rintro _ u v ⟨C,D⟩;rw [Zdd] at D;refine brQ D (fun D=>?_) fun D=>?_
    ·refine brQ D (fun D=>?_) fun D=>?_
     ·refine Zo (i.mono C.leF).one ?_;have C:=C.arg i;obtain ⟨ab,a1,D⟩:=obind D;refine Zat C 0 rfl rfl rfl a1 fun ac ad C=>?_;dsimp at C;exact ⟨_,pk C [0],D⟩
     ·exact ⟨_,pk C [0],D⟩
    ·exact ⟨_,pk C [0],D⟩
  ·rintro _ j e t ⟨c,C,D⟩;rw [Zco] at D;refine ixV x C.leF D fun ae af w D=>Zo (w.mono C.leF).one ?_;have C:=C.arg w;obtain ⟨ag,a2,D⟩:=obind D;refine Zat C 0 rfl rfl rfl a2 fun ah ai C=>?_;dsimp at C;obtain rfl:=oI D;exact ⟨m,ltS,_,pk C [0],I⟩
 ·refine brQ D (fun D=>?_) fun D=>?_
  ·refine Zo (i.mono C.leF).one ?_;have C:=C.arg i;obtain ⟨aj,a3,D⟩:=obind D;refine Zat C 0 rfl rfl rfl a3 fun a6 ak C=>?_;dsimp at C;obtain rfl:=oI D;obtain rfl:=oI I;exact ⟨a6,rfl,pk C [0]⟩
  ·obtain rfl:=oI D;obtain rfl:=oI I;exact ⟨l,rfl,pk C [0]⟩
theorem ZsN {y0 v0 y1 v1 r} (D:Zf8 y0 y1=some r) (f0:SlC (hcell h) eL v0 y0) (f1:SlC (hcell h) eI v1 y1):zL 177 #[v0,v1] h ψ eI r:=by
 apply ZwD;rw [Zf8] at D;have C:=sZ hψ;refine vL f0 C.le<|ZR (E:=eL) (css:=[]) (xs:=([]:List (List Int))) C (fun _=>rfl) rfl rfl fun cn co C=>?_;obtain ⟨b4,hn⟩:=Zl D;refine ⟨fun n v6 y7 aq=>∃ c:List (List Int),S ψ h aq [.it (El.ow eL) [v6] c]/\loopN (ZfC y0 y1) n (c,y7)=some r,⟨b4,_,pk C [0],hn⟩,?_⟩;rintro n _ v6 y7 aq ⟨c,C,hn⟩;obtain ⟨m,a,rfl,D,I⟩:=Zk hn;rw [ZfC] at D;refine brQ D (fun D=>?_) fun D=>?_
 ·refine ZR (E:=eI) (css:=[]) (xs:=([]:List Int)) C (fun _=>rfl) rfl rfl fun cp cq C=>?_;obtain ⟨be,k⟩:=Zl D;refine ⟨fun ar v8 y9 a3=>∃ y8:List Int,S ψ h a3 [.it oL [v8] y8,.it (El.ow eL) [v6] c]/\loopN (ZeP y0 y1 c y7) ar (y8,y9)=some a,⟨be,_,pk C [0,1],k⟩,?_⟩;rintro ar _ v8 y9 a3 ⟨y8,C,k⟩;obtain ⟨bh,cr,rfl,D,l⟩:=Zk k;rw [ZeP] at D;refine ixV f0 C.le D fun ct cu f D=>vL f C.le<|brQ D (fun D=>?_) fun D=>?_
  ·refine ixV f0 C.le D fun cv cx bi D=>ixI (bi.mono C.le) D fun cy D=>ixI (f1.mono C.le) D fun cz D=>?_;obtain ⟨d0,b8,D⟩:=obind D;refine ZP C 0 rfl (fun _=>⟨rfl,rfl⟩) rfl rfl b8 fun d1 d2 C=>?_;dsimp at C;obtain rfl:=oI D;exact ⟨bh,ltS,_,pk C [0,1],l⟩
  ·obtain ⟨u,g,D⟩:=obind D;obtain ⟨d3,a4,D⟩:=obind D;obtain ⟨d4,a5,D⟩:=obind D;obtain ⟨d5,a6,D⟩:=obind D;refine ⟨fun _=>False,?_⟩;have j:=C;have b:=eX a3;refine ⟨?_,?_⟩
   ·refine Z6 (f1.mono C.le) g fun bt b9=>ZL<|ldI_C (f1.mono j.le) b9 g<|Ztm (E:=eI) (css:=[[.int .i64 u]]) (xs:=([u]:List Int)) C (fun _=>⟨[],[],rfl,⟨rfl,rfl⟩,rfl⟩) rfl rfl fun bu c6 xE C=>⟨eZ (b.trans xE),?_⟩;replace b:=b.trans xE;obtain ⟨c7,d6,a7,au⟩:=id C;refine (ZvD a7.fle a4 (C.rdL 1 rfl (Za _))).mono fun d7 c8 ⟨bv,ba,v⟩=>⟨_,ba,eZ (b.trans v.ext),?_⟩;replace b:=b.trans v.ext;replace C:=join1 a7 au v;clear v a7 au;refine app_S C 1 rfl (Zcj (Zbe _) (C.rdL 0 rfl (Za _))) rfl rfl a5 fun bw c9 C=>?_;dsimp at C;refine Zo (C.rdL 1 rfl (Za _)).one ?_;have C:=C.freeze 1 rfl (Zg (Za _));dsimp at C;have C:=C.copyF 1 rfl;refine Zat C 3 rfl rfl rfl a6 fun bx ca C=>?_;dsimp at C;obtain rfl:=oI D;obtain rfl:=oI l;exact ⟨m,ltS,_,pk C [3],I⟩
   ·obtain ⟨cb,d8,a8,av⟩:=id C;refine (ZvD a8.fle a4 (C.rdL 0 rfl (Za _))).mono fun d9 cc ⟨bz,bb,w⟩=>⟨_,bb,eZ (b.trans w.ext),?_⟩;replace b:=b.trans w.ext;replace C:=join1 a8 av w;clear w a8 av;refine Z6 (f1.mono C.le) g fun c0 bc=>ZL<|ldI_C (f1.mono j.le) bc g<|Ztm (E:=eI) (css:=[[.int .i64 u]]) (xs:=([u]:List Int)) C (fun _=>⟨[],[],rfl,⟨rfl,rfl⟩,rfl⟩) rfl rfl fun c3 cd xE C=>⟨eZ (b.trans xE),?_⟩;replace b:=b.trans xE;refine app_S C 0 rfl (Zcj (Zbe _) (C.rdL 1 rfl (Za _))) rfl rfl a5 fun c4 ce C=>?_;dsimp at C;refine Zo (C.rdL 0 rfl (Za _)).one ?_;have C:=C.freeze 0 rfl (Zg (Za _));dsimp at C;have C:=C.copyF 0 rfl;refine Zat C 3 rfl rfl rfl a6 fun c5 cf C=>?_;dsimp at C;obtain rfl:=oI D;obtain rfl:=oI l;exact ⟨m,ltS,_,pk C [3],I⟩
 ·refine ZR (E:=eL) (css:=[]) (xs:=([]:List (List Int))) C (fun _=>rfl) rfl rfl fun da cg C=>?_;obtain ⟨bj,o⟩:=Zl D;refine ⟨fun aw x ax a9=>∃ e:List (List Int),S ψ h a9 [.it (El.ow eL) [x] e,.it (El.ow eL) [v6] c]/\loopN (Zea y0 c) aw (e,ax)=some a,⟨bj,_,pk C [0,1],o⟩,?_⟩;rintro aw _ x ax a9 ⟨e,C,o⟩;obtain ⟨bk,bm,rfl,D,aa⟩:=Zk o;rw [Zea] at D;refine brQ D (fun D=>?_) fun D=>?_
  ·refine ixA (C.rdL 1 rfl (ZK _)) D fun db dc bd ai D=>ZaQ C 1 rfl bd ai fun dd C=>?_;have C:=C.freeze 1 rfl (Zg (ZK _));dsimp at C;refine cl1 D C (fun bn ay _ aj=>ZCM bn.fle aj (frF ay 1 rfl) (frF ay 0 rfl)) fun de df ch C D=>⟨_,rfl,?_⟩;obtain rfl:=oI D;exact ⟨bk,ltS,_,pk C [0,3],aa⟩
  ·refine ZR (E:=eI) (css:=[]) (xs:=([]:List Int)) C (fun _=>rfl) rfl rfl fun dg cj C=>?_;obtain ⟨bo,p⟩:=Zl D;refine ⟨fun az ab ac ad=>∃ ae:List Int,S ψ h ad [.it oL [ab] ae,.it (El.ow eL) [x] e,.it (El.ow eL) [v6] c]/\loopN (ZdV y0 c e) az (ae,ac)=some bm,⟨bo,_,pk C [0,1,2],p⟩,?_⟩;rintro az _ ab ac ad ⟨ae,C,p⟩;obtain ⟨bp,bq,rfl,D,af⟩:=Zk p;rw [ZdV] at D;refine brQ D (fun D=>?_) fun D=>?_
   ·obtain ⟨br,s⟩:=Zl D;refine ⟨fun b0 y b1 ag=>∃ i:List Int,S ψ h ag [.it oL [y] i,.it (El.ow eL) [x] e,.it (El.ow eL) [v6] c]/\loopN (Zc6 c e ac) b0 (i,b1)=some bq,⟨br,_,pk C [0,1,2],s⟩,?_⟩;rintro b0 _ y b1 ag ⟨i,C,s⟩;obtain ⟨b2,dh,rfl,D,t⟩:=Zk s;rw [Zc6] at D;refine Zp (C.rdL 1 rfl (ZK _))<|brQ D (fun D=>?_) fun D=>?_
    ·refine ixA (C.rdL 1 rfl (ZK _)) D fun di dj ak al D=>ZaQ C 1 rfl ak al fun dk C=>ixA (C.rdL 3 rfl (ZK _)) D fun dl dm am an D=>ZaQ C 3 rfl am an fun dn C=>cl0 D C (fun bs _ _ ao=>ZdR bs.fle ao (C.rdF 1 rfl) (C.rdF 0 rfl)) fun dp ck C D=>⟨_,rfl,?_⟩;refine brQ D (fun D=>?_) fun D=>?_
     ·obtain ⟨dq,ap,D⟩:=obind D;refine ZP C 2 rfl (fun _=>⟨rfl,rfl⟩) rfl rfl ap fun dr cm C=>?_;dsimp at C;obtain rfl:=oI D;exact ⟨b2,ltS,_,pk C [2,3,4],t⟩
     ·obtain rfl:=oI D;exact ⟨b2,ltS,_,pk C [2,3,4],t⟩
    ·obtain rfl:=oI D;obtain rfl:=oI t;exact ⟨bp,ltS,_,pk C [0,1,2],af⟩
   ·obtain rfl:=oI D;obtain rfl:=oI af;obtain rfl:=oI aa;obtain rfl:=oI I;exact ⟨ab,rfl,pk C [0]⟩
theorem Zvo {b v0 cells1 v1 r} (D:Zfe b cells1=some r) (p:SlC (hcell h) eL v0 b) (t:SlC (hcell h) eI v1 cells1):zL 124 #[v0,v1] h ψ eI r:=by
 apply ZyA;rw [Zfe] at D;have C:=sZ hψ;refine cl0 D C (fun s _ _ hx=>ZpJ s.fle hx (t.mono C.le)) fun r8 a1 C D=>⟨_,rfl,?_⟩;refine cl1 D C (fun u _ _ g=>ZsN u.fle g (p.mono C.le) (t.mono C.le)) fun a2 a3 a4 C D=>⟨_,rfl,?_⟩;obtain ⟨v,i⟩:=Zl D;refine ⟨fun n e j f=>∃ c:List Int,S ψ h f [.it oL [j] c]/\loopN (ZcE b) n (e,c)=some r,⟨v,_,pk C [0],i⟩,?_⟩;rintro n _ e j f ⟨c,C,i⟩;obtain ⟨m,a,rfl,D,I⟩:=Zk i;rw [ZcE] at D;refine cl0 D C (fun w _ _ k=>ZpJ w.fle k (C.rdL 0 rfl (Za _))) fun a5 a6 C D=>⟨_,rfl,?_⟩;refine brQ D (fun D=>?_) fun D=>?_
 ·refine cl0 D C (fun x _ _ l=>ZpJ x.fle l (C.rdL 0 rfl (Za _))) fun a7 a8 C D=>⟨_,rfl,?_⟩;refine cl1 D C (fun y _ _ o=>ZsN y.fle o (p.mono C.le) (C.rdL 0 rfl (Za _))) fun a9 aa ab C D=>⟨_,rfl,?_⟩;obtain rfl:=oI D;exact ⟨m,ltS,_,pk C [0],I⟩
 ·obtain rfl:=oI D;obtain rfl:=oI I;exact ⟨j,rfl,pk C [0]⟩
theorem ZvQ {cells0 v0 r} (D:ZjH cells0=some r) (c:SlC (hcell h) eI v0 cells0):zR 173 #[v0] h ψ (.int .i64 r):=by
 apply ZGn;rw [ZjH] at D;have C:=sZ hψ;refine lp2 D (nlS C) fun m k l p a C D I=>?_;rw [ZiI] at D;refine vL c C.le<|brR D (fun D=>tZ) fun D=>lp2 D (nlS C) fun f e o s j C D b=>?_;rw [Zcc] at D;refine brQ D (fun D=>?_) fun D=>?_
 ·refine ⟨fun g i=>S ψ h i []/\Zca cells0 l e o g=some j,?_,?_⟩
  ·refine ixI (c.mono C.le) D fun t D=>ixI (c.mono C.le) D fun u D=>brR D (fun D=>tZ) fun D=>brQ D (fun D=>tZ) fun D=>ixI (c.mono C.le) D fun v D=>?_;exact tZ
  ·rintro _ g i ⟨C,D⟩;rw [Zca] at D;refine brQ D (fun D=>?_) fun D=>?_
   ·refine ixI (c.mono C.le) D fun w D=>?_;obtain rfl:=oI D;exact ⟨f,ltS,nlS C,b⟩
   ·obtain rfl:=oI D;exact ⟨f,ltS,nlS C,b⟩
 ·obtain rfl:=oI D;obtain rfl:=oI b;exact ⟨m,ltS,nlS C,I⟩
theorem ZDl {colors0 v0 table1 v1 r} (D:Zie colors0 table1=some r) (u:SlC (hcell h) eI v0 colors0) (f1:SlC (hcell h) (El.sl El.bool) v1 table1):CallsH P 206 #[v0,v1] h (fun v h'=>∃ w0:Value,∃ w1:Value,v=.agg #[w0,w1]/\S ψ h h' [.it oL [w0] r.Colors,.it (El.ow Zh) [w1] r.Edges]):=by
 apply ZCA;rw [Zie] at D;have C:=sZ hψ;refine new_S C fun b4 ae C=>cl1 D C (fun s _ _ hx=>Zhy s.fle hx (u.mono C.le)) fun w i af C D=>⟨_,rfl,?_⟩;refine ZR (E:=Zh) (css:=[]) (xs:=([]:List Zd)) C (fun _=>rfl) rfl rfl fun ag ah C=>Zo (C.rdL 1 rfl (Za _)).one<|Zo (C.rdL 0 rfl frzf_T_impl_Edge).one<|new_S C fun b5 ai C=>Zb C 0 rfl rfl rfl (C.rdL 2 rfl (Za _)).one fun aj C=>Zb C 0 rfl rfl rfl (C.rdL 1 rfl frzf_T_impl_Edge).one fun ak C=>?_;dsimp at C;obtain ⟨a5,x⟩:=Zl D;refine ⟨fun n k l=>∃ xs:List Zd,∃ g:Value,S ψ h l [.box b5 [i,g],.it (El.ow Zh) [g] xs,.it oL [i] w,.box b4 [(.slice none 0 0),(.slice none 0 0)]]/\loopN (ZfX colors0 table1 w) n (k,xs)=some r,⟨a5,_,_,pk C [0,1,2,3],x⟩,?_⟩;rintro n _ k l ⟨xs,g,C,x⟩;obtain ⟨m,a,rfl,D,I⟩:=Zk x;rw [ZfX] at D;refine vL u C.le<|brQ D (fun D=>?_) fun D=>?_
 ·obtain ⟨a7,b⟩:=Zl D;refine ⟨fun o y p=>∃ c:List Zd,∃ j:Value,S ψ h p [.box b5 [i,j],.it (El.ow Zh) [j] c,.it oL [i] w,.box b4 [(.slice none 0 0),(.slice none 0 0)]]/\loopN (Zdh colors0 table1 k) o (y,c)=some a,⟨a7,_,_,pk C [0,1,2,3],b⟩,?_⟩;rintro o _ y p ⟨c,j,C,b⟩;obtain ⟨t,al,rfl,D,e⟩:=Zk b;rw [Zdh] at D;refine vL u C.le<|brQ D (fun D=>?_) fun D=>?_
  ·refine ixV f1 C.le D fun am an f D=>ixA (f.mono C.le) D fun ao ap a0 a1 D=>ldB_C (f.mono C.le) a0 a1<|brQ D (fun D=>?_) fun D=>?_
   ·refine bV C 0 1 ?_;obtain ⟨aq,a2,D⟩:=obind D;refine ZP C 1 rfl (fun _=>⟨[.int .i64 k],[.int .i64 y],[],[],rfl,rfl,⟨rfl,rfl⟩,⟨rfl,rfl⟩⟩) rfl rfl a2 fun ar aa C=>Zb C 0 rfl rfl rfl (C.rdL 1 rfl frzf_T_impl_Edge).one fun ab C=>?_;dsimp at C;obtain rfl:=oI D;exact ⟨t,ltS,_,_,pk C [0,1,2,3],e⟩
   ·obtain rfl:=oI D;exact ⟨t,ltS,_,_,pk C [0,1,2,3],e⟩
  ·obtain rfl:=oI D;obtain rfl:=oI e;exact ⟨m,ltS,_,_,pk C [0,1,2,3],I⟩
 ·refine bV C 0 0<|bV C 0 1<|Zb C 3 rfl rfl rfl (C.rdL 2 rfl (Za _)).one fun ac C=>Zb C 3 rfl rfl rfl (C.rdL 1 rfl frzf_T_impl_Edge).one fun ad C=>?_;dsimp at C;refine bV C 3 0<|bV C 3 1 ?_;obtain rfl:=oI D;obtain rfl:=oI I;exact ⟨i,g,rfl,pk C [2,1]⟩
end
end Go.Proofs.YtccncimchmimdaaGreatDoor
