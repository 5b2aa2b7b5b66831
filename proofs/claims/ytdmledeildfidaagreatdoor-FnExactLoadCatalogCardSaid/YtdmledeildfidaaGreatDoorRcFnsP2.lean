import Derived.Test.YtdmledeildfidaaGreatDoorVcLw
import Derived.Test.YtdmledeildfidaaGreatDoorVcAu
import Derived.Test.YtdmledeildfidaaGreatDoorVcDn
import Derived.Test.YtdmledeildfidaaGreatDoorRcFnsP1
open Go.IntKind renaming i64->ε
namespace Go.Proofs.YtdmledeildfidaaGreatDoor
open Go Go.Vc
set_option linter.unusedVariables false
set_option linter.unusedSimpArgs false
set_option maxRecDepth 20000
set_option maxHeartbeats 4000000
attribute [local irreducible] CallsQ vLen vIdx IntKind.wrap hcell vNew vNewS vSliceS vStore1 vAppend vMake vCopy vB2S vS2B vNilS vSliceStr
section
variable {ψ:CM} {h:Heap} (hψ:CLe ψ (hcell h))
include hψ
theorem ZEK {l p0 o u r} (U:ZfT l=some r) (ac:CellsC (hcell h) p0 [.int .i64 l.Field.Prime,.int .i64 l.Field.Degree,o,u]) (ag:sc h eI o l.Field.Poly) (a3:sc h eL u l.Rows):CallsH P 93 #[.pointer (some p0)] h (fun v h'=>∃ w0 w1,v=.tuple #[.agg #[w0,w1],.int .i64 r.2]/\S ψ h h' [.it oL [w0] r.1.Colors,.it (El.ow Zg) [w1] r.1.Edges]):=by
 refine zT [[9,42],[13,48],[17,54],[20,60]] Tryz.func93 fun T=>?_;refine new_S T fun b2 ax T=>?_;refine cl0 U T (fun s _ _ hx=>Zms s.fle hx (CellsC.part 0 3 slA) slA) fun ay az T U=>⟨_,rfl,?_⟩;apply brQ U<;>intro U
 ·(iterate 2 refine boxA fun b0 T=>?_);refine lsA ?_;exact endX
 ·refine kV ac T.le 3 ?_;refine ixV a3 T.le U fun ad b1 f U=>?_;refine vL f T.le ?_;refine cm1 U T (fun s hx=>ZDo s hx slA slA slA) fun j k b3 T U=>⟨_,rfl,?_⟩;refine Zi slA ?_;apply brQ U<;>intro U
  ·(iterate 2 refine boxA fun b4 T=>?_);refine lsA ?_;exact endX
  ·refine new_S T fun b6 b5 T=>?_;(iterate 2 refine boxA fun ah T=>?_);have T:=T.nilO (E:=eI);refine lw12 U (fun y7 xs w=>([.box b6 [w,(.slice none 0 0)],.it (El.ow eL) [k] j,.box b2 [(.slice none 0 0),(.slice none 0 0)],.it oL [w] xs],y7,xs)) fun y7 ai xs w a T U W=>?_;apply brQ U<;>intro U
   ·refine bV T 0 0 ?_;obtain ⟨b7,a5,U⟩:=obind U;refine ZaY T 3 rfl (fun _=>⟨rfl,rfl⟩) rfl rfl a5 fun b8 aj T=>?_;refine boxA fun ak T=>?_;exact endL
   ·refine lw12 U (fun y8 c e=>([.box b6 [e,(.slice none 0 0)],.it (El.ow eL) [k] j,.box b2 [(.slice none 0 0),(.slice none 0 0)],.it oL [e] c],y8,c)) fun y8 al c e b9 T U W=>?_;refine Zi slA ?_;apply brQ U<;>intro U
    ·refine bV T 0 0 ?_;obtain ⟨ba,a6,U⟩:=obind U;refine ZaY T 3 rfl (fun _=>⟨rfl,rfl⟩) rfl rfl a6 fun bb am T=>?_;refine boxA fun ao T=>?_;exact endL
    ·have T:=T.nilO (E:=Zg);refine lw12 U (fun y9 g x=>([.box b6 [e,x],.it (El.ow eL) [k] j,.box b2 [(.slice none 0 0),(.slice none 0 0)],.it oL [e] c,.it (El.ow Zg) [x] g],y9,g)) fun y9 ap g x bc T U W=>?_;apply brQ U<;>intro U
     ·refine lw12 U (fun y i a0=>([.box b6 [e,a0],.it (El.ow eL) [k] j,.box b2 [(.slice none 0 0),(.slice none 0 0)],.it oL [e] c,.it (El.ow Zg) [a0] i],y,i)) fun y aq i a0 bd T U W=>?_;refine Zi slA ?_;apply brQ U<;>intro U
      ·refine ixA slA U fun be bf a8 a9 U=>?_;refine ZaN T 1 rfl a8 a9 fun bg T=>?_;refine ixI slA U fun bh U=>?_;apply brQ U<;>intro U
       ·refine bV T 1 1 ?_;obtain ⟨bi,aa,U⟩:=obind U;refine ZaY T 5 rfl (fun _=>⟨[.int .i64 y9],[.int .i64 (ε.wrap ((ε.wrap ((ad.length:Int)+y))-1))],[],[],rfl,rfl,⟨rfl,rfl⟩,⟨rfl,rfl⟩⟩) rfl rfl aa fun bj ar T=>?_;refine boxA fun au T=>?_;exact endL
       ·exact endL
      ·exact endX
     ·refine bV T 0 1 ?_;refine Zi slA ?_;apply brQ U<;>intro U
      ·(iterate 2 refine boxA fun av T=>?_);refine lsA ?_;exact endX
      ·refine lsA ?_;(iterate 2 refine boxA fun aw T=>?_);refine lsA ?_;exact endX
theorem ZH4 {e o c r} (U:ZcG e=some r) (f:CellsC (hcell h) o [.int .i64 e.Kind,.int .i64 e.Size,c]) (a:SlC ψ eL c e.Rows):CallsH P 60 #[.pointer (some o)] h (fun v h'=>∃ w0 w1,v=.tuple #[.agg #[w0,w1],.int .i64 r.2]/\S ψ h h' [.it oL [w0] r.1.Colors,.it (El.ow Zg) [w1] r.1.Edges]):=by
 refine zO Tryz.func60 fun T=>?_;refine new_S T fun b2 af T=>?_;refine kI f T.le 0 ?_;apply brQ U<;>intro U
 ·refine kV f T.le 2 ?_;refine cl2 U T (fun s _ _ hx=>ZAU s.fle hx (a.mono T.leF)) fun ag ah y ai T U=>⟨_,_,_,rfl,?_⟩;(iterate 2 refine boxA fun aj T=>?_);refine lsA ?_;exact endS
 ·apply brQ U<;>intro U
  ·refine lsA ?_;refine ZF (a.mono T.leF).one ?_;refine new_S T fun ak al T=>?_;refine cl2 U T (fun u _ _ i=>ZD3 u.fle i (T.cells 0 rfl) (a.mono T.leF)) fun am ao a0 ap T U=>⟨_,_,_,rfl,?_⟩;(iterate 2 refine boxA fun aq T=>?_);refine lsA ?_;exact endS
  ·apply brQ U<;>intro U
   ·refine cl2 U T (fun g _ _ j=>Zvw g.fle j slA (a.mono g.bas)) fun ar au a1 a5 T U=>⟨_,_,_,_,rfl,?_⟩;refine new_S T fun b4 a6 T=>?_;(iterate 4 refine boxA fun a7 T=>?_);refine cl2 U T (fun w _ _ k=>ZEK w.fle k (T.cells 0 rfl) slA slA) fun av aw a2 a8 T U=>⟨_,_,_,rfl,?_⟩;(iterate 2 refine boxA fun a9 T=>?_);refine lsA ?_;exact endS
   ·apply brQ U<;>intro U
    ·refine cl2 U T (fun x _ _ l=>Zwb x.fle l slA (a.mono T.leF)) fun ax ay a3 aa T U=>⟨_,_,_,rfl,?_⟩;refine new_S T fun b5 ab T=>?_;(iterate 2 refine boxA fun ac T=>?_);refine lsA ?_;(iterate 2 refine boxA fun ad T=>?_);refine lsA ?_;exact endS
    ·(iterate 2 refine boxA fun ae T=>?_);refine lsA ?_;exact endX
theorem Zzz {budget0 r} (U:ZmY budget0=some r)  :zR 146 #[.int .i64 budget0] h ψ (.bool r):=by
 refine zO Tryz.func146 fun T=>?_;refine cm0 U T (fun s a=>Zak s a) fun e c T U=>⟨_,rfl,?_⟩;exact tZ
theorem Zwc {l c e r} (U:Zfh l=some r) (o:sc h eI c l.Colors) (j:sc h Zg e l.Edges):zL 270 #[.agg #[c,e]] h ψ (El.ow El.bool) r:=by
 refine zT [[4,25,30],[8,36]] Tryz.func270 fun T=>?_;refine new_S T fun b1 a9 T=>?_;refine bV T 0 0 ?_;refine vL o T.le ?_;refine neA (El.ow El.bool) fun aa ab T=>?_;refine lw21 U (fun s i5 f=>([.it (El.ow (El.ow El.bool)) [s] f,.box b1 [c,e]],f,i5)) fun s i5 ac f a T U W=>?_;apply brQ U<;>intro U
 ·refine mkO El.bool U fun ae af ag T U=>?_;refine ZF oneA ?_;refine piA U 0 fun ah ai aj T U=>?_;exact endL
 ·refine lw11 U (fun i6 xs=>([.it (El.ow (El.ow El.bool)) [s] xs,.box b1 [c,e]],i6,xs)) fun i6 ak xs al T U W=>?_;refine bV T 1 1 ?_;refine vL j T.le ?_;apply brQ U<;>intro U
  ·refine bV T 1 1 ?_;refine ixA slA U fun am ao ad u U=>?_;obtain ⟨cs,ck,hr⟩:=j.cells ad u rfl;obtain rfl:=Zau hr;refine lsA ?_;refine new_S T fun b7 ap T=>?_;(iterate 2 refine boxA fun a6 T=>?_);refine bI T 0 0 ?_;refine ixA slA U fun aq ar v g U=>?_;refine Za2 T 1 rfl v g fun au hd=>?_;refine bI T 0 1 ?_;refine ixA (T.rowC 1 rfl hd g Zb3) U fun av aw w x U=>?_;refine ZlG T 1 rfl hd g w x rfl (fun _=>⟨rfl,rfl⟩) fun a7 T=>?_;dsimp at T;refine bI T 0 1 ?_;refine ixA slA U fun ax ay y i U=>?_;refine Za2 T 1 rfl y i fun az k=>?_;refine bI T 0 0 ?_;refine ixA (T.rowC 1 rfl k i Zb3) U fun b0 b2 a0 a1 U=>?_;refine ZlG T 1 rfl k i a0 a1 rfl (fun _=>⟨rfl,rfl⟩) fun a8 T=>?_;dsimp at T;exact endL
  ·exact endX
theorem ZFC {i c e r} (U:Zkd i=some r) (a1:sc h eI c i.Colors) (a2:sc h Zg e i.Edges):zL 211 #[.agg #[c,e]] h ψ eL r:=by
 refine zT [[4,25,30],[8,37,42]] Tryz.func211 fun T=>?_;refine new_S T fun u a6 T=>?_;refine lsA ?_;refine cm1 U T (fun s hx=>Zwc s hx slA slA) fun v w a7 T U=>⟨_,rfl,?_⟩;have T:=frA 0;refine neA eL fun a8 a9 T=>?_;refine lw21 U (fun j x f=>([.it (El.ow eL) [j] f,.it (El.sl (El.sl El.bool)) [w] v,.box u [c,e]],f,x)) fun j x aa f a T U W=>?_;refine Zi slA ?_;apply brQ U<;>intro U
 ·refine neA eI fun ab ac T=>?_;refine lw21 U (fun y b7 g=>([.it oL [y] g,.it (El.ow eL) [j] f,.it (El.sl (El.sl El.bool)) [w] v,.box u [c,e]],g,b7)) fun y b7 ae g af T U W=>?_;refine Zi slA ?_;apply brQ U<;>intro U
  ·refine ixA slA U fun ag ah ad k U=>?_;refine Zo0 T 2 rfl ad k fun ai T=>?_;refine ixA slA U fun aj ak l o U=>?_;refine ldB_C slA l o ?_;apply brQ U<;>intro U
   ·refine puA U 1 fun al am ao T U=>?_;exact endL
   ·exact endL
  ·refine ZF oneA ?_;have T:=frA 0;have T:=T.copyF 0 rfl;refine piA U 1 fun ap aq ar T U=>?_;exact endX
 ·exact endX
theorem ZDf {c v0 n1 r} (U:ZpP c n1=some r) (v:sc h eI v0 c):zL 308 #[v0,.int .i64 n1] h ψ eI r:=by
 refine zU [[4,31,39,42]] [[7,147],[10,31,39]] Tryz.func308 fun T=>?_;refine neA eI fun v8 w T=>?_;refine lw31 U (fun u i k e=>([.it oL [u] e],e,i,k)) fun u i k x e a T U W=>?_;refine vL v T.le ?_;apply brQ U<;>intro U
 ·refine ⟨fun j g l=>∃ f,S ψ h l [.it oL [j] f]/\Zc6 c k f g=some a,?_,?_⟩
  ·refine ⟨fun o s=>S ψ h s [.it oL [u] e]/\Zds c n1 e i k o=some a,?_,?_⟩
   ·apply brQ U<;>intro U
    ·refine ixI slA U fun y U=>?_;exact endC
    ·exact endC
   ·rintro _ o s ⟨T,U⟩;apply brQ U<;>intro U
    ·refine ixI slA U fun a0 U=>?_;apply brQ U<;>intro U
     ·refine puA U 0 fun a1 a2 a3 T U=>?_;exact endC
     ·exact endC
    ·exact endC
  ·rintro _ j g l ⟨f,T,U⟩;refine ixI slA U fun a4 U=>?_;refine puA U 0 fun a5 a6 a7 T U=>?_;exact endL
 ·apply brQ U<;>intro U
  ·refine puA U 0 fun a8 a9 aa T U=>?_;exact endX
  ·exact endX
theorem ZnA {e v0 r} (U:ZfC e=some r) (i:sc h eI v0 e):zR 274 #[v0] h ψ (.int .i64 r):=by
 refine zT [[3,19,24]] Tryz.func274 fun T=>?_;refine neA eI fun x k T=>?_;refine lw21 U (fun f g c=>([.it oL [f] c],c,g)) fun f g l c a T U W=>?_;refine vL i T.le ?_;apply brQ U<;>intro U
 ·refine ixI slA U fun o U=>?_;refine cm1 U T (fun s j=>ZDf s j slA) fun u v w T U=>⟨_,rfl,?_⟩;exact endL
 ·refine Zi slA ?_;exact tZ
theorem Zr9 {e v0 r} (U:Zkc e=some r) (w:sc h eI v0 e):zL 309 #[v0] h ψ eI r:=by
 refine zU [[3,19,24],[7,30]] [[8]] Tryz.func309 fun T=>?_;refine neA eI fun v7 x T=>?_;refine lw21 U (fun s u c=>([.it oL [s] c],c,u)) fun s u y c a T U W=>?_;refine vL w T.le ?_;apply brQ U<;>intro U
 ·refine Zi slA ?_;refine ixI slA U fun a0 U=>?_;refine puA U 0 fun a1 f a2 T U=>?_;refine lw11 U (fun i xs=>([.it oL [f] xs],i,xs)) fun i a3 xs v T U W=>?_;refine ⟨fun g=>S ψ h g [.it oL [f] xs]/\Zow i xs=some v,?_,?_⟩
  ·apply brQ U<;>intro U
   ·refine ixI slA U fun a4 U=>?_;refine ixI slA U fun a5 U=>?_;apply brQ U<;>intro U
    ·exact endC
    ·exact endX
   ·exact endX
  ·rintro _ g ⟨T,U⟩;refine ixI slA U fun a6 U=>?_;refine ixI slA U fun a7 U=>?_;refine ixA slA U fun a8 a9 j k U=>?_;refine st1_S T 0 rfl j k rfl (fun _=>⟨rfl,rfl⟩) fun aa T=>?_;dsimp at T;refine ixA slA U fun ab ac l o U=>?_;refine st1_S T 0 rfl l o rfl (fun _=>⟨rfl,rfl⟩) fun ad T=>?_;dsimp at T;exact endL
 ·exact endX
theorem ZCq {lists0 v0 x1 v1 r} (U:Zm9 lists0 x1=some r) (x:SlC ψ eL v0 lists0) (j:SlC ψ eI v1 x1):zL 310 #[v0,v1] h ψ eL r:=by
 refine zU [[4,31,39,42]] [[8,165],[11,31,39]] Tryz.func310 fun T=>?_;refine neA eL fun v9 a2 T=>?_;refine lw31 U (fun y i l c=>([.it (El.ow eL) [y] c],c,i,l)) fun y i l a3 c a T U W=>?_;refine vL x T.leF ?_;apply brQ U<;>intro U
 ·refine ixV x T.leF U fun a4 a5 f U=>?_;refine cl0 U T (fun s _ _ a0=>ZdW s.fle a0 (f.mono T.leF) (j.mono T.leF)) fun a1 a6 T U=>⟨_,rfl,?_⟩;refine ⟨fun k g o=>∃ e,S ψ h o [.it (El.ow eL) [k] e]/\Zcw lists0 l e g=some a,?_,?_⟩
  ·refine ⟨fun u v=>S ψ h v [.it (El.ow eL) [y] c]/\Zdx lists0 x1 c i l a1 u=some a,?_,?_⟩
   ·apply brQ U<;>intro U
    ·exact endC
    ·exact endC
   ·rintro _ u v ⟨T,U⟩;apply brQ U<;>intro U
    ·apply brQ U<;>intro U
     ·refine ZF (j.mono T.leF).one ?_;have T:=T.arg j;refine piA U 0 fun a7 a8 a9 T U=>?_;exact endC
     ·exact endC
    ·exact endC
  ·rintro _ k g o ⟨e,T,U⟩;refine ixV x T.leF U fun aa ab w U=>?_;refine ZF (w.mono T.leF).one ?_;have T:=T.arg w;refine piA U 0 fun ac ad ae T U=>?_;exact endL
 ·apply brQ U<;>intro U
  ·refine ZF (j.mono T.leF).one ?_;have T:=T.arg j;refine piA U 0 fun af ag ah T U=>?_;exact endX
  ·exact endX
theorem ZwD {y0 v0 y1 v1 r} (U:ZgF y0 y1=some r) (f0:sc h eL v0 y0) (f1:sc h eI v1 y1):zL 275 #[v0,v1] h ψ eI r:=by
 refine zS hψ ⟨an [[4,37,42],[8,49,54],[14,61,66],[19,73,78],[22,73,84]],[],[],[(11,⟨kdL [0,0,0,0,2,3,0,3,4,4,4,0],.both (.fin (rgs [(1,9),(0,1),(10,2)])) (.fin [6,7,1,2,3,4,5,8,9,0,10,11]),true⟩)]⟩ Tryz.func275 fun T=>?_;refine vL f0 T.le ?_;refine neA eL fun bj bk T=>?_;refine lw21 U (fun v y7 k=>([.it (El.ow eL) [v] k],k,y7)) fun v y7 bm k a T U W=>?_;apply brQ U<;>intro U
 ·refine neA eI fun bn bo T=>?_;refine lw21 U (fun v8 y9 y8=>([.it oL [v8] y8,.it (El.ow eL) [v] k],y8,y9)) fun v8 y9 ao y8 bp T U W=>?_;refine ixV f0 T.le U fun bq br f U=>?_;refine vL f T.le ?_;apply brQ U<;>intro U
  ·refine ixV f0 T.le U fun bs bt bu U=>?_;refine ixI slA U fun bv U=>?_;refine ixI slA U fun bw U=>?_;refine puA U 0 fun bx bz c0 T U=>?_;exact endL
  ·obtain ⟨l,e,U⟩:=obind U;obtain ⟨c3,w,U⟩:=obind U;obtain ⟨c4,x,U⟩:=obind U;obtain ⟨c5,y,U⟩:=obind U;refine ⟨fun _=>False,?_⟩;have i:=T;have c:=eX ao;refine ⟨?_,?_⟩
   ·refine ZZ slA e fun aq ae=>?_;refine ZH ?_;refine ldI_C (f1.mono i.le) ae e ?_;refine Ztz (E:=eI) (css:=[[.int .i64 l]]) (xs:=([l]:List Int)) T (fun _=>⟨[],[],rfl,⟨rfl,rfl⟩,rfl⟩) rfl rfl fun ar b2 xE T=>⟨eZ (c.trans xE),?_⟩;replace c:=c.trans xE;refine ce1 T (fun s=>Zr9 s.fle w slA) fun au b3 xE T=>⟨_,rfl,eZ (c.trans xE),?_⟩;replace c:=c.trans xE;refine app_S T 1 rfl (ZbT (Zbi _) slA) rfl rfl x fun av b4 T=>?_;dsimp at T;refine ZF oneA ?_;have T:=frA 1;have T:=T.copyF 1 rfl;refine Zdp T 3 rfl rfl rfl y fun aw b5 T=>?_;dsimp at T;exact endX
   ·refine ce1 T (fun s=>Zr9 s.fle w slA) fun ax b6 xE T=>⟨_,rfl,eZ (c.trans xE),?_⟩;replace c:=c.trans xE;refine ZZ slA e fun ay af=>?_;refine ZH ?_;refine ldI_C (f1.mono i.le) af e ?_;refine Ztz (E:=eI) (css:=[[.int .i64 l]]) (xs:=([l]:List Int)) T (fun _=>⟨[],[],rfl,⟨rfl,rfl⟩,rfl⟩) rfl rfl fun az b7 xE T=>⟨eZ (c.trans xE),?_⟩;replace c:=c.trans xE;refine app_S T 0 rfl (ZbT (Zbi _) slA) rfl rfl x fun b0 b8 T=>?_;dsimp at T;refine ZF oneA ?_;have T:=frA 0;have T:=T.copyF 0 rfl;refine Zdp T 3 rfl rfl rfl y fun b1 b9 T=>?_;dsimp at T;exact endX
 ·refine neA eL fun c6 ba T=>?_;refine lw21 U (fun o a7 j=>([.it (El.ow eL) [o] j,.it (El.ow eL) [v] k],j,a7)) fun o a7 bb j c7 T U W=>?_;apply brQ U<;>intro U
  ·refine ixA slA U fun c8 c9 ag a1 U=>?_;refine ZaN T 1 rfl ag a1 fun ca T=>?_;have T:=frA 1;refine cl1 U T (fun ap a8 _ a2=>ZCq ap.fle a2 (frF a8 1 rfl) (frF a8 0 rfl)) fun cb cc bc T U=>⟨_,rfl,?_⟩;exact endL
  ·refine neA eI fun cd bd T=>?_;refine lw21 U (fun a9 aa a0=>([.it oL [a9] a0,.it (El.ow eL) [o] j,.it (El.ow eL) [v] k],a0,aa)) fun a9 aa be a0 ce T U W=>?_;apply brQ U<;>intro U
   ·refine lw21 U (fun u ab g=>([.it oL [u] g,.it (El.ow eL) [o] j,.it (El.ow eL) [v] k],g,ab)) fun u ab bf g cf T U W=>?_;refine Zi slA ?_;apply brQ U<;>intro U
    ·refine ixA slA U fun cg ch a3 a4 U=>?_;refine ZaN T 1 rfl a3 a4 fun cj T=>?_;refine ixA slA U fun ck cm a5 a6 U=>?_;refine ZaN T 3 rfl a5 a6 fun cn T=>?_;refine cm0 U T (fun s hx=>ZdW s hx slA slA) fun co bh T U=>⟨_,rfl,?_⟩;apply brQ U<;>intro U
     ·refine puA U 2 fun cp cq bi T U=>?_;exact endL
     ·exact endL
    ·exact endX
   ·exact endX
theorem ZtY {f v0 cells1 v1 r} (U:Zib f cells1=some r) (f0:sc h eL v0 f) (f1:sc h eI v1 cells1):zL 213 #[v0,v1] h ψ eI r:=by
 refine zT [[3,30,37]] Tryz.func213 fun T=>?_;refine cm0 U T (fun s c=>ZnA s c slA) fun r8 j T U=>⟨_,rfl,?_⟩;refine cm1 U T (fun s c=>ZwD s c slA slA) fun k l o T U=>⟨_,rfl,?_⟩;refine lw21 U (fun g i e=>([.it oL [i] e],g,e)) fun g i u e a T U W=>?_;refine cm0 U T (fun s c=>ZnA s c slA) fun v w T U=>⟨_,rfl,?_⟩;apply brQ U<;>intro U
 ·refine cm0 U T (fun s c=>ZnA s c slA) fun x y T U=>⟨_,rfl,?_⟩;refine cm1 U T (fun s c=>ZwD s c slA slA) fun a0 a1 a2 T U=>⟨_,rfl,?_⟩;exact endL
 ·exact endX
theorem ZFk {cells0 v0 r} (U:ZjV cells0=some r) (i:sc h eI v0 cells0):zR 271 #[v0] h ψ (.int .i64 r):=by
 refine zU [[3,18,24],[6,18,30]] [[9,225]] Tryz.func271 fun T=>?_;refine lp2 U (nlS T) fun m j k o a T U W=>?_;refine vL i T.le ?_;refine brY fun U=>?_;refine lp2 U (nlS T) fun s c l u g T U W=>?_;apply brQ U<;>intro U
 ·refine ⟨fun e f=>S ψ h f []/\Zcr cells0 k c l e=some g,?_,?_⟩
  ·refine ixI slA U fun v U=>?_;refine ixI slA U fun w U=>?_;refine brY fun U=>?_;refine brZ fun U=>?_;refine ixI slA U fun x U=>?_;exact tZ
  ·rintro _ e f ⟨T,U⟩;apply brQ U<;>intro U
   ·refine ixI slA U fun y U=>?_;exact endX
   ·exact endX
 ·exact endX
theorem ZzD {colors0 v0 table1 v1 r} (U:ZjT colors0 table1=some r) (w:sc h eI v0 colors0) (f1:sc h (El.sl El.bool) v1 table1):CallsH P 306 #[v0,v1] h (fun v h'=>∃ w0 w1,v=.agg #[w0,w1]/\S ψ h h' [.it oL [w0] r.Colors,.it (El.ow Zg) [w1] r.Edges]):=by
 refine zT [[3,36],[6,42]] Tryz.func306 fun T=>?_;refine new_S T fun x a7 T=>?_;refine cm1 U T (fun s hx=>Zhh s hx slA) fun y i a8 T U=>⟨_,rfl,?_⟩;refine neA Zg fun a9 aa T=>?_;refine ZF oneA ?_;refine ZF oneA ?_;refine new_S T fun b5 ab T=>?_;(iterate 2 refine boxA fun ac T=>?_);refine lw12 U (fun j xs e=>([.box b5 [i,e],.it (El.ow Zg) [e] xs,.it oL [i] y,.box x [(.slice none 0 0),(.slice none 0 0)]],j,xs)) fun j ad xs e a T U W=>?_;refine vL w T.le ?_;apply brQ U<;>intro U
 ·refine lw12 U (fun k c g=>([.box b5 [i,g],.it (El.ow Zg) [g] c,.it oL [i] y,.box x [(.slice none 0 0),(.slice none 0 0)]],k,c)) fun k ae c g af T U W=>?_;refine vL w T.le ?_;apply brQ U<;>intro U
  ·refine ixV f1 T.le U fun ag ah f U=>?_;refine ixA slA U fun ai aj l o U=>?_;refine ldB_C slA l o ?_;apply brQ U<;>intro U
   ·refine bV T 0 1 ?_;obtain ⟨ak,u,U⟩:=obind U;refine ZaY T 1 rfl (fun _=>⟨[.int .i64 j],[.int .i64 k],[],[],rfl,rfl,⟨rfl,rfl⟩,⟨rfl,rfl⟩⟩) rfl rfl u fun al a3 T=>?_;refine boxA fun a4 T=>?_;exact endL
   ·exact endL
  ·exact endX
 ·refine lsA ?_;(iterate 2 refine boxA fun a5 T=>?_);refine lsA ?_;exact endX
theorem Zxh {y0 c e y1 v1 r} (U:ZgJ y0 y1=some r) (ah:sc h eI c y0.Colors) (j:sc h Zg e y0.Edges) (f1:sc h eI v1 y1):CallsH P 272 #[.agg #[c,e],v1] h (fun v h'=>∃ w0 w1,v=.agg #[w0,w1]/\S ψ h h' [.it oL [w0] r.Colors,.it (El.ow Zg) [w1] r.Edges]):=by
 refine zT [[3,36],[8,48]] Tryz.func272 fun T=>?_;refine new_S T fun b2 ap T=>?_;refine new_S T fun b4 aq T=>?_;refine vL f1 T.le ?_;refine mkO eI U fun ar x au T U=>?_;refine lw11 U (fun y6 xs=>([.it oL [x] xs,.box b4 [(.slice none 0 0),(.slice none 0 0)],.box b2 [c,e]],y6,xs)) fun y6 av xs a T U W=>?_;refine vL f1 T.le ?_;apply brQ U<;>intro U
 ·refine ixI slA U fun aw U=>?_;refine bV T 2 0 ?_;refine ixI slA U fun ax U=>?_;refine ixA slA U fun ay az a1 a2 U=>?_;refine st1_S T 0 rfl a1 a2 rfl (fun _=>⟨rfl,rfl⟩) fun b0 T=>?_;dsimp at T;exact endL
 ·refine ZF oneA ?_;obtain ⟨b1,a3,U⟩:=obind U;obtain ⟨φ,L,s,y⟩:=id T;refine (Zwc s.fle a3 slA SlC.nil).mono fun b3 b5 ⟨ad,eq,t⟩=>⟨_,eq,?_⟩;replace T:=join1 s y t;clear t s y;refine lw11 U (fun y8 g=>([.it (El.ow (El.ow El.bool)) [ad] g,.it oL [x] xs,.box b4 [(.slice none 0 0),(.slice none 0 0)],.box b2 [c,e]],y8,g)) fun y8 b6 g b7 T U W=>?_;refine bV T 3 1 ?_;refine vL j T.le ?_;apply brQ U<;>intro U
  ·refine bV T 3 1 ?_;refine ixA slA U fun b8 ba a4 a5 U=>?_;obtain ⟨cs,ck,hr⟩:=j.cells a4 a5 rfl;obtain rfl:=Zau hr;refine lsA ?_;refine new_S T fun b9 bb T=>?_;(iterate 2 refine boxA fun ai T=>?_);refine bI T 0 0 ?_;refine ixI slA U fun bc U=>?_;refine ixA slA U fun bd be a6 i U=>?_;refine Za2 T 1 rfl a6 i fun bf hd=>?_;refine bI T 0 1 ?_;refine ixI slA U fun bg U=>?_;refine ixA (T.rowC 1 rfl hd i Zb3) U fun bh bi a7 l U=>?_;refine ZlG T 1 rfl hd i a7 l rfl (fun _=>⟨rfl,rfl⟩) fun aj T=>?_;dsimp at T;refine bI T 0 1 ?_;refine ixI slA U fun bj U=>?_;refine ixA slA U fun bk bm o f U=>?_;refine Za2 T 1 rfl o f fun bn k=>?_;refine bI T 0 0 ?_;refine ixI slA U fun bo U=>?_;refine ixA (T.rowC 1 rfl k f Zb3) U fun bp bq u w U=>?_;refine ZlG T 1 rfl k f u w rfl (fun _=>⟨rfl,rfl⟩) fun ak T=>?_;dsimp at T;exact endL
  ·refine cm2 U T (fun s hx=>ZzD s hx slA slA) fun br bs ag am T U=>⟨_,_,rfl,?_⟩;(iterate 2 refine boxA fun ao T=>?_);refine lsA ?_;exact endX
theorem ZsF {k c e r} (U:Zgy k=some r) (y:sc h eI c k.Colors) (f:sc h Zg e k.Edges):zL 307 #[.agg #[c,e]] h ψ eI r:=by
 refine zS hψ ⟨an [[3,19,24]],[],[],[(5,⟨[],.fin (rgs [(1,13),(0,1),(14,2)]),false⟩)]⟩ Tryz.func307 fun T=>?_;refine new_S T fun b1 a4 T=>?_;refine neA eI fun v5 a5 T=>?_;refine lw21 U (fun w x g=>([.it oL [w] g,.box b1 [c,e]],g,x)) fun w x a6 g a T U W=>?_;refine bV T 1 1 ?_;refine vL f T.le ?_;apply brQ U<;>intro U
 ·refine bV T 1 1 ?_;refine ixA slA U fun i a7 ad hx U=>?_;obtain ⟨cs,ck,hr⟩:=f.cells ad hx rfl;obtain rfl:=Zau hr;refine lsA ?_;refine ixA slA U fun j a8 l o U=>?_;obtain ⟨a3,s,u⟩:=f.cells l o rfl;obtain rfl:=Zau u;refine kI s T.le 1 ?_;refine ZaJ (E:=eI) (css:=[[.int .i64 i.A],[.int .i64 j.B]]) (xs:=([i.A,j.B]:List Int)) T (fun _=>⟨[],[],rfl,⟨rfl,rfl⟩,⟨[],[],rfl,⟨rfl,rfl⟩,rfl⟩⟩) rfl rfl fun a9 aa T=>?_;obtain ⟨ab,v,U⟩:=obind U;refine app_S T 1 rfl (ZbT (Zbi _) slA) rfl rfl v fun ac ae T=>?_;dsimp at T;exact endL
 ·exact endX
theorem ZEF {k e f h1 g i r} (U:ZhQ k h1=some r) (u:sc h eI e k.Colors) (v:sc h Zg f k.Edges) (w:sc h eI g h1.Colors) (x:sc h Zg i h1.Edges):zR 273 #[.agg #[e,f],.agg #[g,i]] h ψ (.int .i64 r):=by
 refine zS hψ ⟨[],[],[],[(4,⟨kdL [1,3,2,4,4,0],.fin [0,1,2,3,4,5],true⟩)]⟩ Tryz.func273 fun T=>?_;refine new_S T fun b2 y T=>?_;refine new_S T fun b3 a0 T=>?_;refine lsA ?_;refine cm0 U T (fun s j=>ZdW s j slA slA) fun a1 o T U=>⟨_,rfl,?_⟩;refine brZ fun U=>?_;refine ⟨fun _=>False,?_⟩;have c:=T;have a:=eX o;refine lsA ?_;obtain ⟨a2,l,U⟩:=obind U;refine ce1 T (fun s=>ZsF s.fle l slA slA) fun a3 a4 xE T=>⟨_,rfl,eZ (a.trans xE),?_⟩;replace a:=a.trans xE;refine ZM ?_;refine ldV_K (c.cells 0 rfl) 0 rfl rfl ?_;refine ZM ?_;refine ldV_K (c.cells 0 rfl) 1 rfl rfl ?_;refine cm1 U T (fun s j=>ZsF s j slA slA) fun a5 a6 a7 T U=>⟨_,rfl,?_⟩;refine cm0 U T (fun s j=>ZdW s j slA slA) fun a8 a9 T U=>⟨_,rfl,?_⟩;exact tZ
end
theorem rq_spec_l22Find_run {a2:ZA->(List Int)->Option ZA}  (a6:∀ {ψ:CM} {l h:Heap} {os:List Ob} {c:ZA} {b0:Nat} {e:List Value} {f g i y a0 a1:Value} {y1:List Int} {v1:Value} {r:ZA} (U:a2 c y1=some r) (T:S ψ l h (.box b0 (f::g::i::y::a0::a1::.int .i64 c.qnodes::.int .i64 c.qleaves::.int .i64 c.qbudget::.bool c.qfull::e)::.it oL [y] c.qbest.Colors::.it (El.ow Zg) [a0] c.qbest.Edges::.it (El.ow eL) [a1] c.qperms::os)) (ab:SlC (UB ψ l) eI f c.qg.Colors) (ac:SlC (UB ψ l) Zg g c.qg.Edges) (ad:SlC (UB ψ l) eL i c.qnear) (f1:SlC (UB ψ l) eI v1 y1),CallsH P 212 #[.pointer (some ⟨b0,0,none⟩),v1] h (fun v h'=>∃ w0 w1 w2,v=.tuple #[]/\S ψ l h' (.box b0 (f::g::i::w0::w1::w2::.int .i64 r.qnodes::.int .i64 r.qleaves::.int .i64 r.qbudget::.bool r.qfull::e)::.it oL [w0] r.qbest.Colors::.it (El.ow Zg) [w1] r.qbest.Edges::.it (El.ow eL) [w2] r.qperms::os))):∀ {ψ:CM} {l h:Heap} {os:List Ob} {c:ZA} {b0:Nat} {e:List Value} {f:Value} {g:Value} {i:Value} {y:Value} {a0:Value} {a1:Value} {y1:List Int} {v1:Value} {r:ZA} (U:q_spec_l22Find_run a2 c y1=some r) (T:S ψ l h (.box b0 (f::g::i::y::a0::a1::.int .i64 c.qnodes::.int .i64 c.qleaves::.int .i64 c.qbudget::.bool c.qfull::e)::.it oL [y] c.qbest.Colors::.it (El.ow Zg) [a0] c.qbest.Edges::.it (El.ow eL) [a1] c.qperms::os)) (ab:SlC (UB ψ l) eI f c.qg.Colors) (ac:SlC (UB ψ l) Zg g c.qg.Edges) (ad:SlC (UB ψ l) eL i c.qnear) (f1:SlC (UB ψ l) eI v1 y1),CallsH P 212 #[.pointer (some ⟨b0,0,none⟩),v1] h (fun v h'=>∃ w0 w1 w2,v=.tuple #[]/\S ψ l h' (.box b0 (f::g::i::w0::w1::w2::.int .i64 r.qnodes::.int .i64 r.qleaves::.int .i64 r.qbudget::.bool r.qfull::e)::.it oL [w0] r.qbest.Colors::.it (El.ow Zg) [w1] r.qbest.Edges::.it (El.ow eL) [w2] r.qperms::os)):=by
 intro ψ l h os c b0 e f g i y a0 a1 y1 v1 r U T ab ac ad f1;refine zv ⟨an [[13,42],[22,49,54]],an [[7,36],[10],[18],[27,60]],[],[(11,⟨kdL [0,0,0,0,2,0,3,3,4,0,0,4],.fin [5,6,7,1,2,3,4,8,0,9,10,11],true⟩)]⟩ Tryz.func212 ?_;rw [q_spec_l22Find_run] at U;refine cm0 U T (fun s hx=>ZFk s hx slA) fun bi ce T U=>⟨_,rfl,?_⟩;apply brQ U<;>intro U
 ·refine bI T 0 7 ?_;refine boxA fun cf T=>?_;refine lsA ?_;refine cm2 U T (fun s hx=>Zxh s hx slA slA slA) fun al b3 ai cg T U=>⟨_,_,rfl,?_⟩;refine new_S T fun b5 ch T=>?_;(iterate 2 refine boxA fun cj T=>?_);refine ⟨fun y6 b4=>S ψ l b4 (.box b5 [b3,ai]::.it oL [b3] al.Colors::.it (El.ow Zg) [ai] al.Edges::.box b0 (f::g::i::y::a0::a1::.int .i64 c.qnodes::.int .i64 (ε.wrap (c.qleaves+1))::.int .i64 c.qbudget::.bool c.qfull::e)::.it oL [y] c.qbest.Colors::.it (El.ow Zg) [a0] c.qbest.Edges::.it (El.ow eL) [a1] c.qperms::os)/\Zdr c y1 al y6=some r,?_,?_⟩
  ·refine bV T 3 5 ?_;refine Zi slA ?_;apply brQ U<;>intro U
   ·refine lsA ?_;refine cm0 U T (fun s hx=>ZEF s hx slA slA slA slA) fun ck br T U=>⟨_,rfl,?_⟩;exact ⟨pkT T 7 [0,1,2,3,4,5,6],U⟩
   ·exact ⟨pkT T 7 [0,1,2,3,4,5,6],U⟩
  ·rintro _ y6 b4 ⟨T,U⟩;refine ⟨fun am=>∃ xs a9 af aa ag aj,S ψ l am (.box b0 (f::g::i::a9::aa::aj::.int .i64 c.qnodes::.int .i64 (ε.wrap (c.qleaves+1))::.int .i64 c.qbudget::.bool c.qfull::e)::.it oL [a9] xs::.it (El.ow Zg) [aa] af::.it (El.ow eL) [aj] ag::os)/\ZdY c y1 y6 xs af ag=some r,?_,?_⟩
   ·apply brQ U<;>intro U
    ·refine lsA ?_;(iterate 2 refine boxA fun bs T=>?_);refine neA eL fun cm bt T=>?_;refine boxA fun bu T=>?_;exact ⟨_,_,_,_,_,_,pkT T 8 [4,2,3,0],U⟩
    ·exact ⟨_,_,_,_,_,_,pkT T 7 [3,4,5,6],U⟩
   ·rintro _ am ⟨xs,a9,af,aa,ag,aj,T,U⟩;apply brQ U<;>intro U
    ·refine ⟨fun _=>False,?_⟩;have ay:=T;have a5:=eX am;obtain ⟨cn,ba,U⟩:=obind U;refine ce1 T (fun s=>Zhh s.fle ba slA) fun co bv xE T=>⟨_,rfl,eZ (a5.trans xE),?_⟩;replace a5:=a5.trans xE;refine ZF oneA ?_;refine ZbZ T fun cp bw xE T=>⟨eZ (a5.trans xE),?_⟩;replace a5:=a5.trans xE;refine ZM ?_;refine ldV_K (ay.cells 0 rfl) 5 rfl rfl ?_;have T:=frA 1;have T:=T.copyF 1 rfl;obtain ⟨cq,bb,U⟩:=obind U;refine Zaq T 5 rfl 0 rfl rfl rfl bb fun bj bx xE T=>?_;refine boxA fun bz T=>?_;obtain rfl:=oI U;exact ⟨a9,aa,bj,rfl,pkT T 6 [2,3,4,5]⟩
    ·obtain rfl:=oI U;exact ⟨a9,aa,aj,rfl,pkT T 4 [0,1,2,3]⟩
 ·obtain ⟨bk,hn⟩:=Zad U;refine ⟨fun n y7 ao=>∃ q a3 a4 ap u o w j x k,S ψ l ao (.box b0 (f::g::i::o::j::k::.int .i64 q::.int .i64 a3::.int .i64 a4::.bool ap::e)::.it oL [o] u::.it (El.ow Zg) [j] w::.it (El.ow eL) [k] x::os)/\loopN (ZbH a2 c y1 bi) n (y7,q,a3,a4,ap,u,w,x)=some r,⟨bk,_,_,_,_,_,_,_,_,_,_,pkT T 4 [0,1,2,3],hn⟩,?_⟩;rintro n _ y7 ao ⟨q,a3,a4,ap,u,o,w,j,x,k,T,hn⟩;obtain ⟨m,a,rfl,U,W⟩:=Zab hn;refine vL f1 T.leU ?_;apply brQ U<;>intro U
  ·refine ixI slA U fun cr U=>?_;apply brQ U<;>intro U
   ·obtain rfl:=oI U;exact ⟨_,ltS,_,_,_,_,_,_,_,_,_,_,pkT T 4 [0,1,2,3],W⟩
   ·refine ⟨fun aq=>∃ a7,S ψ l aq (.box b0 (f::g::i::o::j::k::.int .i64 q::.int .i64 a3::.int .i64 a4::.bool a7::e)::.it oL [o] u::.it (El.ow Zg) [j] w::.it (El.ow eL) [k] x::os)/\ZfK a2 c y1 y7 q a3 a4 u w x a7=some a,?_,?_⟩
    ·refine lsA ?_;apply brQ U<;>intro U
     ·refine boxA fun c0 T=>?_;exact ⟨_,pkT T 4 [0,1,2,3],U⟩
     ·exact ⟨_,pkT T 4 [0,1,2,3],U⟩
    ·rintro _ aq ⟨a7,T,U⟩;refine bB T 0 9 ?_;apply brQ U<;>intro U
     ·obtain rfl:=oI U;obtain rfl:=oI W;exact ⟨o,j,k,rfl,pkT T 4 [0,1,2,3]⟩
     ·refine bI T 0 6 ?_;refine boxA fun c3 T=>?_;refine neA eI fun ct c4 T=>?_;obtain ⟨bm,ah⟩:=Zad U;refine ⟨fun b6 v8 y9 ar=>∃ y8,S ψ l ar (.it oL [v8] y8::.box b0 (f::g::i::o::j::k::.int .i64 (ε.wrap (q+1))::.int .i64 a3::.int .i64 a4::.bool a7::e)::.it oL [o] u::.it (El.ow Zg) [j] w::.it (El.ow eL) [k] x::os)/\loopN (Zc8 a2 c y1 y7 q a3 a4 u w x a7) b6 (y8,y9)=some a,⟨bm,_,pkT T 5 [0,1,2,3,4],ah⟩,?_⟩;rintro b6 _ v8 y9 ar ⟨y8,T,ah⟩;obtain ⟨cu,bn,rfl,U,au⟩:=Zab ah;refine vL f1 T.leU ?_;apply brQ U<;>intro U
      ·refine ixI slA U fun c5 U=>?_;refine ⟨fun b7 av=>S ψ l av (.it oL [v8] y8::.box b0 (f::g::i::o::j::k::.int .i64 (ε.wrap (q+1))::.int .i64 a3::.int .i64 a4::.bool a7::e)::.it oL [o] u::.it (El.ow Zg) [j] w::.it (El.ow eL) [k] x::os)/\Zf9 y8 y9 b7=some bn,?_,?_⟩
       ·apply brQ U<;>intro U
        ·exact ⟨pkT T 5 [0,1,2,3,4],U⟩
        ·exact ⟨pkT T 5 [0,1,2,3,4],U⟩
       ·rintro _ b7 av ⟨T,U⟩;refine puA U 0 fun c6 c7 c8 T U=>?_;obtain rfl:=oI U;exact ⟨_,ltS,_,pkT T 5 [0,1,2,3,4],au⟩
      ·refine bV T 1 2 ?_;refine cm1 U T (fun s hx=>ZtY s hx slA slA) fun be bf bg T U=>⟨_,rfl,?_⟩;have T:=frA 0;have T:S ψ l bg (.box b0 (f::g::i::o::j::k::.int .i64 (ε.wrap (q+1))::.int .i64 a3::.int .i64 a4::.bool a7::e)::.it oL [o] u::.it (El.ow Zg) [j] w::.it (El.ow eL) [k] x::.it eL [bf] be::.it oL [v8] y8::os):=pkT T 6 [2,3,4,5,0,1];obtain ⟨c9,b2,U⟩:=obind U;obtain ⟨ca,cv,a8,aw⟩:=id T;refine (a6 b2 (a8.upS aw) (ab.mono a8.ubU) (ac.mono a8.ubU) (ad.mono a8.ubU) ((frF aw 4 rfl).mono a8.ubF)).mono fun cb cc ⟨cd,bo,bp,bh,b8⟩=>⟨bh,?_⟩;replace T:=a8.downS b8;clear b8 a8 aw;obtain rfl:=oI U;obtain rfl:=oI au;exact ⟨_,ltS,_,_,_,_,_,_,_,_,_,_,pkT T 6 [0,1,2,3],W⟩
  ·obtain rfl:=oI U;obtain rfl:=oI W;exact ⟨o,j,k,rfl,pkT T 4 [0,1,2,3]⟩
theorem rn_spec_l22Find_run:∀ n,(∀ {ψ:CM} {i h:Heap} {os:List Ob} {a:ZA} {o:Nat} {g:List Value} {c:Value} {e:Value} {f:Value} {j:Value} {k:Value} {l:Value} {s:List Int} {v1:Value} {r:ZA} (U:(pn_spec_l22Find_run n) a s=some r) (T:S ψ i h (.box o (c::e::f::j::k::l::.int .i64 a.qnodes::.int .i64 a.qleaves::.int .i64 a.qbudget::.bool a.qfull::g)::.it oL [j] a.qbest.Colors::.it (El.ow Zg) [k] a.qbest.Edges::.it (El.ow eL) [l] a.qperms::os)) (u:SlC (UB ψ i) eI c a.qg.Colors) (w:SlC (UB ψ i) Zg e a.qg.Edges) (x:SlC (UB ψ i) eL f a.qnear) (y:SlC (UB ψ i) eI v1 s),CallsH P 212 #[.pointer (some ⟨o,0,none⟩),v1] h (fun v h'=>∃ w0 w1 w2,v=.tuple #[]/\S ψ i h' (.box o (c::e::f::w0::w1::w2::.int .i64 r.qnodes::.int .i64 r.qleaves::.int .i64 r.qbudget::.bool r.qfull::g)::.it oL [w0] r.qbest.Colors::.it (El.ow Zg) [w1] r.qbest.Edges::.it (El.ow eL) [w2] r.qperms::os))):=by
  intro n;induction n with
  | zero=>exact fun U=>absurd U (by simp [pn_spec_l22Find_run])
  | succ n ih=>exact rq_spec_l22Find_run ih
theorem ZIA:∀ {ψ:CM} {i h:Heap} {os:List Ob} {a:ZA} {o:Nat} {g:List Value} {c:Value} {e:Value} {f:Value} {j:Value} {k:Value} {l:Value} {s:List Int} {v1:Value} {r:ZA} (U:ZpW a s=some r) (T:S ψ i h (.box o (c::e::f::j::k::l::.int .i64 a.qnodes::.int .i64 a.qleaves::.int .i64 a.qbudget::.bool a.qfull::g)::.it oL [j] a.qbest.Colors::.it (El.ow Zg) [k] a.qbest.Edges::.it (El.ow eL) [l] a.qperms::os)) (u:SlC (UB ψ i) eI c a.qg.Colors) (w:SlC (UB ψ i) Zg e a.qg.Edges) (x:SlC (UB ψ i) eL f a.qnear) (y:SlC (UB ψ i) eI v1 s),CallsH P 212 #[.pointer (some ⟨o,0,none⟩),v1] h (fun v h'=>∃ w0 w1 w2,v=.tuple #[]/\S ψ i h' (.box o (c::e::f::w0::w1::w2::.int .i64 r.qnodes::.int .i64 r.qleaves::.int .i64 r.qbudget::.bool r.qfull::g)::.it oL [w0] r.qbest.Colors::.it (El.ow Zg) [w1] r.qbest.Edges::.it (El.ow eL) [w2] r.qperms::os)):=(rn_spec_l22Find_run fuel)
section
variable {ψ:CM} {h:Heap} (hψ:CLe ψ (hcell h))
include hψ
theorem Zy3 {l c e budget1 r} (U:Zot l budget1=some r) (o:sc h eI c l.Colors) (u:sc h Zg e l.Edges):CallsH P 147 #[.agg #[c,e],.int .i64 budget1] h (fun v h'=>∃ j w1 w2 w3 w4 w5 w6,v=.pointer (some ⟨j,0,none⟩)/\S ψ h h' [.box j [w1,w2,w3,w4,w5,w6,.int .i64 r.qnodes,.int .i64 r.qleaves,.int .i64 r.qbudget,.bool r.qfull],.it oL [w4] r.qbest.Colors,.it (El.ow Zg) [w5] r.qbest.Edges,.it (El.ow eL) [w6] r.qperms]):=by
 refine zS hψ ⟨[],[],[],[(1,⟨kdL [2,1,3,0,0,4,0],.fin [1,2,0,3,4,5,6],true⟩),(2,⟨[],.fin [1,2,3,4,5,6,7,0,8],false⟩)]⟩ Tryz.func147 fun T=>?_;refine new_S T fun b2 a3 T=>?_;refine ⟨fun _=>False,?_⟩;have g:=T;have f:=eX a3;refine lsA ?_;obtain ⟨r8,w,U⟩:=obind U;refine ce1 T (fun s=>ZFC s.fle w slA slA) fun v8 ae xE T=>⟨_,rfl,eZ (f.trans xE),?_⟩;replace f:=f.trans xE;refine ZM ?_;refine ldV_K (g.cells 0 rfl) 0 rfl rfl ?_;refine ZM ?_;refine ldV_K (g.cells 0 rfl) 1 rfl rfl ?_;refine ZF oneA ?_;refine new_S T fun a5 af T=>?_;refine lsA ?_;refine cm1 U T (fun s w=>ZtY s w slA slA) fun a6 a7 a8 T U=>⟨_,rfl,?_⟩;have T:=frA 2;have T:=frA 0;have T:=T.nil eI;have T:=T.nil Zg;have T:=T.nil eL;have T:S ψ h a8 [.box a5 [c,e,v8,(.slice none 0 0),(.slice none 0 0),(.slice none 0 0),.int .i64 0,.int .i64 0,.int .i64 budget1,.bool false],.it oL [(.slice none 0 0)] ([]:List Int),.it (El.ow Zg) [(.slice none 0 0)] ([]:List Zb),.it (El.ow eL) [(.slice none 0 0)] ([]:List (List Int)),.it eL [a7] a6,.it (El.sl eL) [v8] r8,.box b2 [c,e]]:=pk T [4,2,1,0,3,5,6];obtain ⟨ag,x,U⟩:=obind U;obtain ⟨ad,ah,a,i⟩:=id T;refine (ZIA x (a.upS i) (o.mono a.ubH) (u.mono a.ubH) ((frF i 5 rfl).mono a.ubF) ((frF i 4 rfl).mono a.ubF)).mono fun ai aj ⟨ak,a9,aa,y,k⟩=>⟨y,?_⟩;replace T:=a.downS k;clear k a i;exact endS
theorem ZzB {j a c budget1 r} (U:Zj9 j budget1=some r) (a4:sc h eI a j.Colors) (a5:sc h Zg c j.Edges):CallsH P 94 #[.agg #[a,c],.int .i64 budget1] h (fun v h'=>∃ f w1 w2 w3 u w x,v=.tuple #[.pointer (some ⟨f,0,none⟩),.int .i64 r.2]/\S ψ h h' [.box f [w1,w2,w3,u,w,x,.int .i64 r.1.qnodes,.int .i64 r.1.qleaves,.int .i64 r.1.qbudget,.bool r.1.qfull],.it oL [u] r.1.qbest.Colors,.it (El.ow Zg) [w] r.1.qbest.Edges,.it (El.ow eL) [x] r.1.qperms]):=by
 refine zO Tryz.func94 fun T=>?_;refine new_S T fun b2 a8 T=>?_;refine lsA ?_;refine cm0 U T (fun s k=>Zse s k slA slA) fun r8 a9 T U=>⟨_,rfl,?_⟩;apply brQ U<;>intro U
 ·refine new_S T fun aa ab T=>?_;exact endX
 ·refine cm0 U T (fun s k=>Zzz s k) fun ac ad T U=>⟨_,rfl,?_⟩;apply brQ U<;>intro U
  ·refine new_S T fun ae af T=>?_;exact endX
  ·refine lsA ?_;obtain ⟨ag,l,U⟩:=obind U;obtain ⟨a7,ah,e,g⟩:=id T;refine (Zy3 e.fle l slA slA).mono fun ai aj ⟨ak,al,y,a0,a1,a2,a3,o,i⟩=>⟨_,o,?_⟩;replace T:=join4 e g i;clear i e g;refine bB T 0 9 ?_;apply brQ U<;>intro U
   ·refine new_S T fun am ao T=>?_;exact endX
   ·exact endS
theorem ZCv {l c e r} (U:ZlC l=some r) (a2:sc h eI c l.Colors) (g:sc h Zg e l.Edges):zR 95 #[.agg #[c,e]] h ψ (.string r):=by
 refine zS hψ ⟨an [[3,20,24]],an [[7,20]],[],[(7,⟨kdL [0,0,1,0,0,0,1,3,0,0,2,0,0,0,2,4,0,0,0],.fin (rgs [(1,7),(9,7),(0,1),(8,1),(16,3)]),true⟩)]⟩ Tryz.func95 fun T=>?_;refine new_S T fun b1 a8 T=>?_;refine bV T 0 0 ?_;refine cm0 U T (fun s o=>Znf s o slA) fun r7 a9 T U=>⟨_,rfl,?_⟩;refine gfA U fun U=>?_;refine lp2 (os:=[.box b1 [c,e]]) U (pk T [0]) fun m a3 i4 aa a T U W=>?_;refine bV T 0 1 ?_;refine vL g T.le ?_;refine brY fun U=>?_;refine ⟨fun f k=>S ψ h k [.box b1 [c,e]]/\Zgg l i4 f=some a,?_,?_⟩
 ·apply brQ U<;>intro U
  ·refine gfA U fun U=>?_;exact endC
  ·exact endC
 ·rintro _ f k ⟨T,U⟩;refine ⟨fun _=>False,?_⟩;have j:=T;have i:=eX k;refine bV T 0 1 ?_;refine ixA slA U fun ab ac ad u U=>?_;obtain ⟨cs,ck,hr⟩:=g.cells ad u rfl;obtain rfl:=Zau hr;refine kI ck T.le 0 ?_;obtain ⟨ae,v,U⟩:=obind U;refine ce0 T (fun s=>ZdX s.fle v) fun af xE T=>⟨_,rfl,eZ (i.trans xE),?_⟩;replace i:=i.trans xE;refine ZM ?_;refine ldV_K (j.cells 0 rfl) 1 rfl rfl ?_;refine ixA slA U fun ag ah w x U=>?_;obtain ⟨a7,y,a0⟩:=g.cells w x rfl;obtain rfl:=Zau a0;refine ZH ?_;refine kI y j.le 1 ?_;refine cm0 U T (fun s o=>ZdX s o) fun ai aj T U=>⟨_,rfl,?_⟩;refine gfA U fun U=>?_;refine gfA U fun U=>?_;refine gfA U fun U=>?_;exact endL
theorem ZEq {f a c budget1 r} (U:Ze5 f budget1=some r) (u:sc h eI a f.Colors) (v:sc h Zg c f.Edges):zR 61 #[.agg #[a,c],.int .i64 budget1] h ψ (.tuple #[.string r.1,.int .i64 r.2]):=by
 refine zO Tryz.func61 fun T=>?_;refine new_S T fun b2 w T=>?_;refine lsA ?_;obtain ⟨x,g,U⟩:=obind U;obtain ⟨φ,L,s,e⟩:=id T;refine (ZzB s.fle g slA slA).mono fun y a0 ⟨a1,a2,i,j,k,l,o,eq,t⟩=>⟨_,_,eq,?_⟩;replace T:=join4 s e t;clear t s e;refine brZ fun U=>?_;refine lsA ?_;refine cm0 U T (fun s g=>ZCv s g slA slA) fun a3 a4 T U=>⟨_,rfl,?_⟩;exact tZ
theorem ZzY {f a budget1 r} (U:Zkb f budget1=some r) (c:SlC ψ eL a f.Rows):zR 29 #[.agg #[.int .i64 f.Kind,.int .i64 f.Size,a],.int .i64 budget1] h ψ (.tuple #[.string r.1,.int .i64 r.2]):=by
 refine zO Tryz.func29 fun T=>?_;refine new_S T fun b2 l T=>?_;obtain ⟨r8,e,U⟩:=obind U;obtain ⟨φ,L,s,g⟩:=id T;refine (ZtF (CLe.refl _) e (T.cells 0 rfl) (c.mono T.leF)).mono fun o u ⟨eq,t⟩=>⟨_,eq,?_⟩;replace T:=join0 s g (t.weak s.fle);clear t s g;refine brZ fun U=>?_;refine cm0 U T (fun s e=>Zak s e) fun v w T U=>⟨_,rfl,?_⟩;refine brZ fun U=>?_;refine cl2 U T (fun i _ _ j=>ZH4 i.fle j (T.cells 0 rfl) (c.mono i.bas)) fun x y k a0 T U=>⟨_,_,_,rfl,?_⟩;refine new_S T fun b6 a1 T=>?_;(iterate 2 refine boxA fun a2 T=>?_);refine brZ fun U=>?_;refine lsA ?_;refine cm0 U T (fun s e=>ZEq s e slA slA) fun a3 a4 T U=>⟨_,_,rfl,?_⟩;exact tZ
theorem ZJH {c f a budget1 r} (U:ZkO c budget1=some r) (j:CellsC (hcell h) f [.int .i64 c.Kind,.int .i64 c.Size,a]) (g:sc h eL a c.Rows):zR 13 #[.pointer (some f),.int .i64 budget1] h ψ (.tuple #[.string r.1,.int .i64 r.2]):=by
 refine zO Tryz.func13 fun T=>?_;refine lsA ?_;obtain ⟨k,i,U⟩:=obind U;obtain ⟨u,L,s,e⟩:=id T;refine (ZzY (CLe.refl _) i slA).mono fun l o ⟨eq,t⟩=>⟨_,_,eq,?_⟩;replace T:=join0 s e (t.weak s.fle);clear t s e;refine brZ fun U=>?_;exact brQ U (fun U=>tZ) fun U=>tZ
theorem ZzH {j k e c r} (U:ZlN j c=some r) (i:CellsC (hcell h) k [e]) (g:sc h Z2 e j.Items):zR 30 #[.pointer (some k),.string c] h ψ (.int .i64 r):=by
 refine zT [[2,30]] Tryz.func30 fun T=>?_;refine lp1 U (nlS T) fun m i5 u a T U W=>?_;refine kV i T.le 0 ?_;refine vL g T.le ?_;refine brY fun U=>?_;refine kV i T.le 0 ?_;refine ixA slA U fun v w l o U=>?_;obtain ⟨cs,s,hr⟩:=g.cells l o rfl;obtain ⟨x,rfl,f⟩:=ZaL hr;refine kS s T.le 0 ?_;exact brQ U (fun U=>tZ) fun U=>tZ
theorem ZFy {a g e c p1 f r} (U:Zgt a c=some r) (k:CellsC (hcell h) g [.string a.Name,.int .i64 a.Object.Kind,.int .i64 a.Object.Size,e,.string a.Key]) (i:sc h eL e a.Object.Rows) (l:CellsC (hcell h) p1 [.string c.Name,.int .i64 c.Object.Kind,.int .i64 c.Object.Size,f,.string c.Key]) (j:sc h eL f c.Object.Rows):zR 31 #[.pointer (some g),.pointer (some p1)] h ψ (.bool r):=by
 refine zO Tryz.func31 fun T=>?_;refine lsA ?_;refine brY fun U=>?_;refine lsA ?_;exact tZ
theorem Zqk {x0 g f r} (U:ZdO x0=some r) (e:CellsC (hcell h) g [.string x0.Name,.int .i64 x0.Object.Kind,.int .i64 x0.Object.Size,f,.string x0.Key]) (o:sc h eL f x0.Object.Rows):CallsH P 32 #[.pointer (some g)] h (fun v h'=>∃ w0,v=.agg #[.string r.Name,.int .i64 r.Object.Kind,.int .i64 r.Object.Size,w0,.string r.Key]/\S ψ h h' [.it (El.ow eL) [w0] r.Object.Rows]):=by
 refine zS hψ ⟨[],[],[],[(1,⟨kdL [0,0,0,0,2,0,0,0,0,2,0,0,0,0,2,3,0,3,4],.both (.fin (rgs [(10,6),(17,1),(0,10),(16,1),(18,1)])) (.fin (rgs [(17,1),(10,6),(0,10),(16,1),(18,1)])),true⟩)]⟩ Tryz.func32 fun T=>?_;refine new_S T fun b2 i T=>?_;obtain ⟨a6,j,U⟩:=obind U;refine ⟨fun _=>False,?_⟩;have c:=T;have a:=eX i;refine ⟨?_,?_⟩
 ·refine ZM ?_;refine kV e c.le 3 ?_;refine ce1 T (fun s=>Znr s.fle j slA) fun k u xE T=>⟨_,rfl,eZ (a.trans xE),?_⟩;replace a:=a.trans xE;refine Zf2 T fun w x xE T=>⟨eZ (a.trans xE),?_⟩;replace a:=a.trans xE;refine ZH ?_;refine kI e c.le 1 ?_;refine ZH ?_;refine kI e c.le 2 ?_;refine ZF oneA ?_;(iterate 3 refine boxA fun y T=>?_);refine lsA ?_;(iterate 5 refine boxA fun a0 T=>?_);refine lsA ?_;exact endS
 ·refine Zf2 T fun a1 a2 xE T=>⟨eZ (a.trans xE),?_⟩;replace a:=a.trans xE;refine ZM ?_;refine kV e c.le 3 ?_;refine ce1 T (fun s=>Znr s.fle j slA) fun l a3 xE T=>⟨_,rfl,eZ (a.trans xE),?_⟩;replace a:=a.trans xE;refine ZH ?_;refine kI e c.le 1 ?_;refine ZH ?_;refine kI e c.le 2 ?_;refine ZF oneA ?_;(iterate 3 refine boxA fun a4 T=>?_);refine lsA ?_;(iterate 5 refine boxA fun a5 T=>?_);refine lsA ?_;exact endS
theorem Zw3 {y0 p0 a3 k p1 a4 r} (U:ZjM y0 k=some r) (y:CellsC (hcell h) p0 [a3]) (i:sc h Z2 a3 y0.Items) (b0:CellsC (hcell h) p1 [.string k.Name,.int .i64 k.Object.Kind,.int .i64 k.Object.Size,a4,.string k.Key]) (b2:sc h eL a4 k.Object.Rows):CallsH P 14 #[.pointer (some p0),.pointer (some p1)] h (fun v h'=>∃ w0,v=.tuple #[.agg #[w0],.int .i64 r.2]/\S ψ h h' [.it (El.ow Z2) [w0] r.1.Items]):=by
 refine zS hψ ⟨an [[6,45,48]],an [[11,315],[13,45],[16]],[],[(11,⟨kdL [0,2,0,3,3,4,0,4],.fin [2,3,4,0,1,5,6,7],true⟩),(13,⟨kdL [0,2,0,0,0,1,0,0,3,3,4,0,4],.fin (rgs [(2,8),(0,2),(10,3)]),true⟩),(15,⟨kdL [0,2,0,3,3,4,0,4],.fin [2,3,4,0,1,5,6,7],true⟩)]⟩ Tryz.func14 fun T=>?_;refine new_S T fun b4 bq T=>?_;refine kS b0 T.le 0 ?_;refine cm0 U T (fun s hx=>ZzH s hx slA slA) fun br bs T U=>⟨_,rfl,?_⟩;apply brQ U<;>intro U
 ·refine boxA fun bt T=>?_;refine bV T 0 0 ?_;exact endX
 ·refine new_S T fun b6 bu T=>?_;refine boxA fun bv T=>?_;have T:=T.nilO (E:=Z2);refine lw22 U (fun y7 y8 xs j=>([.box b6 [j],.box b4 [(.slice none 0 0)],.it (El.ow Z2) [j] xs],y7,y8,xs)) fun y7 y8 b1 xs j a T U W=>?_;refine kV y T.le 0 ?_;refine vL i T.le ?_;apply brQ U<;>intro U
  ·refine kV y T.le 0 ?_;refine ixA slA U fun bw bx ad al U=>?_;obtain ⟨cs,ck,hr⟩:=i.cells ad al rfl;obtain ⟨bz,rfl,f⟩:=ZaL hr;refine cm0 U T (fun s hx=>ZFy s hx slA slA slA slA) fun c0 c3 T U=>⟨_,rfl,?_⟩;apply brQ U<;>intro U
   ·refine boxA fun c4 T=>?_;refine bV T 1 0 ?_;exact endX
   ·refine ⟨fun a5 l=>∃ o a6,S ψ h l [.box b6 [a6],.box b4 [(.slice none 0 0)],.it (El.ow Z2) [a6] o]/\ZfN y0 y8 a5 o=some a,?_,?_⟩
    ·refine ⟨fun ai u=>S ψ h u [.box b6 [j],.box b4 [(.slice none 0 0)],.it (El.ow Z2) [j] xs]/\Zfa y0 k y7 y8 xs ai=some a,?_,?_⟩
     ·apply brQ U<;>intro U
      ·refine kV y T.le 0 ?_;refine ixA slA U fun c5 c6 am ao U=>?_;obtain ⟨b5,b7,ap⟩:=i.cells am ao rfl;obtain ⟨b8,rfl,c7⟩:=ZaL ap;refine lsA ?_;exact endC
      ·exact endC
     ·rintro _ ai u ⟨T,U⟩;apply brQ U<;>intro U
      ·refine ⟨fun _=>False,?_⟩;have a7:=T;have c:=eX u;obtain ⟨a0,aq,U⟩:=obind U;refine ce1 T (fun s=>Zqk s.fle aq slA slA) fun c8 b9 xE T=>⟨_,_,_,_,_,rfl,eZ (c.trans xE),?_⟩;replace c:=c.trans xE;refine ZbZ T fun c9 ba xE T=>⟨eZ (c.trans xE),?_⟩;replace c:=c.trans xE;refine ZM ?_;refine ldV_K (a7.cells 0 rfl) 0 rfl rfl ?_;have T:=frA 1;have T:=T.copyF 1 rfl;have T:=pkf_T_impl_Item (x0:=a0.Name) (x1:=a0.Object.Kind) (x2:=a0.Object.Size) (x4:=a0.Key) T;obtain ⟨ca,ar,U⟩:=obind U;refine Zaq T 4 rfl 0 rfl rfl rfl ar fun cb bb xE T=>?_;refine boxA fun bc T=>?_;exact endC
      ·exact endC
    ·rintro _ a5 l ⟨o,a6,T,U⟩;refine ⟨fun _=>False,?_⟩;have a8:=T;have e:=eX l;refine kV y T.le 0 ?_;refine ixA slA U fun cc cd au av U=>?_;obtain ⟨bd,be,aw⟩:=i.cells au av rfl;obtain ⟨ce,rfl,cf⟩:=ZaL aw;obtain ⟨a1,ax,U⟩:=obind U;refine ce1 T (fun s=>Zqk s.fle ax slA slA) fun cg bf xE T=>⟨_,_,_,_,_,rfl,eZ (e.trans xE),?_⟩;replace e:=e.trans xE;refine ZbZ T fun ch bg xE T=>⟨eZ (e.trans xE),?_⟩;replace e:=e.trans xE;refine ZM ?_;refine ldV_K (a8.cells 0 rfl) 0 rfl rfl ?_;have T:=frA 1;have T:=T.copyF 1 rfl;have T:=pkf_T_impl_Item (x0:=a1.Name) (x1:=a1.Object.Kind) (x2:=a1.Object.Size) (x4:=a1.Key) T;obtain ⟨cj,ay,U⟩:=obind U;refine Zaq T 4 rfl 0 rfl rfl rfl ay fun cm bh xE T=>?_;refine boxA fun bi T=>?_;exact endL
  ·refine ⟨fun a9=>∃ w x,S ψ h a9 [.box b6 [x],.box b4 [(.slice none 0 0)],.it (El.ow Z2) [x] w]/\Zel w=some a,?_,?_⟩
   ·apply brQ U<;>intro U
    ·refine ⟨fun _=>False,?_⟩;have aa:=T;have g:=eX b1;obtain ⟨a2,ag,U⟩:=obind U;refine ce1 T (fun s=>Zqk s.fle ag slA slA) fun cn bj xE T=>⟨_,_,_,_,_,rfl,eZ (g.trans xE),?_⟩;replace g:=g.trans xE;refine ZbZ T fun co bk xE T=>⟨eZ (g.trans xE),?_⟩;replace g:=g.trans xE;refine ZM ?_;refine ldV_K (aa.cells 0 rfl) 0 rfl rfl ?_;have T:=frA 1;have T:=T.copyF 1 rfl;have T:=pkf_T_impl_Item (x0:=a2.Name) (x1:=a2.Object.Kind) (x2:=a2.Object.Size) (x4:=a2.Key) T;obtain ⟨cp,ah,U⟩:=obind U;refine Zaq T 4 rfl 0 rfl rfl rfl ah fun cq bm xE T=>?_;refine boxA fun bn T=>?_;exact endC
    ·exact endC
   ·rintro _ a9 ⟨w,x,T,U⟩;refine bV T 0 0 ?_;refine Zi slA ?_;apply brQ U<;>intro U
    ·refine boxA fun bo T=>?_;refine bV T 1 0 ?_;exact endX
    ·refine bV T 0 0 ?_;refine boxA fun bp T=>?_;refine bV T 1 0 ?_;exact endX
theorem ZyJ {y0 o r} (U:Zk7 y0 o=some r)  :CallsH P 4 #[.string y0,.int .i64 o] h (fun v h'=>∃ w0,v=.tuple #[.agg #[w0],.int .i64 r.2]/\S ψ h h' [.it (El.ow Z2) [w0] r.1.Items]):=by
 refine zU [[8,54]] [[18]] Tryz.func4 fun T=>?_;refine new_S T fun b4 ap T=>?_;refine cm0 U T (fun s g=>Zak s g) fun aq ar T U=>⟨_,rfl,?_⟩;apply brQ U<;>intro U
 ·refine boxA fun au T=>?_;refine bV T 0 0 ?_;exact endX
 ·refine cm1 U T (fun s g=>ZIo s g) fun j k av T U=>⟨_,_,rfl,?_⟩;apply brQ U<;>intro U
  ·refine boxA fun aw T=>?_;refine bV T 1 0 ?_;exact endX
  ·refine new_S T fun b8 ax T=>?_;refine boxA fun ay T=>?_;have T:=T.nilO (E:=Z2);refine lw12 U (fun u xs e=>([.box b8 [e],.it (El.ow El.str) [k] j.1,.box b4 [(.slice none 0 0)],.it (El.ow Z2) [e] xs],u,xs)) fun u az xs e a T U W=>?_;refine Zi slA ?_;apply brQ U<;>intro U
   ·refine ixS slA U fun b0 U=>?_;refine cm0 U T (fun s g=>ZJO s g) fun b1 a7 T U=>⟨_,_,rfl,?_⟩;apply brQ U<;>intro U
    ·refine boxA fun a8 T=>?_;refine bV T 2 0 ?_;exact endX
    ·refine cm1 U T (fun s g=>ZFz s g) fun c l a9 T U=>⟨_,_,_,_,_,_,rfl,?_⟩;refine new_S T fun a4 aa T=>?_;(iterate 5 refine boxA fun ab T=>?_);apply brQ U<;>intro U
     ·refine boxA fun ac T=>?_;refine bV T 4 0 ?_;exact endX
     ·refine ⟨fun i=>S ψ h i [.box a4 [.string c.1.Name,.int .i64 c.1.Object.Kind,.int .i64 c.1.Object.Size,l,.string c.1.Key],.it (El.ow eL) [l] c.1.Object.Rows,.box b8 [e],.it (El.ow El.str) [k] j.1,.box b4 [(.slice none 0 0)],.it (El.ow Z2) [e] xs]/\Zhv o u xs c=some a,?_,?_⟩
      ·apply brQ U<;>intro U
       ·refine bV T 2 0 ?_;refine ixA slA U fun b2 b3 w x U=>?_;obtain ⟨cs,ck,hr⟩:=(T.rdL 5 rfl frzf_T_impl_Item).cells w x rfl;obtain ⟨b5,rfl,f⟩:=ZaL hr;refine ldS_K ck 0 rfl rfl ?_;refine bS T 0 0 ?_;apply brQ U<;>intro U
        ·refine boxA fun ae T=>?_;refine bV T 4 0 ?_;exact endX
        ·exact endC
       ·exact endC
      ·rintro _ i ⟨T,U⟩;refine cl0 U T (fun a5 _ _ y=>ZJH a5.fle y (CellsC.part 1 3 (T.cells 0 rfl)) slA) fun b6 af T U=>⟨_,_,rfl,?_⟩;apply brQ U<;>intro U
       ·refine boxA fun ag T=>?_;refine bV T 4 0 ?_;exact endX
       ·refine boxA fun ah T=>?_;refine cl1 U T (fun a6 _ _ a0=>Zw3 a6.fle a0 (T.cells 2 rfl) slA (T.cells 0 rfl) slA) fun b7 b9 ai T U=>⟨_,_,rfl,?_⟩;refine new_S T fun ba aj T=>?_;refine boxA fun ak T=>?_;apply brQ U<;>intro U
        ·refine boxA fun al T=>?_;refine bV T 6 0 ?_;exact endX
        ·refine bV T 0 0 ?_;refine boxA fun am T=>?_;exact endL
   ·refine bV T 0 0 ?_;refine boxA fun ao T=>?_;refine bV T 2 0 ?_;exact endX
theorem Zao {n0 c a r} (U:ZK n0 c a=some r)  :zR 33 #[.int .i64 n0,.int .i64 c,.int .i64 a] h ψ (.bool r):=by
 refine zO Tryz.func33 fun T=>?_;exact brQ U (fun U=>tZ) fun U=>tZ
theorem Zqh {n0 r} (U:ZfB n0=some r)  :zR 15 #[.int .i64 n0] h ψ (.bool r):=by
 refine zO Tryz.func15 fun T=>?_;refine cm0 U T (fun s a=>Zao s a) fun e c T U=>⟨_,rfl,?_⟩;exact tZ
theorem ZvI {a suffix1 r} (U:Zc3 a suffix1=some r)  :zR 63 #[.string a,.string suffix1] h ψ (.bool r):=by
 refine zO Tryz.func63 fun T=>?_;refine brY fun U=>?_;refine ssB U fun c U=>?_;exact tZ
theorem ZCY {a suffix1 r} (U:Zfx a suffix1=some r)  :zR 34 #[.string a,.string suffix1] h ψ (.bool r):=by
 refine zO Tryz.func34 fun T=>?_;refine cm0 U T (fun s c=>ZvI s c) fun f e T U=>⟨_,rfl,?_⟩;exact tZ
theorem Zjv {c a r} (U:Za5 c a=some r) (g:LayH 3 [0] [1,2] h):zL 35 #[.string c,.string a] h ψ El.str r:=by
 unfold Za5 at U;split at U
 ·rename_i e;obtain rfl:=oI U;exact ZFw Tryz.splitL κ hψ e.1 e.2 (g.2.1 0 (by decide))
 ·cases U
theorem ZwY {a suffix1 r} (U:ZqU a suffix1=some r)  :zR 65 #[.string a,.string suffix1] h ψ (.string r):=by
 refine zO Tryz.func65 fun T=>?_;refine cm0 U T (fun s c=>ZvI s c) fun g e T U=>⟨_,rfl,?_⟩;refine brY fun U=>?_;refine ssC U fun f U=>?_;exact tZ
theorem ZAP {a suffix1 r} (U:Zlj a suffix1=some r)  :zR 36 #[.string a,.string suffix1] h ψ (.string r):=by
 refine zO Tryz.func36 fun T=>?_;refine cm0 U T (fun s c=>ZwY s c) fun f e T U=>⟨_,rfl,?_⟩;exact tZ
theorem Zx8 {a prefix1 r} (U:Zl2 a prefix1=some r)  :zR 102 #[.string a,.string prefix1] h ψ (.bool r):=by
 refine zO Tryz.func102 fun T=>?_;refine brY fun U=>?_;refine ssC U fun c U=>?_;exact tZ
theorem ZwJ {a prefix1 r} (U:ZmH a prefix1=some r)  :zR 67 #[.string a,.string prefix1] h ψ (.string r):=by
 refine zO Tryz.func67 fun T=>?_;refine cm0 U T (fun s c=>Zx8 s c) fun g e T U=>⟨_,rfl,?_⟩;refine brY fun U=>?_;refine ssB U fun f U=>?_;exact tZ
theorem Zwe {a prefix1 r} (U:Zdb a prefix1=some r)  :zR 38 #[.string a,.string prefix1] h ψ (.string r):=by
 refine zO Tryz.func38 fun T=>?_;refine cm0 U T (fun s c=>ZwJ s c) fun f e T U=>⟨_,rfl,?_⟩;exact tZ
end
theorem ZzP {ψ:CM} {h:Heap} (hψ:CLe ψ (hcell h)) {c a:Int} {r:ByteArray} (U:Zkx c a=some r) (j:LayH 3 [0] [1,2] h):CallsH P 68 #[.int .i64 c,.int .i64 a] h (fun v g=>v=.string r/\S ψ h g []):=by
  unfold Zkx at U;split at U
  · rename_i e;obtain rfl:=oI U;obtain ⟨rfl,f,h1⟩:=e;exact fmt_H hψ fun w k=>Go.Proofs.Any.strconv_FormatInt_10 Tryz.fmtM _ f h1 w (TabH.tab κ (k▸j.1))
  · cases U
section
variable {ψ:CM} {h:Heap} (hψ:CLe ψ (hcell h))
include hψ
theorem ZdQ {n0 r} (U:ZbN n0=some r) (g:LayH 3 [0] [1,2] h):zR 39 #[.int .i64 n0] h ψ (.string r):=by
 refine zO Tryz.func39 fun T=>?_;refine cl0 U T (fun s _ _ a=>ZzP s.fle a (g.ext s.ext)) fun e c T U=>⟨_,rfl,?_⟩;exact tZ
theorem ZoW {f r} (U:Zfb f=some r) (hL:LayH 3 [0] [1,2] h):zR 37 #[.string f] h ψ (.tuple #[.int .i64 r.1,.bool r.2]):=by
 refine zU [] [[4]] Tryz.func37 fun T=>?_;obtain ⟨r8,j,U⟩:=obind U;obtain ⟨φ,L,s,a⟩:=id T;refine (Zwe s.fle j).mono fun k l ⟨eq,t⟩=>⟨_,eq,?_⟩;replace T:=join0 s a t;clear t s a;refine ⟨fun hh=>S ψ h hh []/\((gPars f).bind fun q=>Zdz f q)=some r,?_,?_⟩
 ·apply brQ U<;>intro U
  ·obtain rfl:=oI U;exact ⟨rfl,T⟩
  ·apply brQ U<;>intro U
   ·obtain rfl:=oI U;exact ⟨rfl,T⟩
   ·exact ⟨T,U⟩
 ·rintro _ o ⟨T,U⟩;obtain ⟨q,g,U⟩:=obind U;unfold gPars at g;split at g
  ·rename_i W;obtain rfl:=oI g;obtain ⟨φ,L,s,a⟩:=id T;refine (ZJI Tryz.parseL s.fle W ((hL.ext s.ext).2.2 1 (by decide)) ((hL.ext s.ext).2.2 2 (by decide))).mono fun u v ⟨⟨n,e,eq,c⟩,t⟩=>⟨_,_,eq,?_⟩
   replace T:=join0 s a t;clear t s a;rcases c with ⟨rfl,hok⟩|⟨⟨t,x,rfl⟩,hno⟩
   ·rw [ZuC hok,Zdz] at U;obtain ⟨w,i,U⟩:=obind U;obtain ⟨φ,L,s,a⟩:=id T;refine (ZdQ s.fle i (hL.ext s.ext)).mono fun y a0 ⟨eq,t⟩=>⟨_,eq,?_⟩;replace T:=join0 s a t;clear t s a;apply brQ U<;>intro U
    ·obtain rfl:=oI U;exact ⟨rfl,T⟩
    ·obtain rfl:=oI U;exact ⟨rfl,T⟩
   ·rw [Zwa hno,Zdz] at U;obtain rfl:=oI U;exact ⟨rfl,T⟩
  ·cases g
theorem Zuw {a v0 r} (U:Zgl a=some r) (c:sc h El.str v0 a):zR 40 #[v0] h ψ (.int .i64 r):=by
 refine zO Tryz.func40 fun T=>?_;refine vL c T.le ?_;exact tZ
theorem ZCE {s0 r} (U:ZcJ s0=some r) (hL:LayH 3 [0] [1,2] h):CallsH P 16 #[.string s0] h (fun v h'=>∃ w0,v=.tuple #[w0,.int .i64 r.2]/\S ψ h h' [.it (El.ow El.str) [w0] r.1]):=by
 refine zS hψ ⟨[],an [[6,129]],[],[(5,⟨kdL [0,0,0,0,3,0,0,0,0,0,2,0,3,0,0,0,0],.fin (rgs [(0,8),(11,2),(8,3),(13,4)]),true⟩)]⟩ Tryz.func16 fun T=>?_;refine cm0 U T (fun s c=>ZCY s c) fun r8 a7 T U=>⟨_,rfl,?_⟩;apply brQ U<;>intro U
 ·exact endX
 ·refine cm0 U T (fun s c=>ZAP s c) fun a8 a9 T U=>⟨_,rfl,?_⟩;refine cl1 U T (fun j _ _ w=>Zjv j.fle w (hL.ext j.ext)) fun k a2 aa T U=>⟨_,rfl,?_⟩;refine ixS slA U fun ab U=>?_;refine cm0 U T (fun s c=>Zwe s c) fun ac ad T U=>⟨_,rfl,?_⟩;refine cl0 U T (fun l _ _ x=>ZoW l.fle x (hL.ext l.ext)) fun a3 a4 T U=>⟨_,_,rfl,?_⟩;refine ⟨fun o u=>S ψ h u [.it (El.ow El.str) [a2] k]/\Zc5 k a3 o=some r,?_,?_⟩
  ·refine ⟨fun _=>False,?_⟩;have e:=T;have a:=eX a4;apply brQ U<;>intro U
   ·exact endC
   ·obtain ⟨ae,f,U⟩:=obind U;refine ce0 T (fun s=>Zao s.fle f) fun a5 xE T=>⟨_,rfl,eZ (a.trans xE),?_⟩;replace a:=a.trans xE;apply brQ U<;>intro U
    ·exact endC
    ·obtain ⟨af,g,U⟩:=obind U;refine ce0 T (fun s=>ZdQ s.fle g (hL.ext s.ext)) fun a6 xE T=>⟨_,rfl,eZ (a.trans xE),?_⟩;replace a:=a.trans xE;refine ixA slA U fun ag ah y i U=>?_;refine Znm ?_;refine ldS_C (e.rdL 0 rfl Zfl) y i ?_;refine gfA U fun U=>?_;exact endC
  ·rintro _ o u ⟨T,U⟩;apply brQ U<;>intro U
   ·exact endX
   ·refine cm0 U T (fun s c=>Zuw s c slA) fun ai aj T U=>⟨_,rfl,?_⟩;apply brQ U<;>intro U
    ·exact endX
    ·refine cm0 U T (fun s c=>Zuw s c slA) fun ak al T U=>⟨_,rfl,?_⟩;apply brQ U<;>intro U
     ·exact endX
     ·obtain ⟨am,a0,U⟩:=obind U;refine cut_S (some 1) none T 0 rfl a0 rfl fun ao T=>?_;dsimp at T;exact endS
theorem ZGf {c c1 r} (U:ZjN c c1=some r)  :zR 69 #[.string c,.int .u8 c1] h ψ (.int .i64 r):=by
 refine zT [[2,30]] Tryz.func69 fun T=>?_;refine lp1 U (nlS T) fun m i5 e a T U W=>?_;refine brY fun U=>?_;refine stI U fun f U=>?_;exact brQ U (fun U=>tZ) fun U=>tZ
theorem ZzV {a c1 r} (U:ZfL a c1=some r)  :zR 41 #[.string a,.int .u8 c1] h ψ (.int .i64 r):=by
 refine zO Tryz.func41 fun T=>?_;refine cm0 U T (fun s c=>ZGf s c) fun f e T U=>⟨_,rfl,?_⟩;exact tZ
theorem ZDE {c start1 r} (U:Zjr c start1=some r)  :zR 42 #[.string c,.int .i64 start1] h ψ (.int .i64 r):=by
 refine zT [[5,30,90],[9,30,144]] Tryz.func42 fun T=>?_;refine cm0 U T (fun s j=>Zao s j) fun r9 l T U=>⟨_,rfl,?_⟩;refine brZ fun U=>?_;refine s2b_S T fun e o T=>?_;refine Zi slA ?_;refine lp2 (os:=[.it (El.sl (El.int .u8)) [e] (byts c)]) U (pk T [0]) fun m k u v a T U W=>?_;refine brY fun U=>?_;refine ixI slA U fun w U=>?_;obtain ⟨_,f,U⟩:=obind U;refine ⟨Zia f,?_⟩;refine lp2 (os:=[.it (El.sl (El.int .u8)) [e] (byts c)]) U (pk T [0]) fun x i y a0 a1 T U W=>?_;apply brQ U<;>intro U
 ·obtain ⟨_,g,U⟩:=obind U;refine ⟨Zia g,?_⟩;apply brQ U<;>intro U
  ·exact endL
  ·exact endL
 ·exact endX
theorem ZxB {c a r} (U:Zfr c a=some r) (g:LayH 3 [0] [1,2] h):zR 43 #[.string c,.string a] h ψ (.tuple #[.string r.1,.string r.2.1,.bool r.2.2]):=by
 unfold Zfr at U;split at U
 ·rename_i e;obtain rfl:=oI U;exact cut_H Tryz.cutL hψ e (g.2.1 0 (by decide))
 ·cases U
theorem ZEB {c v0 v1 r} (U:Zob c v1=some r) (e:sc h El.str v0 c):zR 105 #[v0,.string v1] h ψ (.int .i64 r):=by
 refine zT [[2,48]] Tryz.func105 fun T=>?_;refine vL e T.le ?_;refine lp1 U (nlS T) fun m i f a T U W=>?_;refine brY fun U=>?_;refine ixS slA U fun g U=>?_;exact brQ U (fun U=>tZ) fun U=>tZ
theorem Zte  {r} (U:Zih=some r)  :zL 106 #[] h ψ El.str r:=by
 refine zO Tryz.func106 fun T=>?_;refine ZaJ (E:=El.str) (css:=[[.string ⟨#[115,113,117,97,114,101]⟩],[.string ⟨#[100,101,115,105,103,110]⟩],[.string ⟨#[104,97,100,97,109,97,114,100]⟩],[.string ⟨#[97,114,114,97,121]⟩],[.string ⟨#[99,111,100,101]⟩],[.string ⟨#[103,114,97,112,104]⟩],[.string ⟨#[103,114,111,117,112]⟩]]) (xs:=([⟨#[115,113,117,97,114,101]⟩,⟨#[100,101,115,105,103,110]⟩,⟨#[104,97,100,97,109,97,114,100]⟩,⟨#[97,114,114,97,121]⟩,⟨#[99,111,100,101]⟩,⟨#[103,114,97,112,104]⟩,⟨#[103,114,111,117,112]⟩]:List ByteArray)) T (fun _=>⟨[],[],rfl,⟨rfl,rfl⟩,⟨[],[],rfl,⟨rfl,rfl⟩,⟨[],[],rfl,⟨rfl,rfl⟩,⟨[],[],rfl,⟨rfl,rfl⟩,⟨[],[],rfl,⟨rfl,rfl⟩,⟨[],[],rfl,⟨rfl,rfl⟩,⟨[],[],rfl,⟨rfl,rfl⟩,rfl⟩⟩⟩⟩⟩⟩⟩) rfl rfl fun v1 a T=>?_;exact endS
theorem ZxG {c r} (U:ZiY c=some r)  :zR 71 #[.string c] h ψ (.tuple #[.int .i64 r.1,.bool r.2]):=by
 refine zO Tryz.func71 fun T=>?_;refine cm1 U T (fun s a=>Zte s a) fun g i e T U=>⟨_,rfl,?_⟩;refine cm0 U T (fun s a=>ZEB s a slA) fun j f T U=>⟨_,rfl,?_⟩;exact tZ
end
theorem ZnC {ψ:CM} {h:Heap} (hψ:CLe ψ (hcell h)) {x0:List ByteArray} {v0:Value} {s1 r:ByteArray} (U:ZdC x0 s1=some r) (c:sc h El.str v0 x0):CallsH P 120 #[v0,.string s1] h (fun v e=>v=.string r/\S ψ h e []):=by
  unfold ZdC at U;split at U
  · rename_i a;obtain rfl:=oI U;exact ZBE Tryz.joinL Tryz.joinL_x hψ c a.1 a.2
  · cases U
section
variable {ψ:CM} {h:Heap} (hψ:CLe ψ (hcell h))
include hψ
theorem Zzu {j:List Int} {v0:Value} {e:Int->Option Bool} {g:Nat} {c:List Value} {r:Int} (U:Zk0 j e=some r) (o:sc h eI v0 j) (u:ctx.okf g=true) (k1:∀ {h1:Heap},ExtH h h1->∀ {ψ1:CM},CLe ψ1 (hcell h1)->∀ {k:Int} {l:Bool},e k=some l->CallsH P g (([.int .i64 k]:List Value)++c).toArray h1 (fun v h'=>v=.bool l/\S ψ1 h1 h' [])):zR 227 #[v0,.func (.func g) #[] c.toArray] h ψ (.int .i64 r):=by
 refine zT [[2,48]] Tryz.func227 fun T=>?_;refine vL o T.le ?_;refine lp1 U (nlS T) fun m y8 w a T U W=>?_;refine brY fun U=>?_;refine ixI slA U fun x U=>?_;obtain ⟨y,i,U⟩:=obind U;obtain ⟨φ,L,s,f⟩:=id T;refine Zca u ?_;refine (k1 T.ext s.fle i).mono fun a0 a1 ⟨eq,t⟩=>⟨_,eq,?_⟩;replace T:=join0 s f t;clear t s f;exact brQ U (fun U=>tZ) fun U=>tZ
theorem ZfF {f:List Int} {v0:Value} {c:Int->Option Bool} {e:Nat} {a:List Value} {r:Bool} (U:ZaV f c=some r) (u:sc h eI v0 f) (k:ctx.okf e=true) (k1:∀ {h1:Heap},ExtH h h1->∀ {ψ1:CM},CLe ψ1 (hcell h1)->∀ {g:Int} {i:Bool},c g=some i->CallsH P e (([.int .i64 g]:List Value)++a).toArray h1 (fun v x=>v=.bool i/\S ψ1 h1 x [])):zR 164 #[v0,.func (.func e) #[] a.toArray] h ψ (.bool r):=by
 refine zO Tryz.func164 fun T=>?_;refine cl0 U T (fun s _ _ l=>Zzu s.fle l slA k (fun j=>k1 (T.ext.trans j))) fun w o T U=>⟨_,rfl,?_⟩;exact tZ
theorem ZHh {n0 r} (U:ZfH n0=some r)  :zR 165 #[.int .i64 n0] h ψ (.bool r):=by
 refine zO Tryz.func165 fun T=>?_;refine cm0 U T (fun s a=>Zao s a) fun e c T U=>⟨_,rfl,?_⟩;exact tZ
theorem Zoz {c v0 r} (U:Zem c=some r) (g:sc h eI v0 c) (hL:LayH 3 [0] [1,2] h):zR 107 #[v0] h ψ (.string r):=by
 refine zU [[7,19,108]] [[3]] Tryz.func107 fun T=>?_;refine ⟨fun e=>S ψ h e []/\Zmx c=some r,?_,?_⟩
 ·refine vL g T.le ?_;refine brZ fun U=>?_;refine cl0 U T (fun l _ _ i=>ZfF l.fle i slA κ (fun w=>fun j=>fun o  =>ZHh j o )) fun x y T U=>⟨_,rfl,?_⟩
  exact brQ U (fun U=>tZ) fun U=>tZ
 ·rintro _ e ⟨T,U⟩;refine vL g T.le ?_;refine brZ fun U=>?_;refine vL g T.le ?_;have T:=T.nilO (E:=El.str);refine lw21 U (fun u f a9=>([.it (El.ow El.str) [u] a9],a9,f)) fun u f a0 a9 a T U W=>?_;apply brQ U<;>intro U
  ·refine ixI slA U fun a1 U=>?_;refine cl0 U T (fun s _ _ k=>ZdQ s.fle k (hL.ext s.ext)) fun a2 a3 T U=>⟨_,rfl,?_⟩;refine puA U 0 fun a4 a5 a6 T U=>?_;exact endL
  ·refine cm0 U T (fun s v=>ZnC s v slA) fun a7 a8 T U=>⟨_,rfl,?_⟩;exact tZ
theorem ZH1 {k r} (U:ZmZ k=some r) (hL:LayH 3 [0] [1,2] h):CallsH P 72 #[.string k] h (fun v h'=>∃ w0,v=.tuple #[w0,.bool r.2]/\S ψ h h' [.it oL [w0] r.1]):=by
 refine zT [[5,25,84]] Tryz.func72 fun T=>?_;apply brQ U<;>intro U
 ·exact endX
 ·refine cl1 U T (fun s _ _ w=>Zjv s.fle w (hL.ext s.ext)) fun l o x T U=>⟨_,rfl,?_⟩;refine Zi slA ?_;have T:=T.nilO (E:=eI);refine lw21 U (fun u e c=>([.it oL [u] c,.it (El.ow El.str) [o] l],c,e)) fun u e y c a T U W=>?_;apply brQ U<;>intro U
  ·refine ixS slA U fun a0 U=>?_;refine cl0 U T (fun f _ _ i=>ZoW f.fle i (hL.ext f.ext)) fun a1 a2 T U=>⟨_,_,rfl,?_⟩;refine puA U 0 fun a3 a4 a5 T U=>?_;exact endL
  ·refine cl0 U T (fun g _ _ j=>Zoz g.fle j slA (hL.ext g.ext)) fun a6 a7 T U=>⟨_,rfl,?_⟩;apply brQ U<;>intro U
   ·exact endX
   ·exact endX
theorem Zcd {a v0 r} (U:Z0 a=some r) (c:sc h eL v0 a):zR 108 #[v0] h ψ (.int .i64 r):=by
 refine zO Tryz.func108 fun T=>?_;refine vL c T.le ?_;exact tZ
theorem Zua {l:List (List Int)} {v0:Value} {g:(List Int)->Option Bool} {j:Nat} {c:List Value} {r:Int} (U:Zha l g=some r) (o:sc h eL v0 l) (x:ctx.okf j=true) (k1:∀ {h1:Heap},ExtH h h1->∀ {ψ1:CM},CLe ψ1 (hcell h1)->∀ {u:List Int} {e:Value} {w:Bool},g u=some w->SlC (hcell h1) eI e u->CallsH P j (([e]:List Value)++c).toArray h1 (fun v h'=>v=.bool w/\S ψ1 h1 h' [])):zR 240 #[v0,.func (.func j) #[] c.toArray] h ψ (.int .i64 r):=by
 refine zT [[2,48]] Tryz.func240 fun T=>?_;refine vL o T.le ?_;refine lp1 U (nlS T) fun m y8 y a T U W=>?_;refine brY fun U=>?_;refine ixV o T.le U fun a0 a1 f U=>?_;obtain ⟨a2,k,U⟩:=obind U;obtain ⟨φ,L,s,i⟩:=id T;refine Zca x ?_;refine (k1 T.ext s.fle k slA).mono fun a3 a4 ⟨eq,t⟩=>⟨_,eq,?_⟩;replace T:=join0 s i t;clear t s i;exact brQ U (fun U=>tZ) fun U=>tZ
theorem Zp2 {g:List (List Int)} {v0:Value} {e:(List Int)->Option Bool} {f:Nat} {a:List Value} {r:Bool} (U:Zg4 g e=some r) (w:sc h eL v0 g) (l:ctx.okf f=true) (k1:∀ {h1:Heap},ExtH h h1->∀ {ψ1:CM},CLe ψ1 (hcell h1)->∀ {i:List Int} {c:Value} {j:Bool},e i=some j->SlC (hcell h1) eI c i->CallsH P f (([c]:List Value)++a).toArray h1 (fun v h'=>v=.bool j/\S ψ1 h1 h' [])):zR 228 #[v0,.func (.func f) #[] a.toArray] h ψ (.bool r):=by
 refine zO Tryz.func228 fun T=>?_;refine cl0 U T (fun s _ _ o=>Zua s.fle o slA l (fun k=>k1 (T.ext.trans k))) fun x u T U=>⟨_,rfl,?_⟩;exact tZ
theorem ZlV {a v0 r} (U:Zcc a=some r) (c:sc h eI v0 a):zL 230 #[v0] h ψ eI r:=by
 refine zO Tryz.func230 fun T=>?_;refine Zsh c (fun f e=>?_) ?_
 ·subst e;obtain ⟨_,rfl⟩:=Zdw U;exact ⟨_,rfl,T.nilO⟩
 ·refine ZaJ (E:=eI) (css:=[]) (xs:=[]) T (fun _=>rfl) rfl rfl fun v1 h1 T=>?_;refine app_S T 0 rfl (ZbT (Zbi _) slA) rfl rfl U fun g i T=>?_;exact ⟨_,rfl,T⟩
end
theorem Zmv {ψ:CM} {a h:Heap} {os:List Ob} {x0:List Int} {v0:Value} {r:List Int} (U:ZcW x0=some r) (T:S ψ a h (.it oL [v0] x0::os)):CallsH P 231 #[v0] h (fun v e=>v=.tuple #[]/\S ψ a e (.it oL [v0] r::os)):=by
  unfold ZcW at U;split at U
  · rename_i c;obtain rfl:=oI U;exact ZBL Tryz.sortM T c
  · cases U
section
variable {ψ:CM} {h:Heap} (hψ:CLe ψ (hcell h))
include hψ
theorem ZtP {j v0 r} (U:Zhw j=some r) (k:sc h eI v0 j):zR 167 #[v0] h ψ (.bool r):=by
 refine zT [[4,72]] Tryz.func167 fun T=>?_;refine cm1 U T (fun s l=>ZlV s l slA) fun r7 o w T U=>⟨_,rfl,?_⟩;obtain ⟨u,g,U⟩:=obind U;obtain ⟨v,x,c,e⟩:=id T;refine (Zmv g (c.upS e) ).mono fun y a0 ⟨i,f⟩=>⟨i,?_⟩;replace T:=c.downS f;clear f c e;refine Zi slA ?_;refine lp1 (os:=[.it oL [o] u]) U (pk T [0]) fun m a1 a2 a T U W=>?_;apply brQ U<;>intro U
 ·refine ixI slA U fun a3 U=>?_;refine brZ fun U=>?_;exact endL
 ·refine vL k T.le ?_;exact tZ
theorem Za9 {a v0 r} (U:ZS a=some r) (c:sc h eI v0 a):zR 172 #[v0] h ψ (.int .i64 r):=by
 refine zO Tryz.func172 fun T=>?_;refine vL c T.le ?_;exact tZ
theorem ZGR {f v0 g p1 r} (U:Zoy f g=some r) (o:sc h eI v0 f) (i:CellsC (hcell h) p1 [.int .i64 g]):zR 229 #[v0,.pointer (some p1)] h ψ (.bool r):=by
 refine zS hψ ⟨[],[],[],[(1,⟨kdL [0,3,2,0,0,0,4,0,0,0],.fin (rgs [(0,10)]),true⟩)]⟩ Tryz.func229 fun T=>?_;refine ⟨fun _=>False,?_⟩;have c:=T;have a:=eX h;obtain ⟨u,e,U⟩:=obind U;refine ce0 T (fun s=>Za9 s.fle e slA) fun j w T=>⟨_,rfl,eZ (a.trans w),?_⟩;replace a:=a.trans w;refine ZH ?_;refine kI i c.le 0 ?_;refine brZ fun U=>?_;refine cm0 U T (fun s e=>ZtP s e slA) fun k l T U=>⟨_,rfl,?_⟩;exact tZ
theorem Zra {degree0 a v1 r} (U:Zf0 degree0 a=some r) (l:sc h eL v1 a):zR 166 #[.int .i64 degree0,v1] h ψ (.bool r):=by
 refine zO Tryz.func166 fun T=>?_;refine new_S T fun o j T=>?_;refine cl0 U T (fun s _ _ i=>Zp2 s.fle i slA κ (fun e=>fun c=>fun f g=>ZGR c f g ((T.cells 0 rfl).mono (CLe.ext e)))) fun u k T U=>⟨_,rfl,?_⟩
 exact tZ
theorem Zvi {i v0 r} (U:ZgT i=some r) (j:sc h eL v0 i):zR 109 #[v0] h ψ (.bool r):=by
 refine zU [[5,120],[9,31,150]] [[4]] Tryz.func109 fun T=>?_;refine cm0 U T (fun s c=>Zcd s c slA) fun r8 l T U=>⟨_,rfl,?_⟩;refine ⟨fun e=>S ψ h e []/\Zoa i=some r,?_,?_⟩
 ·refine cm0 U T (fun s c=>Zao s c) fun o u T U=>⟨_,rfl,?_⟩;refine brZ fun U=>?_;refine cm0 U T (fun s c=>Zra s c slA) fun v w T U=>⟨_,rfl,?_⟩;exact brQ U (fun U=>tZ) fun U=>tZ
 ·rintro _ e ⟨T,U⟩;refine vL j T.le ?_;refine lp1 U (nlS T) fun m x y a T U W=>?_;refine brY fun U=>?_;refine vL j T.le ?_;have T:=T.nilO (E:=eI);refine lw21 U (fun k g a0=>([.it oL [k] a0],a0,g)) fun k g a1 a0 a2 T U W=>?_;apply brQ U<;>intro U
  ·refine ixV j T.le U fun a3 a4 f U=>?_;refine ixI slA U fun a5 U=>?_;refine puA U 0 fun a6 a7 a8 T U=>?_;exact endL
  ·refine cm0 U T (fun s c=>ZtP s c slA) fun a9 aa T U=>⟨_,rfl,?_⟩;apply brQ U<;>intro U
   ·exact endX
   ·exact endX
theorem ZAc {c v0 n1 r} (U:ZkB c n1=some r) (f:sc h eI v0 c):zR 281 #[v0,.int .i64 n1] h ψ (.bool r):=by
 refine zT [[3,30,60]] Tryz.func281 fun T=>?_;refine vL f T.le ?_;refine lp2 U (nlS T) fun m e i j a T U W=>?_;apply brQ U<;>intro U
 ·refine ixI slA U fun k U=>?_;refine brZ fun U=>?_;exact brQ U (fun U=>tZ) fun U=>tZ
 ·refine cm0 U T (fun s g=>Zao s g) fun l o T U=>⟨_,rfl,?_⟩;exact tZ
theorem ZIw {block0 v0 points1 r} (U:Zk6 block0 points1=some r) (a:sc h eI v0 block0):zR 233 #[v0,.int .i64 points1] h ψ (.bool r):=by
 refine zO Tryz.func233 fun T=>?_;refine vL a T.le ?_;refine brY fun U=>?_;refine cm0 U T (fun s c=>ZAc s c slA) fun e f T U=>⟨_,rfl,?_⟩;exact tZ
theorem ZJQ {a v0 c p1 r} (U:ZlB a c=some r) (i:sc h eI v0 a) (e:CellsC (hcell h) p1 [.int .i64 c]):zR 232 #[v0,.pointer (some p1)] h ψ (.bool r):=by
 refine zO Tryz.func232 fun T=>?_;refine kI e T.le 0 ?_;refine cm0 U T (fun s f=>ZIw s f slA) fun j g T U=>⟨_,rfl,?_⟩;exact tZ
theorem ZC8 {blocks0 v0 points1 r} (U:ZqH blocks0 points1=some r) (v:sc h eL v0 blocks0):zR 168 #[v0,.int .i64 points1] h ψ (.bool r):=by
 refine zO Tryz.func168 fun T=>?_;refine new_S T fun w k T=>?_;refine bI T 0 0 ?_;refine cm0 U T (fun s j=>Zao s j) fun x l T U=>⟨_,rfl,?_⟩;refine brY fun U=>?_;refine cl0 U T (fun e _ _ a=>Zp2 e.fle a slA κ (fun f=>fun c=>fun g i=>ZJQ c g i ((T.cells 0 rfl).mono (CLe.ext f)))) fun o u T U=>⟨_,rfl,?_⟩
 exact tZ
theorem Zxk {x0:List (List Int)} {v0:Value} {i:(List Int)->(List Int)->Option Int} {k:Nat} {c:List Value} {r:Bool} (U:ZiV x0 i=some r) (l:sc h eL v0 x0) (y:ctx.okf k=true) (k1:∀ {h1:Heap},ExtH h h1->∀ {ψ1:CM},CLe ψ1 (hcell h1)->∀ {u:List Int} {e:Value} {w:List Int} {g:Value} {x:Int},i u w=some x->SlC (hcell h1) eI e u->SlC (hcell h1) eI g w->CallsH P k (([e,g]:List Value)++c).toArray h1 (fun v h'=>v=.int .i64 x/\S ψ1 h1 h' [])):zR 169 #[v0,.func (.func k) #[] c.toArray] h ψ (.bool r):=by
 refine zT [[2,30]] Tryz.func169 fun T=>?_;refine vL l T.le ?_;refine lp1 U (nlS T) fun m i5 a0 a T U W=>?_;refine brY fun U=>?_;refine ixV l T.le U fun a1 a2 f U=>?_;refine ixV l T.le U fun a3 a4 a5 U=>?_;obtain ⟨a6,o,U⟩:=obind U;obtain ⟨φ,L,s,j⟩:=id T;refine Zca y ?_;refine (k1 T.ext s.fle o slA slA).mono fun a7 a8 ⟨eq,t⟩=>⟨_,eq,?_⟩;replace T:=join0 s j t;clear t s j;exact brQ U (fun U=>tZ) fun U=>tZ
theorem Ztf {x0 r} (U:Zcp x0=some r)  :zR 282 #[.int .i64 x0] h ψ (.bool r):=by
 refine zO Tryz.func282 fun T=>?_;exact tZ
theorem ZnY {x0 c r} (U:ZbO x0 c=some r)  :zR 234 #[.int .i64 x0,.int .i64 c] h ψ (.int .i64 r):=by
 refine zO Tryz.func234 fun T=>?_;refine cm0 U T (fun s a=>Ztf s a) fun r8 e T U=>⟨_,rfl,?_⟩;refine cm0 U T (fun s a=>Ztf s a) fun f g T U=>⟨_,rfl,?_⟩;apply brQ U<;>intro U
 ·exact brQ U (fun U=>tZ) fun U=>tZ
 ·refine brZ fun U=>?_;refine brZ fun U=>?_;exact brQ U (fun U=>tZ) fun U=>tZ
theorem ZfA {c v0 s1 v1 r} (U:Zal c s1=some r) (e:sc h eI v0 c) (f:sc h eI v1 s1):zR 170 #[v0,v1] h ψ (.int .i64 r):=by
 refine zT [[2,66]] Tryz.func170 fun T=>?_;refine vL e T.le ?_;refine lp1 U (nlS T) fun m i j a T U W=>?_;apply brQ U<;>intro U
 ·refine ixI slA U fun k U=>?_;refine vL f T.le ?_;refine brZ fun U=>?_;refine ixI slA U fun l U=>?_;refine cm0 U T (fun s g=>ZnY s g) fun o u T U=>⟨_,rfl,?_⟩;exact brQ U (fun U=>tZ) fun U=>tZ
 ·refine vL e T.le ?_;refine vL f T.le ?_;exact brQ U (fun U=>tZ) fun U=>tZ
theorem Zre {c a r} (U:Zhn c=some r) (e:sc h eL a c.Blocks):zR 110 #[.agg #[.int .i64 c.Points,a]] h ψ (.bool r):=by
 refine zO Tryz.func110 fun T=>?_;refine new_S T fun b1 u T=>?_;refine lsA ?_;refine cm0 U T (fun s o=>ZC8 s o slA) fun r7 v T U=>⟨_,rfl,?_⟩;refine brY fun U=>?_;refine bV T 0 1 ?_;refine vL e T.le ?_;refine brY fun U=>?_;refine bV T 0 1 ?_;refine cl0 U T (fun i _ _ f=>Zxk i.fle f slA κ (fun w=>fun g=>fun j k l=>ZfA g j k l)) fun x y T U=>⟨_,rfl,?_⟩
 exact tZ
theorem ZeJ {lists0 v0 r} (U:Zcv lists0=some r) (e:sc h eL v0 lists0):zL 171 #[v0] h ψ oL r:=by
 refine zT [[3,19,48]] Tryz.func171 fun T=>?_;refine vL e T.le ?_;have T:=T.nilO (E:=oL);refine lw21 U (fun g i c=>([.it (El.ow oL) [g] c],c,i)) fun g i k c a T U W=>?_;apply brQ U<;>intro U
 ·refine ixV e T.le U fun l o f U=>?_;refine cm1 U T (fun s j=>ZlV s j slA) fun u v w T U=>⟨_,rfl,?_⟩;refine ZF oneA ?_;refine piA U 0 fun x y a0 T U=>?_;exact endL
 ·exact endX
theorem ZuK {e c r} (U:ZeU e=some r) (i:sc h eL c e.Rows):CallsH P 111 #[.agg #[.int .i64 e.Kind,.int .i64 e.Size,c]] h (fun v h'=>∃ w0,v=.agg #[.int .i64 r.Points,w0]/\S ψ h h' [.it (El.ow oL) [w0] r.Blocks]):=by
 refine zS hψ ⟨[],[],[],[(1,⟨kdL [0,2,0,1,3,0,4],.fin [2,3,4,0,1,5,6],true⟩)]⟩ Tryz.func111 fun T=>?_;refine new_S T fun u k T=>?_;refine new_S T fun w g T=>?_;refine ⟨fun _=>False,?_⟩;have f:=T;have a:=eX g;refine bV T 1 2 ?_;obtain ⟨x,j,U⟩:=obind U;refine ce1 T (fun s=>ZeJ s.fle j slA) fun y l xE T=>⟨_,rfl,eZ (a.trans xE),?_⟩;replace a:=a.trans xE;refine ZH ?_;refine ldI_K (f.cells 1 rfl) 1 rfl rfl ?_;refine ZF oneA ?_;(iterate 2 refine boxA fun o T=>?_);refine lsA ?_;exact endS
theorem ZIx {x0 r} (U:ZkV x0=some r)  :zR 173 #[.int .i64 x0] h ψ (.bool r):=by
 refine zO Tryz.func173 fun T=>?_;exact brQ U (fun U=>tZ) fun U=>tZ
theorem ZG3 {j v0 r} (U:ZlX j=some r) (k:sc h eL v0 j):zR 112 #[v0] h ψ (.bool r):=by
 refine zU [[3,84],[8,186],[12,48,222]] [[7]] Tryz.func112 fun T=>?_;refine cm0 U T (fun s c=>Zcd s c slA) fun a0 a1 T U=>⟨_,rfl,?_⟩;refine vL k T.le ?_;refine lp1 U (nlS T) fun m e a2 a T U W=>?_;apply brQ U<;>intro U
 ·refine ixV k T.le U fun v a3 f U=>?_;refine ⟨fun g=>S ψ h g []/\ZjE j e v=some a,?_,?_⟩
  ·refine cm0 U T (fun s c=>Za9 s c slA) fun a4 a5 T U=>⟨_,rfl,?_⟩;refine brZ fun U=>?_;refine cl0 U T (fun w _ _ l=>ZfF w.fle l slA κ (fun a6=>fun o=>fun x  =>ZIx o x )) fun a7 a8 T U=>⟨_,rfl,?_⟩
   exact brQ U (fun U=>tZ) fun U=>tZ
  ·rintro _ g ⟨T,U⟩;obtain ⟨a9,u,U⟩:=obind U;refine ZgU none (some e) k u rfl fun aa i=>?_;refine vL i T.le ?_;refine lp1 U (nlS T) fun ab ac ad ae T U W=>?_;apply brQ U<;>intro U
   ·refine ixV i T.le U fun af ag ah U=>?_;refine vL f T.le ?_;refine lp2 U (nlS T) fun ai y aj ak al T U W=>?_;apply brQ U<;>intro U
    ·refine ixI slA U fun am U=>?_;refine ixI slA U fun ao U=>?_;exact endX
    ·apply brQ U<;>intro U
     ·exact endX
     ·exact endX
   ·exact endX
 ·refine cm0 U T (fun s c=>Zao s c) fun ap aq T U=>⟨_,rfl,?_⟩;exact tZ
theorem ZEJ {levels0 column1 r} (U:ZnJ levels0 column1=some r)  :zR 174 #[.int .i64 levels0,.int .i64 column1] h ψ (.bool r):=by
 refine zO Tryz.func174 fun T=>?_;refine cm0 U T (fun s a=>Zao s a) fun f c T U=>⟨_,rfl,?_⟩;refine brY fun U=>?_;refine cm0 U T (fun s a=>Zao s a) fun g e T U=>⟨_,rfl,?_⟩;exact tZ
theorem ZHX {x0 c p1 a r} (U:ZmN x0 c=some r) (e:CellsC (hcell h) p1 [.int .i64 c.Levels,.int .i64 c.Columns,a]) (f:sc h eL a c.Rows):zR 175 #[.int .i64 x0,.pointer (some p1)] h ψ (.bool r):=by
 refine zO Tryz.func175 fun T=>?_;refine kI e T.le 0 ?_;refine cm0 U T (fun s g=>Zao s g) fun r8 i T U=>⟨_,rfl,?_⟩;exact tZ
theorem ZGH {c e r} (U:ZkS c=some r) (g:sc h eL e c.Rows):zR 113 #[.agg #[.int .i64 c.Levels,.int .i64 c.Columns,e]] h ψ (.bool r):=by
 refine zS hψ ⟨an [[4,120]],an [[3]],[],[(6,⟨kdL [0,3,0,2,0,0,0,0,4,0],.fin (rgs [(0,10)]),true⟩)]⟩ Tryz.func113 fun T=>?_;refine new_S T fun w a3 T=>?_;refine ⟨fun k=>S ψ h k [.box w [.int .i64 c.Levels,.int .i64 c.Columns,e]]/\Znq c=some r,?_,?_⟩
 ·refine lsA ?_;refine cm0 U T (fun s hx=>ZEJ s hx) fun r9 a4 T U=>⟨_,rfl,?_⟩;refine brZ fun U=>?_;refine bV T 0 2 ?_;refine vL g T.le ?_;refine brZ fun U=>?_;exact endC
 ·rintro _ k ⟨T,U⟩;refine bV T 0 2 ?_;refine vL g T.le ?_;refine lp1 (os:=[.box w [.int .i64 c.Levels,.int .i64 c.Columns,e]]) U (pk T [0]) fun m a5 x a T U W=>?_;refine brY fun U=>?_;refine ixV g T.le U fun a6 a7 f U=>?_;refine ⟨fun _=>False,?_⟩;have j:=T;have i:=eX x;obtain ⟨a8,o,U⟩:=obind U;refine ce0 T (fun s=>Za9 s.fle o slA) fun a9 xE T=>⟨_,rfl,eZ (i.trans xE),?_⟩;replace i:=i.trans xE;refine ZH ?_;refine ldI_K (j.cells 0 rfl) 1 rfl rfl ?_;refine brZ fun U=>?_;refine cl0 U T (fun y _ _ u=>ZfF y.fle u slA κ (fun l=>fun v=>fun a1  =>ZHX v a1 ((T.cells 0 rfl).mono (CLe.ext l)) ((g.mono T.le).mono (CLe.ext l)))) fun aa ab T U=>⟨_,rfl,?_⟩
  refine brZ fun U=>?_;exact endL
theorem ZyB {i g r} (U:Zkl i=some r) (e:sc h eL g i.Rows):CallsH P 114 #[.agg #[.int .i64 i.Kind,.int .i64 i.Size,g]] h (fun v h'=>∃ w0,v=.agg #[.int .i64 r.Levels,.int .i64 r.Columns,w0]/\S ψ h h' [.it (El.ow oL) [w0] r.Rows]):=by
 refine zS hψ ⟨[],[],[],[(1,⟨kdL [0,2,0,2,3,0,3,4],.both (.fin [2,3,4,6,0,1,5,7]) (.fin [6,2,3,4,0,1,5,7]),true⟩)]⟩ Tryz.func114 fun T=>?_;refine new_S T fun b1 ah T=>?_;refine new_S T fun b2 j T=>?_;obtain ⟨r8,f,U⟩:=obind U;refine ⟨fun _=>False,?_⟩;have c:=T;have a:=eX j;refine ⟨?_,?_⟩
 ·refine ZM ?_;refine ldV_K (c.cells 1 rfl) 2 rfl rfl ?_;refine ce1 T (fun s=>ZeJ s.fle f slA) fun y a0 xE T=>⟨_,rfl,eZ (a.trans xE),?_⟩;replace a:=a.trans xE;refine Zf2 T fun a1 a2 xE T=>⟨eZ (a.trans xE),?_⟩;replace a:=a.trans xE;refine ZH ?_;refine ldI_K (c.cells 1 rfl) 1 rfl rfl ?_;refine ZF oneA ?_;(iterate 3 refine boxA fun a3 T=>?_);refine bV T 3 2 ?_;refine vL e T.le ?_;apply brQ U<;>intro U
  ·refine bV T 3 2 ?_;refine ixV e T.le U fun k l ai U=>?_;refine cm0 U T (fun s f=>Za9 s f slA) fun o a4 T U=>⟨_,rfl,?_⟩;refine boxA fun a5 T=>?_;refine lsA ?_;(iterate 3 refine boxA fun a6 T=>?_);refine lsA ?_;exact endS
  ·refine lsA ?_;(iterate 3 refine boxA fun a7 T=>?_);refine lsA ?_;exact endS
 ·refine Zf2 T fun a8 a9 xE T=>⟨eZ (a.trans xE),?_⟩;replace a:=a.trans xE;refine ZM ?_;refine ldV_K (c.cells 1 rfl) 2 rfl rfl ?_;refine ce1 T (fun s=>ZeJ s.fle f slA) fun aa ab xE T=>⟨_,rfl,eZ (a.trans xE),?_⟩;replace a:=a.trans xE;refine ZH ?_;refine ldI_K (c.cells 1 rfl) 1 rfl rfl ?_;refine ZF oneA ?_;(iterate 3 refine boxA fun ac T=>?_);refine bV T 3 2 ?_;refine vL e T.le ?_;apply brQ U<;>intro U
  ·refine bV T 3 2 ?_;refine ixV e T.le U fun u w aj U=>?_;refine cm0 U T (fun s f=>Za9 s f slA) fun x ad T U=>⟨_,rfl,?_⟩;refine boxA fun ae T=>?_;refine lsA ?_;(iterate 3 refine boxA fun af T=>?_);refine lsA ?_;exact endS
  ·refine lsA ?_;(iterate 3 refine boxA fun ag T=>?_);refine lsA ?_;exact endS
theorem Zh8 {c g limit2 r} (U:Zbn c g limit2=some r)  :zR 177 #[.int .i64 c,.int .i64 g,.int .i64 limit2] h ψ (.int .i64 r):=by
 refine zU [[2,6,42]] [[4]] Tryz.func177 fun T=>?_;refine lp2 U (nlS T) fun m f j i a T U W=>?_;refine ⟨fun e=>S ψ h e []/\ZeY c f j=some a,?_,?_⟩
 ·refine brY fun U=>?_;exact brQ U (fun U=>tZ) fun U=>tZ
 ·rintro _ e ⟨T,U⟩;exact tZ
theorem ZmO {c a r} (U:Zbj c=some r) (e:sc h eI a c.Poly):zR 178 #[.agg #[.int .i64 c.Prime,.int .i64 c.Degree,a]] h ψ (.int .i64 r):=by
 refine zO Tryz.func178 fun T=>?_;refine new_S T fun j g T=>?_;refine lsA ?_;refine cm0 U T (fun s f=>Zh8 s f) fun k i T U=>⟨_,rfl,?_⟩;exact tZ
theorem ZcT {n0 c count2 r} (U:ZaW n0 c count2=some r)  :zL 247 #[.int .i64 n0,.int .i64 c,.int .i64 count2] h ψ eI r:=by
 refine zT [[3,0,78]] Tryz.func247 fun T=>?_;refine mkO eI U fun k i l T U=>?_;refine Zi slA ?_;refine lw21 U (fun e f xs=>([.it oL [i] xs],e,f,xs)) fun e f o xs a T U W=>?_;apply brQ U<;>intro U
 ·refine gzA U fun U=>?_;refine ixA slA U fun s u j g U=>?_;refine st1_S T 0 rfl j g rfl (fun _=>⟨rfl,rfl⟩) fun v T=>?_;dsimp at T;refine gzA U fun U=>?_;exact endL
 ·exact endX
theorem Zvc {l v0 e v1 o r} (U:Zdu l e o=some r) (f0:sc h eI v0 l) (u:sc h eI v1 e):zL 286 #[v0,v1,.int .i64 o] h ψ eI r:=by
 refine zT [[4,54],[8,198]] Tryz.func286 fun T=>?_;refine cm1 U T (fun s w=>ZlV s w slA) fun x f y T U=>⟨_,rfl,?_⟩;refine vL u T.le ?_;refine Zi slA ?_;refine lw11 U (fun v xs=>([.it oL [f] xs],v,xs)) fun v a0 xs a T U W=>?_;apply brQ U<;>intro U
 ·refine ixI slA U fun a1 U=>?_;refine vL u T.le ?_;refine lw11 U (fun g c=>([.it oL [f] c],g,c)) fun g a2 c a3 T U W=>?_;apply brQ U<;>intro U
  ·refine ixI slA U fun a4 U=>?_;refine ixI slA U fun a5 U=>?_;refine gzA U fun U=>?_;refine gzA U fun U=>?_;refine ixA slA U fun a6 a7 i j U=>?_;refine st1_S T 0 rfl i j rfl (fun _=>⟨rfl,rfl⟩) fun a8 T=>?_;dsimp at T;exact endL
  ·exact endX
 ·refine Zi slA ?_;obtain ⟨a9,k,U⟩:=obind U;refine cut_S none (some (if ((xs.length:Int):Int)<(ε.wrap ((e.length:Int)-1)) then (xs.length:Int) else ε.wrap ((e.length:Int)-1))) T 0 rfl k rfl fun aa T=>?_;dsimp at T;exact endX
theorem ZEL {x0 r} (U:Zll x0=some r)  :zR 321 #[.int .i64 x0] h ψ (.bool r):=by
 refine zO Tryz.func321 fun T=>?_;exact tZ
theorem ZC7 {a v0 r} (U:Zl5 a=some r) (j:sc h eI v0 a):zR 288 #[v0] h ψ (.bool r):=by
 refine zO Tryz.func288 fun T=>?_;refine cl0 U T (fun s _ _ f=>ZfF s.fle f slA κ (fun g=>fun c=>fun e  =>ZEL c e )) fun k i T U=>⟨_,rfl,?_⟩
 exact tZ
theorem Zsx {e v0 p1 r} (U:ZhI e p1=some r) (f0:sc h eI v0 e):zR 246 #[v0,.int .i64 p1] h ψ (.bool r):=by
 refine zT [[3,36],[6,42]] Tryz.func246 fun T=>?_;refine cm0 U T (fun s c=>Za9 s c slA) fun r9 f T U=>⟨_,rfl,?_⟩;refine lp1 U (nlS T) fun m d6 g a T U W=>?_;refine brY fun U=>?_;refine lp1 U (nlS T) fun i n7 j k T U W=>?_;refine cm0 U T (fun s c=>Zh8 s c) fun l o T U=>⟨_,rfl,?_⟩;apply brQ U<;>intro U
 ·refine cm1 U T (fun s c=>ZcT s c) fun u v w T U=>⟨_,rfl,?_⟩;refine puA U 0 fun x y a0 T U=>?_;refine cm1 U T (fun s c=>Zvc s c slA slA) fun a1 a2 a3 T U=>⟨_,rfl,?_⟩;refine cm0 U T (fun s c=>ZC7 s c slA) fun a4 a5 T U=>⟨_,rfl,?_⟩;apply brQ U<;>intro U
  ·exact endX
  ·exact endX
 ·exact endX
theorem Zrl {n0 r} (U:ZcU n0=some r)  :zL 287 #[.int .i64 n0] h ψ eI r:=by
 refine zT [[5,0,19,24],[7,0,19]] Tryz.func287 fun T=>?_;refine cm0 U T (fun s j=>Zao s j) fun r6 k T U=>⟨_,rfl,?_⟩;apply brQ U<;>intro U
 ·exact endX
 ·have T:=T.nilO (E:=eI);refine lw31 U (fun c g i a3=>([.it oL [g] a3],c,a3,i)) fun c g i l a3 a T U W=>?_;apply brQ U<;>intro U
  ·refine lw21 U (fun e f a2=>([.it oL [f] a2],e,a2)) fun e f o a2 u T U W=>?_;refine gzA U fun U=>?_;apply brQ U<;>intro U
   ·refine puA U 0 fun v w x T U=>?_;refine gzA U fun U=>?_;exact endL
   ·exact endX
  ·apply brQ U<;>intro U
   ·refine puA U 0 fun y a0 a1 T U=>?_;exact endX
   ·exact endX
theorem ZAR {n0 r} (U:ZiT n0=some r)  :zR 283 #[.int .i64 n0] h ψ (.bool r):=by
 refine zO Tryz.func283 fun T=>?_;refine cm1 U T (fun s a=>Zrl s a) fun e f c T U=>⟨_,rfl,?_⟩;refine Zi slA ?_;exact tZ
theorem ZEb {c e r} (U:ZgY c=some r) (l:sc h eI e c.Poly):zR 235 #[.agg #[.int .i64 c.Prime,.int .i64 c.Degree,e]] h ψ (.bool r):=by
 refine zS hψ ⟨an [[6,246]],an [[3],[5]],[],[(3,⟨kdL [0,1,3,0,2,0,0,0,0,1,0,1,0,1,0,0],.fin (rgs [(0,16)]),true⟩)]⟩ Tryz.func235 fun T=>?_;refine new_S T fun o w T=>?_;refine ⟨fun i=>S ψ h i [.box o [.int .i64 c.Prime,.int .i64 c.Degree,e]]/\Zj1 c=some r,?_,?_⟩
 ·refine bI T 0 0 ?_;refine cm0 U T (fun s f=>ZAR s f) fun r7 x T U=>⟨_,rfl,?_⟩;refine brZ fun U=>?_;refine bI T 0 1 ?_;refine brZ fun U=>?_;refine lsA ?_;refine cm0 U T (fun s f=>Zh8 s f) fun y v T U=>⟨_,rfl,?_⟩;refine brZ fun U=>?_;exact endC
 ·rintro _ i ⟨T,U⟩;refine ⟨fun k=>S ψ h k [.box o [.int .i64 c.Prime,.int .i64 c.Degree,e]]/\Zlv c=some r,?_,?_⟩
  ·refine ⟨fun _=>False,?_⟩;have j:=T;have g:=eX i;refine bV T 0 2 ?_;obtain ⟨a0,u,U⟩:=obind U;refine ce0 T (fun s=>Za9 s.fle u slA) fun a1 xE T=>⟨_,rfl,eZ (g.trans xE),?_⟩;replace g:=g.trans xE;refine ZH ?_;refine ldI_K (j.cells 0 rfl) 1 rfl rfl ?_;refine brZ fun U=>?_;refine lsA ?_;refine ixI slA U fun a2 U=>?_;refine brZ fun U=>?_;exact endC
  ·rintro _ k ⟨T,U⟩;refine bV T 0 2 ?_;refine vL l T.le ?_;refine lp1 (os:=[.box o [.int .i64 c.Prime,.int .i64 c.Degree,e]]) U (pk T [0]) fun m a3 a4 a T U W=>?_;apply brQ U<;>intro U
   ·refine ixI slA U fun a5 U=>?_;refine bI T 0 0 ?_;refine cm0 U T (fun s f=>Zao s f) fun a6 a7 T U=>⟨_,rfl,?_⟩;refine brZ fun U=>?_;exact endL
   ·refine lsA ?_;refine cm0 U T (fun s f=>Zsx s f slA) fun a8 a9 T U=>⟨_,rfl,?_⟩;exact tZ
theorem ZA1 {x0 a p1 r} (U:ZfG x0 a=some r) (c:CellsC (hcell h) p1 [.int .i64 a]):zR 284 #[.int .i64 x0,.pointer (some p1)] h ψ (.bool r):=by
 refine zO Tryz.func284 fun T=>?_;refine kI c T.le 0 ?_;refine cm0 U T (fun s e=>Zao s e) fun g f T U=>⟨_,rfl,?_⟩;exact tZ
theorem ZJv {e a v1 r} (U:Zp9 e a=some r) (l:sc h eI v1 a):zR 237 #[.int .i64 e,v1] h ψ (.bool r):=by
 refine zO Tryz.func237 fun T=>?_;refine new_S T fun o j T=>?_;refine cl0 U T (fun s _ _ i=>ZfF s.fle i slA κ (fun f=>fun c=>fun g  =>ZA1 c g ((T.cells 0 rfl).mono (CLe.ext f)))) fun u k T U=>⟨_,rfl,?_⟩
 exact tZ
theorem Zxf {a v0 c p1 v1 e p2 r} (U:ZhS a c e=some r) (j:sc h eI v0 a) (g:CellsC (hcell h) p1 [v1]) (k:sc h eL v1 c) (i:CellsC (hcell h) p2 [.int .i64 e]):zR 236 #[v0,.pointer (some p1),.pointer (some p2)] h ψ (.bool r):=by
 refine zO Tryz.func236 fun T=>?_;refine vL j T.le ?_;refine kV g T.le 0 ?_;refine ixV k T.le U fun v w f U=>?_;refine vL f T.le ?_;refine brZ fun U=>?_;refine kI i T.le 0 ?_;refine cm0 U T (fun s l=>ZJv s l slA) fun o u T U=>⟨_,rfl,?_⟩;exact tZ
theorem ZBh {c e j v1 r} (U:ZiJ c j=some r) (x:sc h eI e c.Poly) (o:sc h eL v1 j):zR 176 #[.agg #[.int .i64 c.Prime,.int .i64 c.Degree,e],v1] h ψ (.bool r):=by
 refine zU [] [[3]] Tryz.func176 fun T=>?_;refine new_S T fun y a5 T=>?_;refine ZF oneA ?_;refine new_S T fun b3 a6 T=>?_;refine ⟨fun i=>S ψ h i [.box b3 [v1],.box y [.int .i64 c.Prime,.int .i64 c.Degree,e]]/\ZnN c j=some r,?_,?_⟩
 ·refine lsA ?_;refine cm0 U T (fun s a=>ZEb s a slA) fun r7 a7 T U=>⟨_,rfl,?_⟩;refine brZ fun U=>?_;refine bV T 0 0 ?_;refine cm0 U T (fun s a=>Zcd s a slA) fun a8 a1 T U=>⟨_,rfl,?_⟩;refine cm0 U T (fun s a=>Zao s a) fun a9 a2 T U=>⟨_,rfl,?_⟩;refine brZ fun U=>?_;refine bV T 0 0 ?_;refine ixV o T.le U fun aa ab f U=>?_;refine cm0 U T (fun s a=>Za9 s a slA) fun ac a3 T U=>⟨_,rfl,?_⟩;refine cm0 U T (fun s a=>Zao s a) fun ad a4 T U=>⟨_,rfl,?_⟩;refine brZ fun U=>?_;exact endC
 ·rintro _ i ⟨T,U⟩;refine lsA ?_;refine cm0 U T (fun s a=>ZmO s a slA) fun ae af T U=>⟨_,rfl,?_⟩;refine new_S T fun b5 ag T=>?_;refine boxA fun ah T=>?_;refine bV T 1 0 ?_;refine cl0 U T (fun u _ _ k=>Zp2 u.fle k slA κ (fun g=>fun l=>fun v w=>Zxf l v w ((T.cells 1 rfl).mono (CLe.ext g)) ((o.mono T.le).mono (CLe.ext g)) ((T.cells 0 rfl).mono (CLe.ext g)))) fun ai aj T U=>⟨_,rfl,?_⟩
  exact tZ
theorem Zv6 {digits0 v0 c r} (U:Zkh digits0 c=some r) (e:sc h eI v0 digits0):zR 285 #[v0,.int .i64 c] h ψ (.int .i64 r):=by
 refine zT [[3,30,36]] Tryz.func285 fun T=>?_;refine vL e T.le ?_;refine lp2 U (nlS T) fun m i k6 f a T U W=>?_;refine brY fun U=>?_;refine ixI slA U fun g U=>?_;exact tZ
theorem ZvT {i c u v f r} (U:Zg9 i u v f=some r) (a2:sc h eI c i.Poly):zR 238 #[.agg #[.int .i64 i.Prime,.int .i64 i.Degree,c],.int .i64 u,.int .i64 v,.int .i64 f] h ψ (.int .i64 r):=by
 refine zS hψ ⟨an [[3,156]],[],[],[(1,⟨kdL [0,0,1,0,1,3,0,0,2,0,2,4,0,0],.fin (rgs [(0,14)]),true⟩)]⟩ Tryz.func238 fun T=>?_;refine new_S T fun b4 w T=>?_;refine ⟨fun _=>False,?_⟩;have g:=T;have e:=eX w;refine lsA ?_;obtain ⟨a4,j,U⟩:=obind U;refine ce1 T (fun s=>ZcT s.fle j) fun x a5 xE T=>⟨_,rfl,eZ (e.trans xE),?_⟩;replace e:=e.trans xE;refine ZH ?_;refine ldI_K (g.cells 0 rfl) 0 rfl rfl ?_;refine ZH ?_;refine ldI_K (g.cells 0 rfl) 1 rfl rfl ?_;refine cm1 U T (fun s j=>ZcT s j) fun y a0 a6 T U=>⟨_,rfl,?_⟩;refine Zi slA ?_;refine lw11 U (fun k xs=>([.it oL [a0] y,.it oL [x] xs,.box b4 [.int .i64 i.Prime,.int .i64 i.Degree,c]],k,xs)) fun k a7 xs a T U W=>?_;apply brQ U<;>intro U
 ·refine ixI slA U fun a8 U=>?_;refine ixI slA U fun a9 U=>?_;refine lsA ?_;refine gzA U fun U=>?_;refine ixA slA U fun aa ab l o U=>?_;refine st1_S T 1 rfl l o rfl (fun _=>⟨rfl,rfl⟩) fun ac T=>?_;dsimp at T;exact endL
 ·refine bI T 2 0 ?_;refine cm0 U T (fun s j=>Zv6 s j slA) fun ad ae T U=>⟨_,rfl,?_⟩;exact tZ
theorem ZAu {f c y1 y2 r} (U:Zjl f y1 y2=some r) (a9:sc h eI c f.Poly):zR 239 #[.agg #[.int .i64 f.Prime,.int .i64 f.Degree,c],.int .i64 y1,.int .i64 y2] h ψ (.int .i64 r):=by
 refine zS hψ ⟨an [[4,180],[7,210]],[],[],[(1,⟨kdL [0,0,1,0,1,3,0,0,2,0,2,4,0,0],.fin (rgs [(0,14)]),true⟩),(12,⟨kdL [0,0,1,0,1,3,0,2,4,0],.fin (rgs [(0,10)]),true⟩)]⟩ Tryz.func239 fun T=>?_;refine new_S T fun b3 a7 T=>?_;refine ⟨fun _=>False,?_⟩;have j:=T;have g:=eX a7;refine lsA ?_;obtain ⟨o,k,U⟩:=obind U;refine ce1 T (fun s=>ZcT s.fle k) fun u ab xE T=>⟨_,rfl,eZ (g.trans xE),?_⟩;replace g:=g.trans xE;refine ZH ?_;refine ldI_K (j.cells 0 rfl) 0 rfl rfl ?_;refine ZH ?_;refine ldI_K (j.cells 0 rfl) 1 rfl rfl ?_;refine cm1 U T (fun s k=>ZcT s k) fun v w ac T U=>⟨_,rfl,?_⟩;refine bI T 2 1 ?_;refine mkO eI U fun ad x ae T U=>?_;refine Zi slA ?_;refine lw11 U (fun y xs=>([.it oL [x] xs,.it oL [w] v,.it oL [u] o,.box b3 [.int .i64 f.Prime,.int .i64 f.Degree,c]],y,xs)) fun y a8 xs a T U W=>?_;apply brQ U<;>intro U
 ·refine Zi slA ?_;refine lw11 U (fun a0 i=>([.it oL [x] i,.it oL [w] v,.it oL [u] o,.box b3 [.int .i64 f.Prime,.int .i64 f.Degree,c]],a0,i)) fun a0 af i ag T U W=>?_;apply brQ U<;>intro U
  ·refine ixI slA U fun ah U=>?_;refine ixI slA U fun ai U=>?_;refine ixI slA U fun aj U=>?_;refine bI T 3 0 ?_;refine gzA U fun U=>?_;refine ixA slA U fun ak al a1 a2 U=>?_;refine st1_S T 0 rfl a1 a2 rfl (fun _=>⟨rfl,rfl⟩) fun am T=>?_;dsimp at T;exact endL
  ·exact endX
 ·refine ⟨fun _=>False,?_⟩;have l:=T;have e:=eX a8;refine lsA ?_;obtain ⟨ao,a3,U⟩:=obind U;refine ce1 T (fun s=>Zvc s.fle a3 slA slA) fun ap aq xE T=>⟨_,rfl,eZ (e.trans xE),?_⟩;replace e:=e.trans xE;refine ZH ?_;refine ldI_K (l.cells 3 rfl) 0 rfl rfl ?_;refine cm0 U T (fun s k=>Zv6 s k slA) fun ar aa T U=>⟨_,rfl,?_⟩;exact tZ
end
end Go.Proofs.YtdmledeildfidaaGreatDoor
