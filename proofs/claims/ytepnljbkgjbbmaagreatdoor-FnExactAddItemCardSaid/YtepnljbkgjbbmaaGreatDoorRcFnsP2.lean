import Derived.Test.YtepnljbkgjbbmaaGreatDoorVcAu
import Derived.Test.YtepnljbkgjbbmaaGreatDoorVcDn
import Derived.Test.YtepnljbkgjbbmaaGreatDoorRcFnsP1
open Go.IntKind renaming i64->ε
namespace Go.Proofs.YtepnljbkgjbbmaaGreatDoor
open Go Go.Vc
set_option linter.unusedVariables false
set_option linter.unusedSimpArgs false
set_option maxRecDepth 20000
set_option maxHeartbeats 4000000
attribute [local irreducible] CallsQ vLen vIdx IntKind.wrap hcell vNew vNewS vSliceS vStore1 vAppend vMake vCopy vB2S vS2B vNilS
section
variable {ψ:CM} {h:Heap} (hψ:CLe ψ (hcell h))
include hψ
theorem Zy3 {c p0 p u r} (I:ZjU c=some r) (v:CellsC (hcell h) p0 [.int .i64 c.Field.Prime,.int .i64 c.Field.Degree,p,u]) (ax:sc h eI p c.Field.Poly) (g:sc h eL u c.Rows):zL 197 #[.pointer (some p0)] h ψ eL r:=by
 refine zv ⟨[(4,[(3,.v),(5,tkI)]),(8,[(6,.v),(7,tkI)]),(13,[(8,.v),(9,tkI)]),(16,[(8,.v),(10,tkI)])],[],[],[(10,⟨[],.fin [1,2,3,4,5,6,7,8,9,10,11,12,13,0,14,15],false⟩),(18,⟨[],.fin [1,2,3,4,5,6,7,8,9,10,11,12,13,0,14,15],false⟩)]⟩ Tryz.func197 ?_;have C:=sZ hψ;refine kV v C.le 3 ?_;refine ixV g C.le I fun b2 b3 f I=>?_;refine vL f C.le ?_;refine mkO eI I fun k l b4 C I=>?_;refine ZG oneA ?_;have C:=frA 0;have C:=C.copyF 0 rfl;refine Zj4 C fun b5 b6 C=>?_;refine cl0 I C (fun s _ _ a9=>Zlz s.fle a9 (CellsC.part 0 3 slA) slA) fun o b7 C I=>⟨_,rfl,?_⟩;refine ⟨fun n w y5 a3=>∃ e,S ψ h a3 [.it (El.ow eL) [w] e,.it eL [l] k]/\loopN (ZeE c o) n (e,y5)=some r,endI,?_⟩;rintro n _ w y5 a3 ⟨e,C,hn⟩;obtain ⟨m,a,rfl,I,O⟩:=Zh hn;refine kV v C.le 3 ?_;refine vL g C.le ?_;refine brQ I (fun I=>?_) fun I=>?_
 ·refine ZO (E:=eL) (css:=[]) (xs:=([]:List (List Int))) C (fun _=>rfl) rfl rfl fun b8 b9 C=>?_;refine ⟨fun a4 v6 y7 a5=>∃ i,S ψ h a5 [.it (El.ow eL) [v6] i,.it (El.ow eL) [w] e,.it eL [l] k]/\loopN (ZeW c o e y5) a4 (i,y7)=some a,endI,?_⟩;rintro a4 _ v6 y7 a5 ⟨i,C,aa⟩;obtain ⟨ba,aq,rfl,I,ab⟩:=Zh aa;refine brQ I (fun I=>?_) fun I=>?_
  ·refine kV v C.le 3 ?_;refine ixV g C.le I fun bb bc bd I=>?_;refine cl1 I C (fun ar _ _ ac=>ZuB ar.fle ac (CellsC.part 0 3 slA) slA slA) fun be bf bg C I=>⟨_,rfl,?_⟩;refine ZG oneA ?_;have C:=frA 0;have C:=C.copyF 0 rfl;refine piA I 1 fun bh bi bj C I=>?_;exact endL
  ·refine ZO (E:=eL) (css:=[]) (xs:=([]:List (List Int))) C (fun _=>rfl) rfl rfl fun bk az C=>?_;refine ⟨fun a6 v8 y9 x=>∃ y8,S ψ h x [.it (El.ow eL) [v8] y8,.it (El.ow eL) [v6] i,.it (El.ow eL) [w] e,.it eL [l] k]/\loopN (ZfT c o e y5 i) a6 (y8,y9)=some aq,endI,?_⟩;rintro a6 _ v8 y9 x ⟨y8,C,af⟩;obtain ⟨bm,av,rfl,I,ag⟩:=Zh af;refine Zm slA ?_;refine brQ I (fun I=>?_) fun I=>?_
   ·refine ⟨fun a7 y a8 a0=>∃ j,S ψ h a0 [.it (El.ow eL) [y] j,.it (El.ow eL) [v6] i,.it (El.ow eL) [w] e,.it eL [l] k]/\loopN (Zfd c o e i y9) a7 (j,a8)=some av,endI,?_⟩;rintro a7 _ y a8 a0 ⟨j,C,ah⟩;obtain ⟨bn,bo,rfl,I,ai⟩:=Zh ah;refine brQ I (fun I=>?_) fun I=>?_
    ·refine ixA slA I fun bp bq aj ak I=>?_;refine ZaM C 2 rfl aj ak fun br C=>?_;refine ixA slA I fun bs bt al am I=>?_;refine ZaM C 2 rfl al am fun bu C=>?_;refine cl1 I C (fun aw _ _ an=>ZwA aw.fle an (CellsC.part 0 3 slA) slA slA slA) fun bv bw b0 C I=>⟨_,rfl,?_⟩;refine ZG oneA ?_;have C:=frA 0;have C:=C.copyF 0 rfl;refine piA I 3 fun bx bz b1 C I=>?_;exact endL
    ·obtain rfl:=oI I;obtain rfl:=oI ai;exact endM
   ·obtain rfl:=oI I;obtain rfl:=oI ag;obtain rfl:=oI ab;exact endM
 ·obtain rfl:=oI I;obtain rfl:=oI O;exact endR
theorem ZIa {o p0 p u r} (I:Zf9 o=some r) (ap:CellsC (hcell h) p0 [.int .i64 o.Field.Prime,.int .i64 o.Field.Degree,p,u]) (aw:sc h eI p o.Field.Poly) (ad:sc h eL u o.Rows):CallsH P 154 #[.pointer (some p0)] h (fun v h'=>∃ w0 w1,v=.tuple #[.agg #[w0,w1],.int .i64 r.2]/\S ψ h h' [.it oL [w0] r.1.Colors,.it (El.ow Zf) [w1] r.1.Edges]):=by
 refine zv ⟨[(9,[(7,tkI)]),(13,[(8,tkI)]),(17,[(9,tkI)]),(20,[(10,tkI)])],[],[],[]⟩ Tryz.func154 ?_;have C:=sZ hψ;refine new_S C fun b2 b9 C=>?_;refine cl0 I C (fun s _ _ hx=>Zlz s.fle hx (CellsC.part 0 3 slA) slA) fun ba bb C I=>⟨_,rfl,?_⟩;refine brQ I (fun I=>?_) fun I=>?_
 ·(iterate 2 refine boxA fun bc C=>?_);refine lsA ?_;have C:=C.nilO (E:=eI);have C:=C.nilO (E:=Zf);exact endS
 ·refine kV ap C.le 3 ?_;refine ixV ad C.le I fun i bd f I=>?_;refine vL f C.le ?_;refine cm1 I C (fun s hx=>Zy3 s hx slA slA slA) fun e l be C I=>⟨_,rfl,?_⟩;refine Zm slA ?_;refine brQ I (fun I=>?_) fun I=>?_
  ·(iterate 2 refine boxA fun bf C=>?_);refine lsA ?_;have C:=C.nilO (E:=eI);have C:=C.nilO (E:=Zf);exact endS
  ·refine new_S C fun b6 bg C=>?_;(iterate 2 refine boxA fun ax C=>?_);have C:=C.nilO (E:=eI);refine ⟨fun n y7 w=>∃ xs x,S ψ h w [.box b6 [x,(.slice none 0 0)],.it (El.ow eL) [l] e,.box b2 [(.slice none 0 0),(.slice none 0 0)],.it oL [x] xs]/\loopN (ZdP i e) n (y7,xs)=some r,endI,?_⟩;rintro n _ y7 w ⟨xs,x,C,hn⟩;obtain ⟨m,a,rfl,I,O⟩:=Zh hn;refine brQ I (fun I=>?_) fun I=>?_
   ·refine bV C 0 0 ?_;obtain ⟨bh,af,I⟩:=obind I;refine ZaP C 3 rfl (fun _=>⟨rfl,rfl⟩) rfl rfl af fun bi az C=>?_;refine boxA fun b0 C=>?_;exact endL
   ·refine ⟨fun aa y8 y=>∃ c g,S ψ h y [.box b6 [g,(.slice none 0 0)],.it (El.ow eL) [l] e,.box b2 [(.slice none 0 0),(.slice none 0 0)],.it oL [g] c]/\loopN (Zdh i e) aa (y8,c)=some a,endI,?_⟩;rintro aa _ y8 y ⟨c,g,C,ag⟩;obtain ⟨bj,au,rfl,I,a0⟩:=Zh ag;refine Zm slA ?_;refine brQ I (fun I=>?_) fun I=>?_
    ·refine bV C 0 0 ?_;obtain ⟨bk,ah,I⟩:=obind I;refine ZaP C 3 rfl (fun _=>⟨rfl,rfl⟩) rfl rfl ah fun bm b1 C=>?_;refine boxA fun b3 C=>?_;exact endL
    ·have C:=C.nilO (E:=Zf);refine ⟨fun ab y9 a1=>∃ j a2,S ψ h a1 [.box b6 [g,a2],.it (El.ow eL) [l] e,.box b2 [(.slice none 0 0),(.slice none 0 0)],.it oL [g] c,.it (El.ow Zf) [a2] j]/\loopN (Zd9 i e c) ab (y9,j)=some au,endI,?_⟩;rintro ab _ y9 a1 ⟨j,a2,C,ai⟩;obtain ⟨bn,av,rfl,I,a3⟩:=Zh ai;refine brQ I (fun I=>?_) fun I=>?_
     ·refine ⟨fun ac a4 a5=>∃ k a6,S ψ h a5 [.box b6 [g,a6],.it (El.ow eL) [l] e,.box b2 [(.slice none 0 0),(.slice none 0 0)],.it oL [g] c,.it (El.ow Zf) [a6] k]/\loopN (Zdu i e y9) ac (a4,k)=some av,endI,?_⟩;rintro ac _ a4 a5 ⟨k,a6,C,aj⟩;obtain ⟨bo,bp,rfl,I,ak⟩:=Zh aj;refine Zm slA ?_;refine brQ I (fun I=>?_) fun I=>?_
      ·refine ixA slA I fun bq br al am I=>?_;refine ZaM C 1 rfl al am fun bs C=>?_;refine ixI slA I fun bt I=>?_;refine brQ I (fun I=>?_) fun I=>?_
       ·refine bV C 1 1 ?_;obtain ⟨bu,an,I⟩:=obind I;refine ZaP C 5 rfl (fun _=>⟨[.int .i64 y9],[.int .i64 (ε.wrap ((ε.wrap ((i.length:Int)+a4))-1))],[],[],rfl,rfl,⟨rfl,rfl⟩,⟨rfl,rfl⟩⟩) rfl rfl an fun bv b4 C=>?_;refine boxA fun b5 C=>?_;exact endL
       ·exact endL
      ·obtain rfl:=oI I;obtain rfl:=oI ak;exact endM
     ·refine bV C 0 1 ?_;refine Zm slA ?_;refine brQ I (fun I=>?_) fun I=>?_
      ·(iterate 2 refine boxA fun b7 C=>?_);refine lsA ?_;have C:=C.nilO (E:=eI);have C:=C.nilO (E:=Zf);obtain rfl:=oI I;obtain rfl:=oI a3;obtain rfl:=oI a0;obtain rfl:=oI O;exact endR
      ·refine lsA ?_;(iterate 2 refine boxA fun b8 C=>?_);refine lsA ?_;obtain rfl:=oI I;obtain rfl:=oI a3;obtain rfl:=oI a0;obtain rfl:=oI O;exact endR
theorem ZGs {e o c r} (I:Zcn e=some r) (f:CellsC (hcell h) o [.int .i64 e.Kind,.int .i64 e.Size,c]) (a:SlC ψ eL c e.Rows):CallsH P 109 #[.pointer (some o)] h (fun v h'=>∃ w0 w1,v=.tuple #[.agg #[w0,w1],.int .i64 r.2]/\S ψ h h' [.it oL [w0] r.1.Colors,.it (El.ow Zf) [w1] r.1.Edges]):=by
 refine zv annO Tryz.func109 ?_;have C:=sZ hψ;refine new_S C fun b2 ae C=>?_;refine kI f C.le 0 ?_;refine brQ I (fun I=>?_) fun I=>?_
 ·refine kV f C.le 2 ?_;refine cl2 I C (fun s _ _ hx=>ZAS s.fle hx (a.mono C.leF)) fun af ag x ah C I=>⟨_,_,_,rfl,?_⟩;(iterate 2 refine boxA fun ai C=>?_);refine lsA ?_;exact endS
 ·refine brQ I (fun I=>?_) fun I=>?_
  ·refine lsA ?_;refine ZG (a.mono C.leF).one ?_;refine new_S C fun aj ak C=>?_;refine cl2 I C (fun p _ _ i=>ZFz p.fle i (C.cells 0 rfl) (a.mono C.leF)) fun al am y an C I=>⟨_,_,_,rfl,?_⟩;(iterate 2 refine boxA fun ao C=>?_);refine lsA ?_;exact endS
  ·refine brQ I (fun I=>?_) fun I=>?_
   ·refine cl2 I C (fun g _ _ j=>Zvx g.fle j slA (a.mono g.bas)) fun ap aq a0 a4 C I=>⟨_,_,_,_,rfl,?_⟩;refine new_S C fun b4 a5 C=>?_;(iterate 4 refine boxA fun a6 C=>?_);refine cl2 I C (fun u _ _ k=>ZIa u.fle k (C.cells 0 rfl) slA slA) fun ar au a1 a7 C I=>⟨_,_,_,rfl,?_⟩;(iterate 2 refine boxA fun a8 C=>?_);refine lsA ?_;exact endS
   ·refine brQ I (fun I=>?_) fun I=>?_
    ·refine cl2 I C (fun w _ _ l=>Zra w.fle l slA (a.mono C.leF)) fun av aw a2 a9 C I=>⟨_,_,_,rfl,?_⟩;refine new_S C fun b5 aa C=>?_;(iterate 2 refine boxA fun ab C=>?_);refine lsA ?_;(iterate 2 refine boxA fun ac C=>?_);refine lsA ?_;exact endS
    ·(iterate 2 refine boxA fun ad C=>?_);refine lsA ?_;have C:=C.nilO (E:=eI);have C:=C.nilO (E:=Zf);exact endS
theorem ZEz {budget0 r} (I:Zi0 budget0=some r)  :zR 198 #[.int .i64 budget0] h ψ (.bool r):=by
 refine zv annO Tryz.func198 ?_;have C:=sZ hψ;refine cm0 I C (fun s a=>Zaq s a) fun e c C I=>⟨_,rfl,?_⟩;exact tZ
theorem ZtX {j c e r} (I:Zet j=some r) (u:sc h eI c j.Colors) (k:sc h Zf e j.Edges):zL 260 #[.agg #[c,e]] h ψ (El.ow El.bool) r:=by
 refine zv ⟨[(4,[(4,.v),(5,tkI)]),(8,[(6,tkI)])],[],[],[]⟩ Tryz.func260 ?_;have C:=sZ hψ;refine new_S C fun b1 ag C=>?_;refine bV C 0 0 ?_;refine vL u C.le ?_;refine ZO (E:=(El.ow El.bool)) (css:=[]) (xs:=([]:List (List Bool))) C (fun _=>rfl) rfl rfl fun ah ai C=>?_;refine ⟨fun n v i5 o=>∃ f,S ψ h o [.it (El.ow (El.ow El.bool)) [v] f,.box b1 [c,e]]/\loopN (Ziz j) n (f,i5)=some r,endI,?_⟩;rintro n _ v i5 o ⟨f,C,hn⟩;obtain ⟨m,a,rfl,I,O⟩:=Zh hn;refine brQ I (fun I=>?_) fun I=>?_
 ·refine mkO El.bool I fun aj ak al C I=>?_;refine ZG oneA ?_;refine piA I 0 fun am an ao C I=>?_;exact endL
 ·refine ⟨fun p i6 s=>∃ xs,S ψ h s [.it (El.ow (El.ow El.bool)) [v] xs,.box b1 [c,e]]/\loopN (Zfy j) p (i6,xs)=some a,endI,?_⟩;rintro p _ i6 s ⟨xs,C,w⟩;obtain ⟨ap,aq,rfl,I,x⟩:=Zh w;refine bV C 1 1 ?_;refine vL k C.le ?_;refine brQ I (fun I=>?_) fun I=>?_
  ·refine bV C 1 1 ?_;refine ixA slA I fun ar au ad y I=>?_;obtain ⟨cs,ck,hr⟩:=k.cells ad y rfl;obtain rfl:=Zaw hr;refine lsA ?_;refine new_S C fun b7 av C=>?_;(iterate 2 refine boxA fun ac C=>?_);refine bI C 0 0 ?_;refine ixA slA I fun aw ax a0 g I=>?_;refine ZaX C 1 rfl a0 g fun ay hd=>?_;refine bI C 0 1 ?_;refine ixA (C.rowC 1 rfl hd g Zcd) I fun az b0 a1 a2 I=>?_;refine Zmm C 1 rfl hd g a1 a2 rfl (fun _=>⟨rfl,rfl⟩) fun ae C=>?_;dsimp at C;refine bI C 0 1 ?_;refine ixA slA I fun b2 b3 a3 i I=>?_;refine ZaX C 1 rfl a3 i fun b4 l=>?_;refine bI C 0 0 ?_;refine ixA (C.rowC 1 rfl l i Zcd) I fun b5 b6 a4 a5 I=>?_;refine Zmm C 1 rfl l i a4 a5 rfl (fun _=>⟨rfl,rfl⟩) fun af C=>?_;dsimp at C;exact endL
  ·obtain rfl:=oI I;obtain rfl:=oI x;obtain rfl:=oI O;exact endR
theorem Zv9 {o e f r} (I:ZiZ o=some r) (a6:sc h eI e o.Colors) (a7:sc h Zf f o.Edges):zL 232 #[.agg #[e,f]] h ψ eL r:=by
 refine zv ⟨[(4,[(4,.v),(5,tkI)]),(8,[(6,.v),(7,tkI)])],[],[],[]⟩ Tryz.func232 ?_;have C:=sZ hψ;refine new_S C fun b1 ab C=>?_;refine lsA ?_;refine cm1 I C (fun s hx=>ZtX s hx slA slA) fun i v9 ac C I=>⟨_,rfl,?_⟩;have C:=frA 0;refine ZO (E:=eL) (css:=[]) (xs:=([]:List (List Int))) C (fun _=>rfl) rfl rfl fun ae af C=>?_;refine ⟨fun n p u j=>∃ c,S ψ h j [.it (El.ow eL) [p] c,.it (El.sl (El.sl El.bool)) [v9] i,.box b1 [e,f]]/\loopN (Zhb i) n (c,u)=some r,endI,?_⟩;rintro n _ p u j ⟨c,C,hn⟩;obtain ⟨m,a,rfl,I,O⟩:=Zh hn;refine Zm slA ?_;refine brQ I (fun I=>?_) fun I=>?_
 ·refine ZO (E:=eI) (css:=[]) (xs:=([]:List Int)) C (fun _=>rfl) rfl rfl fun ag ah C=>?_;refine ⟨fun k v6 b7 l=>∃ g,S ψ h l [.it oL [v6] g,.it (El.ow eL) [p] c,.it (El.sl (El.sl El.bool)) [v9] i,.box b1 [e,f]]/\loopN (Zd1 i c u) k (g,b7)=some a,endI,?_⟩;rintro k _ v6 b7 l ⟨g,C,v⟩;obtain ⟨ai,aj,rfl,I,w⟩:=Zh v;refine Zm slA ?_;refine brQ I (fun I=>?_) fun I=>?_
  ·refine ixA slA I fun ak al ad x I=>?_;refine Zpi C 2 rfl ad x fun am C=>?_;refine ixA slA I fun an ao y a0 I=>?_;refine ldB_C slA y a0 ?_;refine brQ I (fun I=>?_) fun I=>?_
   ·refine puA I 1 fun ap aq ar C I=>?_;exact endL
   ·exact endL
  ·refine ZG oneA ?_;have C:=frA 0;have C:=C.copyF 0 rfl;refine piA I 1 fun au av aw C I=>?_;obtain rfl:=oI I;obtain rfl:=oI w;exact endM
 ·obtain rfl:=oI I;obtain rfl:=oI O;exact endR
theorem Zy5 {c v0 n1 r} (I:Zoi c n1=some r) (v:sc h eI v0 c):zL 292 #[v0,.int .i64 n1] h ψ eI r:=by
 refine zv ⟨[(4,[(5,.v),(6,.b),(7,tkI)])],[(7,[(24,.b)]),(10,[(5,.v),(6,.b)])],[],[]⟩ Tryz.func292 ?_;have C:=sZ hψ;refine ZO (E:=eI) (css:=[]) (xs:=([]:List Int)) C (fun _=>rfl) rfl rfl fun v8 x C=>?_;refine ⟨fun n u i k l=>∃ e,S ψ h l [.it oL [u] e]/\loopN (ZaK c n1) n (e,i,k)=some r,endI,?_⟩;rintro n _ u i k l ⟨e,C,w⟩;obtain ⟨m,a,rfl,I,O⟩:=Zh w;refine vL v C.le ?_;refine brQ I (fun I=>?_) fun I=>?_
 ·refine ⟨fun j g o=>∃ f,S ψ h o [.it oL [j] f]/\Zcz c k f g=some a,?_,?_⟩
  ·refine ⟨fun p s=>S ψ h s [.it oL [u] e]/\Zd2 c n1 e i k p=some a,?_,?_⟩
   ·refine brQ I (fun I=>?_) fun I=>?_
    ·refine ixI slA I fun y I=>?_;exact endC
    ·exact endC
   ·rintro _ p s ⟨C,I⟩;refine brQ I (fun I=>?_) fun I=>?_
    ·refine ixI slA I fun a0 I=>?_;refine brQ I (fun I=>?_) fun I=>?_
     ·refine puA I 0 fun a1 a2 a3 C I=>?_;exact endC
     ·exact endC
    ·exact endC
  ·rintro _ j g o ⟨f,C,I⟩;refine ixI slA I fun a4 I=>?_;refine puA I 0 fun a5 a6 a7 C I=>?_;exact endL
 ·refine brQ I (fun I=>?_) fun I=>?_
  ·refine puA I 0 fun a8 a9 aa C I=>?_;obtain rfl:=oI I;obtain rfl:=oI O;exact endR
  ·obtain rfl:=oI I;obtain rfl:=oI O;exact endR
theorem Znd {c v0 r} (I:ZfF c=some r) (j:sc h eI v0 c):zR 264 #[v0] h ψ (.int .i64 r):=by
 refine zv ⟨[(3,[(3,.v),(4,tkI)])],[],[],[]⟩ Tryz.func264 ?_;have C:=sZ hψ;refine ZO (E:=eI) (css:=[]) (xs:=([]:List Int)) C (fun _=>rfl) rfl rfl fun x o C=>?_;refine ⟨fun n g i f=>∃ e,S ψ h f [.it oL [g] e]/\loopN (ZhP c) n (e,i)=some r,endI,?_⟩;rintro n _ g i f ⟨e,C,k⟩;obtain ⟨m,a,rfl,I,O⟩:=Zh k;refine vL j C.le ?_;refine brQ I (fun I=>?_) fun I=>?_
 ·refine ixI slA I fun p I=>?_;refine cm1 I C (fun s l=>Zy5 s l slA) fun u v w C I=>⟨_,rfl,?_⟩;exact endL
 ·refine Zm slA ?_;exact tZ
theorem Zsk {c v0 r} (I:ZkX c=some r) (f0:sc h eI v0 c):zL 293 #[v0] h ψ eI r:=by
 refine zv ⟨[(3,[(3,.v),(4,tkI)]),(7,[(5,tkI)])],[(8,[])],[],[]⟩ Tryz.func293 ?_;have C:=sZ hψ;refine ZO (E:=eI) (css:=[]) (xs:=([]:List Int)) C (fun _=>rfl) rfl rfl fun v7 a3 C=>?_;refine ⟨fun n y o g=>∃ e,S ψ h g [.it oL [y] e]/\loopN (ZgN c) n (e,o)=some r,endI,?_⟩;rintro n _ y o g ⟨e,C,hn⟩;obtain ⟨m,a,rfl,I,O⟩:=Zh hn;refine vL f0 C.le ?_;refine brQ I (fun I=>?_) fun I=>?_
 ·refine Zm slA ?_;refine ixI slA I fun a4 I=>?_;refine puA I 0 fun a5 i a6 C I=>?_;refine ⟨fun j p k=>∃ xs,S ψ h k [.it oL [i] xs]/\loopN (Zc8 o) j (p,xs)=some a,endI,?_⟩;rintro j _ p k ⟨xs,C,s⟩;obtain ⟨a7,a0,rfl,I,f⟩:=Zh s;refine ⟨fun l=>S ψ h l [.it oL [i] xs]/\Zor p xs=some a0,?_,?_⟩
  ·refine brQ I (fun I=>?_) fun I=>?_
   ·refine ixI slA I fun a8 I=>?_;refine ixI slA I fun a9 I=>?_;refine brQ I (fun I=>?_) fun I=>?_
    ·exact endC
    ·obtain rfl:=oI I;obtain rfl:=oI f;exact endM
   ·obtain rfl:=oI I;obtain rfl:=oI f;exact endM
  ·rintro _ l ⟨C,I⟩;refine ixI slA I fun aa I=>?_;refine ixI slA I fun ab I=>?_;refine ixA slA I fun ac ad u v I=>?_;refine st1_S C 0 rfl u v rfl (fun _=>⟨rfl,rfl⟩) fun ae C=>?_;dsimp at C;refine ixA slA I fun af ag w x I=>?_;refine st1_S C 0 rfl w x rfl (fun _=>⟨rfl,rfl⟩) fun ah C=>?_;dsimp at C;exact endL
 ·obtain rfl:=oI I;obtain rfl:=oI O;exact endR
theorem Zxq {lists0 v0 x1 v1 r} (I:ZnP lists0 x1=some r) (x:SlC ψ eL v0 lists0) (j:SlC ψ eI v1 x1):zL 294 #[v0,v1] h ψ eL r:=by
 refine zv ⟨[(4,[(5,.v),(6,.b),(7,tkI)])],[(8,[(27,.b)]),(11,[(5,.v),(6,.b)])],[],[]⟩ Tryz.func294 ?_;have C:=sZ hψ;refine ZO (E:=eL) (css:=[]) (xs:=([]:List (List Int))) C (fun _=>rfl) rfl rfl fun v9 a3 C=>?_;refine ⟨fun n y i l o=>∃ c,S ψ h o [.it (El.ow eL) [y] c]/\loopN (ZaN lists0 x1) n (c,i,l)=some r,endI,?_⟩;rintro n _ y i l o ⟨c,C,hn⟩;obtain ⟨m,a,rfl,I,O⟩:=Zh hn;refine vL x C.leF ?_;refine brQ I (fun I=>?_) fun I=>?_
 ·refine ixV x C.leF I fun a4 a5 f I=>?_;refine cl0 I C (fun s _ _ a0=>Zdp s.fle a0 (f.mono C.leF) (j.mono C.leF)) fun a1 a6 C I=>⟨_,rfl,?_⟩;refine ⟨fun k g p=>∃ e,S ψ h p [.it (El.ow eL) [k] e]/\Zco lists0 l e g=some a,?_,?_⟩
  ·refine ⟨fun u v=>S ψ h v [.it (El.ow eL) [y] c]/\Zd8 lists0 x1 c i l a1 u=some a,?_,?_⟩
   ·refine brQ I (fun I=>?_) fun I=>?_
    ·exact endC
    ·exact endC
   ·rintro _ u v ⟨C,I⟩;refine brQ I (fun I=>?_) fun I=>?_
    ·refine brQ I (fun I=>?_) fun I=>?_
     ·refine ZG (j.mono C.leF).one ?_;have C:=C.arg j;refine piA I 0 fun a7 a8 a9 C I=>?_;exact endC
     ·exact endC
    ·exact endC
  ·rintro _ k g p ⟨e,C,I⟩;refine ixV x C.leF I fun aa ab w I=>?_;refine ZG (w.mono C.leF).one ?_;have C:=C.arg w;refine piA I 0 fun ac ad ae C I=>?_;exact endL
 ·refine brQ I (fun I=>?_) fun I=>?_
  ·refine ZG (j.mono C.leF).one ?_;have C:=C.arg j;refine piA I 0 fun af ag ah C I=>?_;obtain rfl:=oI I;obtain rfl:=oI O;exact endR
  ·obtain rfl:=oI I;obtain rfl:=oI O;exact endR
theorem Zqd {u v0 y1 v1 r} (I:Zge u y1=some r) (f0:sc h eL v0 u) (f1:sc h eI v1 y1):zL 265 #[v0,v1] h ψ eI r:=by
 refine zv ⟨[(4,[(6,.v),(7,tkI)]),(8,[(8,.v),(9,tkI)]),(14,[(10,.v),(11,tkI)]),(19,[(12,.v),(13,tkI)]),(22,[(12,.v),(14,tkI)])],[],[],[(11,⟨kdL [0,0,0,0,2,3,0,3,4,4,4,0],.both (.fin [1,2,3,4,5,6,7,8,9,0,10,11]) (.fin [6,7,1,2,3,4,5,8,9,0,10,11]),true⟩)]⟩ Tryz.func265 ?_;have C:=sZ hψ;refine vL f0 C.le ?_;refine ZO (E:=eL) (css:=[]) (xs:=([]:List (List Int))) C (fun _=>rfl) rfl rfl fun bz c0 C=>?_;refine ⟨fun n v y7 ae=>∃ e,S ψ h ae [.it (El.ow eL) [v] e]/\loopN (ZhA u y1) n (e,y7)=some r,endI,?_⟩;rintro n _ v y7 ae ⟨e,C,hn⟩;obtain ⟨m,a,rfl,I,O⟩:=Zh hn;refine brQ I (fun I=>?_) fun I=>?_
 ·refine ZO (E:=eI) (css:=[]) (xs:=([]:List Int)) C (fun _=>rfl) rfl rfl fun c3 c4 C=>?_;refine ⟨fun af v8 y9 w=>∃ y8,S ψ h w [.it oL [v8] y8,.it (El.ow eL) [v] e]/\loopN (ZeR u y1 e y7) af (y8,y9)=some a,endI,?_⟩;rintro af _ v8 y9 w ⟨y8,C,aq⟩;obtain ⟨c5,c6,rfl,I,x⟩:=Zh aq;refine ixV f0 C.le I fun c7 c8 f I=>?_;refine vL f C.le ?_;refine brQ I (fun I=>?_) fun I=>?_
  ·refine ixV f0 C.le I fun c9 ca cb I=>?_;refine ixI slA I fun cc I=>?_;refine ixI slA I fun cd I=>?_;refine puA I 0 fun ce cf cg C I=>?_;exact endL
  ·obtain ⟨l,i,I⟩:=obind I;obtain ⟨ch,y,I⟩:=obind I;obtain ⟨cj,a0,I⟩:=obind I;obtain ⟨ck,a1,I⟩:=obind I;refine ⟨fun _=>False,?_⟩;have k:=C;have c:=eX w;refine ⟨?_,?_⟩
   ·refine Z4 slA i fun b8 ar=>?_;refine ZJ ?_;refine ldI_C (f1.mono k.le) ar i ?_;refine Zsv (E:=eI) (css:=[[.int .i64 l]]) (xs:=([l]:List Int)) C (fun _=>⟨[],[],rfl,⟨rfl,rfl⟩,rfl⟩) rfl rfl fun b9 bj xE C=>⟨eZ (c.trans xE),?_⟩;replace c:=c.trans xE;refine ce1 C (fun s=>Zsk s.fle y slA) fun ba bk xE C=>⟨_,rfl,eZ (c.trans xE),?_⟩;replace c:=c.trans xE;refine app_S C 1 rfl (ZbR (Zbl _) slA) rfl rfl a0 fun bb bm C=>?_;dsimp at C;refine ZG oneA ?_;have C:=frA 1;have C:=C.copyF 1 rfl;refine ZlW C 3 rfl rfl rfl a1 fun bc bn C=>?_;dsimp at C;obtain rfl:=oI I;obtain rfl:=oI x;exact endM
   ·refine ce1 C (fun s=>Zsk s.fle y slA) fun bd bo xE C=>⟨_,rfl,eZ (c.trans xE),?_⟩;replace c:=c.trans xE;refine Z4 slA i fun be au=>?_;refine ZJ ?_;refine ldI_C (f1.mono k.le) au i ?_;refine Zsv (E:=eI) (css:=[[.int .i64 l]]) (xs:=([l]:List Int)) C (fun _=>⟨[],[],rfl,⟨rfl,rfl⟩,rfl⟩) rfl rfl fun bf bp xE C=>⟨eZ (c.trans xE),?_⟩;replace c:=c.trans xE;refine app_S C 0 rfl (ZbR (Zbl _) slA) rfl rfl a0 fun bg bq C=>?_;dsimp at C;refine ZG oneA ?_;have C:=frA 0;have C:=C.copyF 0 rfl;refine ZlW C 3 rfl rfl rfl a1 fun bh br C=>?_;dsimp at C;obtain rfl:=oI I;obtain rfl:=oI x;exact endM
 ·refine ZO (E:=eL) (css:=[]) (xs:=([]:List (List Int))) C (fun _=>rfl) rfl rfl fun cm bs C=>?_;refine ⟨fun ag o ah a2=>∃ g,S ψ h a2 [.it (El.ow eL) [o] g,.it (El.ow eL) [v] e]/\loopN (Zef u e) ag (g,ah)=some a,endI,?_⟩;rintro ag _ o ah a2 ⟨g,C,av⟩;obtain ⟨cn,b5,rfl,I,aw⟩:=Zh av;refine brQ I (fun I=>?_) fun I=>?_
  ·refine ixA slA I fun co cp ax a8 I=>?_;refine ZaM C 1 rfl ax a8 fun cq C=>?_;have C:=frA 1;refine cl1 I C (fun b6 ai _ a9=>Zxq b6.fle a9 (frF ai 1 rfl) (frF ai 0 rfl)) fun cr ct bt C I=>⟨_,rfl,?_⟩;exact endL
  ·refine ZO (E:=eI) (css:=[]) (xs:=([]:List Int)) C (fun _=>rfl) rfl rfl fun cu bu C=>?_;refine ⟨fun aj ak a3 a4=>∃ a5,S ψ h a4 [.it oL [ak] a5,.it (El.ow eL) [o] g,.it (El.ow eL) [v] e]/\loopN (Ze9 u e g) aj (a5,a3)=some b5,endI,?_⟩;rintro aj _ ak a3 a4 ⟨a5,C,ay⟩;obtain ⟨cv,b7,rfl,I,az⟩:=Zh ay;refine brQ I (fun I=>?_) fun I=>?_
   ·refine ⟨fun al p am a6=>∃ j,S ψ h a6 [.it oL [p] j,.it (El.ow eL) [o] g,.it (El.ow eL) [v] e]/\loopN (Zdr e g a3) al (j,am)=some b7,endI,?_⟩;rintro al _ p am a6 ⟨j,C,b0⟩;obtain ⟨cx,cy,rfl,I,b1⟩:=Zh b0;refine Zm slA ?_;refine brQ I (fun I=>?_) fun I=>?_
    ·refine ixA slA I fun cz d0 aa ab I=>?_;refine ZaM C 1 rfl aa ab fun d1 C=>?_;refine ixA slA I fun d2 d3 ac ad I=>?_;refine ZaM C 3 rfl ac ad fun d4 C=>?_;refine cm0 I C (fun s hx=>Zdp s hx slA slA) fun d5 bw C I=>⟨_,rfl,?_⟩;refine brQ I (fun I=>?_) fun I=>?_
     ·refine puA I 2 fun d6 d7 bx C I=>?_;exact endL
     ·exact endL
    ·obtain rfl:=oI I;obtain rfl:=oI b1;exact endM
   ·obtain rfl:=oI I;obtain rfl:=oI az;obtain rfl:=oI aw;obtain rfl:=oI O;exact endR
theorem ZtV {c v0 cells1 v1 r} (I:ZgJ c cells1=some r) (f0:sc h eL v0 c) (f1:sc h eI v1 cells1):zL 234 #[v0,v1] h ψ eI r:=by
 refine zv ⟨[(3,[(5,tkI),(6,.v)])],[],[],[]⟩ Tryz.func234 ?_;have C:=sZ hψ;refine cm0 I C (fun s e=>Znd s e slA) fun r8 l C I=>⟨_,rfl,?_⟩;refine cm1 I C (fun s e=>Zqd s e slA slA) fun o p u C I=>⟨_,rfl,?_⟩;refine ⟨fun n g j i=>∃ f,S ψ h i [.it oL [j] f]/\loopN (Zdg c) n (g,f)=some r,endI,?_⟩;rintro n _ g j i ⟨f,C,k⟩;obtain ⟨m,a,rfl,I,O⟩:=Zh k;refine cm0 I C (fun s e=>Znd s e slA) fun v w C I=>⟨_,rfl,?_⟩;refine brQ I (fun I=>?_) fun I=>?_
 ·refine cm0 I C (fun s e=>Znd s e slA) fun x y C I=>⟨_,rfl,?_⟩;refine cm1 I C (fun s e=>Zqd s e slA slA) fun a0 a1 a2 C I=>⟨_,rfl,?_⟩;exact endL
 ·obtain rfl:=oI I;obtain rfl:=oI O;exact endR
theorem Zxo {cells0 v0 r} (I:Zku cells0=some r) (k:sc h eI v0 cells0):zR 261 #[v0] h ψ (.int .i64 r):=by
 refine zv ⟨[(3,[(3,tkI),(4,tkI)]),(6,[(3,tkI),(5,tkI)])],[(9,[(37,.b)])],[],[]⟩ Tryz.func261 ?_;have C:=sZ hψ;refine lp2 I (nlS C) fun m l o s a C I O=>?_;refine vL k C.le ?_;refine brY fun I=>?_;refine lp2 I (nlS C) fun f e p u j C I c=>?_;refine brQ I (fun I=>?_) fun I=>?_
 ·refine ⟨fun g i=>S ψ h i []/\ZcW cells0 o e p g=some j,?_,?_⟩
  ·refine ixI slA I fun v I=>?_;refine ixI slA I fun w I=>?_;refine brY fun I=>?_;refine brZ fun I=>?_;refine ixI slA I fun x I=>?_;exact tZ
  ·rintro _ g i ⟨C,I⟩;refine brQ I (fun I=>?_) fun I=>?_
   ·refine ixI slA I fun y I=>?_;obtain rfl:=oI I;exact ⟨f,ltS,nlS C,c⟩
   ·obtain rfl:=oI I;exact ⟨f,ltS,nlS C,c⟩
 ·obtain rfl:=oI I;obtain rfl:=oI c;exact ⟨m,ltS,nlS C,O⟩
theorem ZBD {colors0 v0 table1 v1 r} (I:Zkv colors0 table1=some r) (f0:sc h eI v0 colors0) (f1:sc h (El.sl El.bool) v1 table1):CallsH P 290 #[v0,v1] h (fun v h'=>∃ w0 w1,v=.agg #[w0,w1]/\S ψ h h' [.it oL [w0] r.Colors,.it (El.ow Zf) [w1] r.Edges]):=by
 refine zv ⟨[(3,[(6,tkI)]),(6,[(7,tkI)])],[],[],[]⟩ Tryz.func290 ?_;have C:=sZ hψ;refine new_S C fun b4 ac C=>?_;refine cm1 I C (fun s hx=>Zix s hx slA) fun p i ad C I=>⟨_,rfl,?_⟩;refine ZO (E:=Zf) (css:=[]) (xs:=([]:List Zb)) C (fun _=>rfl) rfl rfl fun ae af C=>?_;refine ZG oneA ?_;refine ZG oneA ?_;refine new_S C fun b5 ag C=>?_;(iterate 2 refine boxA fun ah C=>?_);refine ⟨fun n j k=>∃ xs e,S ψ h k [.box b5 [i,e],.it (El.ow Zf) [e] xs,.it oL [i] p,.box b4 [(.slice none 0 0),(.slice none 0 0)]]/\loopN (Zho colors0 table1 p) n (j,xs)=some r,endI,?_⟩;rintro n _ j k ⟨xs,e,C,hn⟩;obtain ⟨m,a,rfl,I,O⟩:=Zh hn;refine vL f0 C.le ?_;refine brQ I (fun I=>?_) fun I=>?_
 ·refine ⟨fun l u o=>∃ c g,S ψ h o [.box b5 [i,g],.it (El.ow Zf) [g] c,.it oL [i] p,.box b4 [(.slice none 0 0),(.slice none 0 0)]]/\loopN (ZdH colors0 table1 j) l (u,c)=some a,endI,?_⟩;rintro l _ u o ⟨c,g,C,w⟩;obtain ⟨ai,aj,rfl,I,x⟩:=Zh w;refine vL f0 C.le ?_;refine brQ I (fun I=>?_) fun I=>?_
  ·refine ixV f1 C.le I fun ak al f I=>?_;refine ixA slA I fun am an y a0 I=>?_;refine ldB_C slA y a0 ?_;refine brQ I (fun I=>?_) fun I=>?_
   ·refine bV C 0 1 ?_;obtain ⟨ao,a1,I⟩:=obind I;refine ZaP C 1 rfl (fun _=>⟨[.int .i64 j],[.int .i64 u],[],[],rfl,rfl,⟨rfl,rfl⟩,⟨rfl,rfl⟩⟩) rfl rfl a1 fun ap a9 C=>?_;refine boxA fun aa C=>?_;exact endL
   ·exact endL
  ·obtain rfl:=oI I;obtain rfl:=oI x;exact endM
 ·refine lsA ?_;(iterate 2 refine boxA fun ab C=>?_);refine lsA ?_;obtain rfl:=oI I;obtain rfl:=oI O;exact endR
theorem ZwH {j c e o v1 r} (I:Zf7 j o=some r) (al:sc h eI c j.Colors) (k:sc h Zf e j.Edges) (f1:sc h eI v1 o):CallsH P 262 #[.agg #[c,e],v1] h (fun v h'=>∃ w0 w1,v=.agg #[w0,w1]/\S ψ h h' [.it oL [w0] r.Colors,.it (El.ow Zf) [w1] r.Edges]):=by
 refine zv ⟨[(3,[(6,tkI)]),(8,[(8,tkI)])],[],[],[]⟩ Tryz.func262 ?_;have C:=sZ hψ;refine new_S C fun b2 av C=>?_;refine new_S C fun b4 aw C=>?_;refine vL f1 C.le ?_;refine mkO eI I fun ax y ay C I=>?_;refine ⟨fun n y6 a0=>∃ xs,S ψ h a0 [.it oL [y] xs,.box b4 [(.slice none 0 0),(.slice none 0 0)],.box b2 [c,e]]/\loopN (Zij j o) n (y6,xs)=some r,endI,?_⟩;rintro n _ y6 a0 ⟨xs,C,hn⟩;obtain ⟨m,a,rfl,I,O⟩:=Zh hn;refine vL f1 C.le ?_;refine brQ I (fun I=>?_) fun I=>?_
 ·refine ixI slA I fun az I=>?_;refine bV C 2 0 ?_;refine ixI slA I fun b0 I=>?_;refine ixA slA I fun b1 b3 a4 a5 I=>?_;refine st1_S C 0 rfl a4 a5 rfl (fun _=>⟨rfl,rfl⟩) fun b5 C=>?_;dsimp at C;exact endL
 ·refine ZG oneA ?_;obtain ⟨b6,a6,I⟩:=obind I;obtain ⟨φ,L,s,a1⟩:=id C;refine (ZtX s.fle a6 slA SlC.nil).mono fun b7 b8 ⟨ah,eq,t⟩=>⟨_,eq,?_⟩;replace C:=join1 s a1 t;clear t s a1;refine ⟨fun a2 y8 a3=>∃ g,S ψ h a3 [.it (El.ow (El.ow El.bool)) [ah] g,.it oL [y] xs,.box b4 [(.slice none 0 0),(.slice none 0 0)],.box b2 [c,e]]/\loopN (ZeK j o xs) a2 (y8,g)=some a,endI,?_⟩;rintro a2 _ y8 a3 ⟨g,C,a7⟩;obtain ⟨ba,bb,rfl,I,a8⟩:=Zh a7;refine bV C 3 1 ?_;refine vL k C.le ?_;refine brQ I (fun I=>?_) fun I=>?_
  ·refine bV C 3 1 ?_;refine ixA slA I fun bc bd a9 aa I=>?_;obtain ⟨cs,ck,hr⟩:=k.cells a9 aa rfl;obtain rfl:=Zaw hr;refine lsA ?_;refine new_S C fun b9 be C=>?_;(iterate 2 refine boxA fun an C=>?_);refine bI C 0 0 ?_;refine ixI slA I fun bf I=>?_;refine ixA slA I fun bg bh ab i I=>?_;refine ZaX C 1 rfl ab i fun bi hd=>?_;refine bI C 0 1 ?_;refine ixI slA I fun bj I=>?_;refine ixA (C.rowC 1 rfl hd i Zcd) I fun bk bm ac p I=>?_;refine Zmm C 1 rfl hd i ac p rfl (fun _=>⟨rfl,rfl⟩) fun ao C=>?_;dsimp at C;refine bI C 0 1 ?_;refine ixI slA I fun bn I=>?_;refine ixA slA I fun bo bp u f I=>?_;refine ZaX C 1 rfl u f fun bq l=>?_;refine bI C 0 0 ?_;refine ixI slA I fun br I=>?_;refine ixA (C.rowC 1 rfl l f Zcd) I fun bs bt w x I=>?_;refine Zmm C 1 rfl l f w x rfl (fun _=>⟨rfl,rfl⟩) fun ap C=>?_;dsimp at C;exact endL
  ·refine cm2 I C (fun s hx=>ZBD s hx slA slA) fun bu bv ak ar C I=>⟨_,_,rfl,?_⟩;(iterate 2 refine boxA fun au C=>?_);refine lsA ?_;obtain rfl:=oI I;obtain rfl:=oI a8;obtain rfl:=oI O;exact endR
theorem Zqr {i c e r} (I:ZhC i=some r) (y:sc h eI c i.Colors) (f:sc h Zf e i.Edges):zL 291 #[.agg #[c,e]] h ψ eI r:=by
 refine zv ⟨[(3,[(3,.v),(4,tkI)])],[],[],[(5,⟨[],.fin [1,2,3,4,5,6,7,8,9,10,11,12,13,0,14,15],false⟩)]⟩ Tryz.func291 ?_;have C:=sZ hψ;refine new_S C fun b1 a5 C=>?_;refine ZO (E:=eI) (css:=[]) (xs:=([]:List Int)) C (fun _=>rfl) rfl rfl fun v5 a6 C=>?_;refine ⟨fun n w x j=>∃ g,S ψ h j [.it oL [w] g,.box b1 [c,e]]/\loopN (Zhp i) n (g,x)=some r,endI,?_⟩;rintro n _ w x j ⟨g,C,hn⟩;obtain ⟨m,a,rfl,I,O⟩:=Zh hn;refine bV C 1 1 ?_;refine vL f C.le ?_;refine brQ I (fun I=>?_) fun I=>?_
 ·refine bV C 1 1 ?_;refine ixA slA I fun k a7 ad hx I=>?_;obtain ⟨cs,ck,hr⟩:=f.cells ad hx rfl;obtain rfl:=Zaw hr;refine lsA ?_;refine ixA slA I fun l a8 o p I=>?_;obtain ⟨a4,s,u⟩:=f.cells o p rfl;obtain rfl:=Zaw u;refine kI s C.le 1 ?_;refine ZO (E:=eI) (css:=[[.int .i64 k.A],[.int .i64 l.B]]) (xs:=([k.A,l.B]:List Int)) C (fun _=>⟨[],[],rfl,⟨rfl,rfl⟩,⟨[],[],rfl,⟨rfl,rfl⟩,rfl⟩⟩) rfl rfl fun a9 aa C=>?_;obtain ⟨ab,v,I⟩:=obind I;refine app_S C 1 rfl (ZbR (Zbl _) slA) rfl rfl v fun ac ae C=>?_;dsimp at C;exact endL
 ·obtain rfl:=oI I;obtain rfl:=oI O;exact endR
theorem ZHq {k e f h1 g i r} (I:Zg2 k h1=some r) (p:sc h eI e k.Colors) (u:sc h Zf f k.Edges) (v:sc h eI g h1.Colors) (w:sc h Zf i h1.Edges):zR 263 #[.agg #[e,f],.agg #[g,i]] h ψ (.int .i64 r):=by
 refine zv ⟨[],[],[],[(4,⟨kdL [1,3,2,4,4,0],.fin [0,1,2,3,4,5],true⟩)]⟩ Tryz.func263 ?_;have C:=sZ hψ;refine new_S C fun b2 x C=>?_;refine new_S C fun b3 y C=>?_;refine lsA ?_;refine cm0 I C (fun s j=>Zdp s j slA slA) fun a0 o C I=>⟨_,rfl,?_⟩;refine brZ fun I=>?_;refine ⟨fun _=>False,?_⟩;have c:=C;have a:=eX o;refine lsA ?_;obtain ⟨a1,l,I⟩:=obind I;refine ce1 C (fun s=>Zqr s.fle l slA slA) fun a2 a3 xE C=>⟨_,rfl,eZ (a.trans xE),?_⟩;replace a:=a.trans xE;refine ZK ?_;refine ldV_K (c.cells 0 rfl) 0 rfl rfl ?_;refine ZK ?_;refine ldV_K (c.cells 0 rfl) 1 rfl rfl ?_;refine cm1 I C (fun s j=>Zqr s j slA slA) fun a4 a5 a6 C I=>⟨_,rfl,?_⟩;refine cm0 I C (fun s j=>Zdp s j slA slA) fun a7 a8 C I=>⟨_,rfl,?_⟩;exact tZ
end
theorem rq_spec_l22Find_run {a1:Zz->(List Int)->Option Zz}  (a5:∀ {ψ:CM} {l h:Heap} {os:List Ob} {c:Zz} {b0:Nat} {e:List Value} {f g i x y a0:Value} {y1:List Int} {v1:Value} {r:Zz} (I:a1 c y1=some r) (C:S ψ l h (.box b0 (f::g::i::x::y::a0::.int .i64 c.qnodes::.int .i64 c.qleaves::.int .i64 c.qbudget::.bool c.qfull::e)::.it oL [x] c.qbest.Colors::.it (El.ow Zf) [y] c.qbest.Edges::.it (El.ow eL) [a0] c.qperms::os)) (aa:SlC (UB ψ l) eI f c.qg.Colors) (ab:SlC (UB ψ l) Zf g c.qg.Edges) (ac:SlC (UB ψ l) eL i c.qnear) (f1:SlC (UB ψ l) eI v1 y1),CallsH P 233 #[.pointer (some ⟨b0,0,none⟩),v1] h (fun v h'=>∃ w0 w1 w2,v=.tuple #[]/\S ψ l h' (.box b0 (f::g::i::w0::w1::w2::.int .i64 r.qnodes::.int .i64 r.qleaves::.int .i64 r.qbudget::.bool r.qfull::e)::.it oL [w0] r.qbest.Colors::.it (El.ow Zf) [w1] r.qbest.Edges::.it (El.ow eL) [w2] r.qperms::os))):∀ {ψ:CM} {l h:Heap} {os:List Ob} {c:Zz} {b0:Nat} {e:List Value} {f:Value} {g:Value} {i:Value} {x:Value} {y:Value} {a0:Value} {y1:List Int} {v1:Value} {r:Zz} (I:q_spec_l22Find_run a1 c y1=some r) (C:S ψ l h (.box b0 (f::g::i::x::y::a0::.int .i64 c.qnodes::.int .i64 c.qleaves::.int .i64 c.qbudget::.bool c.qfull::e)::.it oL [x] c.qbest.Colors::.it (El.ow Zf) [y] c.qbest.Edges::.it (El.ow eL) [a0] c.qperms::os)) (aa:SlC (UB ψ l) eI f c.qg.Colors) (ab:SlC (UB ψ l) Zf g c.qg.Edges) (ac:SlC (UB ψ l) eL i c.qnear) (f1:SlC (UB ψ l) eI v1 y1),CallsH P 233 #[.pointer (some ⟨b0,0,none⟩),v1] h (fun v h'=>∃ w0 w1 w2,v=.tuple #[]/\S ψ l h' (.box b0 (f::g::i::w0::w1::w2::.int .i64 r.qnodes::.int .i64 r.qleaves::.int .i64 r.qbudget::.bool r.qfull::e)::.it oL [w0] r.qbest.Colors::.it (El.ow Zf) [w1] r.qbest.Edges::.it (El.ow eL) [w2] r.qperms::os)):=by
 intro ψ l h os c b0 e f g i x y a0 y1 v1 r I C aa ab ac f1;refine zv ⟨[(13,[(7,tkI)]),(22,[(8,.v),(9,tkI)])],[(7,[(6,tkI)]),(10,[]),(18,[]),(27,[(10,tkI)])],[],[(11,⟨kdL [0,0,0,0,2,0,3,3,4,0,0,4],.fin [5,6,7,1,2,3,4,8,0,9,10,11],true⟩)]⟩ Tryz.func233 ?_;rw [q_spec_l22Find_run] at I;refine cm0 I C (fun s hx=>Zxo s hx slA) fun bg cd C I=>⟨_,rfl,?_⟩;refine brQ I (fun I=>?_) fun I=>?_
 ·refine bI C 0 7 ?_;refine boxA fun ce C=>?_;refine lsA ?_;refine cm2 I C (fun s hx=>ZwH s hx slA slA slA) fun ak b1 ah cf C I=>⟨_,_,rfl,?_⟩;refine new_S C fun b5 cg C=>?_;(iterate 2 refine boxA fun ch C=>?_);refine ⟨fun y6 b2=>S ψ l b2 (.box b5 [b1,ah]::.it oL [b1] ak.Colors::.it (El.ow Zf) [ah] ak.Edges::.box b0 (f::g::i::x::y::a0::.int .i64 c.qnodes::.int .i64 (ε.wrap (c.qleaves+1))::.int .i64 c.qbudget::.bool c.qfull::e)::.it oL [x] c.qbest.Colors::.it (El.ow Zf) [y] c.qbest.Edges::.it (El.ow eL) [a0] c.qperms::os)/\Zd6 c y1 ak y6=some r,?_,?_⟩
  ·refine bV C 3 5 ?_;refine Zm slA ?_;refine brQ I (fun I=>?_) fun I=>?_
   ·refine lsA ?_;refine cm0 I C (fun s hx=>ZHq s hx slA slA slA slA) fun cj bq C I=>⟨_,rfl,?_⟩;exact ⟨pkT C 7 [0,1,2,3,4,5,6],I⟩
   ·exact ⟨pkT C 7 [0,1,2,3,4,5,6],I⟩
  ·rintro _ y6 b2 ⟨C,I⟩;refine ⟨fun al=>∃ xs a8 ae a9 af ai,S ψ l al (.box b0 (f::g::i::a8::a9::ai::.int .i64 c.qnodes::.int .i64 (ε.wrap (c.qleaves+1))::.int .i64 c.qbudget::.bool c.qfull::e)::.it oL [a8] xs::.it (El.ow Zf) [a9] ae::.it (El.ow eL) [ai] af::os)/\Zd0 c y1 y6 xs ae af=some r,?_,?_⟩
   ·refine brQ I (fun I=>?_) fun I=>?_
    ·refine lsA ?_;(iterate 2 refine boxA fun br C=>?_);refine ZO (E:=eL) (css:=[]) (xs:=([]:List (List Int))) C (fun _=>rfl) rfl rfl fun ck bs C=>?_;refine boxA fun bt C=>?_;exact ⟨_,_,_,_,_,_,pkT C 8 [4,2,3,0],I⟩
    ·exact ⟨_,_,_,_,_,_,pkT C 7 [3,4,5,6],I⟩
   ·rintro _ al ⟨xs,a8,ae,a9,af,ai,C,I⟩;refine brQ I (fun I=>?_) fun I=>?_
    ·refine ⟨fun _=>False,?_⟩;have aw:=C;have a4:=eX al;obtain ⟨cm,b8,I⟩:=obind I;refine ce1 C (fun s=>Zix s.fle b8 slA) fun cn bu xE C=>⟨_,rfl,eZ (a4.trans xE),?_⟩;replace a4:=a4.trans xE;refine ZG oneA ?_;refine ZbN C fun co bv xE C=>⟨eZ (a4.trans xE),?_⟩;replace a4:=a4.trans xE;refine ZK ?_;refine ldV_K (aw.cells 0 rfl) 5 rfl rfl ?_;have C:=frA 1;have C:=C.copyF 1 rfl;obtain ⟨cp,b9,I⟩:=obind I;refine Zao C 5 rfl 0 rfl rfl rfl b9 fun bh bw xE C=>?_;refine boxA fun bx C=>?_;obtain rfl:=oI I;exact ⟨a8,a9,bh,rfl,pkT C 6 [2,3,4,5]⟩
    ·obtain rfl:=oI I;exact ⟨a8,a9,ai,rfl,pkT C 4 [0,1,2,3]⟩
 ·obtain ⟨bi,hn⟩:=Zax I;refine ⟨fun n y7 am=>∃ q a2 a3 an p o u j w k,S ψ l am (.box b0 (f::g::i::o::j::k::.int .i64 q::.int .i64 a2::.int .i64 a3::.bool an::e)::.it oL [o] p::.it (El.ow Zf) [j] u::.it (El.ow eL) [k] w::os)/\loopN (ZbH a1 c y1 bg) n (y7,q,a2,a3,an,p,u,w)=some r,⟨bi,_,_,_,_,_,_,_,_,_,_,pkT C 4 [0,1,2,3],hn⟩,?_⟩;rintro n _ y7 am ⟨q,a2,a3,an,p,o,u,j,w,k,C,hn⟩;obtain ⟨m,a,rfl,I,O⟩:=Zh hn;refine vL f1 C.leU ?_;refine brQ I (fun I=>?_) fun I=>?_
  ·refine ixI slA I fun cq I=>?_;refine brQ I (fun I=>?_) fun I=>?_
   ·obtain rfl:=oI I;exact ⟨m,ltS,_,_,_,_,_,_,_,_,_,_,pkT C 4 [0,1,2,3],O⟩
   ·refine ⟨fun ao=>∃ a6,S ψ l ao (.box b0 (f::g::i::o::j::k::.int .i64 q::.int .i64 a2::.int .i64 a3::.bool a6::e)::.it oL [o] p::.it (El.ow Zf) [j] u::.it (El.ow eL) [k] w::os)/\ZeG a1 c y1 y7 q a2 a3 p u w a6=some a,?_,?_⟩
    ·refine lsA ?_;refine brQ I (fun I=>?_) fun I=>?_
     ·refine boxA fun bz C=>?_;exact ⟨_,pkT C 4 [0,1,2,3],I⟩
     ·exact ⟨_,pkT C 4 [0,1,2,3],I⟩
    ·rintro _ ao ⟨a6,C,I⟩;refine bB C 0 9 ?_;refine brQ I (fun I=>?_) fun I=>?_
     ·obtain rfl:=oI I;obtain rfl:=oI O;exact ⟨o,j,k,rfl,pkT C 4 [0,1,2,3]⟩
     ·refine bI C 0 6 ?_;refine boxA fun c0 C=>?_;refine ZO (E:=eI) (css:=[]) (xs:=([]:List Int)) C (fun _=>rfl) rfl rfl fun cr c3 C=>?_;obtain ⟨bj,ag⟩:=Zax I;refine ⟨fun b3 v8 y9 ap=>∃ y8,S ψ l ap (.it oL [v8] y8::.box b0 (f::g::i::o::j::k::.int .i64 (ε.wrap (q+1))::.int .i64 a2::.int .i64 a3::.bool a6::e)::.it oL [o] p::.it (El.ow Zf) [j] u::.it (El.ow eL) [k] w::os)/\loopN (Zcx a1 c y1 y7 q a2 a3 p u w a6) b3 (y8,y9)=some a,⟨bj,_,pkT C 5 [0,1,2,3,4],ag⟩,?_⟩;rintro b3 _ v8 y9 ap ⟨y8,C,ag⟩;obtain ⟨bk,bm,rfl,I,aq⟩:=Zh ag;refine vL f1 C.leU ?_;refine brQ I (fun I=>?_) fun I=>?_
      ·refine ixI slA I fun c4 I=>?_;refine ⟨fun b4 ar=>S ψ l ar (.it oL [v8] y8::.box b0 (f::g::i::o::j::k::.int .i64 (ε.wrap (q+1))::.int .i64 a2::.int .i64 a3::.bool a6::e)::.it oL [o] p::.it (El.ow Zf) [j] u::.it (El.ow eL) [k] w::os)/\ZhQ y8 y9 b4=some bm,?_,?_⟩
       ·refine brQ I (fun I=>?_) fun I=>?_
        ·exact ⟨pkT C 5 [0,1,2,3,4],I⟩
        ·exact ⟨pkT C 5 [0,1,2,3,4],I⟩
       ·rintro _ b4 ar ⟨C,I⟩;refine puA I 0 fun c5 c6 c7 C I=>?_;obtain rfl:=oI I;exact ⟨bk,ltS,_,pkT C 5 [0,1,2,3,4],aq⟩
      ·refine bV C 1 2 ?_;refine cm1 I C (fun s hx=>ZtV s hx slA slA) fun bc bd be C I=>⟨_,rfl,?_⟩;have C:=frA 0;have C:S ψ l be (.box b0 (f::g::i::o::j::k::.int .i64 (ε.wrap (q+1))::.int .i64 a2::.int .i64 a3::.bool a6::e)::.it oL [o] p::.it (El.ow Zf) [j] u::.it (El.ow eL) [k] w::.it eL [bd] bc::.it oL [v8] y8::os):=pkT C 6 [2,3,4,5,0,1];obtain ⟨c8,az,I⟩:=obind I;obtain ⟨c9,ct,a7,au⟩:=id C;refine (a5 az (a7.upS au) (aa.mono a7.ubU) (ab.mono a7.ubU) (ac.mono a7.ubU) ((frF au 4 rfl).mono a7.ubF)).mono fun ca cb ⟨cc,bn,bo,bf,b6⟩=>⟨bf,?_⟩;replace C:=a7.downS b6;clear b6 a7 au;obtain rfl:=oI I;obtain rfl:=oI aq;exact ⟨m,ltS,_,_,_,_,_,_,_,_,_,_,pkT C 6 [0,1,2,3],O⟩
  ·obtain rfl:=oI I;obtain rfl:=oI O;exact ⟨o,j,k,rfl,pkT C 4 [0,1,2,3]⟩
theorem rn_spec_l22Find_run:∀ n,(∀ {ψ:CM} {i h:Heap} {os:List Ob} {a:Zz} {o:Nat} {g:List Value} {c:Value} {e:Value} {f:Value} {j:Value} {k:Value} {l:Value} {p:List Int} {v1:Value} {r:Zz} (I:(pn_spec_l22Find_run n) a p=some r) (C:S ψ i h (.box o (c::e::f::j::k::l::.int .i64 a.qnodes::.int .i64 a.qleaves::.int .i64 a.qbudget::.bool a.qfull::g)::.it oL [j] a.qbest.Colors::.it (El.ow Zf) [k] a.qbest.Edges::.it (El.ow eL) [l] a.qperms::os)) (s:SlC (UB ψ i) eI c a.qg.Colors) (u:SlC (UB ψ i) Zf e a.qg.Edges) (w:SlC (UB ψ i) eL f a.qnear) (x:SlC (UB ψ i) eI v1 p),CallsH P 233 #[.pointer (some ⟨o,0,none⟩),v1] h (fun v h'=>∃ w0 w1 w2,v=.tuple #[]/\S ψ i h' (.box o (c::e::f::w0::w1::w2::.int .i64 r.qnodes::.int .i64 r.qleaves::.int .i64 r.qbudget::.bool r.qfull::g)::.it oL [w0] r.qbest.Colors::.it (El.ow Zf) [w1] r.qbest.Edges::.it (El.ow eL) [w2] r.qperms::os))):=by
  intro n;induction n with
  | zero=>exact fun I=>absurd I (by simp [pn_spec_l22Find_run])
  | succ n y=>exact rq_spec_l22Find_run y
theorem ZC1:∀ {ψ:CM} {i h:Heap} {os:List Ob} {a:Zz} {o:Nat} {g:List Value} {c:Value} {e:Value} {f:Value} {j:Value} {k:Value} {l:Value} {p:List Int} {v1:Value} {r:Zz} (I:ZmG a p=some r) (C:S ψ i h (.box o (c::e::f::j::k::l::.int .i64 a.qnodes::.int .i64 a.qleaves::.int .i64 a.qbudget::.bool a.qfull::g)::.it oL [j] a.qbest.Colors::.it (El.ow Zf) [k] a.qbest.Edges::.it (El.ow eL) [l] a.qperms::os)) (s:SlC (UB ψ i) eI c a.qg.Colors) (u:SlC (UB ψ i) Zf e a.qg.Edges) (w:SlC (UB ψ i) eL f a.qnear) (x:SlC (UB ψ i) eI v1 p),CallsH P 233 #[.pointer (some ⟨o,0,none⟩),v1] h (fun v y=>∃ w0 w1 w2,v=.tuple #[]/\S ψ i y (.box o (c::e::f::w0::w1::w2::.int .i64 r.qnodes::.int .i64 r.qleaves::.int .i64 r.qbudget::.bool r.qfull::g)::.it oL [w0] r.qbest.Colors::.it (El.ow Zf) [w1] r.qbest.Edges::.it (El.ow eL) [w2] r.qperms::os)):=(rn_spec_l22Find_run fuel)
section
variable {ψ:CM} {h:Heap} (hψ:CLe ψ (hcell h))
include hψ
theorem ZwZ {l c e budget1 r} (I:Zox l budget1=some r) (o:sc h eI c l.Colors) (p:sc h Zf e l.Edges):CallsH P 199 #[.agg #[c,e],.int .i64 budget1] h (fun v h'=>∃ j w1 w2 w3 y w5 w6,v=.pointer (some ⟨j,0,none⟩)/\S ψ h h' [.box j [w1,w2,w3,y,w5,w6,.int .i64 r.qnodes,.int .i64 r.qleaves,.int .i64 r.qbudget,.bool r.qfull],.it oL [y] r.qbest.Colors,.it (El.ow Zf) [w5] r.qbest.Edges,.it (El.ow eL) [w6] r.qperms]):=by
 refine zv ⟨[],[],[],[(1,⟨kdL [2,1,3,0,0,4,0],.fin [1,2,0,3,4,5,6],true⟩),(2,⟨[],.fin [1,2,3,4,5,6,7,0,8],false⟩)]⟩ Tryz.func199 ?_;have C:=sZ hψ;refine new_S C fun b2 a2 C=>?_;refine ⟨fun _=>False,?_⟩;have g:=C;have f:=eX a2;refine lsA ?_;obtain ⟨r8,u,I⟩:=obind I;refine ce1 C (fun s=>Zv9 s.fle u slA slA) fun v8 ad xE C=>⟨_,rfl,eZ (f.trans xE),?_⟩;replace f:=f.trans xE;refine ZK ?_;refine ldV_K (g.cells 0 rfl) 0 rfl rfl ?_;refine ZK ?_;refine ldV_K (g.cells 0 rfl) 1 rfl rfl ?_;refine ZG oneA ?_;refine new_S C fun a4 ae C=>?_;refine lsA ?_;refine cm1 I C (fun s u=>ZtV s u slA slA) fun a5 a6 a7 C I=>⟨_,rfl,?_⟩;have C:=frA 2;have C:=frA 0;have C:=C.nil eI;have C:=C.nil Zf;have C:=C.nil eL;have C:S ψ h a7 [.box a4 [c,e,v8,(.slice none 0 0),(.slice none 0 0),(.slice none 0 0),.int .i64 0,.int .i64 0,.int .i64 budget1,.bool false],.it oL [(.slice none 0 0)] ([]:List Int),.it (El.ow Zf) [(.slice none 0 0)] ([]:List Zb),.it (El.ow eL) [(.slice none 0 0)] ([]:List (List Int)),.it eL [a6] a5,.it (El.sl eL) [v8] r8,.box b2 [c,e]]:=pk C [4,2,1,0,3,5,6];obtain ⟨af,w,I⟩:=obind I;obtain ⟨ac,ag,a,i⟩:=id C;refine (ZC1 w (a.upS i) (o.mono a.ubH) (p.mono a.ubH) ((frF i 5 rfl).mono a.ubF) ((frF i 4 rfl).mono a.ubF)).mono fun ah ai ⟨aj,a8,a9,x,k⟩=>⟨x,?_⟩;replace C:=a.downS k;clear k a i;exact endS
theorem ZHn {j a c budget1 r} (I:Zl7 j budget1=some r) (a3:sc h eI a j.Colors) (a4:sc h Zf c j.Edges):CallsH P 155 #[.agg #[a,c],.int .i64 budget1] h (fun v h'=>∃ f w1 w2 w3 p u w,v=.tuple #[.pointer (some ⟨f,0,none⟩),.int .i64 r.2]/\S ψ h h' [.box f [w1,w2,w3,p,u,w,.int .i64 r.1.qnodes,.int .i64 r.1.qleaves,.int .i64 r.1.qbudget,.bool r.1.qfull],.it oL [p] r.1.qbest.Colors,.it (El.ow Zf) [u] r.1.qbest.Edges,.it (El.ow eL) [w] r.1.qperms]):=by
 refine zv annO Tryz.func155 ?_;have C:=sZ hψ;refine new_S C fun b2 a7 C=>?_;refine lsA ?_;refine cm0 I C (fun s k=>Zuu s k slA slA) fun r8 a8 C I=>⟨_,rfl,?_⟩;refine brQ I (fun I=>?_) fun I=>?_
 ·refine new_S C fun a9 aa C=>?_;have C:=C.nilO (E:=eI);have C:=C.nilO (E:=Zf);have C:=C.nilO (E:=eL);exact endS
 ·refine cm0 I C (fun s k=>ZEz s k) fun ab ac C I=>⟨_,rfl,?_⟩;refine brQ I (fun I=>?_) fun I=>?_
  ·refine new_S C fun ad ae C=>?_;have C:=C.nilO (E:=eI);have C:=C.nilO (E:=Zf);have C:=C.nilO (E:=eL);exact endS
  ·refine lsA ?_;obtain ⟨af,l,I⟩:=obind I;obtain ⟨a6,ag,e,g⟩:=id C;refine (ZwZ e.fle l slA slA).mono fun ah ai ⟨aj,ak,x,y,a0,a1,a2,o,i⟩=>⟨_,o,?_⟩;replace C:=join4 e g i;clear i e g;refine bB C 0 9 ?_;refine brQ I (fun I=>?_) fun I=>?_
   ·refine new_S C fun al am C=>?_;have C:=C.nilO (E:=eI);have C:=C.nilO (E:=Zf);have C:=C.nilO (E:=eL);exact endS
   ·exact endS
theorem Znn {n0 r} (I:ZfG n0=some r)  :zR 201 #[.int .i64 n0] h ψ (.string r):=by
 refine zv ⟨[(3,[(3,.v),(4,tkI)])],[(8,[(5,tkI)])],[],[]⟩ Tryz.func201 ?_;have C:=sZ hψ;refine ZO (E:=(El.int .u8)) (css:=[]) (xs:=([]:List Int)) C (fun _=>rfl) rfl rfl fun v6 s C=>?_;refine ⟨fun n i j f=>∃ c,S ψ h f [.it (El.ow (El.int .u8)) [i] c]/\loopN (Za1 n0) n (c,j)=some r,endI,?_⟩;rintro n _ i j f ⟨c,C,p⟩;obtain ⟨m,a,rfl,I,O⟩:=Zh p;refine brQ I (fun I=>?_) fun I=>?_
 ·refine gzA I fun I=>?_;refine ⟨fun e g=>S ψ h g [.it (El.ow (El.int .u8)) [i] c]/\Zhl c j e=some a,?_,?_⟩
  ·refine brQ I (fun I=>?_) fun I=>?_
   ·exact endC
   ·exact endC
  ·rintro _ e g ⟨C,I⟩;refine ZO (E:=(El.int .u8)) (css:=[[.int .u8 (IntKind.u8.wrap (ε.wrap (48+e)))]]) (xs:=([IntKind.u8.wrap (ε.wrap (48+e))]:List Int)) C (fun _=>⟨[],[],rfl,⟨rfl,rfl⟩,rfl⟩) rfl rfl fun u v C=>?_;obtain ⟨w,k,I⟩:=obind I;refine app_S C 0 rfl (ZbR (Zbl _) slA) rfl rfl k fun x y C=>?_;dsimp at C;refine gzA I fun I=>?_;exact endL
 ·refine Zm slA ?_;refine brZ fun I=>?_;refine brQ I (fun I=>?_) fun I=>?_
  ·obtain ⟨a0,l,I⟩:=obind I;refine b2s_S slA l ?_;refine gfA I fun I=>?_;exact tZ
  ·obtain ⟨a1,o,I⟩:=obind I;refine b2s_S slA o ?_;exact tZ
theorem ZBw {c v0 r} (I:ZiV c=some r) (g:sc h eI v0 c):zR 200 #[v0] h ψ (.string r):=by
 refine zv ⟨[(7,[(3,.s),(4,tkI)])],[(13,[(3,.s)])],[],[]⟩ Tryz.func200 ?_;have C:=sZ hψ;refine vL g C.le ?_;refine brZ fun I=>?_;refine vL g C.le ?_;refine brZ fun I=>?_;refine lp2 I (nlS C) fun m j k l a C I O=>?_;refine vL g C.le ?_;refine brY fun I=>?_;refine ixI slA I fun o I=>?_;refine cm0 I C (fun s i=>Zaq s i) fun p u C I=>⟨_,rfl,?_⟩;refine brZ fun I=>?_;refine ⟨fun e f=>S ψ h f []/\ZgR c k e=some a,?_,?_⟩
 ·refine brY fun I=>?_;refine gfA I fun I=>?_;exact tZ
 ·rintro _ e f ⟨C,I⟩;refine ixI slA I fun v I=>?_;refine cm0 I C (fun s i=>Znn s i) fun w x C I=>⟨_,rfl,?_⟩;refine gfA I fun I=>?_;exact tZ
theorem ZBY {l c e r} (I:ZkV l=some r) (a1:sc h eI c l.Colors) (g:sc h Zf e l.Edges):zR 156 #[.agg #[c,e]] h ψ (.string r):=by
 refine zv ⟨[(3,[(3,.s),(4,tkI)])],[(7,[(3,.s)])],[],[(7,⟨kdL [0,0,1,0,0,0,1,3,0,0,2,0,0,0,2,4,0,0,0],.fin [1,2,3,4,5,6,7,9,10,11,12,13,14,15,0,8,16,17,18],true⟩)]⟩ Tryz.func156 ?_;have C:=sZ hψ;refine new_S C fun b1 a7 C=>?_;refine bV C 0 0 ?_;refine cm0 I C (fun s o=>ZBw s o slA) fun r7 a8 C I=>⟨_,rfl,?_⟩;refine gfA I fun I=>?_;refine lp2 (os:=[.box b1 [c,e]]) I (pk C [0]) fun m a2 i4 a9 a C I O=>?_;refine bV C 0 1 ?_;refine vL g C.le ?_;refine brY fun I=>?_;refine ⟨fun f k=>S ψ h k [.box b1 [c,e]]/\ZgU l i4 f=some a,?_,?_⟩
 ·refine brQ I (fun I=>?_) fun I=>?_
  ·refine gfA I fun I=>?_;exact endC
  ·exact endC
 ·rintro _ f k ⟨C,I⟩;refine ⟨fun _=>False,?_⟩;have j:=C;have i:=eX k;refine bV C 0 1 ?_;refine ixA slA I fun aa ab ad p I=>?_;obtain ⟨cs,ck,hr⟩:=g.cells ad p rfl;obtain rfl:=Zaw hr;refine kI ck C.le 0 ?_;obtain ⟨ac,u,I⟩:=obind I;refine ce0 C (fun s=>Znn s.fle u) fun ae xE C=>⟨_,rfl,eZ (i.trans xE),?_⟩;replace i:=i.trans xE;refine ZK ?_;refine ldV_K (j.cells 0 rfl) 1 rfl rfl ?_;refine ixA slA I fun af ag v w I=>?_;obtain ⟨a6,x,y⟩:=g.cells v w rfl;obtain rfl:=Zaw y;refine ZJ ?_;refine kI x j.le 1 ?_;refine cm0 I C (fun s o=>Znn s o) fun ah ai C I=>⟨_,rfl,?_⟩;refine gfA I fun I=>?_;refine gfA I fun I=>?_;refine gfA I fun I=>?_;exact endL
theorem ZHH {f a c budget1 r} (I:Zer f budget1=some r) (p:sc h eI a f.Colors) (u:sc h Zf c f.Edges):zR 110 #[.agg #[a,c],.int .i64 budget1] h ψ (.tuple #[.string r.1,.int .i64 r.2]):=by
 refine zv annO Tryz.func110 ?_;have C:=sZ hψ;refine new_S C fun b2 v C=>?_;refine lsA ?_;obtain ⟨w,g,I⟩:=obind I;obtain ⟨φ,L,s,e⟩:=id C;refine (ZHn s.fle g slA slA).mono fun x y ⟨a0,a1,i,j,k,l,o,eq,t⟩=>⟨_,_,eq,?_⟩;replace C:=join4 s e t;clear t s e;refine brZ fun I=>?_;refine lsA ?_;refine cm0 I C (fun s g=>ZBY s g slA slA) fun a2 a3 C I=>⟨_,rfl,?_⟩;exact tZ
theorem ZxQ {f a budget1 r} (I:Zja f budget1=some r) (c:SlC ψ eL a f.Rows):zR 60 #[.agg #[.int .i64 f.Kind,.int .i64 f.Size,a],.int .i64 budget1] h ψ (.tuple #[.string r.1,.int .i64 r.2]):=by
 refine zv annO Tryz.func60 ?_;have C:=sZ hψ;refine new_S C fun b2 l C=>?_;obtain ⟨r8,e,I⟩:=obind I;obtain ⟨φ,L,s,g⟩:=id C;refine (Zn7 (CLe.refl _) e (C.cells 0 rfl) (c.mono C.leF)).mono fun o p ⟨eq,t⟩=>⟨_,eq,?_⟩;replace C:=join0 s g (t.weak s.fle);clear t s g;refine brZ fun I=>?_;refine cm0 I C (fun s e=>Zaq s e) fun u v C I=>⟨_,rfl,?_⟩;refine brZ fun I=>?_;refine cl2 I C (fun i _ _ j=>ZGs i.fle j (C.cells 0 rfl) (c.mono i.bas)) fun w x k y C I=>⟨_,_,_,rfl,?_⟩;refine new_S C fun b6 a0 C=>?_;(iterate 2 refine boxA fun a1 C=>?_);refine brZ fun I=>?_;refine lsA ?_;refine cm0 I C (fun s e=>ZHH s e slA slA) fun a2 a3 C I=>⟨_,_,rfl,?_⟩;exact tZ
theorem ZHj {c f a budget1 r} (I:Zjx c budget1=some r) (j:CellsC (hcell h) f [.int .i64 c.Kind,.int .i64 c.Size,a]) (g:sc h eL a c.Rows):zR 25 #[.pointer (some f),.int .i64 budget1] h ψ (.tuple #[.string r.1,.int .i64 r.2]):=by
 refine zv annO Tryz.func25 ?_;have C:=sZ hψ;refine lsA ?_;obtain ⟨k,i,I⟩:=obind I;obtain ⟨u,L,s,e⟩:=id C;refine (ZxQ (CLe.refl _) i slA).mono fun l o ⟨eq,t⟩=>⟨_,_,eq,?_⟩;replace C:=join0 s e (t.weak s.fle);clear t s e;refine brZ fun I=>?_;exact brQ I (fun I=>tZ) fun I=>tZ
theorem ZoV {x0 g f r} (I:ZdD x0=some r) (e:CellsC (hcell h) g [.string x0.Name,.int .i64 x0.Object.Kind,.int .i64 x0.Object.Size,f,.string x0.Key]) (o:sc h eL f x0.Object.Rows):CallsH P 27 #[.pointer (some g)] h (fun v h'=>∃ w0,v=.agg #[.string r.Name,.int .i64 r.Object.Kind,.int .i64 r.Object.Size,w0,.string r.Key]/\S ψ h h' [.it (El.ow eL) [w0] r.Object.Rows]):=by
 refine zv ⟨[],[],[],[(1,⟨kdL [0,0,0,0,2,0,0,0,0,2,0,0,0,0,2,3,0,3,4],.both (.fin [10,11,12,13,14,15,17,0,1,2,3,4,5,6,7,8,9,16,18]) (.fin [17,10,11,12,13,14,15,0,1,2,3,4,5,6,7,8,9,16,18]),true⟩)]⟩ Tryz.func27 ?_;have C:=sZ hψ;refine new_S C fun b2 i C=>?_;obtain ⟨a5,j,I⟩:=obind I;refine ⟨fun _=>False,?_⟩;have c:=C;have a:=eX i;refine ⟨?_,?_⟩
 ·refine ZK ?_;refine kV e c.le 3 ?_;refine ce1 C (fun s=>ZoO s.fle j slA) fun k p xE C=>⟨_,rfl,eZ (a.trans xE),?_⟩;replace a:=a.trans xE;refine Zdv C fun u w xE C=>⟨eZ (a.trans xE),?_⟩;replace a:=a.trans xE;refine ZJ ?_;refine kI e c.le 1 ?_;refine ZJ ?_;refine kI e c.le 2 ?_;refine ZG oneA ?_;(iterate 3 refine boxA fun x C=>?_);refine lsA ?_;(iterate 5 refine boxA fun y C=>?_);refine lsA ?_;exact endS
 ·refine Zdv C fun a0 a1 xE C=>⟨eZ (a.trans xE),?_⟩;replace a:=a.trans xE;refine ZK ?_;refine kV e c.le 3 ?_;refine ce1 C (fun s=>ZoO s.fle j slA) fun l a2 xE C=>⟨_,rfl,eZ (a.trans xE),?_⟩;replace a:=a.trans xE;refine ZJ ?_;refine kI e c.le 1 ?_;refine ZJ ?_;refine kI e c.le 2 ?_;refine ZG oneA ?_;(iterate 3 refine boxA fun a3 C=>?_);refine lsA ?_;(iterate 5 refine boxA fun a4 C=>?_);refine lsA ?_;exact endS
theorem ZA4 {j k e c r} (I:ZlC j c=some r) (i:CellsC (hcell h) k [e]) (g:sc h ZL e j.Items):zR 87 #[.pointer (some k),.string c] h ψ (.int .i64 r):=by
 refine zv ⟨[(2,[(5,tkI)])],[],[],[]⟩ Tryz.func87 ?_;have C:=sZ hψ;refine lp1 I (nlS C) fun m x s a C I O=>?_;refine kV i C.le 0 ?_;refine vL g C.le ?_;refine brY fun I=>?_;refine kV i C.le 0 ?_;refine ixA slA I fun u v l o I=>?_;obtain ⟨cs,p,y⟩:=g.cells l o rfl;obtain ⟨w,rfl,f⟩:=Zam y;refine kS p C.le 0 ?_;exact brQ I (fun I=>tZ) fun I=>tZ
theorem ZEv {y0 p0 a3 j p1 a4 r} (I:ZfN y0 j=some r) (x:CellsC (hcell h) p0 [a3]) (i:sc h ZL a3 y0.Items) (az:CellsC (hcell h) p1 [.string j.Name,.int .i64 j.Object.Kind,.int .i64 j.Object.Size,a4,.string j.Key]) (b0:sc h eL a4 j.Object.Rows):CallsH P 41 #[.pointer (some p0),.pointer (some p1)] h (fun v h'=>∃ w0,v=.tuple #[.agg #[w0],.int .i64 r.2]/\S ψ h h' [.it (El.ow ZL) [w0] r.1.Items]):=by
 refine zv ⟨[(6,[(7,.b),(8,tkI)])],[(11,[(52,.b)]),(13,[(7,.b)]),(16,[])],[],[(11,⟨kdL [0,2,0,3,3,4,0,4],.fin [2,3,4,0,1,5,6,7],true⟩),(13,⟨kdL [0,2,0,0,0,1,0,0,3,3,4,0,4],.fin [2,3,4,5,6,7,8,9,0,1,10,11,12],true⟩),(15,⟨kdL [0,2,0,3,3,4,0,4],.fin [2,3,4,0,1,5,6,7],true⟩)]⟩ Tryz.func41 ?_;have C:=sZ hψ;refine new_S C fun b4 bp C=>?_;refine kS az C.le 0 ?_;refine cm0 I C (fun s hx=>ZA4 s hx slA slA) fun bq br C I=>⟨_,rfl,?_⟩;refine brQ I (fun I=>?_) fun I=>?_
 ·refine boxA fun bs C=>?_;refine bV C 0 0 ?_;have C:=C.nilO (E:=ZL);exact endS
 ·refine new_S C fun b6 bt C=>?_;refine boxA fun bu C=>?_;have C:=C.nilO (E:=ZL);refine ⟨fun n y7 y8 a5=>∃ xs k,S ψ h a5 [.box b6 [k],.box b4 [(.slice none 0 0)],.it (El.ow ZL) [k] xs]/\loopN (ZaZ y0 j) n (y7,y8,xs)=some r,endI,?_⟩;rintro n _ y7 y8 a5 ⟨xs,k,C,hn⟩;obtain ⟨m,a,rfl,I,O⟩:=Zh hn;refine kV x C.le 0 ?_;refine vL i C.le ?_;refine brQ I (fun I=>?_) fun I=>?_
  ·refine kV x C.le 0 ?_;refine ixA slA I fun bv bw ad al I=>?_;obtain ⟨cs,ck,hr⟩:=i.cells ad al rfl;obtain ⟨bx,rfl,f⟩:=Zam hr;refine cm0 I C (fun s hx=>Zur s hx slA slA slA slA) fun bz c0 C I=>⟨_,rfl,?_⟩;refine brQ I (fun I=>?_) fun I=>?_
   ·refine boxA fun c3 C=>?_;refine bV C 1 0 ?_;have C:=C.nilO (E:=ZL);obtain rfl:=oI I;obtain rfl:=oI O;exact endR
   ·refine ⟨fun a6 l=>∃ o a7,S ψ h l [.box b6 [a7],.box b4 [(.slice none 0 0)],.it (El.ow ZL) [a7] o]/\ZeX y0 y8 a6 o=some a,?_,?_⟩
    ·refine ⟨fun ai p=>S ψ h p [.box b6 [k],.box b4 [(.slice none 0 0)],.it (El.ow ZL) [k] xs]/\ZeP y0 j y7 y8 xs ai=some a,?_,?_⟩
     ·refine brQ I (fun I=>?_) fun I=>?_
      ·refine kV x C.le 0 ?_;refine ixA slA I fun c4 c5 am an I=>?_;obtain ⟨b3,b5,ao⟩:=i.cells am an rfl;obtain ⟨b7,rfl,c6⟩:=Zam ao;refine lsA ?_;exact endC
      ·exact endC
     ·rintro _ ai p ⟨C,I⟩;refine brQ I (fun I=>?_) fun I=>?_
      ·refine ⟨fun _=>False,?_⟩;have a8:=C;have c:=eX p;obtain ⟨y,ap,I⟩:=obind I;refine ce1 C (fun s=>ZoV s.fle ap slA slA) fun c7 b8 xE C=>⟨_,_,_,_,_,rfl,eZ (c.trans xE),?_⟩;replace c:=c.trans xE;refine ZbN C fun c8 b9 xE C=>⟨eZ (c.trans xE),?_⟩;replace c:=c.trans xE;refine ZK ?_;refine ldV_K (a8.cells 0 rfl) 0 rfl rfl ?_;have C:=frA 1;have C:=C.copyF 1 rfl;have C:=pkf_T_impl_Item (x0:=y.Name) (x1:=y.Object.Kind) (x2:=y.Object.Size) (x4:=y.Key) C;obtain ⟨c9,aq,I⟩:=obind I;refine Zao C 4 rfl 0 rfl rfl rfl aq fun ca ba xE C=>?_;refine boxA fun bb C=>?_;exact endC
      ·exact endC
    ·rintro _ a6 l ⟨o,a7,C,I⟩;refine ⟨fun _=>False,?_⟩;have a9:=C;have e:=eX l;refine kV x C.le 0 ?_;refine ixA slA I fun cb cc ar au I=>?_;obtain ⟨bc,bd,av⟩:=i.cells ar au rfl;obtain ⟨cd,rfl,ce⟩:=Zam av;obtain ⟨a0,aw,I⟩:=obind I;refine ce1 C (fun s=>ZoV s.fle aw slA slA) fun cf be xE C=>⟨_,_,_,_,_,rfl,eZ (e.trans xE),?_⟩;replace e:=e.trans xE;refine ZbN C fun cg bf xE C=>⟨eZ (e.trans xE),?_⟩;replace e:=e.trans xE;refine ZK ?_;refine ldV_K (a9.cells 0 rfl) 0 rfl rfl ?_;have C:=frA 1;have C:=C.copyF 1 rfl;have C:=pkf_T_impl_Item (x0:=a0.Name) (x1:=a0.Object.Kind) (x2:=a0.Object.Size) (x4:=a0.Key) C;obtain ⟨ch,ax,I⟩:=obind I;refine Zao C 4 rfl 0 rfl rfl rfl ax fun cj bg xE C=>?_;refine boxA fun bh C=>?_;exact endL
  ·refine ⟨fun aa=>∃ u w,S ψ h aa [.box b6 [w],.box b4 [(.slice none 0 0)],.it (El.ow ZL) [w] u]/\ZfD u=some a,?_,?_⟩
   ·refine brQ I (fun I=>?_) fun I=>?_
    ·refine ⟨fun _=>False,?_⟩;have ab:=C;have g:=eX a5;obtain ⟨a1,ag,I⟩:=obind I;refine ce1 C (fun s=>ZoV s.fle ag slA slA) fun cm bi xE C=>⟨_,_,_,_,_,rfl,eZ (g.trans xE),?_⟩;replace g:=g.trans xE;refine ZbN C fun cn bj xE C=>⟨eZ (g.trans xE),?_⟩;replace g:=g.trans xE;refine ZK ?_;refine ldV_K (ab.cells 0 rfl) 0 rfl rfl ?_;have C:=frA 1;have C:=C.copyF 1 rfl;have C:=pkf_T_impl_Item (x0:=a1.Name) (x1:=a1.Object.Kind) (x2:=a1.Object.Size) (x4:=a1.Key) C;obtain ⟨co,ah,I⟩:=obind I;refine Zao C 4 rfl 0 rfl rfl rfl ah fun cp bk xE C=>?_;refine boxA fun bm C=>?_;exact endC
    ·exact endC
   ·rintro _ aa ⟨u,w,C,I⟩;refine bV C 0 0 ?_;refine Zm slA ?_;refine brQ I (fun I=>?_) fun I=>?_
    ·refine boxA fun bn C=>?_;refine bV C 1 0 ?_;have C:=C.nilO (E:=ZL);obtain rfl:=oI I;obtain rfl:=oI O;exact endR
    ·refine bV C 0 0 ?_;refine boxA fun bo C=>?_;refine bV C 1 0 ?_;obtain rfl:=oI I;obtain rfl:=oI O;exact endR
theorem Znw {l c a e f budget3 r} (I:Zjz l a e budget3=some r) (a1:sc h ZL c l.Items) (a2:sc h eL f e.Rows):CallsH P 18 #[.agg #[c],.string a,.agg #[.int .i64 e.Kind,.int .i64 e.Size,f],.int .i64 budget3] h (fun v h'=>∃ w0,v=.tuple #[.agg #[w0],.int .i64 r.2]/\S ψ h h' [.it (El.ow ZL) [w0] r.1.Items]):=by
 refine zv ⟨[],[(3,[])],[],[]⟩ Tryz.func18 ?_;have C:=sZ hψ;refine new_S C fun b4 ae C=>?_;refine new_S C fun b6 af C=>?_;refine new_S C fun b8 ag C=>?_;refine ⟨fun i=>S ψ h i [.box b8 [(.slice none 0 0)],.box b6 [.int .i64 e.Kind,.int .i64 e.Size,f],.box b4 [c]]/\ZdZ l a e budget3=some r,?_,?_⟩
 ·refine cl0 I C (fun y _ _ o=>Zx8 y.fle o (C.cells 2 rfl) slA) fun ah a6 C I=>⟨_,rfl,?_⟩;refine brQ I (fun I=>?_) fun I=>?_
  ·refine boxA fun a7 C=>?_;refine bV C 0 0 ?_;have C:=C.nilO (E:=ZL);exact endS
  ·refine cm0 I C (fun s p=>ZuZ s p) fun ai a8 C I=>⟨_,rfl,?_⟩;refine brQ I (fun I=>?_) fun I=>?_
   ·refine boxA fun a9 C=>?_;refine bV C 0 0 ?_;have C:=C.nilO (E:=ZL);exact endS
   ·obtain ⟨aj,u,I⟩:=obind I;obtain ⟨aa,ak,g,j⟩:=id C;refine (Zn7 (CLe.refl _) u (C.cells 1 rfl) slA).mono fun al ab ⟨w,k⟩=>⟨_,w,?_⟩;replace C:=join0 g j (k.weak g.fle);clear k g j;refine brQ I (fun I=>?_) fun I=>?_
    ·refine boxA fun ac C=>?_;refine bV C 0 0 ?_;have C:=C.nilO (E:=ZL);exact endS
    ·exact endC
 ·rintro _ i ⟨C,I⟩;refine cl0 I C (fun s _ _ p=>ZHj s.fle p (C.cells 1 rfl) slA) fun am an C I=>⟨_,_,rfl,?_⟩;refine brQ I (fun I=>?_) fun I=>?_
  ·refine boxA fun ao C=>?_;refine bV C 0 0 ?_;have C:=C.nilO (E:=ZL);exact endS
  ·refine lsA ?_;refine new_S C fun ap aq C=>?_;refine cl1 I C (fun a0 _ _ x=>ZEv a0.fle x (C.cells 3 rfl) slA (C.cells 0 rfl) slA) fun ar au av C I=>⟨_,_,rfl,?_⟩;refine boxA fun ad C=>?_;refine bV C 2 0 ?_;exact endS
theorem ZDM {o:List Zd} {v0:Value} {i:Zd->Option Bool} {k:Nat} {e:List Value} {r:Int} (I:Zln o i=some r) (p:sc h ZL v0 o) (w:ctx.okf k=true) (k1:∀ {h1:Heap},ExtH h h1->∀ {ψ1:CM},CLe ψ1 (hcell h1)->∀ {c:Zd} {g:Value} {u:Bool},i c=some u->SlC (hcell h1) eL g c.Object.Rows->CallsH P k (([.agg #[.string c.Name,.int .i64 c.Object.Kind,.int .i64 c.Object.Size,g,.string c.Key]]:List Value)++e).toArray h1 (fun v h'=>v=.bool u/\S ψ1 h1 h' [])):zR 78 #[v0,.func (.func k) #[] e.toArray] h ψ (.int .i64 r):=by
 refine zv ⟨[(2,[(8,tkI)])],[],[],[]⟩ Tryz.func78 ?_;have C:=sZ hψ;refine vL p C.le ?_;refine lp1 I (nlS C) fun m y8 a0 a C I O=>?_;refine brY fun I=>?_;refine ixA slA I fun a1 a2 x y I=>?_;obtain ⟨cs,ck,hr⟩:=p.cells x y rfl;obtain ⟨a3,rfl,f⟩:=Zam hr;refine lsA ?_;obtain ⟨a4,l,I⟩:=obind I;obtain ⟨φ,L,s,j⟩:=id C;refine Za9 w ?_;refine (k1 C.ext s.fle l slA).mono fun a5 a6 ⟨eq,t⟩=>⟨_,eq,?_⟩;replace C:=join0 s j t;clear t s j;exact brQ I (fun I=>tZ) fun I=>tZ
theorem Zwc {x0 c a e r} (I:Zol x0 a=some r) (f:sc h eL c x0.Object.Rows) (g:sc h eL e a.Object.Rows):zR 80 #[.agg #[.string x0.Name,.int .i64 x0.Object.Kind,.int .i64 x0.Object.Size,c,.string x0.Key],.agg #[.string a.Name,.int .i64 a.Object.Kind,.int .i64 a.Object.Size,e,.string a.Key]] h ψ (.bool r):=by
 refine zv annO Tryz.func80 ?_;have C:=sZ hψ;refine new_S C fun k i C=>?_;refine new_S C fun l j C=>?_;refine lsA ?_;refine brY fun I=>?_;refine lsA ?_;exact tZ
theorem ZvS {a e c p1 f r} (I:Zcc a c=some r) (g:sc h eL e a.Object.Rows) (k:CellsC (hcell h) p1 [.string c.Name,.int .i64 c.Object.Kind,.int .i64 c.Object.Size,f,.string c.Key]) (i:sc h eL f c.Object.Rows):zR 79 #[.agg #[.string a.Name,.int .i64 a.Object.Kind,.int .i64 a.Object.Size,e,.string a.Key],.pointer (some p1)] h ψ (.bool r):=by
 refine zv annO Tryz.func79 ?_;have C:=sZ hψ;refine new_S C fun p l C=>?_;refine lsA ?_;refine cm0 I C (fun s j=>Zwc s j slA slA) fun u o C I=>⟨_,rfl,?_⟩;exact tZ
theorem Zoy {items0 v0 x1 a r} (I:ZcT items0 x1=some r) (o:sc h ZL v0 items0) (e:sc h eL a x1.Object.Rows):zR 33 #[v0,.agg #[.string x1.Name,.int .i64 x1.Object.Kind,.int .i64 x1.Object.Size,a,.string x1.Key]] h ψ (.int .i64 r):=by
 refine zv annO Tryz.func33 ?_;have C:=sZ hψ;refine new_S C fun p k C=>?_;refine cl0 I C (fun s _ _ j=>ZDM s.fle j slA κ (fun c=>fun f=>fun g i=>ZvS f g i ((C.cells 0 rfl).mono (CLe.ext c)) ((e.mono C.le).mono (CLe.ext c)))) fun u l C I=>⟨_,rfl,?_⟩
 exact tZ
theorem ZbX {a v0 r} (I:Z6 a=some r) (c:sc h eL v0 a):zR 65 #[v0] h ψ (.int .i64 r):=by
 refine zv annO Tryz.func65 ?_;have C:=sZ hψ;refine vL c C.le ?_;exact tZ
theorem Zaz {n0 c a r} (I:Zab n0 c a=some r)  :zR 112 #[.int .i64 n0,.int .i64 c,.int .i64 a] h ψ (.bool r):=by
 refine zv annO Tryz.func112 ?_;have C:=sZ hψ;exact brQ I (fun I=>tZ) fun I=>tZ
theorem Zqp {l:List (List Int)} {v0:Value} {g:(List Int)->Option Bool} {j:Nat} {c:List Value} {r:Int} (I:Zg8 l g=some r) (o:sc h eL v0 l) (w:ctx.okf j=true) (k1:∀ {h1:Heap},ExtH h h1->∀ {ψ1:CM},CLe ψ1 (hcell h1)->∀ {p:List Int} {e:Value} {u:Bool},g p=some u->SlC (hcell h1) eI e p->CallsH P j (([e]:List Value)++c).toArray h1 (fun v h'=>v=.bool u/\S ψ1 h1 h' [])):zR 169 #[v0,.func (.func j) #[] c.toArray] h ψ (.int .i64 r):=by
 refine zv ⟨[(2,[(8,tkI)])],[],[],[]⟩ Tryz.func169 ?_;have C:=sZ hψ;refine vL o C.le ?_;refine lp1 I (nlS C) fun m y8 x a C I O=>?_;refine brY fun I=>?_;refine ixV o C.le I fun y a0 f I=>?_;obtain ⟨a1,k,I⟩:=obind I;obtain ⟨φ,L,s,i⟩:=id C;refine Za9 w ?_;refine (k1 C.ext s.fle k slA).mono fun a2 a3 ⟨eq,t⟩=>⟨_,eq,?_⟩;replace C:=join0 s i t;clear t s i;exact brQ I (fun I=>tZ) fun I=>tZ
theorem ZnM {g:List (List Int)} {v0:Value} {e:(List Int)->Option Bool} {f:Nat} {a:List Value} {r:Bool} (I:Zii g e=some r) (u:sc h eL v0 g) (l:ctx.okf f=true) (k1:∀ {h1:Heap},ExtH h h1->∀ {ψ1:CM},CLe ψ1 (hcell h1)->∀ {i:List Int} {c:Value} {j:Bool},e i=some j->SlC (hcell h1) eI c i->CallsH P f (([c]:List Value)++a).toArray h1 (fun v x=>v=.bool j/\S ψ1 h1 x [])):zR 157 #[v0,.func (.func f) #[] a.toArray] h ψ (.bool r):=by
 refine zv annO Tryz.func157 ?_;have C:=sZ hψ;refine cl0 I C (fun s _ _ o=>Zqp s.fle o slA l (fun k=>k1 (C.ext.trans k))) fun w p C I=>⟨_,rfl,?_⟩;exact tZ
theorem ZjH {a v0 r} (I:Zce a=some r) (c:sc h eI v0 a):zL 136 #[v0] h ψ eI r:=by
 refine zv annO Tryz.func136 ?_;have C:=sZ hψ;refine Zt1 c (fun f e=>?_) ?_
 ·subst e;obtain ⟨_,rfl⟩:=Zdz I;exact ⟨_,rfl,C.nilO⟩
 ·refine ZO (E:=eI) (css:=[]) (xs:=[]) C (fun _=>rfl) rfl rfl fun v1 h1 C=>?_;refine app_S C 0 rfl (ZbR (Zbl _) slA) rfl rfl I fun g i C=>?_;exact ⟨_,rfl,C⟩
end
theorem Zkb {ψ:CM} {a h:Heap} {os:List Ob} {x0:List Int} {v0:Value} {r:List Int} (I:ZcF x0=some r) (C:S ψ a h (.it oL [v0] x0::os)):CallsH P 159 #[v0] h (fun v e=>v=.tuple #[]/\S ψ a e (.it oL [v0] r::os)):=by
  unfold ZcF at I;split at I
  · rename_i c;obtain rfl:=oI I;exact ZDk Tryz.sortM C c
  · cases I
section
variable {ψ:CM} {h:Heap} (hψ:CLe ψ (hcell h))
include hψ
theorem ZuK {j v0 r} (I:Zgs j=some r) (k:sc h eI v0 j):zR 114 #[v0] h ψ (.bool r):=by
 refine zv ⟨[(4,[(12,tkI)])],[],[],[]⟩ Tryz.func114 ?_;have C:=sZ hψ;refine cm1 I C (fun s l=>ZjH s l slA) fun r7 o v C I=>⟨_,rfl,?_⟩;obtain ⟨p,g,I⟩:=obind I;obtain ⟨u,w,c,e⟩:=id C;refine (Zkb g (c.upS e) ).mono fun x y ⟨i,f⟩=>⟨i,?_⟩;replace C:=c.downS f;clear f c e;refine Zm slA ?_;refine lp1 (os:=[.it oL [o] p]) I (pk C [0]) fun m a0 a1 a C I O=>?_;refine brQ I (fun I=>?_) fun I=>?_
 ·refine ixI slA I fun a2 I=>?_;refine brZ fun I=>?_;exact endL
 ·refine vL k C.le ?_;exact tZ
theorem Za6 {a v0 r} (I:ZW a=some r) (c:sc h eI v0 a):zR 118 #[v0] h ψ (.int .i64 r):=by
 refine zv annO Tryz.func118 ?_;have C:=sZ hψ;refine vL c C.le ?_;exact tZ
theorem Zyg {f v0 g p1 r} (I:Zpv f g=some r) (o:sc h eI v0 f) (i:CellsC (hcell h) p1 [.int .i64 g]):zR 158 #[v0,.pointer (some p1)] h ψ (.bool r):=by
 refine zv ⟨[],[],[],[(1,⟨kdL [0,3,2,0,0,0,4,0,0,0],.fin [0,1,2,3,4,5,6,7,8,9],true⟩)]⟩ Tryz.func158 ?_;have C:=sZ hψ;refine ⟨fun _=>False,?_⟩;have c:=C;have a:=eX h;obtain ⟨p,e,I⟩:=obind I;refine ce0 C (fun s=>Za6 s.fle e slA) fun j u C=>⟨_,rfl,eZ (a.trans u),?_⟩;replace a:=a.trans u;refine ZJ ?_;refine kI i c.le 0 ?_;refine brZ fun I=>?_;refine cm0 I C (fun s e=>ZuK s e slA) fun k l C I=>⟨_,rfl,?_⟩;exact tZ
theorem Zqh {degree0 a v1 r} (I:Zg5 degree0 a=some r) (l:sc h eL v1 a):zR 113 #[.int .i64 degree0,v1] h ψ (.bool r):=by
 refine zv annO Tryz.func113 ?_;have C:=sZ hψ;refine new_S C fun o j C=>?_;refine cl0 I C (fun s _ _ i=>ZnM s.fle i slA κ (fun e=>fun c=>fun f g=>Zyg c f g ((C.cells 0 rfl).mono (CLe.ext e)))) fun p k C I=>⟨_,rfl,?_⟩
 exact tZ
theorem ZtZ {g v0 r} (I:ZhY g=some r) (o:sc h eL v0 g):zR 66 #[v0] h ψ (.bool r):=by
 refine zv ⟨[(5,[(20,tkI)]),(9,[(5,.v),(25,tkI)])],[(4,[])],[],[]⟩ Tryz.func66 ?_;have C:=sZ hψ;refine cm0 I C (fun s c=>ZbX s c slA) fun r8 w C I=>⟨_,rfl,?_⟩;refine ⟨fun i=>S ψ h i []/\ZmJ g=some r,?_,?_⟩
 ·refine cm0 I C (fun s c=>Zaz s c) fun x y C I=>⟨_,rfl,?_⟩;refine brZ fun I=>?_;refine cm0 I C (fun s c=>Zqh s c slA) fun a1 a2 C I=>⟨_,rfl,?_⟩;exact brQ I (fun I=>tZ) fun I=>tZ
 ·rintro _ i ⟨C,I⟩;refine vL o C.le ?_;refine lp1 I (nlS C) fun m u a3 a C I O=>?_;refine brY fun I=>?_;refine vL o C.le ?_;have C:=C.nilO (E:=eI);refine ⟨fun j v k l=>∃ a0,S ψ h l [.it oL [v] a0]/\loopN (ZeC g u) j (a0,k)=some a,endI,?_⟩;rintro j _ v k l ⟨a0,C,p⟩;obtain ⟨a4,a5,rfl,I,e⟩:=Zh p;refine brQ I (fun I=>?_) fun I=>?_
  ·refine ixV o C.le I fun a6 a7 f I=>?_;refine ixI slA I fun a8 I=>?_;refine puA I 0 fun a9 aa ab C I=>?_;exact endL
  ·refine cm0 I C (fun s c=>ZuK s c slA) fun ac ad C I=>⟨_,rfl,?_⟩;refine brQ I (fun I=>?_) fun I=>?_
   ·obtain rfl:=oI I;obtain rfl:=oI e;obtain rfl:=oI O;exact ⟨rfl,nlS C⟩
   ·obtain rfl:=oI I;obtain rfl:=oI e;exact ⟨m,ltS,nlS C,O⟩
theorem ZFQ {c v0 n1 r} (I:ZiT c n1=some r) (f:sc h eI v0 c):zR 204 #[v0,.int .i64 n1] h ψ (.bool r):=by
 refine zv ⟨[(3,[(5,tkI),(10,tkI)])],[],[],[]⟩ Tryz.func204 ?_;have C:=sZ hψ;refine vL f C.le ?_;refine lp2 I (nlS C) fun m e i j a C I O=>?_;refine brQ I (fun I=>?_) fun I=>?_
 ·refine ixI slA I fun k I=>?_;refine brZ fun I=>?_;exact brQ I (fun I=>tZ) fun I=>tZ
 ·refine cm0 I C (fun s g=>Zaz s g) fun l o C I=>⟨_,rfl,?_⟩;exact tZ
theorem ZzX {block0 v0 points1 r} (I:Zk0 block0 points1=some r) (a:sc h eI v0 block0):zR 161 #[v0,.int .i64 points1] h ψ (.bool r):=by
 refine zv annO Tryz.func161 ?_;have C:=sZ hψ;refine vL a C.le ?_;refine brY fun I=>?_;refine cm0 I C (fun s c=>ZFQ s c slA) fun e f C I=>⟨_,rfl,?_⟩;exact tZ
theorem ZAt {a v0 c p1 r} (I:Zjk a c=some r) (i:sc h eI v0 a) (e:CellsC (hcell h) p1 [.int .i64 c]):zR 160 #[v0,.pointer (some p1)] h ψ (.bool r):=by
 refine zv annO Tryz.func160 ?_;have C:=sZ hψ;refine kI e C.le 0 ?_;refine cm0 I C (fun s f=>ZzX s f slA) fun j g C I=>⟨_,rfl,?_⟩;exact tZ
theorem ZyL {blocks0 v0 points1 r} (I:ZpA blocks0 points1=some r) (u:sc h eL v0 blocks0):zR 115 #[v0,.int .i64 points1] h ψ (.bool r):=by
 refine zv annO Tryz.func115 ?_;have C:=sZ hψ;refine new_S C fun v k C=>?_;refine bI C 0 0 ?_;refine cm0 I C (fun s j=>Zaz s j) fun w l C I=>⟨_,rfl,?_⟩;refine brY fun I=>?_;refine cl0 I C (fun e _ _ a=>ZnM e.fle a slA κ (fun f=>fun c=>fun g i=>ZAt c g i ((C.cells 0 rfl).mono (CLe.ext f)))) fun o p C I=>⟨_,rfl,?_⟩
 exact tZ
theorem ZAw {x0:List (List Int)} {v0:Value} {i:(List Int)->(List Int)->Option Int} {k:Nat} {c:List Value} {r:Bool} (I:Zi1 x0 i=some r) (l:sc h eL v0 x0) (x:ctx.okf k=true) (k1:∀ {h1:Heap},ExtH h h1->∀ {ψ1:CM},CLe ψ1 (hcell h1)->∀ {p:List Int} {e:Value} {u:List Int} {g:Value} {w:Int},i p u=some w->SlC (hcell h1) eI e p->SlC (hcell h1) eI g u->CallsH P k (([e,g]:List Value)++c).toArray h1 (fun v h'=>v=.int .i64 w/\S ψ1 h1 h' [])):zR 116 #[v0,.func (.func k) #[] c.toArray] h ψ (.bool r):=by
 refine zv ⟨[(2,[(5,tkI)])],[],[],[]⟩ Tryz.func116 ?_;have C:=sZ hψ;refine vL l C.le ?_;refine lp1 I (nlS C) fun m i5 y a C I O=>?_;refine brY fun I=>?_;refine ixV l C.le I fun a0 a1 f I=>?_;refine ixV l C.le I fun a2 a3 a4 I=>?_;obtain ⟨a5,o,I⟩:=obind I;obtain ⟨φ,L,s,j⟩:=id C;refine Za9 x ?_;refine (k1 C.ext s.fle o slA slA).mono fun a6 a7 ⟨eq,t⟩=>⟨_,eq,?_⟩;replace C:=join0 s j t;clear t s j;exact brQ I (fun I=>tZ) fun I=>tZ
theorem Zrb {x0 r} (I:ZcG x0=some r)  :zR 205 #[.int .i64 x0] h ψ (.bool r):=by
 refine zv annO Tryz.func205 ?_;have C:=sZ hψ;exact tZ
theorem ZpU {x0 c r} (I:Zbr x0 c=some r)  :zR 162 #[.int .i64 x0,.int .i64 c] h ψ (.int .i64 r):=by
 refine zv annO Tryz.func162 ?_;have C:=sZ hψ;refine cm0 I C (fun s a=>Zrb s a) fun r8 e C I=>⟨_,rfl,?_⟩;refine cm0 I C (fun s a=>Zrb s a) fun f g C I=>⟨_,rfl,?_⟩;refine brQ I (fun I=>?_) fun I=>?_
 ·exact brQ I (fun I=>tZ) fun I=>tZ
 ·refine brZ fun I=>?_;refine brZ fun I=>?_;exact brQ I (fun I=>tZ) fun I=>tZ
theorem ZeD {c v0 s1 v1 r} (I:Zan c s1=some r) (e:sc h eI v0 c) (f:sc h eI v1 s1):zR 117 #[v0,v1] h ψ (.int .i64 r):=by
 refine zv ⟨[(2,[(11,tkI)])],[],[],[]⟩ Tryz.func117 ?_;have C:=sZ hψ;refine vL e C.le ?_;refine lp1 I (nlS C) fun m i j a C I O=>?_;refine brQ I (fun I=>?_) fun I=>?_
 ·refine ixI slA I fun k I=>?_;refine vL f C.le ?_;refine brZ fun I=>?_;refine ixI slA I fun l I=>?_;refine cm0 I C (fun s g=>ZpU s g) fun o p C I=>⟨_,rfl,?_⟩;exact brQ I (fun I=>tZ) fun I=>tZ
 ·refine vL e C.le ?_;refine vL f C.le ?_;exact brQ I (fun I=>tZ) fun I=>tZ
theorem ZrV {c a r} (I:Zg1 c=some r) (e:sc h eL a c.Blocks):zR 67 #[.agg #[.int .i64 c.Points,a]] h ψ (.bool r):=by
 refine zv annO Tryz.func67 ?_;have C:=sZ hψ;refine new_S C fun y p C=>?_;refine lsA ?_;refine cm0 I C (fun s o=>ZyL s o slA) fun r7 u C I=>⟨_,rfl,?_⟩;refine brY fun I=>?_;refine bV C 0 1 ?_;refine vL e C.le ?_;refine brY fun I=>?_;refine bV C 0 1 ?_;refine cl0 I C (fun i _ _ f=>ZAw i.fle f slA κ (fun v=>fun g=>fun j k l=>ZeD g j k l)) fun w x C I=>⟨_,rfl,?_⟩
 exact tZ
theorem Zda {lists0 v0 r} (I:ZbT lists0=some r) (g:sc h eL v0 lists0):zL 88 #[v0] h ψ oL r:=by
 refine zv ⟨[(3,[(3,.v),(8,tkI)])],[],[],[]⟩ Tryz.func88 ?_;have C:=sZ hψ;refine vL g C.le ?_;have C:=C.nilO (E:=oL);refine ⟨fun n i j e=>∃ c,S ψ h e [.it (El.ow oL) [i] c]/\loopN (ZhE lists0) n (c,j)=some r,endI,?_⟩;rintro n _ i j e ⟨c,C,k⟩;obtain ⟨m,a,rfl,I,O⟩:=Zh k;refine brQ I (fun I=>?_) fun I=>?_
 ·refine ixV g C.le I fun o p f I=>?_;refine cm1 I C (fun s l=>ZjH s l slA) fun u v w C I=>⟨_,rfl,?_⟩;refine ZG oneA ?_;refine piA I 0 fun x y a0 C I=>?_;exact endL
 ·obtain rfl:=oI I;obtain rfl:=oI O;exact endR
theorem Ztd {e c r} (I:Zh7 e=some r) (i:sc h eL c e.Rows):CallsH P 68 #[.agg #[.int .i64 e.Kind,.int .i64 e.Size,c]] h (fun v h'=>∃ w0,v=.agg #[.int .i64 r.Points,w0]/\S ψ h h' [.it (El.ow oL) [w0] r.Blocks]):=by
 refine zv ⟨[],[],[],[(1,⟨kdL [0,2,0,1,3,0,4],.fin [2,3,4,0,1,5,6],true⟩)]⟩ Tryz.func68 ?_;have C:=sZ hψ;refine new_S C fun p k C=>?_;refine new_S C fun u g C=>?_;refine ⟨fun _=>False,?_⟩;have f:=C;have a:=eX g;refine bV C 1 2 ?_;obtain ⟨w,j,I⟩:=obind I;refine ce1 C (fun s=>Zda s.fle j slA) fun x l y C=>⟨_,rfl,eZ (a.trans y),?_⟩;replace a:=a.trans y;refine ZJ ?_;refine ldI_K (f.cells 1 rfl) 1 rfl rfl ?_;refine ZG oneA ?_;(iterate 2 refine boxA fun o C=>?_);refine lsA ?_;exact endS
theorem ZBV {j:List Int} {v0:Value} {e:Int->Option Bool} {g:Nat} {c:List Value} {r:Int} (I:Zmh j e=some r) (o:sc h eI v0 j) (p:ctx.okf g=true) (k1:∀ {h1:Heap},ExtH h h1->∀ {ψ1:CM},CLe ψ1 (hcell h1)->∀ {k:Int} {l:Bool},e k=some l->CallsH P g (([.int .i64 k]:List Value)++c).toArray h1 (fun v h'=>v=.bool l/\S ψ1 h1 h' [])):zR 163 #[v0,.func (.func g) #[] c.toArray] h ψ (.int .i64 r):=by
 refine zv ⟨[(2,[(8,tkI)])],[],[],[]⟩ Tryz.func163 ?_;have C:=sZ hψ;refine vL o C.le ?_;refine lp1 I (nlS C) fun m y8 u a C I O=>?_;refine brY fun I=>?_;refine ixI slA I fun w I=>?_;obtain ⟨x,i,I⟩:=obind I;obtain ⟨φ,L,s,f⟩:=id C;refine Za9 p ?_;refine (k1 C.ext s.fle i).mono fun y a0 ⟨eq,t⟩=>⟨_,eq,?_⟩;replace C:=join0 s f t;clear t s f;exact brQ I (fun I=>tZ) fun I=>tZ
theorem Zes {f:List Int} {v0:Value} {c:Int->Option Bool} {e:Nat} {a:List Value} {r:Bool} (I:ZaU f c=some r) (p:sc h eI v0 f) (k:ctx.okf e=true) (k1:∀ {h1:Heap},ExtH h h1->∀ {ψ1:CM},CLe ψ1 (hcell h1)->∀ {g:Int} {i:Bool},c g=some i->CallsH P e (([.int .i64 g]:List Value)++a).toArray h1 (fun v w=>v=.bool i/\S ψ1 h1 w [])):zR 119 #[v0,.func (.func e) #[] a.toArray] h ψ (.bool r):=by
 refine zv annO Tryz.func119 ?_;have C:=sZ hψ;refine cl0 I C (fun s _ _ l=>ZBV s.fle l slA k (fun j=>k1 (C.ext.trans j))) fun u o C I=>⟨_,rfl,?_⟩;exact tZ
theorem ZwX {x0 r} (I:ZkP x0=some r)  :zR 120 #[.int .i64 x0] h ψ (.bool r):=by
 refine zv annO Tryz.func120 ?_;have C:=sZ hψ;exact brQ I (fun I=>tZ) fun I=>tZ
theorem ZCR {l v0 r} (I:Zld l=some r) (o:sc h eL v0 l):zR 69 #[v0] h ψ (.bool r):=by
 refine zv ⟨[(3,[(14,tkI)]),(8,[(31,tkI)]),(12,[(8,tkI),(37,tkI)])],[(7,[])],[],[]⟩ Tryz.func69 ?_;have C:=sZ hψ;refine cm0 I C (fun s g=>ZbX s g slA) fun a3 a4 C I=>⟨_,rfl,?_⟩;refine vL o C.le ?_;refine lp1 I (nlS C) fun m i a5 a C I O=>?_;refine brQ I (fun I=>?_) fun I=>?_
 ·refine ixV o C.le I fun w a6 f I=>?_;refine ⟨fun j=>S ψ h j []/\Zji l i w=some a,?_,?_⟩
  ·refine cm0 I C (fun s g=>Za6 s g slA) fun a7 a8 C I=>⟨_,rfl,?_⟩;refine brZ fun I=>?_;refine cl0 I C (fun x _ _ p=>Zes x.fle p slA κ (fun a9=>fun u=>fun y  =>ZwX u y )) fun aa ab C I=>⟨_,rfl,?_⟩
   exact brQ I (fun I=>tZ) fun I=>tZ
  ·rintro _ j ⟨C,I⟩;obtain ⟨ac,v,I⟩:=obind I;refine Zd7 none (some i) o v rfl fun ad k=>?_;refine vL k C.le ?_;refine lp1 I (nlS C) fun a0 ae af ag C I c=>?_;refine brQ I (fun I=>?_) fun I=>?_
   ·refine ixV k C.le I fun ah ai aj I=>?_;refine vL f C.le ?_;refine lp2 I (nlS C) fun a1 a2 ak al am C I e=>?_;refine brQ I (fun I=>?_) fun I=>?_
    ·refine ixI slA I fun an I=>?_;refine ixI slA I fun ao I=>?_;obtain rfl:=oI I;exact ⟨a1,ltS,nlS C,e⟩
    ·refine brQ I (fun I=>?_) fun I=>?_
     ·obtain rfl:=oI I;obtain rfl:=oI e;obtain rfl:=oI c;obtain rfl:=oI O;exact ⟨rfl,nlS C⟩
     ·obtain rfl:=oI I;obtain rfl:=oI e;exact ⟨a0,ltS,nlS C,c⟩
   ·obtain rfl:=oI I;obtain rfl:=oI c;exact ⟨m,ltS,nlS C,O⟩
 ·refine cm0 I C (fun s g=>Zaz s g) fun ap aq C I=>⟨_,rfl,?_⟩;exact tZ
theorem ZC3 {levels0 column1 r} (I:ZoX levels0 column1=some r)  :zR 121 #[.int .i64 levels0,.int .i64 column1] h ψ (.bool r):=by
 refine zv annO Tryz.func121 ?_;have C:=sZ hψ;refine cm0 I C (fun s a=>Zaz s a) fun f c C I=>⟨_,rfl,?_⟩;refine brY fun I=>?_;refine cm0 I C (fun s a=>Zaz s a) fun g e C I=>⟨_,rfl,?_⟩;exact tZ
theorem ZwM {x0 c p1 a r} (I:Zli x0 c=some r) (e:CellsC (hcell h) p1 [.int .i64 c.Levels,.int .i64 c.Columns,a]) (f:sc h eL a c.Rows):zR 122 #[.int .i64 x0,.pointer (some p1)] h ψ (.bool r):=by
 refine zv annO Tryz.func122 ?_;have C:=sZ hψ;refine kI e C.le 0 ?_;refine cm0 I C (fun s g=>Zaz s g) fun r8 i C I=>⟨_,rfl,?_⟩;exact tZ
theorem ZCi {c e r} (I:ZjM c=some r) (g:sc h eL e c.Rows):zR 70 #[.agg #[.int .i64 c.Levels,.int .i64 c.Columns,e]] h ψ (.bool r):=by
 refine zv ⟨[(4,[(20,tkI)])],[(3,[])],[],[(6,⟨kdL [0,3,0,2,0,0,0,0,4,0],.fin [0,1,2,3,4,5,6,7,8,9],true⟩)]⟩ Tryz.func70 ?_;have C:=sZ hψ;refine new_S C fun v a2 C=>?_;refine ⟨fun k=>S ψ h k [.box v [.int .i64 c.Levels,.int .i64 c.Columns,e]]/\ZoJ c=some r,?_,?_⟩
 ·refine lsA ?_;refine cm0 I C (fun s hx=>ZC3 s hx) fun r9 a3 C I=>⟨_,rfl,?_⟩;refine brZ fun I=>?_;refine bV C 0 2 ?_;refine vL g C.le ?_;refine brZ fun I=>?_;exact endC
 ·rintro _ k ⟨C,I⟩;refine bV C 0 2 ?_;refine vL g C.le ?_;refine lp1 (os:=[.box v [.int .i64 c.Levels,.int .i64 c.Columns,e]]) I (pk C [0]) fun m a4 w a C I O=>?_;refine brY fun I=>?_;refine ixV g C.le I fun a5 a6 f I=>?_;refine ⟨fun _=>False,?_⟩;have j:=C;have i:=eX w;obtain ⟨a7,o,I⟩:=obind I;refine ce0 C (fun s=>Za6 s.fle o slA) fun a8 xE C=>⟨_,rfl,eZ (i.trans xE),?_⟩;replace i:=i.trans xE;refine ZJ ?_;refine ldI_K (j.cells 0 rfl) 1 rfl rfl ?_;refine brZ fun I=>?_;refine cl0 I C (fun x _ _ p=>Zes x.fle p slA κ (fun l=>fun u=>fun y  =>ZwM u y ((C.cells 0 rfl).mono (CLe.ext l)) ((g.mono C.le).mono (CLe.ext l)))) fun a9 aa C I=>⟨_,rfl,?_⟩
  refine brZ fun I=>?_;exact endL
theorem ZBu {i g r} (I:ZnW i=some r) (e:sc h eL g i.Rows):CallsH P 71 #[.agg #[.int .i64 i.Kind,.int .i64 i.Size,g]] h (fun v h'=>∃ w0,v=.agg #[.int .i64 r.Levels,.int .i64 r.Columns,w0]/\S ψ h h' [.it (El.ow oL) [w0] r.Rows]):=by
 refine zv ⟨[],[],[],[(1,⟨kdL [0,2,0,2,3,0,3,4],.both (.fin [2,3,4,6,0,1,5,7]) (.fin [6,2,3,4,0,1,5,7]),true⟩)]⟩ Tryz.func71 ?_;have C:=sZ hψ;refine new_S C fun b1 ag C=>?_;refine new_S C fun b2 j C=>?_;obtain ⟨r8,f,I⟩:=obind I;refine ⟨fun _=>False,?_⟩;have c:=C;have a:=eX j;refine ⟨?_,?_⟩
 ·refine ZK ?_;refine ldV_K (c.cells 1 rfl) 2 rfl rfl ?_;refine ce1 C (fun s=>Zda s.fle f slA) fun x y xE C=>⟨_,rfl,eZ (a.trans xE),?_⟩;replace a:=a.trans xE;refine Zdv C fun a0 a1 xE C=>⟨eZ (a.trans xE),?_⟩;replace a:=a.trans xE;refine ZJ ?_;refine ldI_K (c.cells 1 rfl) 1 rfl rfl ?_;refine ZG oneA ?_;(iterate 3 refine boxA fun a2 C=>?_);refine bV C 3 2 ?_;refine vL e C.le ?_;refine brQ I (fun I=>?_) fun I=>?_
  ·refine bV C 3 2 ?_;refine ixV e C.le I fun k l ah I=>?_;refine cm0 I C (fun s f=>Za6 s f slA) fun o a3 C I=>⟨_,rfl,?_⟩;refine boxA fun a4 C=>?_;refine lsA ?_;(iterate 3 refine boxA fun a5 C=>?_);refine lsA ?_;exact endS
  ·refine lsA ?_;(iterate 3 refine boxA fun a6 C=>?_);refine lsA ?_;exact endS
 ·refine Zdv C fun a7 a8 xE C=>⟨eZ (a.trans xE),?_⟩;replace a:=a.trans xE;refine ZK ?_;refine ldV_K (c.cells 1 rfl) 2 rfl rfl ?_;refine ce1 C (fun s=>Zda s.fle f slA) fun a9 aa xE C=>⟨_,rfl,eZ (a.trans xE),?_⟩;replace a:=a.trans xE;refine ZJ ?_;refine ldI_K (c.cells 1 rfl) 1 rfl rfl ?_;refine ZG oneA ?_;(iterate 3 refine boxA fun ab C=>?_);refine bV C 3 2 ?_;refine vL e C.le ?_;refine brQ I (fun I=>?_) fun I=>?_
  ·refine bV C 3 2 ?_;refine ixV e C.le I fun p u ai I=>?_;refine cm0 I C (fun s f=>Za6 s f slA) fun w ac C I=>⟨_,rfl,?_⟩;refine boxA fun ad C=>?_;refine lsA ?_;(iterate 3 refine boxA fun ae C=>?_);refine lsA ?_;exact endS
  ·refine lsA ?_;(iterate 3 refine boxA fun af C=>?_);refine lsA ?_;exact endS
theorem Zh3 {c g limit2 r} (I:Zbo c g limit2=some r)  :zR 124 #[.int .i64 c,.int .i64 g,.int .i64 limit2] h ψ (.int .i64 r):=by
 refine zv ⟨[(2,[(1,tkI),(7,tkI)])],[(4,[])],[],[]⟩ Tryz.func124 ?_;have C:=sZ hψ;refine lp2 I (nlS C) fun m f j i a C I O=>?_;refine ⟨fun e=>S ψ h e []/\ZfK c f j=some a,?_,?_⟩
 ·refine brY fun I=>?_;exact brQ I (fun I=>tZ) fun I=>tZ
 ·rintro _ e ⟨C,I⟩;exact tZ
theorem ZiR {c a r} (I:Zba c=some r) (e:sc h eI a c.Poly):zR 125 #[.agg #[.int .i64 c.Prime,.int .i64 c.Degree,a]] h ψ (.int .i64 r):=by
 refine zv annO Tryz.func125 ?_;have C:=sZ hψ;refine new_S C fun j g C=>?_;refine lsA ?_;refine cm0 I C (fun s f=>Zh3 s f) fun k i C I=>⟨_,rfl,?_⟩;exact tZ
theorem ZcQ {n0 c count2 r} (I:ZaT n0 c count2=some r)  :zL 176 #[.int .i64 n0,.int .i64 c,.int .i64 count2] h ψ eI r:=by
 refine zv ⟨[(3,[(0,tkI),(13,tkI)])],[],[],[]⟩ Tryz.func176 ?_;have C:=sZ hψ;refine mkO eI I fun j k p C I=>?_;refine Zm slA ?_;refine ⟨fun n e f g=>∃ xs,S ψ h g [.it oL [k] xs]/\loopN (ZcR c j) n (e,f,xs)=some r,endI,?_⟩;rintro n _ e f g ⟨xs,C,l⟩;obtain ⟨m,a,rfl,I,O⟩:=Zh l;refine brQ I (fun I=>?_) fun I=>?_
 ·refine gzA I fun I=>?_;refine ixA slA I fun s u o i I=>?_;refine st1_S C 0 rfl o i rfl (fun _=>⟨rfl,rfl⟩) fun v C=>?_;dsimp at C;refine gzA I fun I=>?_;exact endL
 ·obtain rfl:=oI I;obtain rfl:=oI O;exact endR
theorem ZrZ {y v0 e v1 f r} (I:Zdy y e f=some r) (f0:sc h eI v0 y) (f1:sc h eI v1 e):zL 209 #[v0,v1,.int .i64 f] h ψ eI r:=by
 refine zv ⟨[(4,[(9,tkI)]),(8,[(33,tkI)])],[],[],[]⟩ Tryz.func209 ?_;have C:=sZ hψ;refine cm1 I C (fun s hx=>ZjH s hx slA) fun a4 g a5 C I=>⟨_,rfl,?_⟩;refine vL f1 C.le ?_;refine Zm slA ?_;refine ⟨fun n o i=>∃ xs,S ψ h i [.it oL [g] xs]/\loopN (ZbI e f) n (o,xs)=some r,endI,?_⟩;rintro n _ o i ⟨xs,C,hn⟩;obtain ⟨m,a,rfl,I,O⟩:=Zh hn;refine brQ I (fun I=>?_) fun I=>?_
 ·refine ixI slA I fun a1 I=>?_;refine vL f1 C.le ?_;refine ⟨fun j k l=>∃ c,S ψ h l [.it oL [g] c]/\loopN (Zev e f o a1) j (k,c)=some a,endI,?_⟩;rintro j _ k l ⟨c,C,p⟩;obtain ⟨a6,a7,rfl,I,u⟩:=Zh p;refine brQ I (fun I=>?_) fun I=>?_
  ·refine ixI slA I fun a8 I=>?_;refine ixI slA I fun a9 I=>?_;refine gzA I fun I=>?_;refine gzA I fun I=>?_;refine ixA slA I fun aa ab v w I=>?_;refine st1_S C 0 rfl v w rfl (fun _=>⟨rfl,rfl⟩) fun ac C=>?_;dsimp at C;exact endL
  ·obtain rfl:=oI I;obtain rfl:=oI u;exact endM
 ·refine Zm slA ?_;obtain ⟨ad,x,I⟩:=obind I;refine cut_S none (some (if ((xs.length:Int):Int)<(ε.wrap ((e.length:Int)-1)) then (xs.length:Int) else ε.wrap ((e.length:Int)-1))) C 0 rfl x rfl fun ae C=>?_;dsimp at C;obtain rfl:=oI I;obtain rfl:=oI O;exact endR
theorem Zyf {x0 r} (I:Zl9 x0=some r)  :zR 246 #[.int .i64 x0] h ψ (.bool r):=by
 refine zv annO Tryz.func246 ?_;have C:=sZ hψ;exact tZ
theorem ZAj {a v0 r} (I:ZjB a=some r) (j:sc h eI v0 a):zR 211 #[v0] h ψ (.bool r):=by
 refine zv annO Tryz.func211 ?_;have C:=sZ hψ;refine cl0 I C (fun s _ _ f=>Zes s.fle f slA κ (fun g=>fun c=>fun e  =>Zyf c e )) fun k i C I=>⟨_,rfl,?_⟩
 exact tZ
theorem Zql {f v0 p1 r} (I:Zh1 f p1=some r) (f0:sc h eI v0 f):zR 175 #[v0,.int .i64 p1] h ψ (.bool r):=by
 refine zv ⟨[(3,[(6,tkI)]),(6,[(7,tkI)])],[],[],[]⟩ Tryz.func175 ?_;have C:=sZ hψ;refine cm0 I C (fun s c=>Za6 s c slA) fun r9 i C I=>⟨_,rfl,?_⟩;refine lp1 I (nlS C) fun m d6 j a C I O=>?_;refine brY fun I=>?_;refine lp1 I (nlS C) fun g n7 k l C I e=>?_;refine cm0 I C (fun s c=>Zh3 s c) fun o p C I=>⟨_,rfl,?_⟩;refine brQ I (fun I=>?_) fun I=>?_
 ·refine cm1 I C (fun s c=>ZcQ s c) fun u v w C I=>⟨_,rfl,?_⟩;refine puA I 0 fun x y a0 C I=>?_;refine cm1 I C (fun s c=>ZrZ s c slA slA) fun a1 a2 a3 C I=>⟨_,rfl,?_⟩;refine cm0 I C (fun s c=>ZAj s c slA) fun a4 a5 C I=>⟨_,rfl,?_⟩;refine brQ I (fun I=>?_) fun I=>?_
  ·obtain rfl:=oI I;obtain rfl:=oI e;obtain rfl:=oI O;exact ⟨rfl,nlS C⟩
  ·obtain rfl:=oI I;exact ⟨g,ltS,nlS C,e⟩
 ·obtain rfl:=oI I;obtain rfl:=oI e;exact ⟨m,ltS,nlS C,O⟩
theorem Zsw {n0 r} (I:ZcI n0=some r)  :zL 210 #[.int .i64 n0] h ψ eI r:=by
 refine zv ⟨[(5,[(0,tkI),(3,.v),(4,tkI)]),(7,[(0,tkI),(3,.v)])],[],[],[]⟩ Tryz.func210 ?_;have C:=sZ hψ;refine cm0 I C (fun s u=>Zaz s u) fun r6 w C I=>⟨_,rfl,?_⟩;refine brQ I (fun I=>?_) fun I=>?_
 ·have C:=C.nilO (E:=eI);exact endS
 ·have C:=C.nilO (E:=eI);refine ⟨fun n c p k g=>∃ a7,S ψ h g [.it oL [p] a7]/\loopN (Zbu) n (c,a7,k)=some r,endI,?_⟩;rintro n _ c p k g ⟨a7,C,v⟩;obtain ⟨m,a,rfl,I,O⟩:=Zh v;refine brQ I (fun I=>?_) fun I=>?_
  ·refine ⟨fun i e f j=>∃ a6,S ψ h j [.it oL [f] a6]/\loopN (Zd4 k) i (e,a6)=some a,endI,?_⟩;rintro i _ e f j ⟨a6,C,l⟩;obtain ⟨x,y,rfl,I,o⟩:=Zh l;refine gzA I fun I=>?_;refine brQ I (fun I=>?_) fun I=>?_
   ·refine puA I 0 fun a0 a1 a2 C I=>?_;refine gzA I fun I=>?_;exact endL
   ·obtain rfl:=oI I;obtain rfl:=oI o;exact endM
  ·refine brQ I (fun I=>?_) fun I=>?_
   ·refine puA I 0 fun a3 a4 a5 C I=>?_;obtain rfl:=oI I;obtain rfl:=oI O;exact endR
   ·obtain rfl:=oI I;obtain rfl:=oI O;exact endR
theorem ZB6 {n0 r} (I:Zkl n0=some r)  :zR 206 #[.int .i64 n0] h ψ (.bool r):=by
 refine zv annO Tryz.func206 ?_;have C:=sZ hψ;refine cm1 I C (fun s a=>Zsw s a) fun e f c C I=>⟨_,rfl,?_⟩;refine Zm slA ?_;exact tZ
theorem ZwD {c e r} (I:Zhf c=some r) (l:sc h eI e c.Poly):zR 164 #[.agg #[.int .i64 c.Prime,.int .i64 c.Degree,e]] h ψ (.bool r):=by
 refine zv ⟨[(6,[(41,tkI)])],[(3,[]),(5,[])],[],[(3,⟨kdL [0,1,3,0,2,0,0,0,0,1,0,1,0,1,0,0],.fin [0,1,2,3,4,5,6,7,8,9,10,11,12,13,14,15],true⟩)]⟩ Tryz.func164 ?_;have C:=sZ hψ;refine new_S C fun o v C=>?_;refine ⟨fun i=>S ψ h i [.box o [.int .i64 c.Prime,.int .i64 c.Degree,e]]/\Zjr c=some r,?_,?_⟩
 ·refine bI C 0 0 ?_;refine cm0 I C (fun s f=>ZB6 s f) fun r7 w C I=>⟨_,rfl,?_⟩;refine brZ fun I=>?_;refine bI C 0 1 ?_;refine brZ fun I=>?_;refine lsA ?_;refine cm0 I C (fun s f=>Zh3 s f) fun x u C I=>⟨_,rfl,?_⟩;refine brZ fun I=>?_;exact endC
 ·rintro _ i ⟨C,I⟩;refine ⟨fun k=>S ψ h k [.box o [.int .i64 c.Prime,.int .i64 c.Degree,e]]/\ZlG c=some r,?_,?_⟩
  ·refine ⟨fun _=>False,?_⟩;have j:=C;have g:=eX i;refine bV C 0 2 ?_;obtain ⟨y,p,I⟩:=obind I;refine ce0 C (fun s=>Za6 s.fle p slA) fun a0 xE C=>⟨_,rfl,eZ (g.trans xE),?_⟩;replace g:=g.trans xE;refine ZJ ?_;refine ldI_K (j.cells 0 rfl) 1 rfl rfl ?_;refine brZ fun I=>?_;refine lsA ?_;refine ixI slA I fun a1 I=>?_;refine brZ fun I=>?_;exact endC
  ·rintro _ k ⟨C,I⟩;refine bV C 0 2 ?_;refine vL l C.le ?_;refine lp1 (os:=[.box o [.int .i64 c.Prime,.int .i64 c.Degree,e]]) I (pk C [0]) fun m a2 a3 a C I O=>?_;refine brQ I (fun I=>?_) fun I=>?_
   ·refine ixI slA I fun a4 I=>?_;refine bI C 0 0 ?_;refine cm0 I C (fun s f=>Zaz s f) fun a5 a6 C I=>⟨_,rfl,?_⟩;refine brZ fun I=>?_;exact endL
   ·refine lsA ?_;refine cm0 I C (fun s f=>Zql s f slA) fun a7 a8 C I=>⟨_,rfl,?_⟩;exact tZ
theorem ZyM {x0 a p1 r} (I:Ze4 x0 a=some r) (c:CellsC (hcell h) p1 [.int .i64 a]):zR 207 #[.int .i64 x0,.pointer (some p1)] h ψ (.bool r):=by
 refine zv annO Tryz.func207 ?_;have C:=sZ hψ;refine kI c C.le 0 ?_;refine cm0 I C (fun s e=>Zaz s e) fun g f C I=>⟨_,rfl,?_⟩;exact tZ
theorem ZFG {e a v1 r} (I:Zp2 e a=some r) (l:sc h eI v1 a):zR 166 #[.int .i64 e,v1] h ψ (.bool r):=by
 refine zv annO Tryz.func166 ?_;have C:=sZ hψ;refine new_S C fun o j C=>?_;refine cl0 I C (fun s _ _ i=>Zes s.fle i slA κ (fun f=>fun c=>fun g  =>ZyM c g ((C.cells 0 rfl).mono (CLe.ext f)))) fun p k C I=>⟨_,rfl,?_⟩
 exact tZ
theorem ZC4 {a v0 c p1 v1 e p2 r} (I:Zga a c e=some r) (j:sc h eI v0 a) (g:CellsC (hcell h) p1 [v1]) (k:sc h eL v1 c) (i:CellsC (hcell h) p2 [.int .i64 e]):zR 165 #[v0,.pointer (some p1),.pointer (some p2)] h ψ (.bool r):=by
 refine zv annO Tryz.func165 ?_;have C:=sZ hψ;refine vL j C.le ?_;refine kV g C.le 0 ?_;refine ixV k C.le I fun u v f I=>?_;refine vL f C.le ?_;refine brZ fun I=>?_;refine kI i C.le 0 ?_;refine cm0 I C (fun s l=>ZFG s l slA) fun o p C I=>⟨_,rfl,?_⟩;exact tZ
theorem Zzo {c e j v1 r} (I:Zjw c j=some r) (w:sc h eI e c.Poly) (o:sc h eL v1 j):zR 123 #[.agg #[.int .i64 c.Prime,.int .i64 c.Degree,e],v1] h ψ (.bool r):=by
 refine zv ⟨[],[(3,[])],[],[]⟩ Tryz.func123 ?_;have C:=sZ hψ;refine new_S C fun x a4 C=>?_;refine ZG oneA ?_;refine new_S C fun y a5 C=>?_;refine ⟨fun i=>S ψ h i [.box y [v1],.box x [.int .i64 c.Prime,.int .i64 c.Degree,e]]/\ZmD c j=some r,?_,?_⟩
 ·refine lsA ?_;refine cm0 I C (fun s a=>ZwD s a slA) fun r7 a6 C I=>⟨_,rfl,?_⟩;refine brZ fun I=>?_;refine bV C 0 0 ?_;refine cm0 I C (fun s a=>ZbX s a slA) fun a7 a0 C I=>⟨_,rfl,?_⟩;refine cm0 I C (fun s a=>Zaz s a) fun a8 a1 C I=>⟨_,rfl,?_⟩;refine brZ fun I=>?_;refine bV C 0 0 ?_;refine ixV o C.le I fun a9 aa f I=>?_;refine cm0 I C (fun s a=>Za6 s a slA) fun ab a2 C I=>⟨_,rfl,?_⟩;refine cm0 I C (fun s a=>Zaz s a) fun ac a3 C I=>⟨_,rfl,?_⟩;refine brZ fun I=>?_;exact endC
 ·rintro _ i ⟨C,I⟩;refine lsA ?_;refine cm0 I C (fun s a=>ZiR s a slA) fun ad ae C I=>⟨_,rfl,?_⟩;refine new_S C fun b5 af C=>?_;refine boxA fun ag C=>?_;refine bV C 1 0 ?_;refine cl0 I C (fun p _ _ k=>ZnM p.fle k slA κ (fun g=>fun l=>fun u v=>ZC4 l u v ((C.cells 1 rfl).mono (CLe.ext g)) ((o.mono C.le).mono (CLe.ext g)) ((C.cells 0 rfl).mono (CLe.ext g)))) fun ah ai C I=>⟨_,rfl,?_⟩
  exact tZ
theorem Zt4 {digits0 v0 c r} (I:Zk6 digits0 c=some r) (e:sc h eI v0 digits0):zR 208 #[v0,.int .i64 c] h ψ (.int .i64 r):=by
 refine zv ⟨[(3,[(5,tkI),(6,tkI)])],[],[],[]⟩ Tryz.func208 ?_;have C:=sZ hψ;refine vL e C.le ?_;refine lp2 I (nlS C) fun m i k6 f a C I O=>?_;refine brY fun I=>?_;refine ixI slA I fun g I=>?_;exact tZ
theorem ZuP {e f v w c r} (I:Zit e v w c=some r) (a3:sc h eI f e.Poly):zR 167 #[.agg #[.int .i64 e.Prime,.int .i64 e.Degree,f],.int .i64 v,.int .i64 w,.int .i64 c] h ψ (.int .i64 r):=by
 refine zv ⟨[(3,[(26,tkI)])],[],[],[(1,⟨kdL [0,0,1,0,1,3,0,0,2,0,2,4,0,0],.fin [0,1,2,3,4,5,6,7,8,9,10,11,12,13],true⟩)]⟩ Tryz.func167 ?_;have C:=sZ hψ;refine new_S C fun b4 x C=>?_;refine ⟨fun _=>False,?_⟩;have i:=C;have g:=eX x;refine lsA ?_;obtain ⟨y,j,I⟩:=obind I;refine ce1 C (fun s=>ZcQ s.fle j) fun a0 a6 xE C=>⟨_,rfl,eZ (g.trans xE),?_⟩;replace g:=g.trans xE;refine ZJ ?_;refine ldI_K (i.cells 0 rfl) 0 rfl rfl ?_;refine ZJ ?_;refine ldI_K (i.cells 0 rfl) 1 rfl rfl ?_;refine cm1 I C (fun s j=>ZcQ s j) fun k a2 a7 C I=>⟨_,rfl,?_⟩;refine Zm slA ?_;refine ⟨fun n l o=>∃ xs,S ψ h o [.it oL [a2] k,.it oL [a0] xs,.box b4 [.int .i64 e.Prime,.int .i64 e.Degree,f]]/\loopN (ZgG e c y k) n (l,xs)=some r,endI,?_⟩;rintro n _ l o ⟨xs,C,hn⟩;obtain ⟨m,a,rfl,I,O⟩:=Zh hn;refine brQ I (fun I=>?_) fun I=>?_
 ·refine ixI slA I fun a8 I=>?_;refine ixI slA I fun a9 I=>?_;refine lsA ?_;refine gzA I fun I=>?_;refine ixA slA I fun aa ab p u I=>?_;refine st1_S C 1 rfl p u rfl (fun _=>⟨rfl,rfl⟩) fun ac C=>?_;dsimp at C;exact endL
 ·refine bI C 2 0 ?_;refine cm0 I C (fun s j=>Zt4 s j slA) fun ad ae C I=>⟨_,rfl,?_⟩;exact tZ
theorem ZGg {c e y1 y2 r} (I:ZkU c y1 y2=some r) (ac:sc h eI e c.Poly):zR 168 #[.agg #[.int .i64 c.Prime,.int .i64 c.Degree,e],.int .i64 y1,.int .i64 y2] h ψ (.int .i64 r):=by
 refine zv ⟨[(4,[(30,tkI)]),(7,[(35,tkI)])],[],[],[(1,⟨kdL [0,0,1,0,1,3,0,0,2,0,2,4,0,0],.fin [0,1,2,3,4,5,6,7,8,9,10,11,12,13],true⟩),(12,⟨kdL [0,0,1,0,1,3,0,2,4,0],.fin [0,1,2,3,4,5,6,7,8,9],true⟩)]⟩ Tryz.func168 ?_;have C:=sZ hψ;refine new_S C fun b3 ab C=>?_;refine ⟨fun _=>False,?_⟩;have j:=C;have g:=eX ab;refine lsA ?_;obtain ⟨k,o,I⟩:=obind I;refine ce1 C (fun s=>ZcQ s.fle o) fun w af xE C=>⟨_,rfl,eZ (g.trans xE),?_⟩;replace g:=g.trans xE;refine ZJ ?_;refine ldI_K (j.cells 0 rfl) 0 rfl rfl ?_;refine ZJ ?_;refine ldI_K (j.cells 0 rfl) 1 rfl rfl ?_;refine cm1 I C (fun s o=>ZcQ s o) fun l x ag C I=>⟨_,rfl,?_⟩;refine bI C 2 1 ?_;refine mkO eI I fun ah y ai C I=>?_;refine Zm slA ?_;refine ⟨fun n p u=>∃ xs,S ψ h u [.it oL [y] xs,.it oL [x] l,.it oL [w] k,.box b3 [.int .i64 c.Prime,.int .i64 c.Degree,e]]/\loopN (ZdM c k l) n (p,xs)=some r,endI,?_⟩;rintro n _ p u ⟨xs,C,hn⟩;obtain ⟨m,a,rfl,I,O⟩:=Zh hn;refine brQ I (fun I=>?_) fun I=>?_
 ·refine Zm slA ?_;refine ⟨fun a0 a1 a2=>∃ i,S ψ h a2 [.it oL [y] i,.it oL [x] l,.it oL [w] k,.box b3 [.int .i64 c.Prime,.int .i64 c.Degree,e]]/\loopN (Zjn c k l p) a0 (a1,i)=some a,endI,?_⟩;rintro a0 _ a1 a2 ⟨i,C,a3⟩;obtain ⟨aj,ak,rfl,I,a4⟩:=Zh a3;refine brQ I (fun I=>?_) fun I=>?_
  ·refine ixI slA I fun al I=>?_;refine ixI slA I fun am I=>?_;refine ixI slA I fun an I=>?_;refine bI C 3 0 ?_;refine gzA I fun I=>?_;refine ixA slA I fun ao ap a5 a6 I=>?_;refine st1_S C 0 rfl a5 a6 rfl (fun _=>⟨rfl,rfl⟩) fun aq C=>?_;dsimp at C;exact endL
  ·obtain rfl:=oI I;obtain rfl:=oI a4;exact endM
 ·refine ⟨fun _=>False,?_⟩;have v:=C;have f:=eX u;refine lsA ?_;obtain ⟨ar,a7,I⟩:=obind I;refine ce1 C (fun s=>ZrZ s.fle a7 slA slA) fun au av xE C=>⟨_,rfl,eZ (f.trans xE),?_⟩;replace f:=f.trans xE;refine ZJ ?_;refine ldI_K (v.cells 3 rfl) 0 rfl rfl ?_;refine cm0 I C (fun s o=>Zt4 s o slA) fun aw ae C I=>⟨_,rfl,?_⟩;exact tZ
theorem Zuz {o x r} (I:Zh8 o=some r) (bj:sc h eI x o.Poly):CallsH P 126 #[.agg #[.int .i64 o.Prime,.int .i64 o.Degree,x]] h (fun v h'=>∃ w0 w1 w2 w3,v=.agg #[.int .i64 r.qq,w0,w1,w2,w3]/\S ψ h h' [.it (El.ow oL) [w0] r.qadd,.it (El.ow oL) [w1] r.qsub,.it (El.ow oL) [w2] r.qmul,.it oL [w3] r.qinv]):=by
 refine zv ⟨[(4,[(4,tkI)]),(8,[(8,tkI)])],[(5,[]),(7,[(5,.v),(6,.v),(7,.v)])],[],[(6,⟨kdL [0,2,3,0,2,3,0,2,3,0,0,0],.both (.sg [0,1,2] (.both (.fin [3,4,5,6,7,8,9,10,11]) (.fin [6,7,8,3,4,5,9,10,11]))) (.both (.sg [3,4,5] (.both (.fin [0,1,2,6,7,8,9,10,11]) (.fin [6,7,8,0,1,2,9,10,11]))) (.sg [6,7,8] (.both (.fin [0,1,2,3,4,5,9,10,11]) (.fin [3,4,5,0,1,2,9,10,11])))),true⟩),(10,⟨kdL [0,0,0,0,0,0,1,0,0,3,2,0,0,3,2,0,0,4,0,4,0,4,0,4],.fin [6,7,8,9,10,11,12,13,14,15,16,17,0,1,18,19,2,3,20,21,4,5,22,23],true⟩),(13,⟨kdL [0,2,0,3,3,0,2,0,3,3,0,2,0,3,4,0,4,0,4,0,4],.both (.sg [2,3] (.both (.sg [0,1,4] (.both (.sg [7,8] (.both (.fin [5,6,9,12,13,10,11,14,15,16,17,18,19,20]) (.fin [12,13,5,6,9,10,11,14,15,16,17,18,19,20]))) (.fin [12,13,7,8,5,6,9,10,11,14,15,16,17,18,19,20]))) (.both (.sg [7,8] (.both (.sg [0,1,4] (.both (.fin [5,6,9,12,13,10,11,14,15,16,17,18,19,20]) (.fin [12,13,5,6,9,10,11,14,15,16,17,18,19,20]))) (.fin [12,13,0,1,4,5,6,9,10,11,14,15,16,17,18,19,20]))) (.sg [12,13] (.both (.fin [0,1,4,7,8,5,6,9,10,11,14,15,16,17,18,19,20]) (.fin [7,8,0,1,4,5,6,9,10,11,14,15,16,17,18,19,20])))))) (.both (.sg [7,8] (.both (.sg [2,3] (.both (.sg [0,1,4] (.both (.fin [5,6,9,12,13,10,11,14,15,16,17,18,19,20]) (.fin [12,13,5,6,9,10,11,14,15,16,17,18,19,20]))) (.fin [12,13,0,1,4,5,6,9,10,11,14,15,16,17,18,19,20]))) (.fin [12,13,2,3,0,1,4,5,6,9,10,11,14,15,16,17,18,19,20]))) (.sg [12,13] (.both (.sg [2,3] (.both (.fin [0,1,4,7,8,5,6,9,10,11,14,15,16,17,18,19,20]) (.fin [7,8,0,1,4,5,6,9,10,11,14,15,16,17,18,19,20]))) (.fin [7,8,2,3,0,1,4,5,6,9,10,11,14,15,16,17,18,19,20])))),true⟩)]⟩ Tryz.func126 ?_
 have C:=sZ hψ;refine new_S C fun b1 bx C=>?_;refine new_S C fun b2 bz C=>?_;refine lsA ?_;refine cm0 I C (fun s hx=>ZiR s hx slA) fun a4 c0 C I=>⟨_,rfl,?_⟩;refine new_S C fun b3 c3 C=>?_;(iterate 5 refine boxA fun bk C=>?_);refine bI C 0 0 ?_;refine mkO eI I fun c4 a1 bm C I=>?_;refine boxA fun bn C=>?_;have C:=C.nilO (E:=oL);have C:=C.nilO (E:=oL);have C:=C.nilO (E:=oL);refine ⟨fun n y4 ae=>∃ xs p y u a0 a2 a5,S ψ h ae [.it oL [a1] a5,.box b3 [.int .i64 a4,p,u,a2,a1],.box b2 [.int .i64 0,(.slice none 0 0),(.slice none 0 0),(.slice none 0 0),(.slice none 0 0)],.box b1 [.int .i64 o.Prime,.int .i64 o.Degree,x],.it (El.ow oL) [p] xs,.it (El.ow oL) [u] y,.it (El.ow oL) [a2] a0]/\loopN (ZgT o a4) n (y4,xs,y,a0,a5)=some r,endI,?_⟩;rintro n _ y4 ae ⟨xs,p,y,u,a0,a2,a5,C,hn⟩;obtain ⟨m,a,rfl,I,O⟩:=Zh hn;refine bI C 1 0 ?_;refine brQ I (fun I=>?_) fun I=>?_
 ·refine ⟨fun al=>∃ af am ag an ah ao ai,S ψ h al [.it oL [a1] ai,.box b3 [.int .i64 a4,am,an,ao,a1],.box b2 [.int .i64 0,(.slice none 0 0),(.slice none 0 0),(.slice none 0 0),(.slice none 0 0)],.box b1 [.int .i64 o.Prime,.int .i64 o.Degree,x],.it (El.ow oL) [am] af,.it (El.ow oL) [an] ag,.it (El.ow oL) [ao] ah]/\Zot y4 af ag ah ai=some a,?_,?_⟩
  ·obtain ⟨ap,aj,I⟩:=obind I;obtain ⟨c5,aq,I⟩:=obind I;obtain ⟨c6,ar,I⟩:=obind I;obtain rfl:=oI (aj.symm.trans aq);obtain rfl:=oI (aj.symm.trans ar);refine ⟨fun a6 a7 a8 au=>S ψ h au [.it oL [a8] ap,.it oL [a7] ap,.it oL [a6] ap,.it oL [a1] a5,.box b3 [.int .i64 a4,p,u,a2,a1],.box b2 [.int .i64 0,(.slice none 0 0),(.slice none 0 0),(.slice none 0 0),(.slice none 0 0)],.box b1 [.int .i64 o.Prime,.int .i64 o.Degree,x],.it (El.ow oL) [p] xs,.it (El.ow oL) [u] y,.it (El.ow oL) [a2] a0],?_,?_⟩
   ·refine ⟨fun _=>False,?_⟩;have az:=C;have g:=eX ae;repeat' first
     | refine And.intro ?_ ?_
     | (refine ZJ ?_;refine ldI_K (az.cells 1 rfl) 0 rfl rfl ?_)
     | (refine ZnF (E:=eI) C rfl aj fun i z1 xE C=>⟨eZ (g.trans xE),?_⟩;replace g:=g.trans xE)
     | (refine ZnF (E:=eI) C rfl aq fun i z1 xE C=>⟨eZ (g.trans xE),?_⟩;replace g:=g.trans xE)
     | (refine ZnF (E:=eI) C rfl ar fun i z1 xE C=>⟨eZ (g.trans xE),?_⟩;replace g:=g.trans xE)
     | (exact pk C [0,1,2,3,4,5,6,7,8,9])
     | (exact pk C [1,0,2,3,4,5,6,7,8,9])
     | (exact pk C [0,2,1,3,4,5,6,7,8,9])
     | (exact pk C [1,2,0,3,4,5,6,7,8,9])
     | (exact pk C [2,0,1,3,4,5,6,7,8,9])
     | (exact pk C [2,1,0,3,4,5,6,7,8,9])
   ·rintro _ a6 a7 a8 au C;refine ⟨fun b6 y8 a3=>∃ ak a9 aa ab,S ψ h a3 [.it oL [a8] ab,.it oL [a7] aa,.it oL [a6] a9,.it oL [a1] ak,.box b3 [.int .i64 a4,p,u,a2,a1],.box b2 [.int .i64 0,(.slice none 0 0),(.slice none 0 0),(.slice none 0 0),(.slice none 0 0)],.box b1 [.int .i64 o.Prime,.int .i64 o.Degree,x],.it (El.ow oL) [p] xs,.it (El.ow oL) [u] y,.it (El.ow oL) [a2] a0]/\loopN (Zec o a4 y4 xs y a0) b6 (y8,ak,a9,aa,ab)=some a,endI,?_⟩;rintro b6 _ y8 a3 ⟨ak,a9,aa,ab,C,b8⟩;obtain ⟨c7,c8,rfl,I,b9⟩:=Zh b8;refine bI C 4 0 ?_;refine brQ I (fun I=>?_) fun I=>?_
    ·refine ⟨fun _=>False,?_⟩;have f:=C;have k:=eX a3;refine lsA ?_;obtain ⟨c9,ba,I⟩:=obind I;refine ce0 C (fun s=>ZuP s.fle ba slA) fun bp xE C=>⟨_,rfl,eZ (k.trans xE),?_⟩;replace k:=k.trans xE;refine ZJ ?_;refine ldI_K (f.cells 6 rfl) 0 rfl rfl ?_;refine ZJ ?_;refine ldI_K (f.cells 6 rfl) 1 rfl rfl ?_;refine ZK ?_;refine ldV_K (f.cells 6 rfl) 2 rfl rfl ?_;obtain ⟨ca,bb,I⟩:=obind I;refine ce0 C (fun s=>ZuP s.fle bb slA) fun bq xE C=>⟨_,rfl,eZ (k.trans xE),?_⟩;replace k:=k.trans xE;refine ZJ ?_;refine ldI_K (f.cells 6 rfl) 0 rfl rfl ?_;refine ZJ ?_;refine ldI_K (f.cells 6 rfl) 1 rfl rfl ?_;refine ZK ?_;refine ldV_K (f.cells 6 rfl) 2 rfl rfl ?_;refine cm0 I C (fun s hx=>ZGg s hx slA) fun cb br C I=>⟨_,rfl,?_⟩;refine ixA slA I fun cc cd ad bc I=>?_;refine st1_S C 2 rfl ad bc rfl (fun _=>⟨rfl,rfl⟩) fun bt C=>?_;dsimp at C;refine ixA slA I fun ce cf bd b0 I=>?_;refine st1_S C 1 rfl bd b0 rfl (fun _=>⟨rfl,rfl⟩) fun bu C=>?_;dsimp at C;refine ixA slA I fun cg ch be b4 I=>?_;refine st1_S C 0 rfl be b4 rfl (fun _=>⟨rfl,rfl⟩) fun bv C=>?_;dsimp at C;refine ixI slA I fun cj I=>?_;refine brQ I (fun I=>?_) fun I=>?_
     ·refine bV C 4 4 ?_;refine ixA slA I fun ck cm bf b5 I=>?_;refine st1_S C 3 rfl bf b5 rfl (fun _=>⟨rfl,rfl⟩) fun bw C=>?_;dsimp at C;exact endL
     ·exact endL
    ·obtain ⟨cn,l,I⟩:=obind I;obtain ⟨co,w,I⟩:=obind I;obtain ⟨cp,ac,I⟩:=obind I;refine ⟨fun b=>blk p=some b\/blk u=some b,?_⟩;have j:=C;have c:ExtBut (fun b=>blk p=some b\/blk u=some b) a3 a3:=eY _ _;repeat' first
      | refine And.intro ?_ ?_
      | (refine ZG (C.rdL 2 rfl (Zk _)).one ?_)
      | (refine ZbN C fun i z1 xE C=>⟨c.trans (eZ xE),?_⟩;replace c:=c.trans (eZ xE))
      | (refine Zn1 (fun e=>Or.elim e (fun e=>j.boxNe 4 7 rfl rfl e) (fun e=>j.boxNe 4 8 rfl rfl e)) ?_)
      | (refine ldV_K (j.cells 4 rfl) 1 rfl rfl ?_)
      | (refine ldV_K (j.cells 4 rfl) 2 rfl rfl ?_)
      | (refine ldV_K (j.cells 4 rfl) 3 rfl rfl ?_)
      | (refine ZaQ C 4 rfl rfl rfl (C.rdL 7 rfl (ZI (Zk _))).one fun i C=>?_;refine ZaQ C 4 rfl rfl rfl (C.rdL 8 rfl (ZI (Zk _))).one fun z1 C=>?_;refine ZaQ C 4 rfl rfl rfl (C.rdL 9 rfl (ZI (Zk _))).one fun z2 C=>?_;dsimp at C)
      | (refine ZG (C.rdL 1 rfl (Zk _)).one ?_)
      | (refine ZG (C.rdL 3 rfl (Zk _)).one ?_)
      | (refine ZG (C.rdL 4 rfl (Zk _)).one ?_)
      | (refine ZG (C.rdL 0 rfl (Zk _)).one ?_)
      | (have C:=C.pull 3 rfl;dsimp only [List.eraseIdx] at C;refine Zao C 7 rfl 0 rfl rfl rfl l fun i z1 xE C=>⟨c.trans (xE.mono fun _ e=>.inl e),?_⟩;replace c:=c.trans (xE.mono fun _ e=>.inl e);dsimp at C)
      | (have C:=C.pull 3 rfl;dsimp only [List.eraseIdx] at C;refine Zao C 8 rfl 0 rfl rfl rfl w fun i z1 xE C=>⟨c.trans (xE.mono fun _ e=>.inr e),?_⟩;replace c:=c.trans (xE.mono fun _ e=>.inr e);dsimp at C)
      | (have C:=C.pull 3 rfl;dsimp only [List.eraseIdx] at C;refine Zao C 9 rfl 0 rfl rfl rfl ac fun i z1 xE C=>?_;dsimp at C)
      | (obtain ⟨i,z1,rfl⟩:=omap I;obtain rfl:=oI b9;exact ⟨_,_,_,_,_,_,_,pk C [3,4,5,6,7,8,9],z1⟩)
      | (have C:=C.pull 4 rfl;dsimp only [List.eraseIdx] at C;refine Zao C 9 rfl 1 rfl rfl rfl w fun i z1 xE C=>⟨c.trans (xE.mono fun _ e=>.inr e),?_⟩;replace c:=c.trans (xE.mono fun _ e=>.inr e);dsimp at C)
      | (have C:=C.pull 4 rfl;dsimp only [List.eraseIdx] at C;refine Zao C 9 rfl 0 rfl rfl rfl w fun i z1 xE C=>⟨c.trans (xE.mono fun _ e=>.inr e),?_⟩;replace c:=c.trans (xE.mono fun _ e=>.inr e);dsimp at C)
      | (have C:=C.pull 3 rfl;dsimp only [List.eraseIdx] at C;refine Zao C 9 rfl 1 rfl rfl rfl ac fun i z1 xE C=>?_;dsimp at C)
      | (have C:=C.pull 4 rfl;dsimp only [List.eraseIdx] at C;refine Zao C 8 rfl 1 rfl rfl rfl l fun i z1 xE C=>⟨c.trans (xE.mono fun _ e=>.inl e),?_⟩;replace c:=c.trans (xE.mono fun _ e=>.inl e);dsimp at C)
      | (have C:=C.pull 5 rfl;dsimp only [List.eraseIdx] at C;refine Zao C 9 rfl 2 rfl rfl rfl l fun i z1 xE C=>⟨c.trans (xE.mono fun _ e=>.inl e),?_⟩;replace c:=c.trans (xE.mono fun _ e=>.inl e);dsimp at C)
      | (have C:=C.pull 4 rfl;dsimp only [List.eraseIdx] at C;refine Zao C 8 rfl 0 rfl rfl rfl l fun i z1 xE C=>⟨c.trans (xE.mono fun _ e=>.inl e),?_⟩;replace c:=c.trans (xE.mono fun _ e=>.inl e);dsimp at C)
      | (have C:=C.pull 3 rfl;dsimp only [List.eraseIdx] at C;refine Zao C 8 rfl 1 rfl rfl rfl w fun i z1 xE C=>⟨c.trans (xE.mono fun _ e=>.inr e),?_⟩;replace c:=c.trans (xE.mono fun _ e=>.inr e);dsimp at C)
      | (have C:=C.pull 4 rfl;dsimp only [List.eraseIdx] at C;refine Zao C 9 rfl 2 rfl rfl rfl w fun i z1 xE C=>⟨c.trans (xE.mono fun _ e=>.inr e),?_⟩;replace c:=c.trans (xE.mono fun _ e=>.inr e);dsimp at C)
      | (have C:=C.pull 5 rfl;dsimp only [List.eraseIdx] at C;refine Zao C 9 rfl 1 rfl rfl rfl l fun i z1 xE C=>⟨c.trans (xE.mono fun _ e=>.inl e),?_⟩;replace c:=c.trans (xE.mono fun _ e=>.inl e);dsimp at C)
      | (have C:=C.pull 5 rfl;dsimp only [List.eraseIdx] at C;refine Zao C 9 rfl 0 rfl rfl rfl l fun i z1 xE C=>⟨c.trans (xE.mono fun _ e=>.inl e),?_⟩;replace c:=c.trans (xE.mono fun _ e=>.inl e);dsimp at C)
      | (have C:=C.pull 3 rfl;dsimp only [List.eraseIdx] at C;refine Zao C 9 rfl 2 rfl rfl rfl ac fun i z1 xE C=>?_;dsimp at C)
  ·rintro _ al ⟨af,am,ag,an,ah,ao,ai,C,I⟩;exact endL
 ·refine lsA ?_;(iterate 5 refine boxA fun bi C=>?_);refine lsA ?_;obtain rfl:=oI I;obtain rfl:=oI O;exact endR
theorem Zxx {a v0 c p1 r} (I:ZfJ a c=some r) (f:sc h eI v0 a) (e:CellsC (hcell h) p1 [.int .i64 c]):zR 170 #[v0,.pointer (some p1)] h ψ (.bool r):=by
 refine zv annO Tryz.func170 ?_;have C:=sZ hψ;refine kI e C.le 0 ?_;refine ixI slA I fun g I=>?_;exact tZ
end
theorem Zwa {ψ:CM} {c h:Heap} {os:List Ob} {e:Z2} {g i j k:Value} {o:List Int} {v1:Value} {l:List Int} {v2:Value} {a1:Int} {r:List Int} (I:ZcL e o l a1=some r) (C:S ψ c h (.it oL [v1] o::os)) (u:SlC (UB ψ c) eL g e.qadd) (a3:SlC (UB ψ c) eL i e.qsub) (w:SlC (UB ψ c) eL j e.qmul) (a4:SlC (UB ψ c) eI k e.qinv) (f2:SlC (UB ψ c) eI v2 l):CallsH P 171 #[.agg #[.int .i64 e.qq,g,i,j,k],v1,v2,.int .i64 a1] h (fun v h'=>v=.tuple #[]/\S ψ c h' (.it oL [v1] r::os)):=by
 refine zv ⟨[(2,[(12,tkI)])],[],[],[]⟩ Tryz.func171 ?_;refine new_S C fun b4 a7 C=>?_;refine vL f2 C.leU ?_;obtain ⟨a2,x⟩:=Zax I;refine ⟨fun n p s=>∃ xs,S ψ c s (.box b4 [.int .i64 e.qq,g,i,j,k]::.it oL [v1] xs::os)/\loopN (Zb7 e l a1) n (p,xs)=some r,⟨a2,_,pkT C 2 [0,1],x⟩,?_⟩;rintro n _ p s ⟨xs,C,x⟩;obtain ⟨m,a,rfl,I,O⟩:=Zh x;refine brQ I (fun I=>?_) fun I=>?_
 ·refine ixI slA I fun a8 I=>?_;refine bV C 0 1 ?_;refine ixI slA I fun a9 I=>?_;refine ixV u C.leU I fun aa ab f I=>?_;refine bV C 0 3 ?_;refine ixV w C.leU I fun ac ad ae I=>?_;refine ixI slA I fun af I=>?_;refine ixI slA I fun ag I=>?_;refine ixA slA I fun ah ai y a0 I=>?_;refine st1_S C 1 rfl y a0 rfl (fun _=>⟨rfl,rfl⟩) fun aj C=>?_;dsimp at C;obtain rfl:=oI I;exact ⟨m,ltS,_,pkT C 2 [0,1],O⟩
 ·obtain rfl:=oI I;obtain rfl:=oI O;exact ⟨rfl,pkT C 2 [1]⟩
theorem r2_impl_arithmetic_addTimes {ψ:CM} {g h:Heap} {os:List Ob} {c:Z2} {l o p s:Value} {a7:List (List Int)} {v u w:Value} {ps:List (Nat×Value)} {i j:Int} {xs ys:List Int} {aa:Int} {r:List Int} (I:ZcL c xs ys aa=some r) (C:S ψ g h (.it (El.pins eI ps) [v] a7::os))
    (n1:Nat) (h1:ps[n1]?=some (i.toNat,u)) (n2:Nat) (h2:ps[n2]?=some (j.toNat,w)) (ca:i≠j) (aj:gIdx a7 i=some xs) (a4:gIdx a7 j=some ys) (a8:SlC (UB ψ g) eL l c.qadd) (am:SlC (UB ψ g) eL o c.qsub) (a9:SlC (UB ψ g) eL p c.qmul) (an:SlC (UB ψ g) eI s c.qinv):
    CallsH P 171 #[.agg #[.int .i64 c.qq,l,o,p,s],u,w,.int .i64 aa] h (fun v' h'=>v'=.tuple #[]/\S ψ g h' (.it (El.pins eI ps) [v] (a7.set i.toNat r)::os)):=by
  refine zv ⟨[(2,[(12,tkI)])],[],[],[]⟩ Tryz.func171 ?_;obtain ⟨i0,i1⟩:=ZaD aj;obtain ⟨j0,j1⟩:=ZaD a4;have bn:∀ zs:List Int,gIdx (a7.set i.toNat zs) i=some zs/\gIdx (a7.set i.toNat zs) j=some ys:=fun zs=>by
    unfold gIdx;rw [if_pos i0,if_pos j0,List.getElem?_set_self (ZT i1),List.getElem?_set_ne ω]
    exact ⟨rfl,j1⟩
  have same:a7.set i.toNat xs=a7:=by
    apply List.ext_getElem?;intro k;rw [List.getElem?_set];split
    · rename_i e;subst e;rw [if_pos (ZT i1),i1]
    · rfl
  refine new_S C fun b4 aw C=>?_;refine Zm (C.rowP 1 rfl n2 h2 a4 (Zk _)) ?_;obtain ⟨ak,hn⟩:=Zax I;refine ⟨fun n a5 a6=>∃ zs,S ψ g a6 (.box b4 [.int .i64 c.qq,l,o,p,s]::.it (El.pins eI ps) [v] (a7.set i.toNat zs)::os)/\loopN (Zb7 c ys aa) n (a5,zs)=some r,⟨ak,xs,by rw [same];exact C,hn⟩,?_⟩
  rintro n _ a5 a6 ⟨zs,C,hn⟩;obtain ⟨m,a,rfl,I,O⟩:=Zh hn;obtain ⟨k1,k2⟩:=bn zs;refine bifP I (fun hc I=>?_) (fun hc I=>?_)
  · obtain ⟨ax,hx,I⟩:=obind I;refine Z4 (C.rowP 1 rfl n2 h2 k2 (Zk _)) hx fun ay ad=>?_;refine ldI_C (C.rowP 1 rfl n2 h2 k2 (Zk _)) ad hx ?_;refine ldV_K (C.cells 0 rfl) 1 rfl rfl ?_;obtain ⟨az,x,I⟩:=obind I;refine Z4 (C.rowP 1 rfl n1 h1 k1 (Zk _)) x fun b0 ac=>?_;refine ldI_C (C.rowP 1 rfl n1 h1 k1 (Zk _)) ac x ?_;obtain ⟨b1,y,I⟩:=obind I;refine Z4 slA y fun b2 ae=>?_;refine ldV_C a8 C.leU ae y fun b3 f=>?_;refine ldV_K (C.cells 0 rfl) 3 rfl rfl ?_;obtain ⟨b5,a0,I⟩:=obind I;refine Z4 slA a0 fun b6 af=>?_;refine ldV_C a9 C.leU af a0 fun b7 b8=>?_;obtain ⟨b9,a1,I⟩:=obind I;refine Z4 slA a1 fun ba ag=>?_;refine ldI_C slA ag a1 ?_;obtain ⟨bb,a2,I⟩:=obind I;refine Z4 slA a2 fun bc ah=>?_;refine ldI_C slA ah a2 ?_;obtain ⟨bd,a3,I⟩:=obind I;refine Z4 (C.rowP 1 rfl n1 h1 k1 (Zk _)) a3 fun be ai=>?_;refine ZrQ C 1 rfl n1 h1 k1 ai a3 rfl (fun _=>⟨rfl,rfl⟩) fun bf C=>?_;dsimp at C;rw [List.set_set] at C;obtain rfl:=oI I;exact ⟨m,Nat.lt_succ_self _,_,C,O⟩
  · obtain rfl:=oI I;obtain rfl:=oI O;exact ⟨rfl,C.pickT 2 [1] (by decide) (by decide)⟩
end Go.Proofs.YtepnljbkgjbbmaaGreatDoor
