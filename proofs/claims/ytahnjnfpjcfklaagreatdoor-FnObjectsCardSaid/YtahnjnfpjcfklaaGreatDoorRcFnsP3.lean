import Derived.Test.YtahnjnfpjcfklaaGreatDoorVcLw
import Derived.Test.YtahnjnfpjcfklaaGreatDoorVcAu
import Derived.Test.YtahnjnfpjcfklaaGreatDoorVcDn
import Derived.Test.YtahnjnfpjcfklaaGreatDoorRcFnsP2
open Go.IntKind renaming i64->ε
namespace Go.Proofs.YtahnjnfpjcfklaaGreatDoor
open Go Go.Vc
set_option linter.unusedVariables false
set_option linter.unusedSimpArgs false
set_option maxRecDepth 20000
set_option maxHeartbeats 4000000
attribute [local irreducible] CallsQ vLen vIdx IntKind.wrap hcell vNew vNewS vSliceS vStore1 vAppend vMake vCopy vB2S vS2B vNilS vSliceStr
section
variable {ψ:CM} {h:Heap} (hψ:CLe ψ (hcell h))
include hψ
theorem ZCx {a0 e r} (N:ZjQ a0=some r) (g:sc h eL e a0.Rows):zR 33 #[.agg #[.int .i64 a0.Levels,.int .i64 a0.Columns,e]] h ψ (.bool r):=by
 refine zS hψ ⟨an [[4,120]],an [[3]],[],[(6,⟨kdL [0,3,0,2,0,0,0,0,4,0],.fin (rgs [(0,10)]),true⟩)]⟩ Tryz.func33 fun C=>?_;refine new_S C fun w a4 C=>?_;refine ⟨fun k=>S ψ h k [.box w [.int .i64 a0.Levels,.int .i64 a0.Columns,e]]/\Zon a0=some r,?_,?_⟩
 ·refine lsA ?_;refine cm0 N C (fun s hx=>ZA5 s hx) fun r9 a5 C N=>⟨_,rfl,?_⟩
  refine brZ fun N=>?_;refine bV C 0 2 ?_;refine vL g C.le ?_;refine brZ fun N=>?_;exact endC
 ·rintro _ k ⟨C,N⟩;refine bV C 0 2 ?_;refine vL g C.le ?_;refine lp1 (os:=[.box w [.int .i64 a0.Levels,.int .i64 a0.Columns,e]]) N (pk C [0]) fun m a6 x a C N O=>?_;refine brY fun N=>?_;refine ixV g C.le N fun a7 a8 f N=>?_;refine ⟨fun _=>False,?_⟩;have j:=C;have i:=eX x;obtain ⟨a9,o,N⟩:=obind N;refine ce0 C (fun s=>Zbl s.fle o slA) fun aa xE C=>⟨_,rfl,eZ (i.trans xE),?_⟩
  replace i:=i.trans xE;refine ZT ?_;refine ldI_K (j.cells 0 rfl) 1 rfl rfl ?_;refine brZ fun N=>?_;refine cl0 N C (fun y _ _ u=>ZeF y.fle u slA κ (fun l=>fun v=>fun a2  =>ZA6 v a2 ((C.cells 0 rfl).mono (CLe.ext l)) ((g.mono C.le).mono (CLe.ext l)))) fun ab ac C N=>⟨_,rfl,?_⟩
  refine brZ fun N=>?_;exact endL
theorem ZGb {j i r} (N:Zf1 j=some r) (f:sc h eL i j.Rows):CallsH P 34 #[.agg #[.int .i64 j.Kind,.int .i64 j.Size,i]] h (fun v h'=>∃ w0,v=.agg #[.int .i64 r.Levels,.int .i64 r.Columns,w0]/\S ψ h h' [.it (El.ow oL) [w0] r.Rows]):=by
 refine zS hψ ⟨[],[],[],[(1,⟨kdL [0,2,0,2,3,0,3,4],.both (.fin [2,3,4,6,0,1,5,7]) (.fin [6,2,3,4,0,1,5,7]),true⟩)]⟩ Tryz.func34 fun C=>?_;refine new_S C fun b1 ak C=>?_;refine new_S C fun b2 k C=>?_;obtain ⟨r8,g,N⟩:=obind N;refine ⟨fun _=>False,?_⟩;have e:=C;have a:=eX k;refine ⟨?_,?_⟩
 ·refine Z4 ?_;refine ldV_K (e.cells 1 rfl) 2 rfl rfl ?_;refine ce1 C (fun s=>Zde s.fle g slA) fun a2 a3 xE C=>⟨_,rfl,eZ (a.trans xE),?_⟩
  replace a:=a.trans xE;refine Zmv C fun a4 a5 xE C=>⟨eZ (a.trans xE),?_⟩
  replace a:=a.trans xE;refine ZT ?_;refine ldI_K (e.cells 1 rfl) 1 rfl rfl ?_;refine Zh oneA ?_
  (iterate 3 refine boxA fun a6 C=>?_)
  refine bV C 3 2 ?_;refine vL f C.le ?_;apply brQ N<;>intro N
  ·refine bV C 3 2 ?_;refine ixV f C.le N fun l o al N=>?_;refine cm0 N C (fun s g=>Zbl s g slA) fun u a7 C N=>⟨_,rfl,?_⟩
   refine boxA fun a8 C=>?_;refine lsA ?_
   (iterate 3 refine boxA fun a9 C=>?_)
   refine lsA ?_;exact endS
  ·refine lsA ?_
   (iterate 3 refine boxA fun aa C=>?_)
   refine lsA ?_;exact endS
 ·refine Zmv C fun ab ac xE C=>⟨eZ (a.trans xE),?_⟩
  replace a:=a.trans xE;refine Z4 ?_;refine ldV_K (e.cells 1 rfl) 2 rfl rfl ?_;refine ce1 C (fun s=>Zde s.fle g slA) fun ad ae xE C=>⟨_,rfl,eZ (a.trans xE),?_⟩
  replace a:=a.trans xE;refine ZT ?_;refine ldI_K (e.cells 1 rfl) 1 rfl rfl ?_;refine Zh oneA ?_
  (iterate 3 refine boxA fun af C=>?_)
  refine bV C 3 2 ?_;refine vL f C.le ?_;apply brQ N<;>intro N
  ·refine bV C 3 2 ?_;refine ixV f C.le N fun w x am N=>?_;refine cm0 N C (fun s g=>Zbl s g slA) fun y ag C N=>⟨_,rfl,?_⟩
   refine boxA fun ah C=>?_;refine lsA ?_
   (iterate 3 refine boxA fun ai C=>?_)
   refine lsA ?_;exact endS
  ·refine lsA ?_
   (iterate 3 refine boxA fun aj C=>?_)
   refine lsA ?_;exact endS
theorem Zgf {e i limit2 r} (N:ZbT e i limit2=some r)  :zR 84 #[.int .i64 e,.int .i64 i,.int .i64 limit2] h ψ (.int .i64 r):=by
 refine zU [[2,6,42]] [[4]] Tryz.func84 fun C=>?_;refine lp2 N (nlS C) fun m g k j a C N O=>?_;refine ⟨fun f=>S ψ h f []/\Zgg e g k=some a,?_,?_⟩
 ·refine brY fun N=>?_;exact brQ N (fun N=>tZ) fun N=>tZ
 ·rintro _ f ⟨C,N⟩;exact tZ
theorem Zjn {e a r} (N:Zb8 e=some r) (f:sc h eI a e.Poly):zR 85 #[.agg #[.int .i64 e.Prime,.int .i64 e.Degree,a]] h ψ (.int .i64 r):=by
 refine zO Tryz.func85 fun C=>?_;refine new_S C fun k i C=>?_;refine lsA ?_;refine cm0 N C (fun s g=>Zgf s g) fun l j C N=>⟨_,rfl,?_⟩
 exact tZ
theorem Zcq {n0 e count2 r} (N:ZaS n0 e count2=some r)  :zL 162 #[.int .i64 n0,.int .i64 e,.int .i64 count2] h ψ eI r:=by
 refine zT [[3,0,78]] Tryz.func162 fun C=>?_;refine mkO eI N fun l j o C N=>?_;refine Zy slA ?_;refine lw21 N (fun f g xs=>([.it oL [j] xs],f,g,xs)) fun f g s xs a C N O=>?_;apply brQ N<;>intro N
 ·refine gzA N fun N=>?_;refine ixA slA N fun u v k i N=>?_;refine st1_S C 0 rfl k i rfl (fun _=>⟨rfl,rfl⟩) fun w C=>?_;dsimp at C;refine gzA N fun N=>?_;exact endL
 ·exact endX
theorem Ztt {o v0 f v1 u r} (N:Zc2 o f u=some r) (f0:sc h eI v0 o) (v:sc h eI v1 f):zL 229 #[v0,v1,.int .i64 u] h ψ eI r:=by
 refine zT [[4,54],[8,198]] Tryz.func229 fun C=>?_;refine cm1 N C (fun s x=>ZjT s x slA) fun y g a2 C N=>⟨_,rfl,?_⟩
 refine vL v C.le ?_;refine Zy slA ?_;refine lw11 N (fun w xs=>([.it oL [g] xs],w,xs)) fun w a3 xs a C N O=>?_;apply brQ N<;>intro N
 ·refine ixI slA N fun a4 N=>?_;refine vL v C.le ?_;refine lw11 N (fun i e=>([.it oL [g] e],i,e)) fun i a5 e a6 C N O=>?_;apply brQ N<;>intro N
  ·refine ixI slA N fun a7 N=>?_;refine ixI slA N fun a8 N=>?_;refine gzA N fun N=>?_;refine gzA N fun N=>?_;refine ixA slA N fun a9 aa j k N=>?_;refine st1_S C 0 rfl j k rfl (fun _=>⟨rfl,rfl⟩) fun ab C=>?_;dsimp at C;exact endL
  ·exact endX
 ·refine Zy slA ?_;obtain ⟨ac,l,N⟩:=obind N;refine cut_S none (some (if ((xs.length:Int):Int)<(ε.wrap ((f.length:Int)-1)) then (xs.length:Int) else ε.wrap ((f.length:Int)-1))) C 0 rfl l rfl fun ad C=>?_;dsimp at C;exact endX
theorem ZC9 {a r} (N:Zil a=some r)  :zR 287 #[.int .i64 a] h ψ (.bool r):=by
 refine zO Tryz.func287 fun C=>?_;exact tZ
theorem ZGD {a v0 r} (N:ZkR a=some r) (k:sc h eI v0 a):zR 231 #[v0] h ψ (.bool r):=by
 refine zO Tryz.func231 fun C=>?_;refine cl0 N C (fun s _ _ g=>ZeF s.fle g slA κ (fun i=>fun e=>fun f  =>ZC9 e f )) fun l j C N=>⟨_,rfl,?_⟩
 exact tZ
theorem Zqs {f v0 p1 r} (N:Zf6 f p1=some r) (f0:sc h eI v0 f):zR 161 #[v0,.int .i64 p1] h ψ (.bool r):=by
 refine zT [[3,36],[6,42]] Tryz.func161 fun C=>?_;refine cm0 N C (fun s e=>Zbl s e slA) fun r9 g C N=>⟨_,rfl,?_⟩
 refine lp1 N (nlS C) fun m d6 i a C N O=>?_;refine brY fun N=>?_;refine lp1 N (nlS C) fun j n7 k l C N O=>?_;refine cm0 N C (fun s e=>Zgf s e) fun o u C N=>⟨_,rfl,?_⟩
 apply brQ N<;>intro N
 ·refine cm1 N C (fun s e=>Zcq s e) fun v w x C N=>⟨_,rfl,?_⟩
  refine puA N 0 fun y a2 a3 C N=>?_;refine cm1 N C (fun s e=>Ztt s e slA slA) fun a4 a5 a6 C N=>⟨_,rfl,?_⟩
  refine cm0 N C (fun s e=>ZGD s e slA) fun a7 a8 C N=>⟨_,rfl,?_⟩
  apply brQ N<;>intro N
  ·exact endX
  ·exact endX
 ·exact endX
theorem Zsf {n0 r} (N:ZcK n0=some r)  :zL 230 #[.int .i64 n0] h ψ eI r:=by
 refine zT [[5,0,19,24],[7,0,19]] Tryz.func230 fun C=>?_;refine cm0 N C (fun s k=>Zat s k) fun r6 l C N=>⟨_,rfl,?_⟩
 apply brQ N<;>intro N
 ·exact endX
 ·have C:=C.nilO (E:=eI);refine lw31 N (fun e i j a6=>([.it oL [i] a6],e,a6,j)) fun e i j o a6 a C N O=>?_;apply brQ N<;>intro N
  ·refine lw21 N (fun f g a5=>([.it oL [g] a5],f,a5)) fun f g u a5 v C N O=>?_;refine gzA N fun N=>?_;apply brQ N<;>intro N
   ·refine puA N 0 fun w x y C N=>?_;refine gzA N fun N=>?_;exact endL
   ·exact endX
  ·apply brQ N<;>intro N
   ·refine puA N 0 fun a2 a3 a4 C N=>?_;exact endX
   ·exact endX
theorem ZG5 {n0 r} (N:ZkE n0=some r)  :zR 226 #[.int .i64 n0] h ψ (.bool r):=by
 refine zO Tryz.func226 fun C=>?_;refine cm1 N C (fun s a=>Zsf s a) fun f g e C N=>⟨_,rfl,?_⟩
 refine Zy slA ?_;exact tZ
theorem Zz7 {e f r} (N:Zgo e=some r) (o:sc h eI f e.Poly):zR 150 #[.agg #[.int .i64 e.Prime,.int .i64 e.Degree,f]] h ψ (.bool r):=by
 refine zS hψ ⟨an [[6,246]],an [[3],[5]],[],[(3,⟨kdL [0,1,3,0,2,0,0,0,0,1,0,1,0,1,0,0],.fin (rgs [(0,16)]),true⟩)]⟩ Tryz.func150 fun C=>?_;refine new_S C fun u x C=>?_;refine ⟨fun j=>S ψ h j [.box u [.int .i64 e.Prime,.int .i64 e.Degree,f]]/\ZkF e=some r,?_,?_⟩
 ·refine bI C 0 0 ?_;refine cm0 N C (fun s g=>ZG5 s g) fun r7 y C N=>⟨_,rfl,?_⟩
  refine brZ fun N=>?_;refine bI C 0 1 ?_;refine brZ fun N=>?_;refine lsA ?_;refine cm0 N C (fun s g=>Zgf s g) fun a2 w C N=>⟨_,rfl,?_⟩
  refine brZ fun N=>?_;exact endC
 ·rintro _ j ⟨C,N⟩;refine ⟨fun l=>S ψ h l [.box u [.int .i64 e.Prime,.int .i64 e.Degree,f]]/\ZhZ e=some r,?_,?_⟩
  ·refine ⟨fun _=>False,?_⟩;have k:=C;have i:=eX j;refine bV C 0 2 ?_;obtain ⟨a3,v,N⟩:=obind N;refine ce0 C (fun s=>Zbl s.fle v slA) fun a4 xE C=>⟨_,rfl,eZ (i.trans xE),?_⟩
   replace i:=i.trans xE;refine ZT ?_;refine ldI_K (k.cells 0 rfl) 1 rfl rfl ?_;refine brZ fun N=>?_;refine lsA ?_;refine ixI slA N fun a5 N=>?_;refine brZ fun N=>?_;exact endC
  ·rintro _ l ⟨C,N⟩;refine bV C 0 2 ?_;refine vL o C.le ?_;refine lp1 (os:=[.box u [.int .i64 e.Prime,.int .i64 e.Degree,f]]) N (pk C [0]) fun m a6 a7 a C N O=>?_;apply brQ N<;>intro N
   ·refine ixI slA N fun a8 N=>?_;refine bI C 0 0 ?_;refine cm0 N C (fun s g=>Zat s g) fun a9 aa C N=>⟨_,rfl,?_⟩
    refine brZ fun N=>?_;exact endL
   ·refine lsA ?_;refine cm0 N C (fun s g=>Zqs s g slA) fun ab ac C N=>⟨_,rfl,?_⟩
    exact tZ
theorem ZAJ {a e p1 r} (N:Zd0 a e=some r) (f:CellsC (hcell h) p1 [.int .i64 e]):zR 227 #[.int .i64 a,.pointer (some p1)] h ψ (.bool r):=by
 refine zO Tryz.func227 fun C=>?_;refine kI f C.le 0 ?_;refine cm0 N C (fun s g=>Zat s g) fun j i C N=>⟨_,rfl,?_⟩
 exact tZ
theorem ZwK {f a v1 r} (N:Zlu f a=some r) (o:sc h eI v1 a):zR 152 #[.int .i64 f,v1] h ψ (.bool r):=by
 refine zO Tryz.func152 fun C=>?_;refine new_S C fun u k C=>?_;refine cl0 N C (fun s _ _ j=>ZeF s.fle j slA κ (fun g=>fun e=>fun i  =>ZAJ e i ((C.cells 0 rfl).mono (CLe.ext g)))) fun v l C N=>⟨_,rfl,?_⟩
 exact tZ
theorem ZxT {a v0 e p1 v1 g p2 r} (N:ZfD a e g=some r) (k:sc h eI v0 a) (i:CellsC (hcell h) p1 [v1]) (l:sc h eL v1 e) (j:CellsC (hcell h) p2 [.int .i64 g]):zR 151 #[v0,.pointer (some p1),.pointer (some p2)] h ψ (.bool r):=by
 refine zO Tryz.func151 fun C=>?_;refine vL k C.le ?_;refine kV i C.le 0 ?_;refine ixV l C.le N fun w x f N=>?_;refine vL f C.le ?_;refine brZ fun N=>?_;refine kI j C.le 0 ?_;refine cm0 N C (fun s o=>ZwK s o slA) fun u v C N=>⟨_,rfl,?_⟩
 exact tZ
theorem ZC0 {e g k v1 r} (N:Zfn e k=some r) (y:sc h eI g e.Poly) (u:sc h eL v1 k):zR 83 #[.agg #[.int .i64 e.Prime,.int .i64 e.Degree,g],v1] h ψ (.bool r):=by
 refine zU [] [[3]] Tryz.func83 fun C=>?_;refine new_S C fun b2 a8 C=>?_;refine Zh oneA ?_;refine new_S C fun b3 a9 C=>?_;refine ⟨fun j=>S ψ h j [.box b3 [v1],.box b2 [.int .i64 e.Prime,.int .i64 e.Degree,g]]/\Zmn e k=some r,?_,?_⟩
 ·refine lsA ?_;refine cm0 N C (fun s a=>Zz7 s a slA) fun r7 aa C N=>⟨_,rfl,?_⟩
  refine brZ fun N=>?_;refine bV C 0 0 ?_;refine cm0 N C (fun s a=>Zb5 s a slA) fun ab a4 C N=>⟨_,rfl,?_⟩
  refine cm0 N C (fun s a=>Zat s a) fun ac a5 C N=>⟨_,rfl,?_⟩
  refine brZ fun N=>?_;refine bV C 0 0 ?_;refine ixV u C.le N fun ad ae f N=>?_;refine cm0 N C (fun s a=>Zbl s a slA) fun af a6 C N=>⟨_,rfl,?_⟩
  refine cm0 N C (fun s a=>Zat s a) fun ag a7 C N=>⟨_,rfl,?_⟩
  refine brZ fun N=>?_;exact endC
 ·rintro _ j ⟨C,N⟩;refine lsA ?_;refine cm0 N C (fun s a=>Zjn s a slA) fun ah ai C N=>⟨_,rfl,?_⟩
  refine new_S C fun b5 aj C=>?_;refine boxA fun ak C=>?_;refine bV C 1 0 ?_;refine cl0 N C (fun v _ _ l=>Zlv v.fle l slA κ (fun i=>fun o=>fun w x=>ZxT o w x ((C.cells 1 rfl).mono (CLe.ext i)) ((u.mono C.le).mono (CLe.ext i)) ((C.cells 0 rfl).mono (CLe.ext i)))) fun al am C N=>⟨_,rfl,?_⟩
  exact tZ
theorem ZqF {digits0 v0 e r} (N:ZkT digits0 e=some r) (f:sc h eI v0 digits0):zR 228 #[v0,.int .i64 e] h ψ (.int .i64 r):=by
 refine zT [[3,30,36]] Tryz.func228 fun C=>?_;refine vL f C.le ?_;refine lp2 N (nlS C) fun m j k6 g a C N O=>?_;refine brY fun N=>?_;refine ixI slA N fun i N=>?_;exact tZ
theorem ZsZ {j e a1 v g r} (N:Zfl j a1 v g=some r) (a3:sc h eI e j.Poly):zR 153 #[.agg #[.int .i64 j.Prime,.int .i64 j.Degree,e],.int .i64 a1,.int .i64 v,.int .i64 g] h ψ (.int .i64 r):=by
 refine zS hψ ⟨an [[3,156]],[],[],[(1,⟨kdL [0,0,1,0,1,3,0,0,2,0,2,4,0,0],.fin (rgs [(0,14)]),true⟩)]⟩ Tryz.func153 fun C=>?_;refine new_S C fun b4 w C=>?_;refine ⟨fun _=>False,?_⟩;have i:=C;have f:=eX w;refine lsA ?_;obtain ⟨a5,k,N⟩:=obind N;refine ce1 C (fun s=>Zcq s.fle k) fun x a6 xE C=>⟨_,rfl,eZ (f.trans xE),?_⟩
 replace f:=f.trans xE;refine ZT ?_;refine ldI_K (i.cells 0 rfl) 0 rfl rfl ?_;refine ZT ?_;refine ldI_K (i.cells 0 rfl) 1 rfl rfl ?_;refine cm1 N C (fun s k=>Zcq s k) fun y a2 a7 C N=>⟨_,rfl,?_⟩
 refine Zy slA ?_;refine lw11 N (fun l xs=>([.it oL [a2] y,.it oL [x] xs,.box b4 [.int .i64 j.Prime,.int .i64 j.Degree,e]],l,xs)) fun l a8 xs a C N O=>?_;apply brQ N<;>intro N
 ·refine ixI slA N fun a9 N=>?_;refine ixI slA N fun aa N=>?_;refine lsA ?_;refine gzA N fun N=>?_;refine ixA slA N fun ab ac o u N=>?_;refine st1_S C 1 rfl o u rfl (fun _=>⟨rfl,rfl⟩) fun ad C=>?_;dsimp at C;exact endL
 ·refine bI C 2 0 ?_;refine cm0 N C (fun s k=>ZqF s k slA) fun ae af C N=>⟨_,rfl,?_⟩
  exact tZ
theorem ZB0 {g e y1 y2 r} (N:ZkY g y1 y2=some r) (ac:sc h eI e g.Poly):zR 154 #[.agg #[.int .i64 g.Prime,.int .i64 g.Degree,e],.int .i64 y1,.int .i64 y2] h ψ (.int .i64 r):=by
 refine zS hψ ⟨an [[4,180],[7,210]],[],[],[(1,⟨kdL [0,0,1,0,1,3,0,0,2,0,2,4,0,0],.fin (rgs [(0,14)]),true⟩),(12,⟨kdL [0,0,1,0,1,3,0,2,4,0],.fin (rgs [(0,10)]),true⟩)]⟩ Tryz.func154 fun C=>?_;refine new_S C fun b3 aa C=>?_;refine ⟨fun _=>False,?_⟩;have k:=C;have i:=eX aa;refine lsA ?_;obtain ⟨u,l,N⟩:=obind N;refine ce1 C (fun s=>Zcq s.fle l) fun v ae xE C=>⟨_,rfl,eZ (i.trans xE),?_⟩
 replace i:=i.trans xE;refine ZT ?_;refine ldI_K (k.cells 0 rfl) 0 rfl rfl ?_;refine ZT ?_;refine ldI_K (k.cells 0 rfl) 1 rfl rfl ?_;refine cm1 N C (fun s l=>Zcq s l) fun w x af C N=>⟨_,rfl,?_⟩
 refine bI C 2 1 ?_;refine mkO eI N fun ag y ah C N=>?_;refine Zy slA ?_;refine lw11 N (fun a2 xs=>([.it oL [y] xs,.it oL [x] w,.it oL [v] u,.box b3 [.int .i64 g.Prime,.int .i64 g.Degree,e]],a2,xs)) fun a2 ab xs a C N O=>?_;apply brQ N<;>intro N
 ·refine Zy slA ?_;refine lw11 N (fun a3 j=>([.it oL [y] j,.it oL [x] w,.it oL [v] u,.box b3 [.int .i64 g.Prime,.int .i64 g.Degree,e]],a3,j)) fun a3 ai j aj C N O=>?_;apply brQ N<;>intro N
  ·refine ixI slA N fun ak N=>?_;refine ixI slA N fun al N=>?_;refine ixI slA N fun am N=>?_;refine bI C 3 0 ?_;refine gzA N fun N=>?_;refine ixA slA N fun ao ap a4 a5 N=>?_;refine st1_S C 0 rfl a4 a5 rfl (fun _=>⟨rfl,rfl⟩) fun aq C=>?_;dsimp at C;exact endL
  ·exact endX
 ·refine ⟨fun _=>False,?_⟩;have o:=C;have f:=eX ab;refine lsA ?_;obtain ⟨ar,a6,N⟩:=obind N;refine ce1 C (fun s=>Ztt s.fle a6 slA slA) fun au av xE C=>⟨_,rfl,eZ (f.trans xE),?_⟩
  replace f:=f.trans xE;refine ZT ?_;refine ldI_K (o.cells 3 rfl) 0 rfl rfl ?_;refine cm0 N C (fun s l=>ZqF s l slA) fun aw ad C N=>⟨_,rfl,?_⟩
  exact tZ
theorem Zvk {y a2 r} (N:Zhc y=some r) (bn:sc h eI a2 y.Poly):CallsH P 86 #[.agg #[.int .i64 y.Prime,.int .i64 y.Degree,a2]] h (fun v h'=>∃ w0 w1 w2 w3,v=.agg #[.int .i64 r.qq,w0,w1,w2,w3]/\S ψ h h' [.it (El.ow oL) [w0] r.qadd,.it (El.ow oL) [w1] r.qsub,.it (El.ow oL) [w2] r.qmul,.it oL [w3] r.qinv]):=by
 refine zS hψ ⟨an [[4,24],[8,48]],an [[5],[7,31,37,43]],[],[(6,⟨kdL [0,2,3,0,2,3,0,2,3,0,0,0],.both (.sg [0,1,2] (.both (.fin (rgs [(3,9)])) (.fin [6,7,8,3,4,5,9,10,11]))) (.both (.sg [3,4,5] (.both (.fin (rgs [(0,3),(6,6)])) (.fin [6,7,8,0,1,2,9,10,11]))) (.sg [6,7,8] (.both (.fin (rgs [(0,6),(9,3)])) (.fin [3,4,5,0,1,2,9,10,11])))),true⟩),(10,⟨kdL [0,0,0,0,0,0,1,0,0,3,2,0,0,3,2,0,0,4,0,4,0,4,0,4],.fin (rgs [(6,12),(0,2),(18,2),(2,2),(20,2),(4,2),(22,2)]),true⟩),(13,⟨kdL [0,2,0,3,3,0,2,0,3,3,0,2,0,3,4,0,4,0,4,0,4],.both (.sg [2,3] (.both (.sg [0,1,4] (.both (.sg [7,8] (.both (.fin [5,6,9,12,13,10,11,14,15,16,17,18,19,20]) (.fin (rgs [(12,2),(5,2),(9,3),(14,7)])))) (.fin (rgs [(12,2),(7,2),(5,2),(9,3),(14,7)])))) (.both (.sg [7,8] (.both (.sg [0,1,4] (.both (.fin [5,6,9,12,13,10,11,14,15,16,17,18,19,20]) (.fin (rgs [(12,2),(5,2),(9,3),(14,7)])))) (.fin (rgs [(12,2),(0,2),(4,3),(9,3),(14,7)])))) (.sg [12,13] (.both (.fin [0,1,4,7,8,5,6,9,10,11,14,15,16,17,18,19,20]) (.fin (rgs [(7,2),(0,2),(4,3),(9,3),(14,7)]))))))) (.both (.sg [7,8] (.both (.sg [2,3] (.both (.sg [0,1,4] (.both (.fin [5,6,9,12,13,10,11,14,15,16,17,18,19,20]) (.fin (rgs [(12,2),(5,2),(9,3),(14,7)])))) (.fin (rgs [(12,2),(0,2),(4,3),(9,3),(14,7)])))) (.fin (rgs [(12,2),(2,2),(0,2),(4,3),(9,3),(14,7)])))) (.sg [12,13] (.both (.sg [2,3] (.both (.fin [0,1,4,7,8,5,6,9,10,11,14,15,16,17,18,19,20]) (.fin (rgs [(7,2),(0,2),(4,3),(9,3),(14,7)])))) (.fin (rgs [(7,2),(2,2),(0,2),(4,3),(9,3),(14,7)]))))),true⟩)]⟩ Tryz.func86 fun C=>?_;refine new_S C fun b1 c3 C=>?_;refine new_S C fun b2 c4 C=>?_;refine lsA ?_;refine cm0 N C (fun s hx=>Zjn s hx slA) fun ag c5 C N=>⟨_,rfl,?_⟩
 refine new_S C fun b3 c6 C=>?_
 (iterate 5 refine boxA fun bo C=>?_)
 refine bI C 0 0 ?_;refine mkO eI N fun c7 a3 bp C N=>?_;refine boxA fun bq C=>?_;have C:=C.nilO (E:=oL);have C:=C.nilO (E:=oL);have C:=C.nilO (E:=oL);refine ⟨fun n y4 ah=>∃ xs u a4 w a5 a6 a7,S ψ h ah [.it oL [a3] a7,.box b3 [.int .i64 ag,u,w,a6,a3],.box b2 [.int .i64 0,(.slice none 0 0),(.slice none 0 0),(.slice none 0 0),(.slice none 0 0)],.box b1 [.int .i64 y.Prime,.int .i64 y.Degree,a2],.it (El.ow oL) [u] xs,.it (El.ow oL) [w] a4,.it (El.ow oL) [a6] a5]/\loopN (Zf4 y ag) n (y4,xs,a4,a5,a7)=some r,endI,?_⟩;rintro n _ y4 ah ⟨xs,u,a4,w,a5,a6,a7,C,hn⟩;obtain ⟨m,a,rfl,N,O⟩:=ZM hn;refine bI C 1 0 ?_;apply brQ N<;>intro N
 ·refine ⟨fun aq=>∃ ai ar aj au ak av al,S ψ h aq [.it oL [a3] al,.box b3 [.int .i64 ag,ar,au,av,a3],.box b2 [.int .i64 0,(.slice none 0 0),(.slice none 0 0),(.slice none 0 0),(.slice none 0 0)],.box b1 [.int .i64 y.Prime,.int .i64 y.Degree,a2],.it (El.ow oL) [ar] ai,.it (El.ow oL) [au] aj,.it (El.ow oL) [av] ak]/\Zoq y4 ai aj ak al=some a,?_,?_⟩
  ·obtain ⟨aw,am,N⟩:=obind N;obtain ⟨c8,ax,N⟩:=obind N;obtain ⟨c9,ay,N⟩:=obind N;obtain rfl:=oI (am.symm.trans ax);obtain rfl:=oI (am.symm.trans ay);refine ⟨fun a8 a9 aa az=>S ψ h az [.it oL [aa] aw,.it oL [a9] aw,.it oL [a8] aw,.it oL [a3] a7,.box b3 [.int .i64 ag,u,w,a6,a3],.box b2 [.int .i64 0,(.slice none 0 0),(.slice none 0 0),(.slice none 0 0),(.slice none 0 0)],.box b1 [.int .i64 y.Prime,.int .i64 y.Degree,a2],.it (El.ow oL) [u] xs,.it (El.ow oL) [w] a4,.it (El.ow oL) [a6] a5],?_,?_⟩
   ·refine ⟨fun _=>False,?_⟩;have b6:=C;have i:=eX ah
    repeat' first
     | refine And.intro ?_ ?_
     | (refine ZT ?_;refine ldI_K (b6.cells 1 rfl) 0 rfl rfl ?_)
     | (refine Zn7 (E:=eI) C rfl am fun j z1 xE C=>⟨eZ (i.trans xE),?_⟩;replace i:=i.trans xE)
     | (refine Zn7 (E:=eI) C rfl ax fun j z1 xE C=>⟨eZ (i.trans xE),?_⟩;replace i:=i.trans xE)
     | (refine Zn7 (E:=eI) C rfl ay fun j z1 xE C=>⟨eZ (i.trans xE),?_⟩;replace i:=i.trans xE)
     | (exact pk C [0,1,2,3,4,5,6,7,8,9])
     | (exact pk C [1,0,2,3,4,5,6,7,8,9])
     | (exact pk C [0,2,1,3,4,5,6,7,8,9])
     | (exact pk C [1,2,0,3,4,5,6,7,8,9])
     | (exact pk C [2,0,1,3,4,5,6,7,8,9])
     | (exact pk C [2,1,0,3,4,5,6,7,8,9])
   ·rintro _ a8 a9 aa az C;refine lw14 N (fun y8 ao ab ac ae=>([.it oL [aa] ae,.it oL [a9] ac,.it oL [a8] ab,.it oL [a3] ao,.box b3 [.int .i64 ag,u,w,a6,a3],.box b2 [.int .i64 0,(.slice none 0 0),(.slice none 0 0),(.slice none 0 0),(.slice none 0 0)],.box b1 [.int .i64 y.Prime,.int .i64 y.Degree,a2],.it (El.ow oL) [u] xs,.it (El.ow oL) [w] a4,.it (El.ow oL) [a6] a5],y8,ao,ab,ac,ae)) fun y8 ap ao ab ac ae ca C N bc=>?_;refine bI C 4 0 ?_;apply brQ N<;>intro N
    ·refine ⟨fun _=>False,?_⟩;have g:=C;have l:=eX ap;refine lsA ?_;obtain ⟨cb,bd,N⟩:=obind N;refine ce0 C (fun s=>ZsZ s.fle bd slA) fun bs xE C=>⟨_,rfl,eZ (l.trans xE),?_⟩
     replace l:=l.trans xE;refine ZT ?_;refine ldI_K (g.cells 6 rfl) 0 rfl rfl ?_;refine ZT ?_;refine ldI_K (g.cells 6 rfl) 1 rfl rfl ?_;refine Z4 ?_;refine ldV_K (g.cells 6 rfl) 2 rfl rfl ?_;obtain ⟨cc,be,N⟩:=obind N;refine ce0 C (fun s=>ZsZ s.fle be slA) fun bt xE C=>⟨_,rfl,eZ (l.trans xE),?_⟩
     replace l:=l.trans xE;refine ZT ?_;refine ldI_K (g.cells 6 rfl) 0 rfl rfl ?_;refine ZT ?_;refine ldI_K (g.cells 6 rfl) 1 rfl rfl ?_;refine Z4 ?_;refine ldV_K (g.cells 6 rfl) 2 rfl rfl ?_;refine cm0 N C (fun s hx=>ZB0 s hx slA) fun cd bu C N=>⟨_,rfl,?_⟩
     refine ixA slA N fun ce cf ad bf N=>?_;refine st1_S C 2 rfl ad bf rfl (fun _=>⟨rfl,rfl⟩) fun bw C=>?_;dsimp at C;refine ixA slA N fun cg ch bg b7 N=>?_;refine st1_S C 1 rfl bg b7 rfl (fun _=>⟨rfl,rfl⟩) fun bx C=>?_;dsimp at C;refine ixA slA N fun ci cj bh b8 N=>?_;refine st1_S C 0 rfl bh b8 rfl (fun _=>⟨rfl,rfl⟩) fun bz C=>?_;dsimp at C;refine ixI slA N fun ck N=>?_;apply brQ N<;>intro N
     ·refine bV C 4 4 ?_;refine ixA slA N fun cm cn bi b9 N=>?_;refine st1_S C 3 rfl bi b9 rfl (fun _=>⟨rfl,rfl⟩) fun c0 C=>?_;dsimp at C;exact endL
     ·exact endL
    ·obtain ⟨co,o,N⟩:=obind N;obtain ⟨cp,x,N⟩:=obind N;obtain ⟨cq,af,N⟩:=obind N;refine ⟨fun b=>blk u=some b\/blk w=some b,?_⟩;have k:=C;have f:ExtBut (fun b=>blk u=some b\/blk w=some b) ap ap:=eY _ _
     repeat' first
      | refine And.intro ?_ ?_
      | (refine Zh (C.rdL 2 rfl (Zi _)).one ?_)
      | (refine ZeN C fun j z1 xE C=>⟨f.trans (eZ xE),?_⟩;replace f:=f.trans (eZ xE))
      | (refine Zny (fun e=>Or.elim e (fun e=>k.boxNe 4 7 rfl rfl e) (fun e=>k.boxNe 4 8 rfl rfl e)) ?_)
      | (refine ldV_K (k.cells 4 rfl) 1 rfl rfl ?_)
      | (refine ldV_K (k.cells 4 rfl) 2 rfl rfl ?_)
      | (refine ldV_K (k.cells 4 rfl) 3 rfl rfl ?_)
      | (refine ZcI C 4 rfl rfl rfl (C.rdL 7 rfl (ZR (Zi _))).one fun j C=>?_;refine ZcI C 4 rfl rfl rfl (C.rdL 8 rfl (ZR (Zi _))).one fun z1 C=>?_;refine ZcI C 4 rfl rfl rfl (C.rdL 9 rfl (ZR (Zi _))).one fun z2 C=>?_;dsimp at C)
      | (refine Zh (C.rdL 1 rfl (Zi _)).one ?_)
      | (refine Zh (C.rdL 3 rfl (Zi _)).one ?_)
      | (refine Zh (C.rdL 4 rfl (Zi _)).one ?_)
      | (refine Zh (C.rdL 0 rfl (Zi _)).one ?_)
      | (have C:=C.pull 3 rfl;dsimp only [List.eraseIdx] at C;refine ZaB C 7 rfl 0 rfl rfl rfl o fun j z1 xE C=>⟨f.trans (xE.mono fun _ e=>.inl e),?_⟩;replace f:=f.trans (xE.mono fun _ e=>.inl e);dsimp at C)
      | (have C:=C.pull 3 rfl;dsimp only [List.eraseIdx] at C;refine ZaB C 8 rfl 0 rfl rfl rfl x fun j z1 xE C=>⟨f.trans (xE.mono fun _ e=>.inr e),?_⟩;replace f:=f.trans (xE.mono fun _ e=>.inr e);dsimp at C)
      | (have C:=C.pull 3 rfl;dsimp only [List.eraseIdx] at C;refine ZaB C 9 rfl 0 rfl rfl rfl af fun j z1 xE C=>?_;dsimp at C)
      | (obtain ⟨j,z1,rfl⟩:=omap N;obtain rfl:=oI bc;exact ⟨_,_,_,_,_,_,_,pk C [3,4,5,6,7,8,9],z1⟩)
      | (have C:=C.pull 4 rfl;dsimp only [List.eraseIdx] at C;refine ZaB C 9 rfl 1 rfl rfl rfl x fun j z1 xE C=>⟨f.trans (xE.mono fun _ e=>.inr e),?_⟩;replace f:=f.trans (xE.mono fun _ e=>.inr e);dsimp at C)
      | (have C:=C.pull 4 rfl;dsimp only [List.eraseIdx] at C;refine ZaB C 9 rfl 0 rfl rfl rfl x fun j z1 xE C=>⟨f.trans (xE.mono fun _ e=>.inr e),?_⟩;replace f:=f.trans (xE.mono fun _ e=>.inr e);dsimp at C)
      | (have C:=C.pull 3 rfl;dsimp only [List.eraseIdx] at C;refine ZaB C 9 rfl 1 rfl rfl rfl af fun j z1 xE C=>?_;dsimp at C)
      | (have C:=C.pull 4 rfl;dsimp only [List.eraseIdx] at C;refine ZaB C 8 rfl 1 rfl rfl rfl o fun j z1 xE C=>⟨f.trans (xE.mono fun _ e=>.inl e),?_⟩;replace f:=f.trans (xE.mono fun _ e=>.inl e);dsimp at C)
      | (have C:=C.pull 5 rfl;dsimp only [List.eraseIdx] at C;refine ZaB C 9 rfl 2 rfl rfl rfl o fun j z1 xE C=>⟨f.trans (xE.mono fun _ e=>.inl e),?_⟩;replace f:=f.trans (xE.mono fun _ e=>.inl e);dsimp at C)
      | (have C:=C.pull 4 rfl;dsimp only [List.eraseIdx] at C;refine ZaB C 8 rfl 0 rfl rfl rfl o fun j z1 xE C=>⟨f.trans (xE.mono fun _ e=>.inl e),?_⟩;replace f:=f.trans (xE.mono fun _ e=>.inl e);dsimp at C)
      | (have C:=C.pull 3 rfl;dsimp only [List.eraseIdx] at C;refine ZaB C 8 rfl 1 rfl rfl rfl x fun j z1 xE C=>⟨f.trans (xE.mono fun _ e=>.inr e),?_⟩;replace f:=f.trans (xE.mono fun _ e=>.inr e);dsimp at C)
      | (have C:=C.pull 4 rfl;dsimp only [List.eraseIdx] at C;refine ZaB C 9 rfl 2 rfl rfl rfl x fun j z1 xE C=>⟨f.trans (xE.mono fun _ e=>.inr e),?_⟩;replace f:=f.trans (xE.mono fun _ e=>.inr e);dsimp at C)
      | (have C:=C.pull 5 rfl;dsimp only [List.eraseIdx] at C;refine ZaB C 9 rfl 1 rfl rfl rfl o fun j z1 xE C=>⟨f.trans (xE.mono fun _ e=>.inl e),?_⟩;replace f:=f.trans (xE.mono fun _ e=>.inl e);dsimp at C)
      | (have C:=C.pull 5 rfl;dsimp only [List.eraseIdx] at C;refine ZaB C 9 rfl 0 rfl rfl rfl o fun j z1 xE C=>⟨f.trans (xE.mono fun _ e=>.inl e),?_⟩;replace f:=f.trans (xE.mono fun _ e=>.inl e);dsimp at C)
      | (have C:=C.pull 3 rfl;dsimp only [List.eraseIdx] at C;refine ZaB C 9 rfl 2 rfl rfl rfl af fun j z1 xE C=>?_;dsimp at C)
  ·rintro _ aq ⟨ai,ar,aj,au,ak,av,al,C,N⟩;exact endL
 ·refine lsA ?_
  (iterate 5 refine boxA fun bm C=>?_)
  refine lsA ?_;obtain rfl:=oI N;obtain rfl:=oI O;exact endR
theorem ZA3 {a v0 e p1 r} (N:Zd7 a e=some r) (g:sc h eI v0 a) (f:CellsC (hcell h) p1 [.int .i64 e]):zR 156 #[v0,.pointer (some p1)] h ψ (.bool r):=by
 refine zO Tryz.func156 fun C=>?_;refine kI f C.le 0 ?_;refine ixI slA N fun i N=>?_;exact tZ
end
theorem Zxq {ψ:CM} {e h:Heap} {os:List Ob} {g:Z7} {i:Value} {j:Value} {k:Value} {l:Value} {s:List Int} {v1:Value} {o:List Int} {v2:Value} {a2:Int} {r:List Int} (N:ZeU g s o a2=some r) (C:S ψ e h (.it oL [v1] s::os)) (x:SlC (UB ψ e) eL i g.qadd) (a7:SlC (UB ψ e) eL j g.qsub) (y:SlC (UB ψ e) eL k g.qmul) (a8:SlC (UB ψ e) eI l g.qinv) (f2:SlC (UB ψ e) eI v2 o):CallsH P 157 #[.agg #[.int .i64 g.qq,i,j,k,l],v1,v2,.int .i64 a2] h (fun v h'=>v=.tuple #[]/\S ψ e h' (.it oL [v1] r::os)):=by
 refine zv ⟨an [[2,72]],[],[],[]⟩ Tryz.func157 ?_;refine new_S C fun b4 ab C=>?_;refine vL f2 C.leU ?_;obtain ⟨a6,hn⟩:=ZN N;refine ⟨fun n u w=>∃ xs,S ψ e w (.box b4 [.int .i64 g.qq,i,j,k,l]::.it oL [v1] xs::os)/\loopN (ZdN g o a2) n (u,xs)=some r,⟨a6,_,pkT C 2 [0,1],hn⟩,?_⟩;rintro n _ u w ⟨xs,C,hn⟩;obtain ⟨m,a,rfl,N,O⟩:=ZM hn;apply brQ N<;>intro N
 ·refine ixI slA N fun ac N=>?_;refine bV C 0 1 ?_;refine ixI slA N fun ad N=>?_;refine ixV x C.leU N fun ae af f N=>?_;refine bV C 0 3 ?_;refine ixV y C.leU N fun ag ah ai N=>?_;refine ixI slA N fun aj N=>?_;refine ixI slA N fun ak N=>?_;refine ixA slA N fun al am a3 a4 N=>?_;refine st1_S C 1 rfl a3 a4 rfl (fun _=>⟨rfl,rfl⟩) fun ao C=>?_;dsimp at C;obtain rfl:=oI N;exact ⟨_,ltS,_,pkT C 2 [0,1],O⟩
 ·obtain rfl:=oI N;obtain rfl:=oI O;exact ⟨rfl,pkT C 2 [1]⟩
theorem r2_impl_arithmetic_addTimes {ψ:CM} {l h:Heap} {os:List Ob} {g:Z7} {o s x y:Value} {ab:List (List Int)} {v u w:Value} {ps:List (Nat×Value)} {i j:Int} {xs ys:List Int} {af:Int} {r:List Int} (N:ZeU g xs ys af=some r) (C:S ψ l h (.it (El.pins eI ps) [v] ab::os))
    (n1:Nat) (h1:ps[n1]?=some (i.toNat,u)) (n2:Nat) (h2:ps[n2]?=some (j.toNat,w)) (ci:i≠j) (ao:gIdx ab i=some xs) (a8:gIdx ab j=some ys) (ac:SlC (UB ψ l) eL o g.qadd) (au:SlC (UB ψ l) eL s g.qsub) (ae:SlC (UB ψ l) eL x g.qmul) (av:SlC (UB ψ l) eI y g.qinv):
    CallsH P 157 #[.agg #[.int .i64 g.qq,o,s,x,y],u,w,.int .i64 af] h (fun v' h'=>v'=.tuple #[]/\S ψ l h' (.it (El.pins eI ps) [v] (ab.set i.toNat r)::os)):=by
  refine zv ⟨an [[2,72]],[],[],[]⟩ Tryz.func157 ?_;obtain ⟨i0,i1⟩:=ZaK ao;obtain ⟨j0,j1⟩:=ZaK a8;have bu:∀ zs:List Int,gIdx (ab.set i.toNat zs) i=some zs/\gIdx (ab.set i.toNat zs) j=some ys:=fun zs=>by
    unfold gIdx;rw [if_pos i0,if_pos j0,List.getElem?_set_self (Z0 i1),List.getElem?_set_ne ω];exact ⟨rfl,j1⟩
  have same:ab.set i.toNat xs=ab:=by
    apply List.ext_getElem?;intro k;rw [List.getElem?_set];split
    · rename_i e;subst e;rw [if_pos (Z0 i1),i1]
    · rfl
  refine new_S C fun b4 b2 C=>?_;refine Zy (C.rowP 1 rfl n2 h2 a8 (Zi _)) ?_;obtain ⟨ap,hn⟩:=ZN N;refine ⟨fun n a9 aa=>∃ zs,S ψ l aa (.box b4 [.int .i64 g.qq,o,s,x,y]::.it (El.pins eI ps) [v] (ab.set i.toNat zs)::os)/\loopN (ZdN g ys af) n (a9,zs)=some r,⟨ap,xs,by rw [same];exact C,hn⟩,?_⟩;rintro n _ a9 aa ⟨zs,C,hn⟩;obtain ⟨m,a,rfl,N,O⟩:=ZM hn;obtain ⟨k1,k2⟩:=bu zs;refine bifP N (fun hc N=>?_) (fun hc N=>?_)
  · obtain ⟨b3,hx,N⟩:=obind N;refine ZV (C.rowP 1 rfl n2 h2 k2 (Zi _)) hx fun b5 ad=>?_;refine ldI_C (C.rowP 1 rfl n2 h2 k2 (Zi _)) ad hx ?_;refine ldV_K (C.cells 0 rfl) 1 rfl rfl ?_;obtain ⟨b6,a2,N⟩:=obind N;refine ZV (C.rowP 1 rfl n1 h1 k1 (Zi _)) a2 fun b7 ah=>?_;refine ldI_C (C.rowP 1 rfl n1 h1 k1 (Zi _)) ah a2 ?_;obtain ⟨b8,a3,N⟩:=obind N;refine ZV slA a3 fun b9 ai=>?_;refine ldV_C ac C.leU ai a3 fun ba f=>?_;refine ldV_K (C.cells 0 rfl) 3 rfl rfl ?_;obtain ⟨bb,a4,N⟩:=obind N;refine ZV slA a4 fun bc aj=>?_;refine ldV_C ae C.leU aj a4 fun bd be=>?_;obtain ⟨bf,a5,N⟩:=obind N;refine ZV slA a5 fun bg ak=>?_;refine ldI_C slA ak a5 ?_;obtain ⟨bh,a6,N⟩:=obind N;refine ZV slA a6 fun bi al=>?_;refine ldI_C slA al a6 ?_;obtain ⟨bj,a7,N⟩:=obind N;refine ZV (C.rowP 1 rfl n1 h1 k1 (Zi _)) a7 fun bk am=>?_;refine Zft C 1 rfl n1 h1 k1 am a7 rfl (fun _=>⟨rfl,rfl⟩) fun bm C=>?_;dsimp at C;rw [List.set_set] at C;obtain rfl:=oI N;exact ⟨m,Nat.lt_succ_self _,_,C,O⟩
  · obtain rfl:=oI N;obtain rfl:=oI O;exact ⟨rfl,C.pickT 2 [1] (by decide) (by decide)⟩
section
variable {ψ:CM} {h:Heap} (hψ:CLe ψ (hcell h))
include hψ
theorem ZDm {x j k l o y1 v1 r} (N:ZhK x y1=some r) (bo:sc h eL j x.qadd) (aa:sc h eL k x.qsub) (ab:sc h eL l x.qmul) (bp:sc h eI o x.qinv) (f1:sc h eL v1 y1):CallsH P 87 #[.agg #[.int .i64 x.qq,j,k,l,o],v1] h (fun v h'=>∃ w0 w1,v=.tuple #[w0,w1,.int .i64 r.2.2]/\S ψ h h' [.it (El.ow oL) [w0] r.1,.it oL [w1] r.2.1]):=by
 refine zS hψ ⟨an [[5,49,54,64],[17,534],[22,690]],an [[7],[14,54],[25,777],[29,49,54],[31,49,54]],[],[(12,⟨[],.fin (rgs [(0,2),(6,12),(2,4),(18,2)]),false⟩)]⟩ Tryz.func87 fun C=>?_;refine new_S C fun b2 dk C=>?_;refine cm1 N C (fun s hx=>Zde s hx slA) fun dl y dm C N=>⟨_,rfl,?_⟩
 refine ⟨fun v8 y9 bf=>∃ y8 xs,S ψ h bf [.it (El.ow oL) [y] xs,.box b2 [.int .i64 x.qq,j,k,l,o],.it oL [v8] y8]/\Zet y8 y9 xs=some r,?_,?_⟩
 ·refine new_S C fun dn dp C=>?_;refine boxA fun dq C=>?_;have C:=C.nilO (E:=eI);obtain ⟨ce,hn⟩:=ZN N;refine ⟨fun n w ac bg bh=>∃ g i u a5,S ψ h bh [.it oL [w] g,.box i [.int .i64 u],.it (El.ow oL) [y] a5,.box b2 [.int .i64 x.qq,j,k,l,o]]/\bg=⟨i,0,none⟩/\loopN (ZbY x) n (g,ac,u,a5)=some r,⟨ce,_,_,_,_,pk C [0,1,2,3],rfl,hn⟩,?_⟩;rintro n _ w ac bg bh ⟨g,i,u,a5,C,rfl,hn⟩;obtain ⟨m,a,rfl,N,O⟩:=ZM hn;refine ⟨fun bi=>S ψ h bi [.it oL [w] g,.box i [.int .i64 u],.it (El.ow oL) [y] a5,.box b2 [.int .i64 x.qq,j,k,l,o]]/\Zhf x g ac u a5=some a,?_,?_⟩
  ·refine Zy slA ?_;apply brQ N<;>intro N
   ·refine bI C 1 0 ?_;refine ixA slA N fun dr ds b3 aj N=>?_;refine Zaq C 2 rfl b3 aj fun dt br=>?_;refine Zy (C.rowC 2 rfl br aj (Zi _)) ?_;apply brQ N<;>intro N
    ·exact endC
    ·obtain ⟨xm,hq,rfl⟩:=omap N;obtain rfl:=oI O;exact ⟨_,_,pk C [2,3,0],hq⟩
   ·obtain ⟨xm,hq,rfl⟩:=omap N;obtain rfl:=oI O;exact ⟨_,_,pk C [2,3,0],hq⟩
  ·rintro _ bi ⟨C,N⟩;refine ⟨fun ao ap bj=>∃ af ag,S ψ h bj [.it oL [ao] af,.box i [.int .i64 u],.it (El.ow oL) [y] ag,.box b2 [.int .i64 x.qq,j,k,l,o]]/\Zhr u af ap ag=some a,?_,?_⟩
   ·refine Zy slA ?_;obtain ⟨du,aq,N⟩:=obind N;refine Zc1 (some (g.length:Int)) none slA aq fun dv hv=>?_;refine cl0 N C (fun cf _ _ bt=>Zsc cf.fle bt (hv.C slA aq rfl) κ (fun cg=>fun bu=>fun ch ci=>ZA3 bu ch ci ((C.cells 1 rfl).mono (CLe.ext cg)))) fun dw cr C N=>⟨_,rfl,?_⟩
    apply brQ N<;>intro N
    ·exact endC
    ·refine ⟨fun ar au=>∃ ah,S ψ h au [.it oL [w] g,.box i [.int .i64 u],.it (El.ow oL) [y] ah,.box b2 [.int .i64 x.qq,j,k,l,o]]/\Zhb x g u ar ah=some a,?_,?_⟩
     ·apply brQ N<;>intro N
      ·refine ixA slA N fun dx dy b4 ak N=>?_;refine Zaq C 2 rfl b4 ak fun dz bv=>?_;refine ixA slA N fun e0 e1 b5 al N=>?_;refine Zaq C 2 rfl b5 al fun e2 bw=>?_;refine ixA slA N fun e3 e4 b6 cm N=>?_;obtain ⟨e5,b7,N⟩:=obind N;refine ZCy C 2 rfl rfl al ak bw bv b6 b7 fun cs C=>?_;dsimp at C;refine bV C 3 2 ?_;refine ixV aa C.le N fun e6 e7 e8 N=>?_;refine ixI slA N fun e9 N=>?_;exact endC
      ·exact endC
     ·rintro _ ar au ⟨ah,C,N⟩;refine ixA slA N fun ea eb ad av N=>?_;refine Zaq C 2 rfl ad av fun ec hd=>?_;refine bI C 1 0 ?_;refine ixI (C.rowC 2 rfl hd av (Zi _)) N fun ed N=>?_;refine bV C 3 3 ?_;refine ixV ab C.le N fun ee ef f N=>?_;refine ixI slA N fun eg N=>?_;refine ixA slA N fun eh ei bx aw N=>?_;have C:=C.pin0 2 rfl;dsimp at C;refine Zbq C 2 rfl bx aw fun bk C=>?_;dsimp at C;refine Zy (C.rowP 2 rfl 0 rfl aw (Zi _)) ?_;refine lw11 N (fun ax a6=>([.it oL [w] g,.box i [.int .i64 u],.it (El.pins eI [(((g.length:Int):Int).toNat,bk)]) [y] a6,.box b2 [.int .i64 x.qq,j,k,l,o]],ax,a6)) fun ax bz a6 ej C N ay=>?_;apply brQ N<;>intro N
      ·obtain ⟨e,b8,N⟩:=obind N;refine ixI (C.rowP 2 rfl 0 rfl b8 (Zi _)) N fun ek N=>?_;refine ixA (C.rdP 2 rfl (Zi _)) N fun cj em c0 a9 N=>?_;refine Zbq C 2 rfl c0 a9 fun en C=>?_;dsimp at C;refine lsA ?_;refine ixI slA N fun cv N=>?_;refine ixV ab C.le N fun cx cy eo N=>?_;refine ixI slA N fun c3 N=>?_;refine ixA (C.rowP 2 rfl 0 rfl a9 (Zi _)) N fun cz d0 b9 ba N=>?_;refine Zft C 2 rfl 0 rfl a9 b9 ba rfl (fun _=>⟨rfl,rfl⟩) fun c4 C=>?_;dsimp at C;have C:S ψ h c4 [.it oL [w] g,.box i [.int .i64 u],.it (El.pins eI [(((g.length:Int):Int).toNat,bk)]) [y] (a6.set ((g.length:Int):Int).toNat (cj.set (ax:Int).toNat c3)),.box b2 [.int .i64 x.qq,j,k,l,o]]:=C.keepP 2 rfl [1];exact endL
      ·refine Zy (C.rdP 2 rfl (Zi _)) ?_;have C:S ψ h bz [.it oL [w] g,.box i [.int .i64 u],.it (El.ow oL) [y] a6,.box b2 [.int .i64 x.qq,j,k,l,o]]:=C.unpin 2 rfl;refine lw11 N (fun a7 a2=>([.it oL [w] g,.box i [.int .i64 u],.it (El.ow oL) [y] a2,.box b2 [.int .i64 x.qq,j,k,l,o]],a7,a2)) fun a7 d1 a2 ck C N az=>?_;apply brQ N<;>intro N
       ·refine ixA slA N fun c5 d2 bb a4 N=>?_;have C:=C.pin0 2 rfl;dsimp at C;refine Zbq C 2 rfl bb a4 fun c6 C=>?_;dsimp at C;refine ⟨fun b0 ai=>S ψ h ai [.it oL [w] g,.box i [.int .i64 u],.it (El.pins eI [((a7:Int).toNat,c6)]) [y] a2,.box b2 [.int .i64 x.qq,j,k,l,o]]/\ZdM x g u a7 a2 c5 b0=some ck,?_,?_⟩
        ·apply brQ N<;>intro N
         ·refine bI C 1 0 ?_;refine ixI (C.rowP 2 rfl 0 rfl a4 (Zi _)) N fun d3 N=>?_;exact endC
         ·exact endC
        ·rintro _ b0 ai ⟨C,N⟩;apply brQ N<;>intro N
         ·refine lsA ?_;refine ixA (C.rdP 2 rfl (Zi _)) N fun d4 d5 bc am N=>?_;refine Zbq C 2 rfl bc am fun d6 C=>?_;dsimp at C;refine bV C 3 2 ?_;refine ixV aa C.le N fun d7 d8 ep N=>?_;refine bI C 1 0 ?_;refine ixI (C.rowP 2 rfl 1 rfl a4 (Zi _)) N fun d9 N=>?_;refine ixI slA N fun da N=>?_;have C:=C.pull 2 rfl;dsimp only [List.eraseIdx] at C;obtain ⟨cn,bd,N⟩:=obind N;obtain ⟨c7,be,N⟩:=obind N;obtain ⟨db,eq,a8,bm⟩:=id C;refine (r2_impl_arithmetic_addTimes be (a8.upS bm) 1 rfl 0 rfl (ZGv bd) a4 am (bo.mono a8.ubH) (aa.mono a8.ubH) (ab.mono a8.ubH) (bp.mono a8.ubH)).mono fun er c8 ⟨c9,bn⟩=>⟨c9,?_⟩
          replace C:=a8.downS bn;clear bn a8 bm;have C:S ψ h c8 [.it (El.ow oL) [y] (a2.set (a7:Int).toNat c7),.it oL [w] g,.box i [.int .i64 u],.box b2 [.int .i64 x.qq,j,k,l,o]]:=C.unpin 0 rfl;exact endL
         ·have C:S ψ h ai [.it oL [w] g,.box i [.int .i64 u],.it (El.ow oL) [y] a2,.box b2 [.int .i64 x.qq,j,k,l,o]]:=C.unpin 2 rfl;exact endL
       ·refine bI C 1 0 ?_;refine puA N 0 fun dc dd de C N=>?_;refine Zy slA ?_;refine Zy slA ?_;apply brQ N<;>intro N
        ·obtain ⟨xm,hq,rfl⟩:=omap N;obtain rfl:=oI az;obtain rfl:=oI ay;obtain rfl:=oI O;exact ⟨_,_,pk C [2,3,0],hq⟩
        ·obtain ⟨xm,hq,rfl⟩:=omap N;obtain rfl:=oI az;obtain rfl:=oI ay;exact ⟨_,_,pk C [0,1,2,3],hq⟩
   ·rintro _ ao ap bj ⟨af,ag,C,N⟩;refine bI C 1 0 ?_;refine new_S C fun co df C=>?_;refine boxA fun dg C=>?_;refine bI C 0 0 ?_;refine boxA fun dh C=>?_;obtain rfl:=oI N;exact ⟨_,ltS,_,_,_,_,pk C [1,0,3,4],rfl,O⟩
 ·rintro _ v8 y9 bf ⟨y8,xs,C,N⟩;refine Zy slA ?_;obtain ⟨di,ca,N⟩:=obind N;refine cut_S none (some (y8.length:Int)) C 0 rfl ca rfl fun dj C=>?_;dsimp at C;exact endS
theorem Zz5 {w:List (List Int)} {v0:Value} {x:List (List Int)} {v1:Value} {j:(List Int)->(List Int)->Option Bool} {l:Nat} {e:List Value} {r:Bool} (N:Znu w x j=some r) (o:sc h eL v0 w) (y:sc h eL v1 x) (o2:ctx.okf l=true) (k2:∀ {h1:Heap},ExtH h h1->∀ {ψ1:CM},CLe ψ1 (hcell h1)->∀ {y0:List Int} {g:Value} {y1:List Int} {i:Value} {r1:Bool},j y0 y1=some r1->SlC (hcell h1) eI g y0->SlC (hcell h1) eI i y1->CallsH P l (([g,i]:List Value)++e).toArray h1 (fun v h'=>v=.bool r1/\S ψ1 h1 h' [])):zR 158 #[v0,v1,.func (.func l) #[] e.toArray] h ψ (.bool r):=by
 refine zT [[4,102]] Tryz.func158 fun C=>?_;refine vL o C.le ?_;refine vL y C.le ?_;refine brZ fun N=>?_;refine vL o C.le ?_;refine lp1 N (nlS C) fun m a8 a9 a C N O=>?_;refine brY fun N=>?_;refine ixV o C.le N fun aa ab f N=>?_;refine ixV y C.le N fun ac ad ae N=>?_;obtain ⟨af,u,N⟩:=obind N;obtain ⟨φ,L,s,k⟩:=id C;refine Zcr o2 ?_;refine (k2 C.ext s.fle u slA slA).mono fun ag ah ⟨eq,t⟩=>⟨_,eq,?_⟩
 replace C:=join0 s k t;clear t s k;exact brQ N (fun N=>tZ) fun N=>tZ
theorem ZtC {e v0 f v1 r} (N:ZcD e f=some r) (g:sc h eI v0 e) (i:sc h eI v1 f):zR 159 #[v0,v1] h ψ (.bool r):=by
 refine zT [[4,78]] Tryz.func159 fun C=>?_;refine vL g C.le ?_;refine vL i C.le ?_;refine brZ fun N=>?_;refine vL g C.le ?_;refine lp1 N (nlS C) fun m j k a C N O=>?_;refine brY fun N=>?_;refine ixI slA N fun l N=>?_;refine ixI slA N fun o N=>?_;exact brQ N (fun N=>tZ) fun N=>tZ
theorem ZGK {a0 v0 e v1 r} (N:Zkx a0 e=some r) (o:sc h eL v0 a0) (u:sc h eL v1 e):zR 88 #[v0,v1] h ψ (.bool r):=by
 refine zO Tryz.func88 fun C=>?_;refine cl0 N C (fun s _ _ j=>Zz5 s.fle j slA slA κ (fun k=>fun a=>fun f g i=>ZtC a f g i)) fun v l C N=>⟨_,rfl,?_⟩
 exact tZ
theorem Zt8 {f g i r} (N:ZcL f=some r) (a6:sc h eI g f.Field.Poly) (v:sc h eL i f.Rows):zR 35 #[.agg #[.int .i64 f.Field.Prime,.int .i64 f.Field.Degree,g,i]] h ψ (.bool r):=by
 refine zS hψ ⟨[],an [[3]],[],[(1,⟨kdL [0,1,0,1,3,0,0,0,1,0,0,0,0,0,1,3,0,2,4,4,0,0],.fin (rgs [(0,22)]),true⟩),(3,⟨kdL [0,1,3,0,2,4,0,0,0,0,0,0,0],.fin (rgs [(0,13)]),true⟩)]⟩ Tryz.func35 fun C=>?_;refine new_S C fun b1 y C=>?_;refine ⟨fun k=>S ψ h k [.box b1 [.int .i64 f.Field.Prime,.int .i64 f.Field.Degree,g,i]]/\Zl9 f=some r,?_,?_⟩
 ·refine ⟨fun _=>False,?_⟩;have l:=C;have a:=eX y;refine lsA ?_;obtain ⟨aa,w,N⟩:=obind N;refine ce0 C (fun s=>ZC0 s.fle w slA slA) fun ab xE C=>⟨_,rfl,eZ (a.trans xE),?_⟩
  replace a:=a.trans xE;refine brZ fun N=>?_;refine bV C 0 3 ?_;refine vL v C.le ?_;refine brZ fun N=>?_;refine lsA ?_;obtain ⟨ac,x,N⟩:=obind N;refine ce0 C (fun s=>Zjn s.fle x slA) fun ad xE C=>⟨_,rfl,eZ (a.trans xE),?_⟩
  replace a:=a.trans xE;refine Z4 ?_;refine ldV_K (l.cells 0 rfl) 3 rfl rfl ?_;refine cm0 N C (fun s e=>Zb5 s e slA) fun ae af C N=>⟨_,rfl,?_⟩
  refine cm0 N C (fun s e=>Zgf s e) fun ag a8 C N=>⟨_,rfl,?_⟩
  refine brZ fun N=>?_;exact endC
 ·rintro _ k ⟨C,N⟩;refine ⟨fun _=>False,?_⟩;have o:=C;have j:=eX k;refine lsA ?_;obtain ⟨ah,e,N⟩:=obind N;obtain ⟨φ,L,s,u⟩:=id C;refine (Zvk s.fle e slA).mono fun ai aj ⟨ak,a2,a3,a4,eq,t⟩=>⟨_,_,_,_,_,eq,eZ (j.trans t.ext),?_⟩
  replace j:=j.trans t.ext;replace C:=join4 s u t;clear t s u;have C:=frA 0;have C:=frA 1;have C:=frA 2;refine Z4 ?_;refine ldV_K (o.cells 0 rfl) 3 rfl rfl ?_;refine cm2 N C (fun s e=>ZDm s e slA slA slA slA slA) fun al am a5 ao C N=>⟨_,_,_,rfl,?_⟩
  have C:=frA 0;refine bV C 6 3 ?_;refine cm0 N C (fun s e=>ZGK s e slA slA) fun ap aq C N=>⟨_,rfl,?_⟩
  exact tZ
theorem ZAQ {n0 r} (N:ZcH n0=some r)  :zR 160 #[.int .i64 n0] h ψ (.tuple #[.int .i64 r.1,.int .i64 r.2]):=by
 refine zS hψ ⟨an [[3,66]],[],[],[(10,⟨kdL [0,0,2,0,3,0,0],.fin [3,4,0,1,2,5,6],true⟩)]⟩ Tryz.func160 fun C=>?_;refine cm1 N C (fun s l=>Zsf s l) fun o u v C N=>⟨_,rfl,?_⟩
 refine Zy slA ?_;refine lp1 (os:=[.it oL [u] o]) N (pk C [0]) fun m w k a C N O=>?_;apply brQ N<;>intro N
 ·refine ixI slA N fun x N=>?_;refine ixI slA N fun y N=>?_;refine brZ fun N=>?_;exact endL
 ·refine Zy slA ?_;refine brZ fun N=>?_;refine ⟨fun _=>False,?_⟩;have f:=C;have e:=eX k;obtain ⟨a2,g,N⟩:=obind N;refine ce0 C (fun s=>Zbl s.fle g slA) fun a3 xE C=>⟨_,rfl,eZ (e.trans xE),?_⟩
  replace e:=e.trans xE;refine ixA slA N fun a4 a5 i j N=>?_;refine ZT ?_;refine ldI_C (f.rdL 0 rfl (Zi _)) i j ?_;exact tZ
theorem ZyV {g r} (N:ZbM g=some r)  :CallsH P 89 #[.int .i64 g] h (fun v h'=>∃ w0,v=.tuple #[.agg #[.int .i64 r.1.Prime,.int .i64 r.1.Degree,w0],.int .i64 r.2]/\S ψ h h' [.it oL [w0] r.1.Poly]):=by
 refine zU [[5,36]] [[4]] Tryz.func89 fun C=>?_;refine new_S C fun i w C=>?_;refine cm0 N C (fun s e=>ZAQ s e) fun j x C N=>⟨_,_,rfl,?_⟩
 refine ⟨fun f=>S ψ h f [.box i [.int .i64 0,.int .i64 0,(.slice none 0 0)]]/\Zk6 j=some r,?_,?_⟩
 ·apply brQ N<;>intro N
  ·(iterate 3 refine boxA fun k C=>?_)
   refine lsA ?_;exact endX
  ·apply brQ N<;>intro N
   ·(iterate 3 refine boxA fun l C=>?_)
    refine lsA ?_;exact endX
   ·exact endC
 ·rintro _ f ⟨C,N⟩;refine lp1 (os:=[.box i [.int .i64 0,.int .i64 0,(.slice none 0 0)]]) N (pk C [0]) fun m n6 y a C N O=>?_;refine cm1 N C (fun s e=>Zcq s e) fun a2 a3 a4 C N=>⟨_,rfl,?_⟩
  refine puA N 0 fun a5 a6 a7 C N=>?_;refine cm0 N C (fun s e=>Zqs s e slA) fun a8 a9 C N=>⟨_,rfl,?_⟩
  apply brQ N<;>intro N
  ·exact endL
  ·refine cm1 N C (fun s e=>Zcq s e) fun aa ab ac C N=>⟨_,rfl,?_⟩
   refine puA N 0 fun ad ae o C N=>?_;refine Zh oneA ?_
   (iterate 3 refine boxA fun u C=>?_)
   refine lsA ?_;exact endX
theorem ZsY {g f r} (N:Zdw g=some r) (k:sc h eL f g.Rows):CallsH P 36 #[.agg #[.int .i64 g.Kind,.int .i64 g.Size,f]] h (fun v h'=>∃ w0 w1,v=.agg #[.int .i64 r.Field.Prime,.int .i64 r.Field.Degree,w0,w1]/\S ψ h h' [.it oL [w0] r.Field.Poly,.it (El.ow oL) [w1] r.Rows]):=by
 refine zS hψ ⟨[],[],[],[(2,⟨kdL [2,0,1,3,0,4],.fin [1,2,3,0,4,5],true⟩)]⟩ Tryz.func36 fun C=>?_;refine new_S C fun b1 u C=>?_;refine new_S C fun b2 w C=>?_;refine bI C 1 1 ?_;refine cm1 N C (fun s l=>ZyV s l) fun r8 v8 x C N=>⟨_,_,_,_,rfl,?_⟩
 refine new_S C fun b3 y C=>?_
 (iterate 3 refine boxA fun j C=>?_)
 refine ⟨fun _=>False,?_⟩;have a:=C;have e:=eX j;refine bV C 3 2 ?_;obtain ⟨a2,i,N⟩:=obind N;refine ce1 C (fun s=>Zde s.fle i slA) fun a3 a4 xE C=>⟨_,rfl,eZ (e.trans xE),?_⟩
 replace e:=e.trans xE;refine ZT ?_;refine ldI_K (a.cells 0 rfl) 0 rfl rfl ?_;refine ZT ?_;refine ldI_K (a.cells 0 rfl) 1 rfl rfl ?_;refine Z4 ?_;refine ldV_K (a.cells 0 rfl) 2 rfl rfl ?_;refine Zh oneA ?_
 (iterate 4 refine boxA fun o C=>?_)
 refine lsA ?_;exact endS
theorem ZxG {e v0 r} (N:Zeg e=some r) (f:sc h eI v0 e):zR 232 #[v0] h ψ (.int .i64 r):=by
 refine zT [[3,48]] Tryz.func232 fun C=>?_;refine vL f C.le ?_;refine lp1 N (nlS C) fun m j g a C N O=>?_;refine brY fun N=>?_;refine ixI slA N fun i N=>?_;exact brQ N (fun N=>tZ) fun N=>tZ
theorem Zxo {a0 i r} (N:Zbj a0 i=some r)  :zR 163 #[.agg #[.int .i64 a0.A,.int .i64 a0.B],.agg #[.int .i64 i.A,.int .i64 i.B]] h ψ (.int .i64 r):=by
 refine zS hψ ⟨[],[],[],[(1,⟨kdL [0,1,0,1,3,0,2,0,2,4,4,4,0],.fin (rgs [(0,13)]),true⟩)]⟩ Tryz.func163 fun C=>?_;refine new_S C fun b2 l C=>?_;refine new_S C fun b3 j C=>?_;refine ⟨fun _=>False,?_⟩;have e:=C;have a:=eX j;refine lsA ?_;obtain ⟨k,f,N⟩:=obind N;refine ce0 C (fun s=>Zo3 s.fle f) fun o xE C=>⟨_,rfl,eZ (a.trans xE),?_⟩
 replace a:=a.trans xE;refine ZT ?_;refine ldI_K (e.cells 1 rfl) 1 rfl rfl ?_;refine ZT ?_;refine ldI_K (e.cells 0 rfl) 1 rfl rfl ?_;refine cm0 N C (fun s f=>Zo3 s f) fun g u C N=>⟨_,rfl,?_⟩
 refine ZP (E:=eI) (css:=[[.int .i64 k],[.int .i64 g]]) (xs:=([k,g]:List Int)) C (fun _=>⟨[],[],rfl,⟨rfl,rfl⟩,⟨[],[],rfl,⟨rfl,rfl⟩,rfl⟩⟩) rfl rfl fun v w C=>?_;refine cm0 N C (fun s f=>ZxG s f slA) fun x y C N=>⟨_,rfl,?_⟩
 exact tZ
theorem ZB3 {n0 r} (N:Zlo n0=some r)  :zR 234 #[.int .i64 n0] h ψ (.bool r):=by
 refine zO Tryz.func234 fun C=>?_;refine cm0 N C (fun s a=>Zat s a) fun f e C N=>⟨_,rfl,?_⟩
 exact tZ
theorem ZFv {n0 r} (N:ZmA n0=some r)  :zR 233 #[.int .i64 n0] h ψ (.bool r):=by
 refine zO Tryz.func233 fun C=>?_;refine cm0 N C (fun s a=>ZB3 s a) fun f e C N=>⟨_,rfl,?_⟩
 exact tZ
theorem ZH8 {colors0 v0 r} (N:ZkH colors0=some r) (f:sc h eI v0 colors0):zR 164 #[v0] h ψ (.bool r):=by
 refine zO Tryz.func164 fun C=>?_;refine vL f C.le ?_;refine brY fun N=>?_;refine cl0 N C (fun s _ _ g=>ZeF s.fle g slA κ (fun i=>fun a=>fun e  =>ZFv a e )) fun k j C N=>⟨_,rfl,?_⟩
 exact tZ
theorem ZnZ {l f g r} (N:ZdX l=some r) (y:sc h eI f l.Colors) (e:sc h Zx g l.Edges):zR 90 #[.agg #[f,g]] h ψ (.bool r):=by
 refine zS hψ ⟨an [[2,48]],[],[],[(4,⟨kdL [0,1,0,0,0,1,0,1,0,0,0,0,2,0,1,3,0,0,0,0,0,0,0,1,0,0,0,1,1,4,0,0,0],.fin (rgs [(0,11),(13,3),(11,2),(16,17)]),true⟩)]⟩ Tryz.func90 fun C=>?_;refine new_S C fun b1 a6 C=>?_;refine bV C 0 1 ?_;refine vL e C.le ?_;refine lp1 (os:=[.box b1 [f,g]]) N (pk C [0]) fun m y8 a7 a C N O=>?_;apply brQ N<;>intro N
 ·refine ixA slA N fun a8 a9 ad j N=>?_;obtain ⟨cs,ck,hr⟩:=e.cells ad j rfl;obtain rfl:=ZaI hr;refine lsA ?_;refine new_S C fun b4 aa C=>?_
  (iterate 2 refine boxA fun x C=>?_)
  refine ⟨fun _=>False,?_⟩;have k:=C;have i:=eX x;refine bI C 0 0 ?_;refine brZ fun N=>?_;refine lsA ?_;refine brZ fun N=>?_;refine bV C 1 0 ?_;obtain ⟨ab,o,N⟩:=obind N;refine ce0 C (fun s=>Zbl s.fle o slA) fun ac xE C=>⟨_,rfl,eZ (i.trans xE),?_⟩
  replace i:=i.trans xE;refine ZT ?_;refine ldI_K (k.cells 0 rfl) 1 rfl rfl ?_;refine brZ fun N=>?_;apply brQ N<;>intro N
  ·refine bV C 1 1 ?_;refine ixA slA N fun ae af u v N=>?_;obtain ⟨a4,a5,w⟩:=e.cells u v rfl;obtain rfl:=ZaI w;refine lsA ?_;refine cm0 N C (fun s j=>Zxo s j) fun ag ah C N=>⟨_,rfl,?_⟩
   refine brZ fun N=>?_;exact endL
  ·exact endL
 ·refine bV C 0 0 ?_;refine cm0 N C (fun s j=>ZH8 s j slA) fun ai aj C N=>⟨_,rfl,?_⟩
  refine brY fun N=>?_;refine bV C 0 1 ?_;refine vL e C.le ?_;exact tZ
theorem Zu1 {k j r} (N:Zg3 k=some r) (l:sc h eL j k.Rows):CallsH P 37 #[.agg #[.int .i64 k.Kind,.int .i64 k.Size,j]] h (fun v h'=>∃ w0 w1,v=.tuple #[.agg #[w0,w1],.bool r.2]/\S ψ h h' [.it oL [w0] r.1.Colors,.it (El.ow Zx) [w1] r.1.Edges]):=by
 refine zS hψ ⟨an [[5,114]],[],[],[(9,⟨kdL [0,2,0,0,1,0,0,1,0,3,4,0,4],.fin (rgs [(2,8),(0,2),(10,3)]),true⟩),(11,⟨kdL [2,1,3,4,0],.fin [1,2,0,3,4],true⟩)]⟩ Tryz.func37 fun C=>?_;refine new_S C fun b1 ai C=>?_;refine new_S C fun b2 aj C=>?_;refine bI C 1 1 ?_;refine cm0 N C (fun s hx=>Zat s hx) fun r9 ak C N=>⟨_,rfl,?_⟩
 apply brQ N<;>intro N
 ·(iterate 2 refine boxA fun al C=>?_)
  refine lsA ?_;exact endX
 ·refine bI C 1 1 ?_;refine mkO eI N fun a4 x am C N=>?_;refine Zh oneA ?_;refine new_S C fun b4 ao C=>?_
  (iterate 2 refine boxA fun ab C=>?_)
  refine bV C 3 2 ?_;refine vL l C.le ?_;have C:=C.nilO (E:=Zx);refine lw12 N (fun y xs o=>([.box b4 [x,o],.it oL [x] a4,.box b2 [(.slice none 0 0),(.slice none 0 0)],.box b1 [.int .i64 k.Kind,.int .i64 k.Size,j],.it (El.ow Zx) [o] xs],y,xs)) fun y u xs o a C N O=>?_;apply brQ N<;>intro N
  ·refine ixV l C.le N fun ap aq f N=>?_;refine vL f C.le ?_;apply brQ N<;>intro N
   ·(iterate 2 refine boxA fun ac C=>?_)
    refine lsA ?_;exact endX
   ·refine ⟨fun _=>False,?_⟩;have w:=C;have e:=eX u;refine ixI slA N fun a5 N=>?_;refine ixI slA N fun a6 N=>?_;refine ZeN C fun ar ad xE C=>⟨eZ (e.trans xE),?_⟩
    replace e:=e.trans xE;refine Z4 ?_;refine ldV_K (w.cells 0 rfl) 1 rfl rfl ?_;obtain ⟨au,a2,N⟩:=obind N;refine Zk3 C 5 rfl 0 rfl (fun _=>⟨[.int .i64 a5],[.int .i64 a6],[],[],rfl,rfl,⟨rfl,rfl⟩,⟨rfl,rfl⟩⟩) rfl rfl a2 fun av ae xE C=>?_;refine boxA fun af C=>?_;exact endL
  ·refine ⟨fun _=>False,?_⟩;have i:=C;have g:=eX u;refine lsA ?_;obtain ⟨aw,a3,N⟩:=obind N;refine ce0 C (fun s=>ZnZ s.fle a3 slA slA) fun ag xE C=>⟨_,rfl,eZ (g.trans xE),?_⟩
   replace g:=g.trans xE;refine Z4 ?_;refine ldV_K (i.cells 0 rfl) 0 rfl rfl ?_;refine Z4 ?_;refine ldV_K (i.cells 0 rfl) 1 rfl rfl ?_
   (iterate 2 refine boxA fun ah C=>?_)
   refine lsA ?_;exact endX
theorem ZB7 {n0 r} (N:ZkO n0=some r)  :zL 235 #[.int .i64 n0] h ψ eI r:=by
 refine zT [[3,54]] Tryz.func235 fun C=>?_;refine mkO eI N fun u g j C N=>?_;refine Zy slA ?_;refine lw11 N (fun f xs=>([.it oL [g] xs],f,xs)) fun f k xs a C N O=>?_;apply brQ N<;>intro N
 ·refine ixA slA N fun l o i e N=>?_;refine st1_S C 0 rfl i e rfl (fun _=>⟨rfl,rfl⟩) fun s C=>?_;dsimp at C;exact endL
 ·exact endX
theorem Zu9 {j v0 r} (N:ZgE j=some r) (k:sc h eI v0 j):zR 236 #[v0] h ψ (.string r):=by
 refine zT [[3,66]] Tryz.func236 fun C=>?_;refine vL k C.le ?_;refine mkO (El.int .u8) N fun l8 l o C N=>?_;refine vL k C.le ?_;refine lw11 N (fun e xs=>([.it (El.ow (El.int .u8)) [l] xs],e,xs)) fun e s xs a C N O=>?_;apply brQ N<;>intro N
 ·refine ixI slA N fun u N=>?_;refine ixA slA N fun v w f g N=>?_;refine st1_S C 0 rfl f g rfl (fun _=>⟨rfl,rfl⟩) fun x C=>?_;dsimp at C;exact endL
 ·obtain ⟨y,i,N⟩:=obind N;refine b2s_S slA i ?_;exact tZ
theorem ZwA {i v0 j v1 r} (N:Zi1 i j=some r) (k:sc h eI v0 i) (f1:sc h eI v1 j):zL 237 #[v0,v1] h ψ eI r:=by
 refine zT [[3,72]] Tryz.func237 fun C=>?_;refine vL k C.le ?_;refine mkO eI N fun l9 l o C N=>?_;refine Zy slA ?_;refine lw11 N (fun e xs=>([.it oL [l] xs],e,xs)) fun e s xs a C N O=>?_;apply brQ N<;>intro N
 ·refine ixI slA N fun u N=>?_;refine ixI slA N fun v N=>?_;refine ixA slA N fun w x f g N=>?_;refine st1_S C 0 rfl f g rfl (fun _=>⟨rfl,rfl⟩) fun y C=>?_;dsimp at C;exact endL
 ·exact endX
end
theorem Zp9 {ψ:CM} {k h:Heap} {os:List Ob} {E0:El (List Int)} {o:List (List Int)} {v0:Value} {j:(List Int)->(List Int)->Option Int} {i:Nat} {a:List Value} {r:List (List Int)} (N:Ze4 o j=some r) (C:S ψ k h (.it (El.ow E0) [v0] o::os)) (o1:ctx.okf i=true) (k1:∀ {h1:Heap},ExtH k h1->∀ {ψ1:CM},CLe ψ1 (hcell h1)->∀ {s:List Int} {f:Value} {u:List Int} {g:Value} {w:Int},j s u=some w->SlC (hcell h1) eI f s->SlC (hcell h1) eI g u->CallsQ True P i (([f,g]:List Value)++a).toArray h1 (fun v h'=>v=.int .i64 w/\S ψ1 h1 h' [])) (x:E0.z=1:=by exact rfl) (y:Frz E0 eL:=by first|exact ZR (Zi _)|exact Zaj _):CallsH P 238 #[v0,.func (.func i) #[] a.toArray] h (fun v h'=>v=.tuple #[]/\S ψ k h' (.it (El.ow E0) [v0] r::os)):=by
  unfold Ze4 at N;split at N
  · rename_i hc;obtain rfl:=oI N;obtain ⟨fn,hf,l,hn⟩:=ctxOk.fns i o1;obtain ⟨c,l⟩:=Option.isSome_iff_exists.1 l;exact ZDX Tryz.sortF Tryz.sortG C (Go.Proofs.enters_of hf hn l) (fun e _=>k1 e) hc.1 hc.2 x y
  · cases N
section
variable {ψ:CM} {h:Heap} (hψ:CLe ψ (hcell h))
include hψ
theorem ZsG {degree0 genera1 v1 r} (N:ZeL degree0 genera1=some r) (f1:sc h eL v1 genera1):CallsH P 165 #[.int .i64 degree0,v1] h (fun v h'=>∃ w0,v=.tuple #[w0,.bool r.2]/\S ψ h h' [.it (El.ow oL) [w0] r.1]):=by
 refine zT [[4,37,48],[7,37,180]] Tryz.func165 fun C=>?_;refine cm1 N C (fun s x=>ZB7 s x) fun ap aq ar C N=>⟨_,rfl,?_⟩
 refine Zh oneA ?_;refine Zck C fun au av C=>?_;refine ZB5 (κ:=ByteArray) (ν:=Bool) kStr vBool C fun l aw C=>?_;refine ixA slA N fun ax ay ad g N=>?_;refine Zaq C 1 rfl ad g fun az hd=>?_;refine cl0 N C (fun a9 _ _ y=>Zu9 a9.fle y (C.rowC 1 rfl hd g (Zi _))) fun b0 b1 C N=>⟨_,rfl,?_⟩
 refine ZvC (v:=true) Zlz C 0 rfl rfl rfl fun b2 C=>?_;dsimp at C;refine lw22 N (fun v6 k8 aa mp=>([.mp l (mkV kStr vBool mp),.it (El.ow oL) [v6] aa],aa,k8,mp)) fun v6 k8 b3 aa mp a C N O=>?_;refine Zy slA ?_;apply brQ N<;>intro N
 ·refine vL f1 C.le ?_;refine lw22 N (fun i o a8 e=>([.mp l (mkV kStr vBool e),.it (El.ow oL) [i] a8],a8,o,e)) fun i o b4 a8 e b5 C N O=>?_;apply brQ N<;>intro N
  ·refine ixV f1 C.le N fun b6 b7 f N=>?_;refine ixA slA N fun b8 b9 a2 j N=>?_;refine Zaq C 1 rfl a2 j fun ba a3=>?_;refine cl1 N C (fun ac _ _ a4=>ZwA ac.fle a4 (C.rowC 1 rfl a3 j (Zi _)) slA) fun bb bc bd C N=>⟨_,rfl,?_⟩
   refine cm0 N C (fun s x=>Zu9 s x slA) fun be aj C N=>⟨_,rfl,?_⟩
   refine ZH7 Zlz C 1 rfl rfl ?_;apply brQ N<;>intro N
   ·refine ZvC (v:=true) Zlz C 1 rfl rfl rfl fun ak C=>?_;dsimp at C;refine Zh oneA ?_;refine piA N 1 fun bf bg al C N=>?_;exact endL
   ·exact endL
  ·refine Zy slA ?_;apply brQ N<;>intro N
   ·exact endX
   ·exact endX
 ·have C:=C.pull 1 rfl;dsimp only [List.eraseIdx] at C;obtain ⟨bh,a5,N⟩:=obind N;obtain ⟨am,bi,k,u⟩:=id C;refine (Zp9 a5 (k.upS u) κ (fun bj=>fun a6=>fun ae af ag=>ZrB a6 ae af ag)).mono fun bk ao ⟨a7,w⟩=>⟨a7,?_⟩
  replace C:=k.downS w;clear w k u;exact endX
theorem Zs5 {x0:List (List Int)} {v0:Value} {a4:List Int} {v1:Value} {k:(List Int)->(List Int)->Option Int} {w:Nat} {e:List Value} {r:Int×Bool} (N:Zc6 x0 a4 k=some r) (x:sc h eL v0 x0) (f1:sc h eI v1 a4) (o2:ctx.okf w=true) (k2:∀ {h1:Heap},ExtH h h1->∀ {ψ1:CM},CLe ψ1 (hcell h1)->∀ {y0:List Int} {g:Value} {y1:List Int} {i:Value} {r1:Int},k y0 y1=some r1->SlC (hcell h1) eI g y0->SlC (hcell h1) eI i y1->CallsH P w (([g,i]:List Value)++e).toArray h1 (fun v h'=>v=.int .i64 r1/\S ψ1 h1 h' [])):zR 166 #[v0,v1,.func (.func w) #[] e.toArray] h ψ (.tuple #[.int .i64 r.1,.bool r.2]):=by
 refine zT [[3,54,60]] Tryz.func166 fun C=>?_;refine vL x C.le ?_;refine lp2 N (nlS C) fun m i9 ad ae a C N O=>?_;apply brQ N<;>intro N
 ·obtain ⟨_,hx,N⟩:=obind N;refine ⟨Zup hx,?_⟩;refine ixV x C.le N fun af ag f N=>?_;obtain ⟨ah,y,N⟩:=obind N;obtain ⟨φ,L,s,l⟩:=id C;refine Zcr o2 ?_;refine (k2 C.ext s.fle y slA slA).mono fun ai aj ⟨eq,t⟩=>⟨_,eq,?_⟩
  replace C:=join0 s l t;clear t s l;exact brQ N (fun N=>tZ) fun N=>tZ
 ·refine brY fun N=>?_;refine ixV x C.le N fun ak al am N=>?_;obtain ⟨ao,a2,N⟩:=obind N;obtain ⟨ac,ap,j,o⟩:=id C;refine Zcr o2 ?_;refine (k2 C.ext j.fle a2 slA slA).mono fun aq ar ⟨a3,u⟩=>⟨_,a3,?_⟩
  replace C:=join0 j o u;clear u j o;exact tZ
theorem Zwc {degree0 elemen1 v1 r} (N:Zjo degree0 elemen1=some r) (y:SlC ψ eL v1 elemen1):CallsH P 91 #[.int .i64 degree0,v1] h (fun v h'=>∃ w0 w1,v=.tuple #[w0,w1,.bool r.2.2]/\S ψ h h' [.it (El.ow eL) [w0] r.1,.it (El.ow eL) [w1] r.2.1]):=by
 refine zU [[4,43,49,57,126]] [[8]] Tryz.func91 fun C=>?_;obtain ⟨a8,l,N⟩:=obind N;obtain ⟨φ,L,s,i⟩:=id C;refine (ZsG s.fle l SlC.nil).mono fun a9 aa ⟨ab,eq,t⟩=>⟨_,_,eq,?_⟩
 replace C:=join1 s i t;clear t s i;refine vL y C.leF ?_;have C:=C.nilO (E:=eL);refine lw42 N (fun o u j g a7 e=>([.it (El.ow eL) [o] a7,.it (El.ow oL) [u] e],a7,e,j,g)) fun o u j g ac a7 e a C N O=>?_;apply brQ N<;>intro N
 ·refine ixV y C.leF N fun a2 ad f N=>?_;refine ⟨fun k=>S ψ h k [.it (El.ow eL) [o] a7,.it (El.ow oL) [u] e]/\ZiE degree0 a7 g a2=some a,?_,?_⟩
  ·refine cl0 N C (fun a3 _ _ w=>Zs5 a3.fle w slA (f.mono C.leF) κ (fun ae=>fun x=>fun a4 a5 a6=>ZeH x a4 a5 a6)) fun af ag C N=>⟨_,_,rfl,?_⟩
   apply brQ N<;>intro N
   ·exact endL
   ·apply brQ N<;>intro N
    ·exact endL
    ·exact endC
  ·rintro _ k ⟨C,N⟩;refine Zh (f.mono C.leF).one ?_;have C:=C.arg f;refine piA N 0 fun ah ai aj C N=>?_;refine cm1 N C (fun s l=>ZsG s l slA) fun ak al am C N=>⟨_,_,rfl,?_⟩
   exact endL
 ·have C:=C.frzIn 1 rfl (ZR (Zi _));dsimp at C;exact endX
theorem ZG2 {i g r} (N:Zh7 i=some r) (e:SlC ψ eL g i.Elements):zR 38 #[.agg #[.int .i64 i.Degree,g]] h ψ (.bool r):=by
 refine zU [[4,18]] [[3]] Tryz.func38 fun C=>?_;refine new_S C fun v a3 C=>?_;refine ⟨fun j=>S ψ h j [.box v [.int .i64 i.Degree,g]]/\ZlX i=some r,?_,?_⟩
 ·refine bI C 0 0 ?_;refine cm0 N C (fun s hx=>Zat s hx) fun r9 a4 C N=>⟨_,rfl,?_⟩
  refine brZ fun N=>?_;refine bV C 0 1 ?_;refine vL e C.leF ?_;refine brZ fun N=>?_;refine bV C 0 1 ?_;refine vL e C.leF ?_;refine brZ fun N=>?_;refine lsA ?_;refine cl0 N C (fun w _ _ l=>Zrr w.fle l (e.mono C.leF)) fun a5 a6 C N=>⟨_,rfl,?_⟩
  refine brZ fun N=>?_;exact endC
 ·rintro _ j ⟨C,N⟩;refine lp1 (os:=[.box v [.int .i64 i.Degree,g]]) N (pk C [0]) fun m y3 a7 a C N O=>?_;refine bV C 0 1 ?_;refine vL e C.leF ?_;apply brQ N<;>intro N
  ·refine bV C 0 1 ?_;refine ixV e C.leF N fun a8 a9 f N=>?_;refine bV C 0 1 ?_;refine ixV e C.leF N fun aa ab x N=>?_;refine cl0 N C (fun s _ _ o=>ZeH s.fle o (f.mono C.leF) (x.mono C.leF)) fun ac ad C N=>⟨_,rfl,?_⟩
   refine brZ fun N=>?_;exact endL
  ·refine lsA ?_;refine cl2 N C (fun k _ _ u=>Zwc k.fle u (e.mono k.bas)) fun ae af y ag C N=>⟨_,_,_,rfl,?_⟩
   refine brY fun N=>?_;refine Zy slA ?_;refine bV C 2 1 ?_;refine vL e C.leF ?_;exact tZ
theorem Zws {f e r} (N:Zga f=some r) (j:sc h eL e f.Rows):CallsH P 39 #[.agg #[.int .i64 f.Kind,.int .i64 f.Size,e]] h (fun v h'=>∃ w0,v=.agg #[.int .i64 r.Degree,w0]/\S ψ h h' [.it (El.ow oL) [w0] r.Elements]):=by
 refine zS hψ ⟨[],[],[],[(1,⟨kdL [0,2,0,1,3,0,4],.fin [2,3,4,0,1,5,6],true⟩)]⟩ Tryz.func39 fun C=>?_;refine new_S C fun w l C=>?_;refine new_S C fun x i C=>?_;refine ⟨fun _=>False,?_⟩;have g:=C;have a:=eX i;refine bV C 1 2 ?_;obtain ⟨y,k,N⟩:=obind N;refine ce1 C (fun s=>Zde s.fle k slA) fun v7 o xE C=>⟨_,rfl,eZ (a.trans xE),?_⟩
 replace a:=a.trans xE;refine ZT ?_;refine ldI_K (g.cells 1 rfl) 1 rfl rfl ?_;refine Zh oneA ?_
 (iterate 2 refine boxA fun u C=>?_)
 refine lsA ?_;exact endS
theorem ZgR {l i r} (N:Zae l=some r) (y:sc h eL i l.Rows):zR 11 #[.agg #[.int .i64 l.Kind,.int .i64 l.Size,i]] h ψ (.bool r):=by
 refine zS hψ ⟨[],[],[],[(3,⟨kdL [0,1,3,0,2,0,0,0,1,4,0,0],.fin (rgs [(0,12)]),true⟩),(7,⟨kdL [0,1,3,0,2,0,0,0,1,4,0,0],.fin (rgs [(0,12)]),true⟩)]⟩ Tryz.func11 fun C=>?_;refine new_S C fun b1 x C=>?_;refine bI C 0 0 ?_;apply brQ N<;>intro N
 ·refine ⟨fun _=>False,?_⟩;have o:=C;have e:=eX x;refine bV C 0 2 ?_;obtain ⟨ag,a,N⟩:=obind N;refine ce0 C (fun s=>Zb5 s.fle a slA) fun ah xE C=>⟨_,rfl,eZ (e.trans xE),?_⟩
  replace e:=e.trans xE;refine ZT ?_;refine ldI_K (o.cells 0 rfl) 1 rfl rfl ?_;refine brY fun N=>?_;refine bV C 0 2 ?_;refine cm0 N C (fun s a=>ZrO s a slA) fun ai aj C N=>⟨_,rfl,?_⟩
  exact tZ
 ·apply brQ N<;>intro N
  ·refine lsA ?_;refine cm1 N C (fun s a=>Zp2 s a slA) fun ak al am C N=>⟨_,_,rfl,?_⟩
   have C:=frA 0;refine cm0 N C (fun s a=>Zos s a slA) fun ao ap C N=>⟨_,rfl,?_⟩
   exact tZ
  ·apply brQ N<;>intro N
   ·refine ⟨fun _=>False,?_⟩;have u:=C;have f:=eX x;refine bV C 0 2 ?_;obtain ⟨aq,a2,N⟩:=obind N;refine ce0 C (fun s=>Zb5 s.fle a2 slA) fun ar xE C=>⟨_,rfl,eZ (f.trans xE),?_⟩
    replace f:=f.trans xE;refine ZT ?_;refine ldI_K (u.cells 0 rfl) 1 rfl rfl ?_;refine brY fun N=>?_;refine bV C 0 2 ?_;refine cm0 N C (fun s a=>Zzp s a slA) fun au av C N=>⟨_,rfl,?_⟩
    exact tZ
   ·apply brQ N<;>intro N
    ·refine bV C 0 2 ?_;refine vL y C.le ?_;refine brY fun N=>?_;refine lsA ?_;refine cm1 N C (fun s a=>ZGb s a slA) fun aw ax ay C N=>⟨_,_,_,rfl,?_⟩
     have C:=frA 0;refine cm0 N C (fun s a=>ZCx s a slA) fun az a6 C N=>⟨_,rfl,?_⟩
     exact tZ
    ·apply brQ N<;>intro N
     ·refine lsA ?_;refine cm2 N C (fun s a=>ZsY s a slA) fun b0 b2 a3 a7 C N=>⟨_,_,_,_,rfl,?_⟩
      have C:=frA 1;refine cm0 N C (fun s a=>Zt8 s a slA slA) fun b4 a8 C N=>⟨_,rfl,?_⟩
      exact tZ
     ·apply brQ N<;>intro N
      ·refine lsA ?_;refine cm2 N C (fun s a=>Zu1 s a slA) fun b5 b6 a4 a9 C N=>⟨_,_,_,rfl,?_⟩
       refine new_S C fun b3 aa C=>?_
       (iterate 2 refine boxA fun ab C=>?_)
       exact tZ
      ·refine brY fun N=>?_;refine lsA ?_;refine cm1 N C (fun s a=>Zws s a slA) fun b7 b8 ac C N=>⟨_,_,rfl,?_⟩
       have C:=frA 0;obtain ⟨b9,v,N⟩:=obind N;obtain ⟨a5,ad,g,j⟩:=id C;refine (ZG2 (CLe.refl _) v slA).mono fun ae af ⟨w,k⟩=>⟨_,w,?_⟩
       replace C:=join0 g j (k.weak g.fle);clear k g j;exact tZ
end
theorem Zoj {ψ:CM} {h:Heap} (hψ:CLe ψ (hcell h)) {a:List ByteArray} {v0:Value} {e:ByteArray} {r:ByteArray} (N:ZdE a e=some r) (g:sc h El.str v0 a):CallsH P 22 #[v0,.string e] h (fun v j=>v=.string r/\S ψ h j []):=by
  unfold ZdE at N;split at N
  · rename_i f;obtain rfl:=oI N;exact ZFk Tryz.joinL Tryz.joinL_x hψ g f.1 f.2
  · cases N
theorem ZD6 {ψ:CM} {h:Heap} (hψ:CLe ψ (hcell h)) {e a:Int} {r:ByteArray} (N:Zjd e a=some r) (k:LayH 3 [0] [1,2] h):CallsH P 71 #[.int .i64 e,.int .i64 a] h (fun v l=>v=.string r/\S ψ h l []):=by
  unfold Zjd at N;split at N
  · rename_i f;obtain rfl:=oI N;obtain ⟨rfl,g,h1⟩:=f;exact fmt_H hψ fun w j=>Go.Proofs.Any.strconv_FormatInt_10 Tryz.fmtM _ g h1 w (TabH.tab κ (j▸k.1))
  · cases N
section
variable {ψ:CM} {h:Heap} (hψ:CLe ψ (hcell h))
include hψ
theorem Zfo {n0 r} (N:ZcT n0=some r) (g:LayH 3 [0] [1,2] h):zR 23 #[.int .i64 n0] h ψ (.string r):=by
 refine zO Tryz.func23 fun C=>?_;refine cl0 N C (fun s _ _ a=>ZD6 s.fle a (g.ext s.ext)) fun f e C N=>⟨_,rfl,?_⟩
 exact tZ
theorem ZHN {n0 r} (N:Ze2 n0=some r)  :zR 66 #[.int .i64 n0] h ψ (.bool r):=by
 refine zO Tryz.func66 fun C=>?_;refine cm0 N C (fun s a=>Zat s a) fun f e C N=>⟨_,rfl,?_⟩
 exact tZ
theorem Zla {e v0 r} (N:Zen e=some r) (i:sc h eI v0 e) (hL:LayH 3 [0] [1,2] h):zR 21 #[v0] h ψ (.string r):=by
 refine zU [[7,19,108]] [[3]] Tryz.func21 fun C=>?_;refine ⟨fun f=>S ψ h f []/\ZiW e=some r,?_,?_⟩
 ·refine vL i C.le ?_;refine brZ fun N=>?_;refine cl0 N C (fun o _ _ j=>ZeF o.fle j slA κ (fun x=>fun k=>fun u  =>ZHN k u )) fun y a2 C N=>⟨_,rfl,?_⟩
  exact brQ N (fun N=>tZ) fun N=>tZ
 ·rintro _ f ⟨C,N⟩;refine vL i C.le ?_;refine brZ fun N=>?_;refine vL i C.le ?_;have C:=C.nilO (E:=El.str);refine lw21 N (fun v g ac=>([.it (El.ow El.str) [v] ac],ac,g)) fun v g a3 ac a C N O=>?_;apply brQ N<;>intro N
  ·refine ixI slA N fun a4 N=>?_;refine cl0 N C (fun s _ _ l=>Zfo s.fle l (hL.ext s.ext)) fun a5 a6 C N=>⟨_,rfl,?_⟩
   refine puA N 0 fun a7 a8 a9 C N=>?_;exact endL
  ·refine cm0 N C (fun s w=>Zoj s w slA) fun aa ab C N=>⟨_,rfl,?_⟩
   exact tZ
theorem ZrI {e g r} (N:ZdY e=some r) (i:sc h eL g e.Rows) (hL:LayH 3 [0] [1,2] h):zR 7 #[.agg #[.int .i64 e.Kind,.int .i64 e.Size,g]] h ψ (.string r):=by
 refine zS hψ ⟨an [[7,25,102]],an [[12,20]],[],[(12,⟨kdL [0,1,3,0,0,2,4,0,0,0,0,0],.fin [0,1,2,4,5,6,3,7,8,9,10,11],true⟩)]⟩ Tryz.func7 fun C=>?_;refine new_S C fun b1 a8 C=>?_;refine lsA ?_;refine cm0 N C (fun s x=>ZgR s x slA) fun r8 a9 C N=>⟨_,rfl,?_⟩
 refine brZ fun N=>?_;refine ⟨fun k l=>S ψ h l [.box b1 [.int .i64 e.Kind,.int .i64 e.Size,g]]/\ZgK e k=some r,?_,?_⟩
 ·refine bV C 0 2 ?_;refine vL i C.le ?_;apply brQ N<;>intro N
  ·refine bV C 0 2 ?_;refine vL i C.le ?_;have C:=C.nilO (E:=El.str);refine lw21 N (fun v4 u a4=>([.it (El.ow El.str) [v4] a4,.box b1 [.int .i64 e.Kind,.int .i64 e.Size,g]],a4,u)) fun v4 u aa a4 a C N O=>?_;apply brQ N<;>intro N
   ·refine ixV i C.le N fun ab ac f N=>?_;refine cl0 N C (fun v _ _ y=>Zla v.fle y slA (hL.ext v.ext)) fun ad ae C N=>⟨_,rfl,?_⟩
    refine puA N 0 fun af ag ah C N=>?_;exact endL
   ·refine cm0 N C (fun s x=>Zoj s x slA) fun ai a6 C N=>⟨_,rfl,?_⟩
    obtain ⟨xm,hq,rfl⟩:=omap N;obtain rfl:=oI O;exact ⟨pk C [1],hq⟩
  ·exact endC
 ·rintro _ k l ⟨C,N⟩;refine ⟨fun _=>False,?_⟩;have o:=C;have j:=eX l;refine bI C 0 0 ?_;obtain ⟨aj,a2,N⟩:=obind N;refine ce0 C (fun s=>Zqh s.fle a2) fun ak xE C=>⟨_,rfl,eZ (j.trans xE),?_⟩
  replace j:=j.trans xE;refine ZT ?_;refine ldI_K (o.cells 0 rfl) 1 rfl rfl ?_;refine cl0 N C (fun w _ _ a3=>Zfo w.fle a3 (hL.ext w.ext)) fun al am C N=>⟨_,rfl,?_⟩
  refine gfA N fun N=>?_;refine gfA N fun N=>?_;refine gfA N fun N=>?_;refine gfA N fun N=>?_;exact tZ
theorem Zyx {e v0 v1 r} (N:ZoJ e v1=some r) (f:sc h El.str v0 e):zR 24 #[v0,.string v1] h ψ (.int .i64 r):=by
 refine zT [[2,48]] Tryz.func24 fun C=>?_;refine vL f C.le ?_;refine lp1 N (nlS C) fun m j g a C N O=>?_;refine brY fun N=>?_;refine ixS slA N fun i N=>?_;exact brQ N (fun N=>tZ) fun N=>tZ
theorem ZsH {e r} (N:Zd3 e=some r)  :zR 8 #[.string e] h ψ (.tuple #[.int .i64 r.1,.bool r.2]):=by
 refine zO Tryz.func8 fun C=>?_;refine cm1 N C (fun s a=>Ztr s a) fun i j f C N=>⟨_,rfl,?_⟩
 refine cm0 N C (fun s a=>Zyx s a slA) fun k g C N=>⟨_,rfl,?_⟩
 exact tZ
theorem ZoD {e a r} (N:Zci e a=some r) (g:LayH 3 [0] [1,2] h):zL 18 #[.string e,.string a] h ψ El.str r:=by
 unfold Zci at N;split at N
 ·rename_i f;obtain rfl:=oI N;exact Zxw Tryz.splitL κ hψ f.1 f.2 (g.2.1 0 (by decide))
 ·cases N
theorem ZBQ {a prefix1 r} (N:ZpD a prefix1=some r)  :zR 210 #[.string a,.string prefix1] h ψ (.bool r):=by
 refine zO Tryz.func210 fun C=>?_;refine brY fun N=>?_;refine ssC N fun e N=>?_;exact tZ
theorem ZwN {a prefix1 r} (N:ZmB a prefix1=some r)  :zR 136 #[.string a,.string prefix1] h ψ (.string r):=by
 refine zO Tryz.func136 fun C=>?_;refine cm0 N C (fun s e=>ZBQ s e) fun i f C N=>⟨_,rfl,?_⟩
 refine brY fun N=>?_;refine ssB N fun g N=>?_;exact tZ
theorem ZEI {a prefix1 r} (N:Zj3 a prefix1=some r)  :zR 63 #[.string a,.string prefix1] h ψ (.string r):=by
 refine zO Tryz.func63 fun C=>?_;refine cm0 N C (fun s e=>ZwN s e) fun g f C N=>⟨_,rfl,?_⟩
 exact tZ
theorem Zuz {g r} (N:Zeq g=some r) (hL:LayH 3 [0] [1,2] h):zR 19 #[.string g] h ψ (.tuple #[.int .i64 r.1,.bool r.2]):=by
 refine zU [] [[4]] Tryz.func19 fun C=>?_;obtain ⟨r8,k,N⟩:=obind N;obtain ⟨φ,L,s,a⟩:=id C;refine (ZEI s.fle k).mono fun l o ⟨f,t⟩=>⟨_,f,?_⟩
 replace C:=join0 s a t;clear t s a;refine ⟨fun hh=>S ψ h hh []/\((gPars g).bind fun q=>ZdJ g q)=some r,?_,?_⟩
 ·apply brQ N<;>intro N
  ·obtain rfl:=oI N;exact ⟨rfl,C⟩
  ·apply brQ N<;>intro N
   ·obtain rfl:=oI N;exact ⟨rfl,C⟩
   ·exact ⟨C,N⟩
 ·rintro _ u ⟨C,N⟩;obtain ⟨q,i,N⟩:=obind N;unfold gPars at i;split at i
  ·rename_i O;obtain rfl:=oI i;obtain ⟨φ,L,s,a⟩:=id C;refine (ZEZ Tryz.parseL s.fle O ((hL.ext s.ext).2.2 1 (by decide)) ((hL.ext s.ext).2.2 2 (by decide))).mono fun v w ⟨⟨n,e,f,c⟩,t⟩=>⟨_,_,f,?_⟩
   replace C:=join0 s a t;clear t s a;rcases c with ⟨rfl,hok⟩|⟨⟨t,x,rfl⟩,hno⟩
   ·rw [ZqV hok,ZdJ] at N;obtain ⟨y,j,N⟩:=obind N;obtain ⟨φ,L,s,a⟩:=id C;refine (Zfo s.fle j (hL.ext s.ext)).mono fun a2 a3 ⟨f,t⟩=>⟨_,f,?_⟩
    replace C:=join0 s a t;clear t s a;apply brQ N<;>intro N
    ·obtain rfl:=oI N;exact ⟨rfl,C⟩
    ·obtain rfl:=oI N;exact ⟨rfl,C⟩
   ·rw [Zs8 hno,ZdJ] at N;obtain rfl:=oI N;exact ⟨rfl,C⟩
  ·cases i
theorem Zzm {l r} (N:ZiK l=some r) (hL:LayH 3 [0] [1,2] h):CallsH P 20 #[.string l] h (fun v h'=>∃ w0,v=.tuple #[w0,.bool r.2]/\S ψ h h' [.it oL [w0] r.1]):=by
 refine zT [[5,25,84]] Tryz.func20 fun C=>?_;apply brQ N<;>intro N
 ·exact endX
 ·refine cl1 N C (fun s _ _ x=>ZoD s.fle x (hL.ext s.ext)) fun o u y C N=>⟨_,rfl,?_⟩
  refine Zy slA ?_;have C:=C.nilO (E:=eI);refine lw21 N (fun w f e=>([.it oL [w] e,.it (El.ow El.str) [u] o],e,f)) fun w f a2 e a C N O=>?_;apply brQ N<;>intro N
  ·refine ixS slA N fun a3 N=>?_;refine cl0 N C (fun g _ _ j=>Zuz g.fle j (hL.ext g.ext)) fun a4 a5 C N=>⟨_,_,rfl,?_⟩
   refine puA N 0 fun a6 a7 a8 C N=>?_;exact endL
  ·refine cl0 N C (fun i _ _ k=>Zla i.fle k slA (hL.ext i.ext)) fun a9 aa C N=>⟨_,rfl,?_⟩
   apply brQ N<;>intro N
   ·exact endX
   ·exact endX
theorem ZER {y0 r} (N:Zko y0=some r) (hL:LayH 3 [0] [1,2] h):CallsH P 6 #[.string y0] h (fun v h'=>∃ w0,v=.tuple #[.agg #[.int .i64 r.1.Kind,.int .i64 r.1.Size,w0],.bool r.2]/\S ψ h h' [.it (El.ow oL) [w0] r.1.Rows]):=by
 refine zU [[9,246]] [[14]] Tryz.func6 fun C=>?_;refine new_S C fun b2 au C=>?_;refine cl1 N C (fun s _ _ f=>ZoD s.fle f (hL.ext s.ext)) fun x y av C N=>⟨_,rfl,?_⟩
 refine Zy slA ?_;apply brQ N<;>intro N
 ·(iterate 3 refine boxA fun aw C=>?_)
  refine lsA ?_;exact endX
 ·refine new_S C fun b5 ax C=>?_;refine ixS slA N fun ay N=>?_;refine cm0 N C (fun s f=>ZsH s f) fun g az C N=>⟨_,_,rfl,?_⟩
  refine boxA fun b0 C=>?_;refine ixS slA N fun b1 N=>?_;refine cl0 N C (fun a2 _ _ a8=>Zuz a2.fle a8 (hL.ext a2.ext)) fun i ae C N=>⟨_,_,rfl,?_⟩
  refine boxA fun af C=>?_;refine ⟨fun j=>∃ xs k,S ψ h j [.box b5 [.int .i64 g.1,.int .i64 i.1,k],.it (El.ow El.str) [y] x,.box b2 [.int .i64 0,.int .i64 0,(.slice none 0 0)],.it (El.ow oL) [k] xs]/\Zf7 y0 g i xs=some r,?_,?_⟩
  ·refine ixS slA N fun b3 N=>?_;apply brQ N<;>intro N
   ·refine ixS slA N fun b4 N=>?_;refine cl1 N C (fun a3 _ _ o=>ZoD a3.fle o (hL.ext a3.ext)) fun ac ad ag C N=>⟨_,rfl,?_⟩
    refine Zy slA ?_;have C:=C.nilO (E:=oL);refine lw12 N (fun a4 e l=>([.it (El.ow El.str) [ad] ac,.box b5 [.int .i64 g.1,.int .i64 i.1,l],.it (El.ow El.str) [y] x,.box b2 [.int .i64 0,.int .i64 0,(.slice none 0 0)],.it (El.ow oL) [l] e],a4,e)) fun a4 ah e l a C N O=>?_;apply brQ N<;>intro N
    ·refine ixS slA N fun b6 N=>?_;refine cl1 N C (fun a5 _ _ u=>Zzm a5.fle u (hL.ext a5.ext)) fun b7 b8 ai C N=>⟨_,_,rfl,?_⟩
     refine bV C 2 2 ?_;refine Zh oneA ?_;obtain ⟨b9,w,N⟩:=obind N;refine Zbw C 4 rfl rfl rfl w fun ba aj C=>?_;refine boxA fun ak C=>?_;exact endL
    ·obtain ⟨xm,hq,rfl⟩:=omap N;obtain rfl:=oI O;exact ⟨_,_,pk C [1,2,3,4],hq⟩
   ·exact endX
  ·rintro _ j ⟨xs,k,C,N⟩;refine lsA ?_;refine cm0 N C (fun s f=>ZgR s f slA) fun bb am C N=>⟨_,rfl,?_⟩
   apply brQ N<;>intro N
   ·(iterate 3 refine boxA fun ao C=>?_)
    refine lsA ?_;exact endX
   ·refine lsA ?_;refine cl0 N C (fun a6 _ _ a9=>ZrI a6.fle a9 slA (hL.ext a6.ext)) fun bc ap C N=>⟨_,rfl,?_⟩
    apply brQ N<;>intro N
    ·(iterate 3 refine boxA fun aq C=>?_)
     refine lsA ?_;exact endX
    ·refine lsA ?_
     (iterate 3 refine boxA fun ar C=>?_)
     refine lsA ?_;exact endS
theorem ZBk {a0 a f e r} (N:ZkQ a0 f=some r) (g:sc h eL a a0.Rows) (i:sc h eL e f.Rows):zR 10 #[.agg #[.int .i64 a0.Kind,.int .i64 a0.Size,a],.agg #[.int .i64 f.Kind,.int .i64 f.Size,e]] h ψ (.bool r):=by
 refine zO Tryz.func10 fun C=>?_;refine new_S C fun v k C=>?_;refine new_S C fun w l C=>?_;refine lsA ?_;refine brY fun N=>?_;refine lsA ?_;refine brY fun N=>?_;refine lsA ?_;refine cm0 N C (fun s j=>Zk8 s j slA slA) fun o u C N=>⟨_,rfl,?_⟩
 exact tZ
theorem ZqT {f e a r} (N:Zi3 f a=some r) (g:sc h eL e f.Rows):zR 40 #[.agg #[.int .i64 f.Kind,.int .i64 f.Size,e],.int .i64 a] h ψ (.int .i64 r):=by
 refine zO Tryz.func40 fun C=>?_;refine new_S C fun l j C=>?_;refine lsA ?_;refine cm0 N C (fun s i=>ZgR s i slA) fun o k C N=>⟨_,rfl,?_⟩
 refine brZ fun N=>?_;refine bI C 0 0 ?_;exact brQ N (fun N=>tZ) fun N=>tZ
theorem ZAU {e a r} (N:Zis e=some r) (g:sc h eL a e.Rows):CallsH P 12 #[.agg #[.int .i64 e.Kind,.int .i64 e.Size,a]] h (fun v h'=>∃ w0,v=.tuple #[.agg #[.int .i64 r.1.Points,w0],.int .i64 r.2]/\S ψ h h' [.it (El.ow oL) [w0] r.1.Blocks]):=by
 refine zO Tryz.func12 fun C=>?_;refine new_S C fun y i C=>?_;refine new_S C fun b2 j C=>?_;refine lsA ?_;refine cm0 N C (fun s f=>ZqT s f slA) fun r6 k C N=>⟨_,rfl,?_⟩
 apply brQ N<;>intro N
 ·(iterate 2 refine boxA fun l C=>?_)
  refine lsA ?_;exact endX
 ·refine lsA ?_;refine cm1 N C (fun s f=>Zp2 s f slA) fun o u w C N=>⟨_,_,rfl,?_⟩
  (iterate 2 refine boxA fun x C=>?_)
  refine lsA ?_;exact endS
theorem Zy6 {e a r} (N:ZnA e=some r) (f:sc h eL a e.Rows):CallsH P 41 #[.agg #[.int .i64 e.Kind,.int .i64 e.Size,a]] h (fun v h'=>∃ w0,v=.agg #[.int .i64 r.Kind,.int .i64 r.Size,w0]/\S ψ h h' [.it (El.ow oL) [w0] r.Rows]):=by
 refine zO Tryz.func41 fun C=>?_;refine new_S C fun u i C=>?_;refine new_S C fun w j C=>?_;refine bV C 1 2 ?_;refine cm1 N C (fun s g=>Zde s g slA) fun x y k C N=>⟨_,rfl,?_⟩
 refine boxA fun l C=>?_;refine lsA ?_
 (iterate 3 refine boxA fun o C=>?_)
 refine lsA ?_;exact endS
theorem ZBl {e a r} (N:Zka e=some r) (g:sc h eL a e.Blocks):CallsH P 13 #[.agg #[.int .i64 e.Points,a]] h (fun v h'=>∃ w0,v=.tuple #[.agg #[.int .i64 r.1.Kind,.int .i64 r.1.Size,w0],.int .i64 r.2]/\S ψ h h' [.it (El.ow oL) [w0] r.1.Rows]):=by
 refine zO Tryz.func13 fun C=>?_;refine new_S C fun y j C=>?_;refine new_S C fun b2 k C=>?_;refine lsA ?_;refine cm0 N C (fun s f=>Zos s f slA) fun r5 l C N=>⟨_,rfl,?_⟩
 apply brQ N<;>intro N
 ·(iterate 3 refine boxA fun o C=>?_)
  refine lsA ?_;exact endX
 ·refine lsA ?_;refine Zh oneA ?_;refine cm1 N C (fun s f=>Zy6 s f slA) fun u w x C N=>⟨_,_,_,rfl,?_⟩
  (iterate 3 refine boxA fun i C=>?_)
  refine lsA ?_;exact endS
theorem ZFG {a v0 j f r} (N:ZfV a j=some r) (w:SlC ψ (El.int .u8) v0 a) (x:sc h eL f j.Blocks):CallsH P 14 #[v0,.agg #[.int .i64 j.Points,f]] h (fun v h'=>∃ w0,v=.agg #[.int .i64 r.Points,w0]/\S ψ h h' [.it (El.ow eL) [w0] r.Blocks]):=by
 refine zO Tryz.func14 fun C=>?_;refine new_S C fun b3 a3 C=>?_;refine new_S C fun b4 a4 C=>?_;refine cl2 N C (fun s _ _ y=>ZsJ s.fle y (w.mono s.bas)) fun r7 b7 v7 a5 C N=>⟨_,rfl,?_⟩
 refine bI C 3 0 ?_;obtain ⟨a6,k,N⟩:=obind N;obtain ⟨a2,a7,e,g⟩:=id C;refine (Zep k (e.upS g) ((frF g 1 rfl).mono e.ubF)).mono fun a8 a9 ⟨aa,l,i⟩=>⟨_,l,?_⟩
 replace C:=e.downS i;clear i e g;refine cl1 N C (fun u _ _ o=>Zqk u.fle o (C.cells 4 rfl) slA slA) fun ab ac ad C N=>⟨_,_,rfl,?_⟩
 (iterate 2 refine boxA fun ae C=>?_)
 refine lsA ?_;exact endS
theorem ZtL {n0 r} (N:ZgY n0=some r)  :zR 44 #[.int .i64 n0] h ψ (.bool r):=by
 refine zO Tryz.func44 fun C=>?_;refine cm0 N C (fun s a=>Zat s a) fun f e C N=>⟨_,rfl,?_⟩
 exact tZ
end
theorem ZF4 {ψ:CM} {j h:Heap} {os:List Ob} {s:List Zd} {v0:Value} {f:Zd->Zd->Option Int} {i:Nat} {g:List Value} {r:List Zd} (N:ZgG s f=some r) (C:S ψ j h (.it (El.ow Zx) [v0] s::os)) (w:ctx.okf i=true) (k1:∀ {h1:Heap},ExtH j h1->∀ {ψ1:CM},CLe ψ1 (hcell h1)->∀ {k:Zd} {l:Zd} {u:Int},f k l=some u->CallsQ True P i (([.agg #[.int .i64 k.A,.int .i64 k.B],.agg #[.int .i64 l.A,.int .i64 l.B]]:List Value)++g).toArray h1 (fun v h'=>v=.int .i64 u/\S ψ1 h1 h' [])):CallsH P 289 #[v0,.func (.func i) #[] g.toArray] h (fun v h'=>v=.tuple #[]/\S ψ j h' (.it (El.ow Zx) [v0] r::os)):=by
  unfold ZgG at N;split at N
  · rename_i y;obtain rfl:=oI N;obtain ⟨fn,hf,o,hn⟩:=ctxOk.fns i w;obtain ⟨c,o⟩:=Option.isSome_iff_exists.1 o;obtain ⟨⟨cf,a2,a6⟩,a4⟩:=y;have a5:(fun a c=>(f a c).getD 0)=cf:=by funext a c;rw [a2];rfl
    rw [a5]
    haveI:Inhabited Zd:=⟨(Zd.mk (0:Int) (0:Int))⟩
    exact ZxI (ρ:=Tryz.sortK_ren) (E:=Zx) (enc:=fun x=>[.int .i64 x.A,.int .i64 x.B]) Tryz.sortK Tryz.isAgg142 Tryz.sizeOf142 (fun {φ L cs x} h=>⟨(ZpM φ φ L cs x h).1,ZaI h⟩) (fun _ x=>⟨[.int .i64 x.A],[.int .i64 x.B],[],[],rfl,rfl,⟨rfl,rfl⟩,⟨rfl,rfl⟩⟩) rfl a6 C (Go.Proofs.enters_of hf hn o) (fun e _=>k1 e) a2 a4
  · cases N
theorem ZzR {ψ:CM} {e h:Heap} {os:List Ob} {f:List Zd} {v0:Value} {r:List Zd} (N:Zgb f=some r) (C:S ψ e h (.it (El.ow Zx) [v0] f::os)):CallsH P 290 #[v0] h (fun v j=>∃ w0,v=w0/\S ψ e j (.it (El.ow Zx) [w0] r::os)):=by
 apply ZDv;unfold Zgb at N;split at N
 case isFalse=>cases N
 rename_i l;exact ZqO (E:=Zx) ZpM (z:=2) rfl (zero:=[.int .i64 0,.int .i64 0]) rfl (fun h p K=>ldI .i64 h p fun a=>ldI .i64 h (p.add 1) fun b=>K ⟨a,b⟩) (fun h p y K=>vStore1 h p (.int .i64 y.A) fun h1=>vStore1 h1 (p.add 1) (.int .i64 y.B) K) (fun a b=>a.A==b.A&&a.B==b.B) (fun ha N hi o=>by obtain ⟨cs,g,x⟩:=ha.cells N hi rfl;obtain rfl:=ZaI x;exact ldI_K g 0 rfl rfl (ldI_K g 1 rfl rfl o)) (fun {h os v xs k y f p K} C i w N o u=>stN_S (cs:=[.int .i64 y.A,.int .i64 y.B]) C i w N o rfl (fun _=>⟨[.int .i64 y.A],[.int .i64 y.B],[],[],rfl,rfl,⟨rfl,rfl⟩,⟨rfl,rfl⟩⟩) u) l N C (R:=fun v j=>∃ w0,v=w0/\S ψ e j (.it (El.ow Zx) [w0] r::os)) fun v j C=>⟨v,rfl,C⟩
section
variable {ψ:CM} {h:Heap} (hψ:CLe ψ (hcell h))
include hψ
theorem Zsg {edges0 v0 r} (N:Zgh edges0=some r) (u:sc h Zx v0 edges0):zL 239 #[v0] h ψ Zx r:=by
 refine zT [[3,19,48]] Tryz.func239 fun C=>?_;refine vL u C.le ?_;have C:=C.nilO (E:=Zx);refine lw21 N (fun v w f=>([.it (El.ow Zx) [v] f],f,w)) fun v w a4 f a C N O=>?_;apply brQ N<;>intro N
 ·refine ixA slA N fun e a5 y hx N=>?_;obtain ⟨cs,ck,hr⟩:=u.cells y hx rfl;obtain rfl:=ZaI hr;refine lsA ?_;refine new_S C fun b5 a6 C=>?_
  (iterate 2 refine boxA fun a7 C=>?_)
  refine lsA ?_;obtain ⟨a8,i,N⟩:=obind N;refine ZhU C 1 rfl (fun _=>⟨[.int .i64 (if (e.B:Int)<e.A then e.B else e.A)],[.int .i64 (if (e.B:Int)>e.A then e.B else e.A)],[],[],rfl,rfl,⟨rfl,rfl⟩,⟨rfl,rfl⟩⟩) rfl rfl i fun a9 aa C=>?_;dsimp at C;exact endL
 ·obtain ⟨ab,j,N⟩:=obind N;obtain ⟨φ,L,s,g⟩:=id C;refine (ZF4 j (s.upS g) κ (fun ac=>fun k=>fun x  =>ZHP k x )).mono fun ae af ⟨eq,t⟩=>⟨eq,?_⟩
  replace C:=s.downS t;clear t s g;obtain ⟨ag,l,N⟩:=obind N;refine (ZzR l C ).mono fun ah ai ⟨aj,o,C⟩=>⟨_,o,?_⟩
  exact endX
theorem Zqm {colors0 v0 edges1 v1 r} (N:Zg0 colors0 edges1=some r) (e:SlC ψ eI v0 colors0) (f:sc h Zx v1 edges1):CallsH P 170 #[v0,v1] h (fun v h'=>∃ w0 w1,v=.tuple #[.agg #[w0,w1],.int .i64 r.2]/\S ψ h h' [.it eL [w0] r.1.Colors,.it (El.ow Zx) [w1] r.1.Edges]):=by
 refine zU [] [[3]] Tryz.func170 fun C=>?_;refine new_S C fun g k C=>?_;refine ⟨fun a=>S ψ h a [.box g [(.slice none 0 0),(.slice none 0 0)]]/\Zof colors0 edges1=some r,?_,?_⟩
 ·refine vL e C.leF ?_;apply brQ N<;>intro N
  ·(iterate 2 refine boxA fun l C=>?_)
   refine lsA ?_;exact endX
  ·refine vL f C.le ?_;apply brQ N<;>intro N
   ·(iterate 2 refine boxA fun i C=>?_)
    refine lsA ?_;exact endX
   ·exact endC
 ·rintro _ a ⟨C,N⟩;refine cm1 N C (fun s j=>Zsg s j slA) fun o u w C N=>⟨_,rfl,?_⟩
  refine Zh (e.mono C.leF).one ?_;refine Zh oneA ?_
  (iterate 2 refine boxA fun x C=>?_)
  refine lsA ?_;have C:=C.arg e;exact endS
theorem ZBH {y0 v0 y1 r} (N:Zvn y0 y1=some r) (f0:sc h eL v0 y0):CallsH P 95 #[v0,.bool y1] h (fun v h'=>∃ w0 w1,v=.tuple #[.agg #[w0,w1],.int .i64 r.2]/\S ψ h h' [.it eL [w0] r.1.Colors,.it (El.ow Zx) [w1] r.1.Edges]):=by
 refine zU [[8,43,174],[17,61,294],[20,61,318]] [[13,54]] Tryz.func95 fun C=>?_;refine new_S C fun b4 al C=>?_;refine cm0 N C (fun s hx=>ZrO s hx slA) fun am ao C N=>⟨_,rfl,?_⟩
 apply brQ N<;>intro N
 ·(iterate 2 refine boxA fun ap C=>?_)
  refine lsA ?_;exact endX
 ·refine cm0 N C (fun s hx=>Zb5 s hx slA) fun e aq C N=>⟨_,rfl,?_⟩
  apply brQ N<;>intro N
  ·(iterate 2 refine boxA fun ar C=>?_)
   refine lsA ?_;exact endX
  ·have C:=C.nilO (E:=eI);refine lw21 N (fun o u k=>([.it oL [o] k,.box b4 [(.slice none 0 0),(.slice none 0 0)]],k,u)) fun o u au k a C N O=>?_;apply brQ N<;>intro N
   ·refine gzA N fun N=>?_;refine ⟨fun y9 w=>S ψ h w [.it oL [o] k,.box b4 [(.slice none 0 0),(.slice none 0 0)]]/\Zio k u y9=some a,?_,?_⟩
    ·apply brQ N<;>intro N
     ·apply brQ N<;>intro N
      ·exact endC
      ·exact endC
     ·exact endC
    ·rintro _ y9 w ⟨C,N⟩;refine puA N 0 fun av aw ae C N=>?_;exact endL
   ·have C:=C.nilO (E:=Zx);refine lw21 N (fun a3 g x=>([.it (El.ow Zx) [a3] x,.it oL [o] k,.box b4 [(.slice none 0 0),(.slice none 0 0)]],x,g)) fun a3 g af x ax C N O=>?_;apply brQ N<;>intro N
    ·refine lw21 N (fun l i j=>([.it (El.ow Zx) [l] j,.it oL [o] k,.box b4 [(.slice none 0 0),(.slice none 0 0)]],j,i)) fun l i ag j ay C N O=>?_;apply brQ N<;>intro N
     ·refine ixV f0 C.le N fun az b0 f N=>?_;refine ixI slA N fun y N=>?_;refine ZP (E:=Zx) (css:=[[.int .i64 g,.int .i64 (ε.wrap ((ε.wrap ((ε.wrap (3*e))+(ε.wrap (e*g))))+i))],[.int .i64 (ε.wrap (e+i)),.int .i64 (ε.wrap ((ε.wrap ((ε.wrap (3*e))+(ε.wrap (e*g))))+i))],[.int .i64 (ε.wrap ((ε.wrap (2*e))+y)),.int .i64 (ε.wrap ((ε.wrap ((ε.wrap (3*e))+(ε.wrap (e*g))))+i))]]) (xs:=([(Zd.mk g (ε.wrap ((ε.wrap ((ε.wrap (3*e))+(ε.wrap (e*g))))+i))),(Zd.mk (ε.wrap (e+i)) (ε.wrap ((ε.wrap ((ε.wrap (3*e))+(ε.wrap (e*g))))+i))),(Zd.mk (ε.wrap ((ε.wrap (2*e))+y)) (ε.wrap ((ε.wrap ((ε.wrap (3*e))+(ε.wrap (e*g))))+i)))]:List Zd)) C (fun _=>⟨[],[],rfl,⟨[.int .i64 g],[.int .i64 (ε.wrap ((ε.wrap ((ε.wrap (3*e))+(ε.wrap (e*g))))+i))],[],[],rfl,rfl,⟨rfl,rfl⟩,⟨rfl,rfl⟩⟩,⟨[],[],rfl,⟨[.int .i64 (ε.wrap (e+i))],[.int .i64 (ε.wrap ((ε.wrap ((ε.wrap (3*e))+(ε.wrap (e*g))))+i))],[],[],rfl,rfl,⟨rfl,rfl⟩,⟨rfl,rfl⟩⟩,⟨[],[],rfl,⟨[.int .i64 (ε.wrap ((ε.wrap (2*e))+y))],[.int .i64 (ε.wrap ((ε.wrap ((ε.wrap (3*e))+(ε.wrap (e*g))))+i))],[],[],rfl,rfl,⟨rfl,rfl⟩,⟨rfl,rfl⟩⟩,rfl⟩⟩⟩) rfl rfl fun b1 ah C=>?_;obtain ⟨b2,a5,N⟩:=obind N;refine app_S C 1 rfl (Zf3 ZpM slA) rfl rfl a5 fun b3 ai C=>?_;dsimp at C;exact endL
     ·exact endX
    ·have C:=frA 1;refine cl2 N C (fun aa ab _ a6=>Zqm aa.fle a6 (frF ab 1 rfl) slA) fun b5 b6 ac aj C N=>⟨_,_,_,rfl,?_⟩
     (iterate 2 refine boxA fun ak C=>?_)
     refine lsA ?_;exact endX
theorem ZwS {zeros0 e r} (N:Zib zeros0 e=some r)  :zL 240 #[.int .i64 zeros0,.int .i64 e] h ψ eI r:=by
 refine zT [[3,36]] Tryz.func240 fun C=>?_;refine mkO eI N fun j g k C N=>?_;refine lw11 N (fun k6 xs=>([.it oL [g] xs],k6,xs)) fun k6 l xs a C N O=>?_;apply brQ N<;>intro N
 ·refine ixA slA N fun o s i f N=>?_;refine st1_S C 0 rfl i f rfl (fun _=>⟨rfl,rfl⟩) fun u C=>?_;dsimp at C;exact endL
 ·exact endX
theorem Zuw {points0 g v1 r} (N:Ze8 points0 g=some r) (w:sc h eL v1 g):CallsH P 171 #[.int .i64 points0,v1] h (fun v h'=>∃ w0 w1,v=.tuple #[.agg #[w0,w1],.int .i64 r.2]/\S ψ h h' [.it eL [w0] r.1.Colors,.it (El.ow Zx) [w1] r.1.Edges]):=by
 refine zT [[3,37,78],[6,37,120]] Tryz.func171 fun C=>?_;refine new_S C fun x a7 C=>?_;refine vL w C.le ?_;have C:=C.nilO (E:=Zx);refine lw21 N (fun y i ap=>([.it (El.ow Zx) [y] ap,.box x [(.slice none 0 0),(.slice none 0 0)]],ap,i)) fun y i a8 ap a C N O=>?_;apply brQ N<;>intro N
 ·refine ixV w C.le N fun a9 aa f N=>?_;refine vL f C.le ?_;refine lw21 N (fun j k e=>([.it (El.ow Zx) [j] e,.box x [(.slice none 0 0),(.slice none 0 0)]],e,k)) fun j k ab e ac C N O=>?_;apply brQ N<;>intro N
  ·refine ixI slA N fun a2 N=>?_;obtain ⟨ad,l,N⟩:=obind N;refine ZhU C 0 rfl (fun _=>⟨[.int .i64 a2],[.int .i64 (ε.wrap (points0+i))],[],[],rfl,rfl,⟨rfl,rfl⟩,⟨rfl,rfl⟩⟩) rfl rfl l fun ae af C=>?_;dsimp at C;exact endL
  ·exact endX
 ·refine cm0 N C (fun s o=>Zb5 s o slA) fun ag ah C N=>⟨_,rfl,?_⟩
  refine cm1 N C (fun s o=>ZwS s o) fun ai aj ak C N=>⟨_,rfl,?_⟩
  have C:=frA 0;refine cl2 N C (fun a3 a4 _ u=>Zqm a3.fle u (frF a4 0 rfl) slA) fun al am a5 ao C N=>⟨_,_,_,rfl,?_⟩
  (iterate 2 refine boxA fun a6 C=>?_)
  refine lsA ?_;exact endX
theorem ZG3 {e a r} (N:Zid e=some r) (i:sc h eL a e.Blocks):CallsH P 96 #[.agg #[.int .i64 e.Points,a]] h (fun v h'=>∃ w0 w1,v=.tuple #[.agg #[w0,w1],.int .i64 r.2]/\S ψ h h' [.it eL [w0] r.1.Colors,.it (El.ow Zx) [w1] r.1.Edges]):=by
 refine zO Tryz.func96 fun C=>?_;refine new_S C fun b1 j C=>?_;refine new_S C fun b2 k C=>?_;refine lsA ?_;refine cm0 N C (fun s f=>Zos s f slA) fun r5 l C N=>⟨_,rfl,?_⟩
 apply brQ N<;>intro N
 ·(iterate 2 refine boxA fun o C=>?_)
  refine lsA ?_;exact endX
 ·refine lsA ?_;refine cm2 N C (fun s f=>Zuw s f slA) fun u w g x C N=>⟨_,_,_,rfl,?_⟩
  (iterate 2 refine boxA fun y C=>?_)
  refine lsA ?_;exact endS
theorem ZxX {e g i j k l v1 messag2 v2 r} (N:Zs4 e l messag2=some r) (v:sc h eL g e.qadd) (w:sc h eL i e.qsub) (x:sc h eL j e.qmul) (y:sc h eI k e.qinv) (f1:sc h eL v1 l) (f2:sc h eI v2 messag2):zL 241 #[.agg #[.int .i64 e.qq,g,i,j,k],v1,v2] h ψ eI r:=by
 refine zT [[3,102]] Tryz.func241 fun C=>?_;refine new_S C fun b3 aa C=>?_;refine ixV f1 C.le N fun ab ac f N=>?_;refine vL f C.le ?_;refine mkO eI N fun ad a5 ae C N=>?_;refine vL f2 C.le ?_;refine lw11 N (fun o xs=>([.it oL [a5] xs,.box b3 [.int .i64 e.qq,g,i,j,k]],o,xs)) fun o af xs a C N O=>?_;apply brQ N<;>intro N
 ·refine ixI slA N fun ag N=>?_;refine lsA ?_;refine ixV f1 C.le N fun ah ai a6 N=>?_;obtain ⟨aj,a2,N⟩:=obind N;obtain ⟨φ,L,s,u⟩:=id C;refine (Zxq a2 (s.upS u) (v.mono s.ubH) (w.mono s.ubH) (x.mono s.ubH) (y.mono s.ubH) (a6.mono s.ubH)).mono fun ak al ⟨eq,t⟩=>⟨eq,?_⟩
  replace C:=s.downS t;clear t s u;exact endL
 ·exact endX
end
theorem ZFz {ψ:CM} {f h:Heap} {os:List Ob} {o:List Int} {v0:Value} {r:List Int} (N:Zrn o=some r) (C:S ψ f h (.it oL [v0] o::os))  :CallsH P 291 #[v0] h (fun v h'=>v=.tuple #[]/\S ψ f h' (.it oL [v0] r::os)):=by
 refine zv ⟨an [[1,12,18]],[],[],[(3,⟨[],.fin (rgs [(0,2),(4,10),(2,2),(14,2)]),false⟩)]⟩ Tryz.func291 ?_;refine Zy slA ?_;obtain ⟨s,g⟩:=ZN N;refine ⟨fun n u w e=>∃ xs,S ψ f e (.it oL [v0] xs::os)/\loopN (Zvb) n (u,w,xs)=some r,⟨s,_,pkT C 1 [0],g⟩,?_⟩;rintro n _ u w e ⟨xs,C,g⟩;obtain ⟨m,a,rfl,N,O⟩:=ZM g;apply brQ N<;>intro N
 ·refine ixI slA N fun x N=>?_;refine ixI slA N fun y N=>?_;refine ixA slA N fun a2 a3 i j N=>?_;refine st1_S C 0 rfl i j rfl (fun _=>⟨rfl,rfl⟩) fun a4 C=>?_;dsimp at C;refine ixA slA N fun a5 a6 k l N=>?_;refine st1_S C 0 rfl k l rfl (fun _=>⟨rfl,rfl⟩) fun a7 C=>?_;dsimp at C;obtain rfl:=oI N;exact ⟨_,ltS,_,pkT C 1 [0],O⟩
 ·obtain rfl:=oI N;obtain rfl:=oI O;exact ⟨rfl,pkT C 1 [0]⟩
section
variable {ψ:CM} {h:Heap} (hψ:CLe ψ (hcell h))
include hψ
theorem ZHx {n0 a count2 r} (N:Zts n0 a count2=some r)  :zL 242 #[.int .i64 n0,.int .i64 a,.int .i64 count2] h ψ eI r:=by
 refine zO Tryz.func242 fun C=>?_;refine cm1 N C (fun s k=>Zcq s k) fun o u v C N=>⟨_,rfl,?_⟩
 obtain ⟨w,i,N⟩:=obind N;obtain ⟨l,x,e,f⟩:=id C;refine (ZFz i (e.upS f) ).mono fun y a2 ⟨j,g⟩=>⟨j,?_⟩
 replace C:=e.downS g;clear g e f;exact endS
theorem Zz1 {f g i r} (N:Zvw f=some r) (a5:sc h eI g f.Field.Poly) (a6:sc h eL i f.Rows):zL 172 #[.agg #[.int .i64 f.Field.Prime,.int .i64 f.Field.Degree,g,i]] h ψ oL r:=by
 refine zS hψ ⟨an [[5,31,102]],[],[],[(7,⟨kdL [0,2,0,2,0,0,1,0,3,4,4,4,0],.fin [4,5,6,7,8,1,2,3,9,10,0,11,12],true⟩)]⟩ Tryz.func172 fun C=>?_;refine new_S C fun b1 af C=>?_;refine lsA ?_;obtain ⟨l,j,N⟩:=obind N;obtain ⟨φ,L,s,w⟩:=id C;refine (Zvk s.fle j slA).mono fun ag ah ⟨v9,o,u,v,eq,t⟩=>⟨_,_,_,_,_,eq,?_⟩
 replace C:=join4 s w t;clear t s w;refine new_S C fun b3 ai C=>?_
 (iterate 5 refine boxA fun aj C=>?_)
 refine bV C 5 3 ?_;refine cm0 N C (fun s j=>Zb5 s j slA) fun ak aa C N=>⟨_,rfl,?_⟩
 refine bI C 0 0 ?_;refine cm0 N C (fun s j=>Zgf s j) fun al ab C N=>⟨_,rfl,?_⟩
 have C:=C.nilO (E:=oL);refine lw21 N (fun v5 x a3=>([.it (El.ow oL) [v5] a3,.box b3 [.int .i64 l.qq,v9,o,u,v],.it (El.ow oL) [v9] l.qadd,.it (El.ow oL) [o] l.qsub,.it (El.ow oL) [u] l.qmul,.it oL [v] l.qinv,.box b1 [.int .i64 f.Field.Prime,.int .i64 f.Field.Degree,g,i]],a3,x)) fun v5 x y a3 a C N O=>?_;apply brQ N<;>intro N
 ·refine ⟨fun _=>False,?_⟩;have e:=C;have k:=eX y;refine bI C 1 0 ?_;obtain ⟨am,a2,N⟩:=obind N;refine ce1 C (fun s=>ZHx s.fle a2) fun ao ac xE C=>⟨_,rfl,eZ (k.trans xE),?_⟩
  replace k:=k.trans xE;refine ZT ?_;refine ldI_K (e.cells 1 rfl) 0 rfl rfl ?_;refine Z4 ?_;refine ldV_K (e.cells 1 rfl) 1 rfl rfl ?_;refine Z4 ?_;refine ldV_K (e.cells 1 rfl) 2 rfl rfl ?_;refine Z4 ?_;refine ldV_K (e.cells 1 rfl) 3 rfl rfl ?_;refine Z4 ?_;refine ldV_K (e.cells 1 rfl) 4 rfl rfl ?_;refine Z4 ?_;refine ldV_K (e.cells 6 rfl) 3 rfl rfl ?_;refine cm1 N C (fun s j=>ZxX s j slA slA slA slA slA slA) fun ap aq ad C N=>⟨_,rfl,?_⟩
  refine Zh oneA ?_;refine piA N 1 fun ar au ae C N=>?_;exact endL
 ·exact endX
theorem ZyU {e v0 r} (N:ZvH e=some r) (i:sc h eI v0 e):zL 173 #[v0] h ψ eI r:=by
 refine zT [[3,19,48]] Tryz.func173 fun C=>?_;refine vL i C.le ?_;have C:=C.nilO (E:=eI);refine lw21 N (fun f g u=>([.it oL [f] u],u,g)) fun f g j u a C N O=>?_;apply brQ N<;>intro N
 ·refine ixI slA N fun k N=>?_;apply brQ N<;>intro N
  ·refine puA N 0 fun l o s C N=>?_;exact endL
  ·exact endL
 ·exact endX
theorem ZDA {a e g r} (N:ZrL a=some r) (j:sc h eI e a.Field.Poly) (i:sc h eL g a.Rows):zR 174 #[.agg #[.int .i64 a.Field.Prime,.int .i64 a.Field.Degree,e,g]] h ψ (.int .i64 r):=by
 refine zO Tryz.func174 fun C=>?_;refine new_S C fun u l C=>?_;refine bV C 0 3 ?_;refine ixV i C.le N fun v w f N=>?_;refine cm0 N C (fun s k=>Zbl s k slA) fun x o C N=>⟨_,rfl,?_⟩
 exact tZ
theorem ZDp {f g i r} (N:Zvg f=some r) (a3:sc h eI g f.Field.Poly) (a4:sc h eL i f.Rows):CallsH P 97 #[.agg #[.int .i64 f.Field.Prime,.int .i64 f.Field.Degree,g,i]] h (fun v h'=>∃ w0 w1,v=.tuple #[.agg #[w0,w1],.int .i64 r.2]/\S ψ h h' [.it eL [w0] r.1.Colors,.it (El.ow Zx) [w1] r.1.Edges]):=by
 refine zT [[7,25,120]] Tryz.func97 fun C=>?_;refine new_S C fun b1 ag C=>?_;refine new_S C fun b2 ah C=>?_;refine lsA ?_;refine cm0 N C (fun s e=>Zt8 s e slA slA) fun r8 ai C N=>⟨_,rfl,?_⟩
 apply brQ N<;>intro N
 ·(iterate 2 refine boxA fun aj C=>?_)
  refine lsA ?_;exact endX
 ·refine lsA ?_;refine cm0 N C (fun s e=>Zjn s e slA) fun ak al C N=>⟨_,rfl,?_⟩
  apply brQ N<;>intro N
  ·(iterate 2 refine boxA fun am C=>?_)
   refine lsA ?_;exact endX
  ·refine lsA ?_;refine cm1 N C (fun s e=>Zz1 s e slA slA) fun o u a7 C N=>⟨_,rfl,?_⟩
   have C:=frA 0;obtain ⟨w,k,N⟩:=obind N;refine ZBh (some 1) none C 0 rfl k rfl fun x C=>?_;refine Zy slA ?_;have C:=C.nilO (E:=oL);refine lw21 N (fun y j a5=>([.it (El.ow oL) [y] a5,.it (El.sl eL) [x] w,.it (El.sl eL) [u] o,.box b2 [(.slice none 0 0),(.slice none 0 0)],.box b1 [.int .i64 f.Field.Prime,.int .i64 f.Field.Degree,g,i]],a5,j)) fun y j a8 a5 a C N O=>?_;apply brQ N<;>intro N
   ·refine ixA slA N fun ao ap ad l N=>?_;refine ZtF C 1 rfl ad l fun aq C=>?_;refine cm1 N C (fun s e=>ZyU s e slA) fun ar au aa C N=>⟨_,rfl,?_⟩
    refine Zh oneA ?_;refine piA N 1 fun av aw ab C N=>?_;exact endL
   ·refine lsA ?_;refine cm0 N C (fun s e=>ZDA s e slA slA) fun ax ac C N=>⟨_,rfl,?_⟩
    refine cm2 N C (fun s e=>Zuw s e slA) fun ay az a2 ae C N=>⟨_,_,_,rfl,?_⟩
    (iterate 2 refine boxA fun af C=>?_)
    refine lsA ?_;exact endX
theorem Zxj {e a r} (N:Zvu e=some r) (i:sc h eL a e.Rows):CallsH P 98 #[.agg #[.int .i64 e.Kind,.int .i64 e.Size,a]] h (fun v h'=>∃ w0 w1,v=.tuple #[.agg #[w0,w1],.int .i64 r.2]/\S ψ h h' [.it oL [w0] r.1.Colors,.it (El.ow Zx) [w1] r.1.Edges]):=by
 refine zO Tryz.func98 fun C=>?_;refine new_S C fun b1 l C=>?_;refine new_S C fun b2 o C=>?_;refine lsA ?_;refine cm0 N C (fun s f=>ZqT s f slA) fun r8 u C N=>⟨_,rfl,?_⟩
 apply brQ N<;>intro N
 ·(iterate 2 refine boxA fun w C=>?_)
  refine lsA ?_;exact endX
 ·refine lsA ?_;refine cm2 N C (fun s f=>Zu1 s f slA) fun x y g a2 C N=>⟨_,_,_,rfl,?_⟩
  refine new_S C fun b5 a3 C=>?_
  (iterate 2 refine boxA fun j C=>?_)
  refine lsA ?_
  (iterate 2 refine boxA fun k C=>?_)
  refine lsA ?_;exact endS
theorem ZGy {f e r} (N:Zes f=some r) (o:sc h eL e f.Rows):CallsH P 45 #[.agg #[.int .i64 f.Kind,.int .i64 f.Size,e]] h (fun v h'=>∃ w0 w1,v=.tuple #[.agg #[w0,w1],.int .i64 r.2]/\S ψ h h' [.it eL [w0] r.1.Colors,.it (El.ow Zx) [w1] r.1.Edges]):=by
 refine zO Tryz.func45 fun C=>?_;refine new_S C fun b1 a5 C=>?_;refine new_S C fun b2 a6 C=>?_;refine bI C 1 0 ?_;apply brQ N<;>intro N
 ·refine bV C 1 2 ?_;refine cm2 N C (fun s a=>ZBH s a slA) fun a7 a8 g a9 C N=>⟨_,_,_,rfl,?_⟩
  (iterate 2 refine boxA fun aa C=>?_)
  refine lsA ?_;exact endS
 ·apply brQ N<;>intro N
  ·refine lsA ?_;refine cm1 N C (fun s a=>Zp2 s a slA) fun ab ac ad C N=>⟨_,_,rfl,?_⟩
   have C:=frA 0;refine cm2 N C (fun s a=>ZG3 s a slA) fun ae af i ag C N=>⟨_,_,_,rfl,?_⟩
   (iterate 2 refine boxA fun u C=>?_)
   refine lsA ?_;exact endS
  ·apply brQ N<;>intro N
   ·refine lsA ?_;refine cm2 N C (fun s a=>ZsY s a slA) fun ah ai j w C N=>⟨_,_,_,_,rfl,?_⟩
    have C:=frA 1;refine cm2 N C (fun s a=>ZDp s a slA slA) fun aj ak k x C N=>⟨_,_,_,rfl,?_⟩
    (iterate 2 refine boxA fun y C=>?_)
    refine lsA ?_;exact endS
   ·apply brQ N<;>intro N
    ·refine lsA ?_;refine cm2 N C (fun s a=>Zxj s a slA) fun al am l a2 C N=>⟨_,_,_,rfl,?_⟩
     (iterate 2 refine boxA fun a3 C=>?_)
     refine lsA ?_;have C:=frA 0;exact endS
    ·(iterate 2 refine boxA fun a4 C=>?_)
     refine lsA ?_;exact endX
theorem ZwZ {v e f r} (N:Zku v=some r) (w:sc h eI e v.Colors) (i:sc h Zx f v.Edges):zL 243 #[.agg #[e,f]] h ψ oL r:=by
 refine zS hψ ⟨an [[3,90],[9,288]],[],[],[(5,⟨kdL [0,0,2,0,0,2,0,2,0,1,3,3,0,4],.fin [8,9,10,3,4,5,6,7,11,0,1,2,12,13],true⟩),(6,⟨kdL [0,0,2,0,0,2,0,2,0,1,3,3,0,4],.fin [8,9,10,3,4,5,6,7,11,0,1,2,12,13],true⟩)]⟩ Tryz.func243 fun C=>?_;refine new_S C fun b1 ae C=>?_;refine bV C 0 0 ?_;refine vL w C.le ?_;refine mkO oL N fun af k ag C N=>?_;refine bV C 1 1 ?_;refine vL i C.le ?_;refine lw11 N (fun l xs=>([.it (El.ow oL) [k] xs,.box b1 [e,f]],l,xs)) fun l ah xs a C N O=>?_;apply brQ N<;>intro N
 ·refine ixA slA N fun ai aj ad x N=>?_;obtain ⟨cs,ck,hr⟩:=i.cells ad x rfl;obtain rfl:=ZaI hr;refine lsA ?_;refine new_S C fun b5 ak C=>?_
  (iterate 2 refine boxA fun al C=>?_)
  obtain ⟨am,y,N⟩:=obind N;obtain ⟨ao,a2,N⟩:=obind N;refine ZsF C 1 0 rfl rfl rfl rfl rfl rfl y a2 fun ap C=>?_;dsimp at C;obtain ⟨aq,a3,N⟩:=obind N;obtain ⟨ar,a4,N⟩:=obind N;refine ZsF C 1 0 rfl rfl rfl rfl rfl rfl a3 a4 fun au C=>?_;dsimp at C;exact endL
 ·refine Zy slA ?_;refine lw11 N (fun o g=>([.it (El.ow oL) [k] g,.box b1 [e,f]],o,g)) fun o a9 g av C N O=>?_;apply brQ N<;>intro N
  ·refine ixA slA N fun aw ax a5 j N=>?_;refine Zaq C 0 rfl a5 j fun ay hd=>?_;have C:=foc_S C 0 rfl hd j;dsimp at C;obtain ⟨az,a6,N⟩:=obind N;obtain ⟨φ,L,s,u⟩:=id C;refine (Zjf a6 (s.upS u) ).mono fun b0 ab ⟨eq,t⟩=>⟨eq,?_⟩
   replace C:=s.downS t;clear t s u;have C:=unf_S C 0 rfl;dsimp at C;exact endL
  ·exact endX
theorem ZFC {a0 v0 r} (N:ZhS a0=some r) (a:SlC ψ eL v0 a0):zL 322 #[v0] h ψ eL r:=by
 refine zO Tryz.func322 fun C=>?_;refine Zua (a.mono hψ) (fun f e=>?_) ?_
 ·subst e;obtain ⟨_,rfl⟩:=ZcS N;exact ⟨_,rfl,C.nilO⟩
 ·have C:=C.arg a;refine ZP (E:=eL) (css:=[]) (xs:=[]) C (fun _=>rfl) rfl rfl fun v1 h1 C=>?_;refine app_S C 0 rfl (ZnS 1 rfl) rfl rfl N fun g i C=>?_;exact endR
end
end Go.Proofs.YtahnjnfpjcfklaaGreatDoor
