import Derived.Test.YtghbgeaammnkcaaGreatDoorVcFnsA
import Derived.Test.YtghbgeaammnkcaaGreatDoorVcSoundE
import Derived.Test.YtghbgeaammnkcaaGreatDoorPuBase
import Derived.Test.YtghbgeaammnkcaaGreatDoorProg
import Derived.KernelRfl
namespace Go.Proofs.YtghbgeaammnkcaaGreatDoor
set_option linter.unusedSimpArgs false
open Go Go.Vc Go.Proofs
set_option linter.unusedVariables false
set_option maxRecDepth 100000
variable {R:Value→Heap→Prop} {h:Heap}
theorem ZER {f g:Int} {i:Value} (hv:
 vNew h (.cells #[zi f,zi g,i] Zcn) fun p1 l=>
 ∃ J:Heap→Prop,(
 ldI .i64 l p1 fun x6=>
 zB Zo4 #[zi x6] l fun b7 b=>
 bif !b7 then
 R (.bool false) b
 else
 ldI .i64 b (p1.add 1) fun t=>
 bif decide (t<1) then
 R (.bool false) b
 else
 ldI .i64 b p1 fun u=>
 ldI .i64 b (p1.add 1) fun v=>
 zI Zb9 #[zi u,zi v,zi 64] b fun w m=>
 bif decide (w>64) then
 R (.bool false) m
 else
 J m
 )∧∀ (_:Env) (e:Heap),J e →
 ∃ o:Heap→Prop,(
 ∃ B:Nat→Prop,
 ldV e (p1.add 2) fun x=>
 zI ZaA #[x] e fun y a=>
 ExtBut B e a ∧
 ldI .i64 (hmask B e) (p1.add 1) fun a0=>
 bif y !=(zw (a0+1)) then
 R (.bool false) a
 else
 ldV a (p1.add 2) fun a1=>
 ldI .i64 a (p1.add 1) fun a2=>
 vIdx a1 a2 1 fun a3=>
 ldI .i64 a a3 fun a4=>
 bif a4 !=1 then
 R (.bool false) a
 else
 o a
 )∧∀ (_:Env) (j:Heap),o j →
 ldV j (p1.add 2) fun p=>
 vLen p fun a5=>
 lq1 (0:Int) j fun a6 n k c=>
 bif decide (k<(a5:Int)) then
 vIdx p k 1 fun a7=>
 ldI .i64 c a7 fun a8=>
 ldI .i64 c p1 fun a9=>
 zB Zap #[zi a8,zi 0,zi (zw (a9-1))] c fun aa r=>
 bif !aa then
 R (.bool false) r
 else
 ag1 a6 n (zw (k+1)) r
 else
 ldV c (p1.add 2) fun ab=>
 ldI .i64 c p1 fun ac=>
 zB ZlE #[ab,zi ac] c fun ad s=>
 R (.bool ad) s):CallsH P Znf #[.agg #[zi f,zi g,i]] h R:=zv ⟨[(6,[(41,.i .i64)])],[(3,[]),(5,[])],[]⟩ Tryz.func182 hv
theorem ZEN {a:Int} {p1:Addr} (c:
 ldI .i64 h p1 fun e=>
 zB Zap #[zi a,zi 0,zi (zw (e-1))] h fun f b=>
 R (.bool (!f)) b):CallsH P Zpl #[zi a,.pointer (some p1)] h R:=zv ⟨[],[],[]⟩ Tryz.func242 c
theorem ZE4 {a:Int} {b:Value} (f:
 vNew h (.cells #[zi a] Zg) fun p2 c=>
 zB Zc7 #[b,.func (.func Zpl) #[] #[.pointer (some p2)]] c fun g e=>
 R (.bool (!g)) e):CallsH P Zp4 #[zi a,b] h R:=zv ⟨[],[],[]⟩ Tryz.func184 f
theorem ZA6 {a:Value} {p1 p2:Addr} (g:
 vLen a fun i=>
 ldV h p1 fun j=>
 vIdx j 0 1 fun k=>
 ldV h k fun l=>
 vLen l fun b=>
 bif (i:Int) !=(b:Int) then
 R (.bool true) h
 else
 ldI .i64 h p2 fun c=>
 zB Zp4 #[zi c,a] h fun e f=>
 R (.bool (!e)) f):CallsH P Znk #[a,.pointer (some p1),.pointer (some p2)] h R:=zv ⟨[],[],[]⟩ Tryz.func183 g
theorem Zz7 {e f:Int} {g r:Value} (hv:
 vNew h (.cells #[zi e,zi f,g] Zcn) fun p2 y=>
 vOne r fun _=>
 vNew y (.cells #[r] ZfG) fun k b=>
 ∃ J:Heap→Prop,(
 ldI .i64 b p2 fun s=>
 ldI .i64 b (p2.add 1) fun t=>
 ldV b (p2.add 2) fun u=>
 zB Znf #[.agg #[zi s,zi t,u]] b fun b7 i=>
 bif !b7 then
 R (.bool false) i
 else
 ldV i k fun a0=>
 zI Zaz #[a0] i fun a1 a2=>
 zB Zap #[zi a1,zi 1,zi 32] a2 fun a3 c=>
 bif !a3 then
 R (.bool false) c
 else
 ldV c k fun a4=>
 vIdx a4 0 1 fun a5=>
 ldV c a5 fun a6=>
 zI ZaA #[a6] c fun a7 a8=>
 zB Zap #[zi a7,zi 1,zi 32] a8 fun a9 p=>
 bif !a9 then
 R (.bool false) p
 else
 J p
 )∧∀ (_:Env) (a:Heap),J a →
 ldI .i64 a p2 fun l=>
 ldI .i64 a (p2.add 1) fun m=>
 ldV a (p2.add 2) fun o=>
 zI Zhc #[.agg #[zi l,zi m,o]] a fun aa v=>
 vNew v (.cells #[zi 0] Zg) fun p5 w=>
 vStore1 w p5 (zi aa) fun j=>
 ldV j k fun ac=>
 zB ZgP #[ac,.func (.func Znk) #[] #[.pointer (some k),.pointer (some p5)]] j fun ad x=>
 R (.bool (!ad)) x):CallsH P Zmb #[.agg #[zi e,zi f,g],r] h R:=zv ⟨[],[(3,[])],[]⟩ Tryz.func122 hv
theorem ZBy {b:Value} {e:Int} (j:
 vLen b fun k=>
 lq2 (0:Int) (zw ((k:Int)-1)) h fun J n f c a=>
 bif decide (c≥0) then
 vIdx b c 1 fun g=>
 ldI .i64 a g fun i=>
 ag2 J n (zw ((zw (f*e))+i)) (zw (c-1)) a
 else
 R (zi f) a):CallsH P Zlg #[b,zi e] h R:=zv ⟨[(3,[(5,.i .i64),(6,.i .i64)])],[],[]⟩ Tryz.func243 j
theorem ZuW {g i:Int} {j:Value} {m o p:Int} (hv:
 vNew h (.cells #[zi g,zi i,j] Zcn) fun e b=>
 ∃ B:Nat→Prop,
 ldI .i64 b e fun r=>
 ldI .i64 b (e.add 1) fun s=>
 zV ZbI #[zi m,zi r,zi s] b fun f k=>
 ExtBut B b k ∧
 ldI .i64 (hmask B b) e fun t=>
 ldI .i64 (hmask B b) (e.add 1) fun u=>
 zV ZbI #[zi o,zi t,zi u] k fun v w=>
 vLen f fun x=>
 lq1 (0:Int) w fun J n c a=>
 bif decide (c<(x:Int)) then
 vIdx f c 1 fun y=>
 ldI .i64 a y fun a0=>
 vIdx v c 1 fun a1=>
 ldI .i64 a a1 fun a2=>
 ldI .i64 a e fun a3=>
 ldI .i64 a e fun l=>
 l≠0 ∧
 vIdx f c 1 fun a4=>
 vStore1 a a4 (zi (Int.tmod (zw ((zw (a0+(zw (p*a2))))+a3)) l)) fun a5=>
 ag1 J n (zw (c+1)) a5
 else
 ldI .i64 a e fun a6=>
 zI Zlg #[f,zi a6] a fun a7 a8=>
 R (zi a7) a8):CallsH P Zlv #[.agg #[zi g,zi i,j],zi m,zi o,zi p] h R:=zv ⟨[(3,[(26,.i .i64)])],[],[]⟩ Tryz.func185 hv
theorem ZEn {i j:Int} {k:Value} {x y:Int} (hv:
 vNew h (.cells #[zi i,zi j,k] Zcn) fun e a=>
 ∃ B:Nat→Prop,
 ldI .i64 a e fun a0=>
 ldI .i64 a (e.add 1) fun a1=>
 zV ZbI #[zi x,zi a0,zi a1] a fun m o=>
 ExtBut B a o ∧
 ldI .i64 (hmask B a) e fun a2=>
 ldI .i64 (hmask B a) (e.add 1) fun a3=>
 zV ZbI #[zi y,zi a2,zi a3] o fun p r=>
 ldI .i64 r (e.add 1) fun s=>
 vMake 8 [zi 0] Zg (zw (2*s)) (zw (2*s)) r fun l a4=>
 vLen m fun a5=>
 lq1 (0:Int) a4 fun J n f b=>
 bif decide (f<(a5:Int)) then
 vLen p fun a6=>
 lq1 (0:Int) b fun a7 a8 g c=>
 bif decide (g<(a6:Int)) then
 vIdx l (zw (f+g)) 1 fun a9=>
 ldI .i64 c a9 fun aa=>
 vIdx m f 1 fun ab=>
 ldI .i64 c ab fun ac=>
 vIdx p g 1 fun ad=>
 ldI .i64 c ad fun ae=>
 ldI .i64 c e fun t=>
 t≠0 ∧
 vIdx l (zw (f+g)) 1 fun af=>
 vStore1 c af (zi (Int.tmod (zw (aa+(zw (ac*ae)))) t)) fun ag=>
 ag1 a7 a8 (zw (g+1)) ag
 else
 ag1 J n (zw (f+1)) c
 else
 ∃ u:Nat→Prop,
 ldV b (e.add 2) fun ah=>
 ldI .i64 b e fun ai=>
 zV ZkM #[l,ah,zi ai] b fun aj v=>
 ExtBut u b v ∧
 ldI .i64 (hmask u b) e fun ak=>
 zI Zlg #[aj,zi ak] v fun al w=>
 R (zi al) w):CallsH P Zm6 #[.agg #[zi i,zi j,k],zi x,zi y] h R:=zv ⟨[(4,[(30,.i .i64)]),(7,[(35,.i .i64)])],[],[]⟩ Tryz.func186 hv
theorem ZwG {bm bn:Int} {bo:Value} (hv:
 vNew h (.cells #[zi bm,zi bn,bo] Zcn) fun p1 iq=>
 vNew iq (.cells #[zi 0,.slice none 0 0,.slice none 0 0,.slice none 0 0,.slice none 0 0] Zgc) fun p2 a9=>
 ldI .i64 a9 p1 fun hg=>
 ldI .i64 a9 (p1.add 1) fun hh=>
 ldV a9 (p1.add 2) fun hi=>
 zI Zhc #[.agg #[zi hg,zi hh,hi]] a9 fun ir it=>
 vNew it (.cells #[zi 0,.slice none 0 0,.slice none 0 0,.slice none 0 0,.slice none 0 0] Zgc) fun c iu=>
 vStore1 iu c (zi ir) fun iw=>
 vStore1 iw (c.add 1) (.slice none 0 0) fun iy=>
 vStore1 iy (c.add 2) (.slice none 0 0) fun iz=>
 vStore1 iz (c.add 3) (.slice none 0 0) fun j0=>
 vStore1 j0 (c.add 4) (.slice none 0 0) fun bp=>
 ldI .i64 bp c fun h8=>
 vMake 8 [zi 0] Zg h8 h8 bp fun j1 hj=>
 vStore1 hj (c.add 4) j1 fun hk=>
 lq1 (0:Int) hk fun J n x4 e=>
 ldI .i64 e c fun j2=>
 bif decide (x4<j2) then
 vK (fun K:Value→Value→Value→Heap→Prop=>
 ∃ B:Nat→Prop,
 (
 ldI .i64 (hmask B e) c fun h9=>
 vMake 8 [zi 0] Zg h9 h9 e fun ha x=>
 ExtBut B e x ∧
 (
 ldI .i64 (hmask B e) c fun hb=>
 vMake 8 [zi 0] Zg hb hb x fun j3 bq=>
 ExtBut B e bq ∧
 ldI .i64 (hmask B e) c fun hc=>
 vMake 8 [zi 0] Zg hc hc bq fun j4 br=>
 ExtBut B e br ∧
 K ha j3 j4 br
 ) ∧
 (
 ldI .i64 (hmask B e) c fun aa=>
 vMake 8 [zi 0] Zg aa aa x fun ds bs=>
 ExtBut B e bs ∧
 ldI .i64 (hmask B e) c fun ab=>
 vMake 8 [zi 0] Zg ab ab bs fun dt bt=>
 ExtBut B e bt ∧
 K ha dt ds bt
 )
 ) ∧
 (
 ldI .i64 (hmask B e) c fun ac=>
 vMake 8 [zi 0] Zg ac ac e fun ad y=>
 ExtBut B e y ∧
 (
 ldI .i64 (hmask B e) c fun ae=>
 vMake 8 [zi 0] Zg ae ae y fun du bu=>
 ExtBut B e bu ∧
 ldI .i64 (hmask B e) c fun af=>
 vMake 8 [zi 0] Zg af af bu fun dv bv=>
 ExtBut B e bv ∧
 K du ad dv bv
 ) ∧
 (
 ldI .i64 (hmask B e) c fun ag=>
 vMake 8 [zi 0] Zg ag ag y fun dw bw=>
 ExtBut B e bw ∧
 ldI .i64 (hmask B e) c fun ah=>
 vMake 8 [zi 0] Zg ah ah bw fun dx bx=>
 ExtBut B e bx ∧
 K dx ad dw bx
 )
 ) ∧
 (
 ldI .i64 (hmask B e) c fun ai=>
 vMake 8 [zi 0] Zg ai ai e fun aj a0=>
 ExtBut B e a0 ∧
 (
 ldI .i64 (hmask B e) c fun ak=>
 vMake 8 [zi 0] Zg ak ak a0 fun dy bz=>
 ExtBut B e bz ∧
 ldI .i64 (hmask B e) c fun al=>
 vMake 8 [zi 0] Zg al al bz fun dz c0=>
 ExtBut B e c0 ∧
 K dy dz aj c0
 ) ∧
 (
 ldI .i64 (hmask B e) c fun am=>
 vMake 8 [zi 0] Zg am am a0 fun e0 c3=>
 ExtBut B e c3 ∧
 ldI .i64 (hmask B e) c fun an=>
 vMake 8 [zi 0] Zg an an c3 fun e1 c4=>
 ExtBut B e c4 ∧
 K e1 e0 aj c4
 )
 )
 ) fun m i f hl=>
 lq1 (0:Int) hl fun hd he o a=>
 ldI .i64 a c fun j5=>
 bif decide (o<j5) then
 ∃ k:Nat→Prop,
 ldI .i64 a p1 fun e2=>
 ldI .i64 a (p1.add 1) fun e3=>
 ldV a (p1.add 2) fun e4=>
 zI Zlv #[.agg #[zi e2,zi e3,e4],zi x4,zi o,zi 1] a fun j6 c5=>
 ExtBut k a c5 ∧
 ldI .i64 (hmask k a) p1 fun e5=>
 ldI .i64 (hmask k a) (p1.add 1) fun e6=>
 ldV (hmask k a) (p1.add 2) fun e7=>
 zI Zlv #[.agg #[zi e5,zi e6,e7],zi x4,zi o,zi (-1)] c5 fun j7 c6=>
 ExtBut k a c6 ∧
 ldI .i64 (hmask k a) p1 fun e8=>
 ldI .i64 (hmask k a) (p1.add 1) fun e9=>
 ldV (hmask k a) (p1.add 2) fun ea=>
 zI Zm6 #[.agg #[zi e8,zi e9,ea],zi x4,zi o] c6 fun j8 hm=>
 vIdx m o 1 fun j9=>
 vStore1 hm j9 (zi j6) fun hn=>
 vIdx i o 1 fun ja=>
 vStore1 hn ja (zi j7) fun ho=>
 vIdx f o 1 fun jb=>
 vStore1 ho jb (zi j8) fun r=>
 vIdx f o 1 fun jc=>
 ldI .i64 r jc fun jd=>
 bif jd==1 then
 ldV r (c.add 4) fun je=>
 vIdx je x4 1 fun jf=>
 vStore1 r jf (zi o) fun hp=>
 ag1 hd he (zw (o+1)) hp
 else
 ag1 hd he (zw (o+1)) r
 else
 vK (fun g:Heap→Prop=>
 ∃ b:Nat→Prop,
 (
 vOne m fun _=>
 vNewS a (.cells #[m] Zf) 1 fun w s=>
 ExtBut b a s ∧
 (
 ldV (hmask b a) (c.add 1) fun jg=>
 vAppend 1 24 [.slice none 0 0] Zf jg w s fun c7 a1=>
 ExtBut b a a1 ∧
 (
 vOne i fun _=>
 vNewS a1 (.cells #[i] Zf) 1 fun hf a2=>
 ExtBut b a a2 ∧
 (
 ldV (hmask b a) (c.add 2) fun jh=>
 vAppend 1 24 [.slice none 0 0] Zf jh hf a2 fun ji c8=>
 ExtBut b a c8 ∧
 vOne f fun _=>
 vNewS c8 (.cells #[f] Zf) 1 fun jj c9=>
 ExtBut b a c9 ∧
 ldV (hmask b a) (c.add 3) fun jk=>
 vAppend 1 24 [.slice none 0 0] Zf jk jj c9 fun jl hq=>
 vStore1 hq (c.add 1) c7 fun hr=>
 vStore1 hr (c.add 2) ji fun hs=>
 vStore1 hs (c.add 3) jl fun ht=>
 g ht
 ) ∧
 (
 vOne f fun _=>
 vNewS a2 (.cells #[f] Zf) 1 fun eb ca=>
 ExtBut b a ca ∧
 ldV (hmask b a) (c.add 2) fun ec=>
 vAppend 1 24 [.slice none 0 0] Zf ec hf ca fun ed cb=>
 ExtBut b a cb ∧
 ldV (hmask b a) (c.add 3) fun ee=>
 vAppend 1 24 [.slice none 0 0] Zf ee eb cb fun ef hu=>
 vStore1 hu (c.add 1) c7 fun hw=>
 vStore1 hw (c.add 2) ed fun hx=>
 vStore1 hx (c.add 3) ef fun hy=>
 g hy
 )
 ) ∧
 (
 vOne f fun _=>
 vNewS a1 (.cells #[f] Zf) 1 fun eg cc=>
 ExtBut b a cc ∧
 vOne i fun _=>
 vNewS cc (.cells #[i] Zf) 1 fun eh cd=>
 ExtBut b a cd ∧
 ldV (hmask b a) (c.add 2) fun ei=>
 vAppend 1 24 [.slice none 0 0] Zf ei eh cd fun ej ce=>
 ExtBut b a ce ∧
 ldV (hmask b a) (c.add 3) fun ek=>
 vAppend 1 24 [.slice none 0 0] Zf ek eg ce fun em i0=>
 vStore1 i0 (c.add 1) c7 fun i1=>
 vStore1 i1 (c.add 2) ej fun i2=>
 vStore1 i2 (c.add 3) em fun i3=>
 g i3
 )
 ) ∧
 (
 vOne i fun _=>
 vNewS s (.cells #[i] Zf) 1 fun t a3=>
 ExtBut b a a3 ∧
 (
 ldV (hmask b a) (c.add 1) fun en=>
 vAppend 1 24 [.slice none 0 0] Zf en w a3 fun ao a4=>
 ExtBut b a a4 ∧
 (
 ldV (hmask b a) (c.add 2) fun eo=>
 vAppend 1 24 [.slice none 0 0] Zf eo t a4 fun ep cf=>
 ExtBut b a cf ∧
 vOne f fun _=>
 vNewS cf (.cells #[f] Zf) 1 fun eq cg=>
 ExtBut b a cg ∧
 ldV (hmask b a) (c.add 3) fun er=>
 vAppend 1 24 [.slice none 0 0] Zf er eq cg fun es i4=>
 vStore1 i4 (c.add 1) ao fun i5=>
 vStore1 i5 (c.add 2) ep fun i6=>
 vStore1 i6 (c.add 3) es fun i7=>
 g i7
 ) ∧
 (
 vOne f fun _=>
 vNewS a4 (.cells #[f] Zf) 1 fun et ch=>
 ExtBut b a ch ∧
 ldV (hmask b a) (c.add 2) fun eu=>
 vAppend 1 24 [.slice none 0 0] Zf eu t ch fun ew cj=>
 ExtBut b a cj ∧
 ldV (hmask b a) (c.add 3) fun ey=>
 vAppend 1 24 [.slice none 0 0] Zf ey et cj fun ez i8=>
 vStore1 i8 (c.add 1) ao fun i9=>
 vStore1 i9 (c.add 2) ew fun ia=>
 vStore1 ia (c.add 3) ez fun ib=>
 g ib
 )
 ) ∧
 (
 vOne f fun _=>
 vNewS a3 (.cells #[f] Zf) 1 fun f0 ck=>
 ExtBut b a ck ∧
 ldV (hmask b a) (c.add 1) fun f1=>
 vAppend 1 24 [.slice none 0 0] Zf f1 w ck fun f2 cm=>
 ExtBut b a cm ∧
 ldV (hmask b a) (c.add 2) fun f3=>
 vAppend 1 24 [.slice none 0 0] Zf f3 t cm fun f4 cn=>
 ExtBut b a cn ∧
 ldV (hmask b a) (c.add 3) fun f5=>
 vAppend 1 24 [.slice none 0 0] Zf f5 f0 cn fun f6 ic=>
 vStore1 ic (c.add 1) f2 fun id=>
 vStore1 id (c.add 2) f4 fun ie=>
 vStore1 ie (c.add 3) f6 fun ig=>
 g ig
 )
 ) ∧
 (
 vOne f fun _=>
 vNewS s (.cells #[f] Zf) 1 fun ap a5=>
 ExtBut b a a5 ∧
 (
 ldV (hmask b a) (c.add 1) fun f7=>
 vAppend 1 24 [.slice none 0 0] Zf f7 w a5 fun f8 co=>
 ExtBut b a co ∧
 vOne i fun _=>
 vNewS co (.cells #[i] Zf) 1 fun f9 cp=>
 ExtBut b a cp ∧
 ldV (hmask b a) (c.add 2) fun fa=>
 vAppend 1 24 [.slice none 0 0] Zf fa f9 cp fun fb cq=>
 ExtBut b a cq ∧
 ldV (hmask b a) (c.add 3) fun fc=>
 vAppend 1 24 [.slice none 0 0] Zf fc ap cq fun fe ih=>
 vStore1 ih (c.add 1) f8 fun ii=>
 vStore1 ii (c.add 2) fb fun ij=>
 vStore1 ij (c.add 3) fe fun ik=>
 g ik
 ) ∧
 (
 vOne i fun _=>
 vNewS a5 (.cells #[i] Zf) 1 fun ff cr=>
 ExtBut b a cr ∧
 ldV (hmask b a) (c.add 1) fun fg=>
 vAppend 1 24 [.slice none 0 0] Zf fg w cr fun fh ct=>
 ExtBut b a ct ∧
 ldV (hmask b a) (c.add 2) fun fi=>
 vAppend 1 24 [.slice none 0 0] Zf fi ff ct fun fj cu=>
 ExtBut b a cu ∧
 ldV (hmask b a) (c.add 3) fun fk=>
 vAppend 1 24 [.slice none 0 0] Zf fk ap cu fun fl il=>
 vStore1 il (c.add 1) fh fun im=>
 vStore1 im (c.add 2) fj fun io=>
 vStore1 io (c.add 3) fl fun ip=>
 g ip
 )
 )
 ) ∧
 (
 vOne i fun _=>
 vNewS a (.cells #[i] Zf) 1 fun l a6=>
 ExtBut b a a6 ∧
 (
 vOne m fun _=>
 vNewS a6 (.cells #[m] Zf) 1 fun aq a7=>
 ExtBut b a a7 ∧
 (
 ldV (hmask b a) (c.add 1) fun fm=>
 vAppend 1 24 [.slice none 0 0] Zf fm aq a7 fun ar a8=>
 ExtBut b a a8 ∧
 (
 ldV (hmask b a) (c.add 2) fun fn=>
 vAppend 1 24 [.slice none 0 0] Zf fn l a8 fun fo cv=>
 ExtBut b a cv ∧
 vOne f fun _=>
 vNewS cv (.cells #[f] Zf) 1 fun fp au=>
 ExtBut b a au ∧
 ldV (hmask b a) (c.add 3) fun fq=>
 vAppend 1 24 [.slice none 0 0] Zf fq fp au fun fr fs=>
 vStore1 fs (c.add 1) ar fun ft=>
 vStore1 ft (c.add 2) fo fun fu=>
 vStore1 fu (c.add 3) fr fun fv=>
 g fv
 ) ∧
 (
 vOne f fun _=>
 vNewS a8 (.cells #[f] Zf) 1 fun fw av=>
 ExtBut b a av ∧
 ldV (hmask b a) (c.add 2) fun cx=>
 vAppend 1 24 [.slice none 0 0] Zf cx l av fun cy aw=>
 ExtBut b a aw ∧
 ldV (hmask b a) (c.add 3) fun cz=>
 vAppend 1 24 [.slice none 0 0] Zf cz fw aw fun d0 fx=>
 vStore1 fx (c.add 1) ar fun fy=>
 vStore1 fy (c.add 2) cy fun fz=>
 vStore1 fz (c.add 3) d0 fun g0=>
 g g0
 )
 ) ∧
 (
 vOne f fun _=>
 vNewS a7 (.cells #[f] Zf) 1 fun d1 ax=>
 ExtBut b a ax ∧
 ldV (hmask b a) (c.add 1) fun g1=>
 vAppend 1 24 [.slice none 0 0] Zf g1 aq ax fun g2 ay=>
 ExtBut b a ay ∧
 ldV (hmask b a) (c.add 2) fun d2=>
 vAppend 1 24 [.slice none 0 0] Zf d2 l ay fun d3 az=>
 ExtBut b a az ∧
 ldV (hmask b a) (c.add 3) fun d4=>
 vAppend 1 24 [.slice none 0 0] Zf d4 d1 az fun d5 g3=>
 vStore1 g3 (c.add 1) g2 fun g4=>
 vStore1 g4 (c.add 2) d3 fun g5=>
 vStore1 g5 (c.add 3) d5 fun g6=>
 g g6
 )
 ) ∧
 (
 vOne f fun _=>
 vNewS a6 (.cells #[f] Zf) 1 fun d6 b0=>
 ExtBut b a b0 ∧
 vOne m fun _=>
 vNewS b0 (.cells #[m] Zf) 1 fun g7 b1=>
 ExtBut b a b1 ∧
 ldV (hmask b a) (c.add 1) fun g8=>
 vAppend 1 24 [.slice none 0 0] Zf g8 g7 b1 fun g9 b2=>
 ExtBut b a b2 ∧
 ldV (hmask b a) (c.add 2) fun d7=>
 vAppend 1 24 [.slice none 0 0] Zf d7 l b2 fun d8 b3=>
 ExtBut b a b3 ∧
 ldV (hmask b a) (c.add 3) fun d9=>
 vAppend 1 24 [.slice none 0 0] Zf d9 d6 b3 fun da ga=>
 vStore1 ga (c.add 1) g9 fun gb=>
 vStore1 gb (c.add 2) d8 fun gc=>
 vStore1 gc (c.add 3) da fun gd=>
 g gd
 )
 ) ∧
 (
 vOne f fun _=>
 vNewS a (.cells #[f] Zf) 1 fun p u=>
 ExtBut b a u ∧
 (
 vOne m fun _=>
 vNewS u (.cells #[m] Zf) 1 fun b4 v=>
 ExtBut b a v ∧
 (
 ldV (hmask b a) (c.add 1) fun ge=>
 vAppend 1 24 [.slice none 0 0] Zf ge b4 v fun gg b5=>
 ExtBut b a b5 ∧
 vOne i fun _=>
 vNewS b5 (.cells #[i] Zf) 1 fun gh b6=>
 ExtBut b a b6 ∧
 ldV (hmask b a) (c.add 2) fun db=>
 vAppend 1 24 [.slice none 0 0] Zf db gh b6 fun dc b7=>
 ExtBut b a b7 ∧
 ldV (hmask b a) (c.add 3) fun dd=>
 vAppend 1 24 [.slice none 0 0] Zf dd p b7 fun de gi=>
 vStore1 gi (c.add 1) gg fun gj=>
 vStore1 gj (c.add 2) dc fun gk=>
 vStore1 gk (c.add 3) de fun gl=>
 g gl
 ) ∧
 (
 vOne i fun _=>
 vNewS v (.cells #[i] Zf) 1 fun gm b8=>
 ExtBut b a b8 ∧
 ldV (hmask b a) (c.add 1) fun df=>
 vAppend 1 24 [.slice none 0 0] Zf df b4 b8 fun dg b9=>
 ExtBut b a b9 ∧
 ldV (hmask b a) (c.add 2) fun dh=>
 vAppend 1 24 [.slice none 0 0] Zf dh gm b9 fun di ba=>
 ExtBut b a ba ∧
 ldV (hmask b a) (c.add 3) fun dj=>
 vAppend 1 24 [.slice none 0 0] Zf dj p ba fun dk gn=>
 vStore1 gn (c.add 1) dg fun go=>
 vStore1 go (c.add 2) di fun gp=>
 vStore1 gp (c.add 3) dk fun gq=>
 g gq
 )
 ) ∧
 (
 vOne i fun _=>
 vNewS u (.cells #[i] Zf) 1 fun gr bb=>
 ExtBut b a bb ∧
 vOne m fun _=>
 vNewS bb (.cells #[m] Zf) 1 fun gs bc=>
 ExtBut b a bc ∧
 ldV (hmask b a) (c.add 1) fun dl=>
 vAppend 1 24 [.slice none 0 0] Zf dl gs bc fun dm bd=>
 ExtBut b a bd ∧
 ldV (hmask b a) (c.add 2) fun dn=>
 vAppend 1 24 [.slice none 0 0] Zf dn gr bd fun dp be=>
 ExtBut b a be ∧
 ldV (hmask b a) (c.add 3) fun dq=>
 vAppend 1 24 [.slice none 0 0] Zf dq p be fun dr gt=>
 vStore1 gt (c.add 1) dm fun gu=>
 vStore1 gu (c.add 2) dp fun gv=>
 vStore1 gv (c.add 3) dr fun gw=>
 g gw
 )
 )
 ) fun gy=>
 ag1 J n (zw (x4+1)) gy
 else
 ldI .i64 e c fun gz=>
 ldV e (c.add 1) fun h0=>
 ldV e (c.add 2) fun h1=>
 ldV e (c.add 3) fun h2=>
 ldV e (c.add 4) fun h3=>
 vStore1 e p2 (zi gz) fun h4=>
 vStore1 h4 (p2.add 1) h0 fun h5=>
 vStore1 h5 (p2.add 2) h1 fun h6=>
 vStore1 h6 (p2.add 3) h2 fun h7=>
 vStore1 h7 (p2.add 4) h3 fun j=>
 ldI .i64 j p2 fun bg=>
 ldV j (p2.add 1) fun bh=>
 ldV j (p2.add 2) fun bi=>
 ldV j (p2.add 3) fun bj=>
 ldV j (p2.add 4) fun bk=>
 R (.agg #[zi bg,bh,bi,bj,bk]) j):CallsH P Zk6 #[.agg #[zi bm,zi bn,bo]] h R:=zv ⟨[(4,[(4,.i .i64)]),(8,[(8,.i .i64)])],[],[]⟩ Tryz.func125 hv
theorem Zvn {a:Value} {p1:Addr} (b:
 ldI .i64 h p1 fun c=>
 vIdx a c 1 fun e=>
 ldI .i64 h e fun f=>
 R (.bool (f !=0)) h):CallsH P Zps #[a,.pointer (some p1)] h R:=zv ⟨[],[],[]⟩ Tryz.func188 b
theorem ZtL {c:Int} {e f g i j k:Value} {l:Int} (hv:
 vNew h (.cells #[zi c,e,f,g,i] Zgc) fun m o=>
 vLen k fun p=>
 lq1 (0:Int) o fun J n b a=>
 bif decide (b<(p:Int)) then
 vIdx k b 1 fun r=>
 ldI .i64 a r fun s=>
 ldV a (m.add 1) fun t=>
 vIdx j b 1 fun u=>
 ldI .i64 a u fun v=>
 vIdx t v 1 fun w=>
 ldV a w fun x=>
 ldV a (m.add 3) fun y=>
 vIdx y l 1 fun a0=>
 ldV a a0 fun a1=>
 vIdx a1 s 1 fun a2=>
 ldI .i64 a a2 fun a3=>
 vIdx x a3 1 fun a4=>
 ldI .i64 a a4 fun a5=>
 vIdx j b 1 fun a6=>
 vStore1 a a6 (zi a5) fun a7=>
 ag1 J n (zw (b+1)) a7
 else
 R (.tuple #[]) a):CallsH P Ziu #[.agg #[zi c,e,f,g,i],j,k,zi l] h R:=zv ⟨[(2,[(12,.i .i64)])],[],[]⟩ Tryz.func189 hv
theorem ZDm {w:Int} {x y a0 a1 v1:Value} (hv:
 vNew h (.cells #[zi w,x,y,a0,a1] Zgc) fun p2 bx=>
 zV ZcR #[v1] bx fun b bz=>
 ∃ J:Value→Int→Heap→Prop,(
 vNew bz (.cells #[zi 0] t_int) fun ak c0=>
 vStore1 c0 ak (zi 0) fun c3=>
 lq3 ((.slice none 0 0):Value) (1:Int) ak c3 fun c4 n v8 x9 c m=>
 ∃ al:Heap→Prop,(
 vLen b fun c5=>
 bif decide ((c5:Int)>0) then
 ldI .i64 m c fun c6=>
 vIdx b 0 1 fun c7=>
 ldV m c7 fun c8=>
 vLen c8 fun c9=>
 bif decide (c6<(c9:Int)) then
 al m
 else
 J v8 x9 m
 else
 J v8 x9 m
 )∧∀ (_:Env) (am:Heap),al am →
 ∃ a3:Value→Int→Heap→Prop,(
 vLen v8 fun g=>
 vSliceS b 1 (some (zi (g:Int))) none none fun ca=>
 zI Zg5 #[ca,.func (.func Zps) #[] #[.pointer (some c)]] am fun u o=>
 bif decide (u<0) then
 a3 v8 0 o
 else
 ∃ a4:Int→Heap→Prop,(
 bif decide (u>0) then
 vIdx b (zw ((g:Int)+u)) 1 fun cb=>
 ldV o cb fun cc=>
 vIdx b (g:Int) 1 fun cd=>
 ldV o cd fun ce=>
 vIdx b (g:Int) 1 fun cf=>
 vStore1 o cf cc fun cg=>
 vIdx b (zw ((g:Int)+u)) 1 fun ch=>
 vStore1 cg ch ce fun l=>
 ldV l (p2.add 2) fun cj=>
 vIdx cj 0 1 fun p64=>
 ldV l p64 fun ck=>
 vIdx ck x9 1 fun cm=>
 ldI .i64 l cm fun cn=>
 a4 cn l
 else
 a4 x9 o
 )∧∀ (_:Env) a5 (e:Heap),a4 a5 e →
 vIdx b (g:Int) 1 fun co=>
 ldV e co fun cp=>
 ldI .i64 e c fun cq=>
 vIdx cp cq 1 fun cr=>
 ldI .i64 e cr fun an=>
 ldV e (p2.add 3) fun ct=>
 vIdx ct a5 1 fun cu=>
 ldV e cu fun cv=>
 vIdx cv an 1 fun cx=>
 ldI .i64 e cx fun ao=>
 vIdx b (g:Int) 1 fun cy=>
 ldV e cy fun ap=>
 vLen ap fun cz=>
 lq1 (0:Int) e fun d0 d1 v f=>
 bif decide (v<(cz:Int)) then
 vIdx ap v 1 fun d2=>
 ldI .i64 f d2 fun d3=>
 vIdx b (g:Int) 1 fun d4=>
 ldV f d4 fun d5=>
 ldV f (p2.add 3) fun au=>
 ldV f (p2.add 4) fun av=>
 vIdx av an 1 fun aw=>
 ldI .i64 f aw fun ax=>
 vIdx au ax 1 fun ay=>
 ldV f ay fun az=>
 vIdx az d3 1 fun b0=>
 ldI .i64 f b0 fun b1=>
 vIdx d5 v 1 fun b2=>
 vStore1 f b2 (zi b1) fun b3=>
 ag1 d0 d1 (zw (v+1)) b3
 else
 vLen b fun b4=>
 lq1 (0:Int) f fun aq ar k i=>
 bif decide (k<(b4:Int)) then
 vIdx b k 1 fun b5=>
 ldV i b5 fun p=>
 ∃ a6:Bool→Heap→Prop,(
 bif k !=(g:Int) then
 ldI .i64 i c fun b6=>
 vIdx p b6 1 fun b7=>
 ldI .i64 i b7 fun b8=>
 a6 (b8 !=0) i
 else
 a6 false i
 )∧∀ (_:Env) (a7:Bool) (a:Heap),a6 a7 a →
 bif a7 then
 ldI .i64 a p2 fun a8=>
 ldV a (p2.add 1) fun a9=>
 ldV a (p2.add 2) fun aa=>
 ldV a (p2.add 3) fun ab=>
 ldV a (p2.add 4) fun ac=>
 vIdx b (g:Int) 1 fun b9=>
 ldV a b9 fun ba=>
 ldV a (p2.add 2) fun bb=>
 vIdx bb 0 1 fun bc=>
 ldV a bc fun bd=>
 ldI .i64 a c fun be=>
 vIdx p be 1 fun bf=>
 ldI .i64 a bf fun bg=>
 vIdx bd bg 1 fun bh=>
 ldI .i64 a bh fun bi=>
 CallsH P Ziu #[.agg #[zi a8,a9,aa,ab,ac],p,ba,zi bi] a fun bj bk=>bj=.tuple #[] ∧
 ag1 aq ar (zw (k+1)) bk
 else
 ag1 aq ar (zw (k+1)) a
 else
 ldI .i64 i c fun bm=>
 vNewS i (.cells #[zi bm] Zg) 1 fun bn bo=>
 vAppend 1 8 [zi 0] Zg v8 bn bo fun r ad=>
 vLen r fun bp=>
 vLen b fun bq=>
 bif (bp:Int)==(bq:Int) then
 J r ao ad
 else
 a3 r ao ad
 )∧∀ (_:Env) (ae:Value) af (s:Heap),a3 ae af s →
 ldI .i64 s c fun br=>
 vNew s (.cells #[zi 0] t_int) fun j bs=>
 vStore1 bs j (zi br) fun ag=>
 ldI .i64 ag j fun d6=>
 vStore1 ag j (zi (zw (d6+1))) fun bt=>
 ag3 c4 n ae af j bt
 )∧∀ (_:Env) (t:Value) ah (ai:Heap),J t ah ai →
 vLen t fun bu=>
 vSliceS b 1 none (some (zi (bu:Int))) none fun bv=>
 R (.tuple #[bv,t,zi ah]) ai):CallsH P Zqf #[.agg #[zi w,x,y,a0,a1],v1] h R:=zv ⟨[(5,[(8,.v),(9,.i .i64),(10,.p)]),(17,[(89,.i .i64)]),(22,[(115,.i .i64)])],[(7,[]),(14,[(9,.i .i64)]),(25,[(129,.b)]),(29,[(8,.v),(9,.i .i64)]),(31,[(8,.v),(9,.i .i64)])],[]⟩ Tryz.func126 hv
theorem ZBQ {e i:Value} {j:Nat} {c:List Value} (u:
 vLen e fun k=>
 vLen i fun l=>
 bif (k:Int) !=(l:Int) then
 R (.bool false) h
 else
 vLen e fun m=>
 lq1 (0:Int) h fun J n a b=>
 bif decide (a<(m:Int)) then
 vIdx e a 1 fun o=>
 ldV b o fun p=>
 vIdx i a 1 fun r=>
 ldV b r fun s=>
 vOkf ctx j fun _=>
 CallsH P j (([p,s]:List Value)++c).toArray b fun t f=>∃ (g:Bool),t=.bool g ∧
 bif !g then
 R (.bool false) f
 else
 ag1 J n (zw (a+1)) f
 else
 R (.bool true) b):CallsH P Zne #[e,i,.func (.func j) #[] c.toArray] h R:=zv ⟨[(4,[(17,.i .i64)])],[],[]⟩ Tryz.func190 u
theorem ZuY {c e:Value} (l:
 vLen c fun m=>
 vLen e fun o=>
 bif (m:Int) !=(o:Int) then
 R (.bool false) h
 else
 vLen c fun f=>
 lq1 (0:Int) h fun J n b a=>
 bif decide (b<(f:Int)) then
 vIdx c b 1 fun g=>
 ldI .i64 a g fun i=>
 vIdx e b 1 fun j=>
 ldI .i64 a j fun k=>
 bif i !=k then
 R (.bool false) a
 else
 ag1 J n (zw (b+1)) a
 else
 R (.bool true) a):CallsH P Zki #[c,e] h R:=zv ⟨[(4,[(13,.i .i64)])],[],[]⟩ Tryz.func191 l
theorem ZBv {a b:Value} (e:
 zB Zne #[a,b,.func (.func Zki) #[] #[]] h fun f c=>
 R (.bool f) c):CallsH P Zo3 #[a,b] h R:=zv ⟨[],[],[]⟩ Tryz.func127 e
theorem ZAL {l m:Int} {o p:Value} (hv:
 vNew h (.cells #[zi l,zi m,o,p] Zbz) fun p1 a=>
 ∃ J:Heap→Prop,(
 ∃ B:Nat→Prop,
 ldI .i64 a p1 fun a5=>
 ldI .i64 a (p1.add 1) fun a6=>
 ldV a (p1.add 2) fun a7=>
 ldV a (p1.add 3) fun v9=>
 zB Zmb #[.agg #[zi a5,zi a6,a7],v9] a fun a9 b=>
 ExtBut B a b ∧
 bif !a9 then
 R (.bool false) b
 else
 ldV b (p1.add 3) fun aa=>
 vLen aa fun ab=>
 bif decide ((ab:Int)>8) then
 R (.bool false) b
 else
 ldI .i64 b p1 fun r=>
 ldI .i64 b (p1.add 1) fun s=>
 ldV b (p1.add 2) fun t=>
 zI Zhc #[.agg #[zi r,zi s,t]] b fun ac a0=>
 ExtBut B a a0 ∧
 ldV (hmask B a) (p1.add 3) fun ad=>
 zI Zaz #[ad] a0 fun ae af=>
 zI Zb9 #[zi ac,zi ae,zi 4096] af fun ag a1=>
 bif decide (ag>4096) then
 R (.bool false) a1
 else
 J a1
 )∧∀ (_:Env) (c:Heap),J c →
 ∃ a2:Nat→Prop,
 ldI .i64 c p1 fun u=>
 ldI .i64 c (p1.add 1) fun v=>
 ldV c (p1.add 2) fun w=>
 CallsH P Zk6 #[.agg #[zi u,zi v,w]] c fun ah a3=>∃ e,∃ (f:Value),∃ (g:Value),∃ (i:Value),∃ (j:Value),ah=.agg #[zi e,f,g,i,j] ∧
 ExtBut a2 c a3 ∧
 ldV (hmask a2 c) (p1.add 3) fun ai=>
 CallsH P Zqf #[.agg #[zi e,f,g,i,j],ai] a3 fun aj a4=>∃ (k:Value),∃ (x:Value),∃ y,aj=.tuple #[k,x,zi y] ∧
 ldV a4 (p1.add 3) fun ak=>
 zB Zo3 #[k,ak] a4 fun al a8=>
 R (.bool al) a8):CallsH P Zku #[.agg #[zi l,zi m,o,p]] h R:=zv ⟨[],[(3,[])],[]⟩ Tryz.func60 hv
theorem ZDO {f:Int} (t:
 zV ZkX #[zi f] h fun b g=>
 vLen b fun i=>
 lq1 (0:Int) g fun J n c a=>
 bif decide (c<(i:Int)) then
 vIdx b c 1 fun j=>
 ldI .i64 a j fun k=>
 vIdx b 0 1 fun l=>
 ldI .i64 a l fun m=>
 bif k !=m then
 R (.tuple #[zi 0,zi 0]) a
 else
 ag1 J n (zw (c+1)) a
 else
 vLen b fun o=>
 bif (o:Int)==0 then
 R (.tuple #[zi 0,zi 0]) a
 else
 ∃ B:Nat→Prop,
 zI ZaA #[b] a fun p e=>
 ExtBut B a e ∧
 vIdx b 0 1 fun r=>
 ldI .i64 (hmask B a) r fun s=>
 R (.tuple #[zi s,zi p]) e):CallsH P ZpN #[zi f] h R:=zv ⟨[(3,[(11,.i .i64)])],[],[]⟩ Tryz.func192 t
theorem Zyi {w:Int} (hv:
 vNew h (.cells #[zi 0,zi 0,.slice none 0 0] Zcn) fun p2 a8=>
 CallsH P ZpN #[zi w] a8 fun r9 s=>∃ a,∃ b,r9=.tuple #[zi a,zi b] ∧
 ∃ J:Heap→Prop,(
 bif a==0 then
 vStore1 s p2 (zi 0) fun a9=>
 vStore1 a9 (p2.add 1) (zi 0) fun aa=>
 vStore1 aa (p2.add 2) (.slice none 0 0) fun l=>
 ldI .i64 l p2 fun o=>
 ldI .i64 l (p2.add 1) fun p=>
 ldV l (p2.add 2) fun r=>
 R (.tuple #[.agg #[zi o,zi p,r],zi 2]) l
 else
 bif decide (w>64) then
 vStore1 s p2 (zi 0) fun ab=>
 vStore1 ab (p2.add 1) (zi 0) fun ac=>
 vStore1 ac (p2.add 2) (.slice none 0 0) fun m=>
 ldI .i64 m p2 fun e=>
 ldI .i64 m (p2.add 1) fun f=>
 ldV m (p2.add 2) fun g=>
 R (.tuple #[.agg #[zi e,zi f,g],zi 2]) m
 else
 J s
 )∧∀ (_:Env) (t:Heap),J t →
 lq1 (0:Int) t fun ad n x y=>
 zV ZbI #[zi x,zi a,zi b] y fun ae a0=>
 vNewS a0 (.cells #[zi 1] Zg) 1 fun af a1=>
 vAppend 1 8 [zi 0] Zg ae af a1 fun ag a2=>
 zB ZlE #[ag,zi a] a2 fun ah u=>
 bif !ah then
 ag1 ad n (zw (x+1)) u
 else
 zV ZbI #[zi x,zi a,zi b] u fun ai a3=>
 vNewS a3 (.cells #[zi 1] Zg) 1 fun aj a4=>
 vAppend 1 8 [zi 0] Zg ai aj a4 fun v a5=>
 vOne v fun _=>
 vStore1 a5 p2 (zi a) fun a6=>
 vStore1 a6 (p2.add 1) (zi b) fun a7=>
 vStore1 a7 (p2.add 2) v fun c=>
 ldI .i64 c p2 fun i=>
 ldI .i64 c (p2.add 1) fun j=>
 ldV c (p2.add 2) fun k=>
 R (.tuple #[.agg #[zi i,zi j,k],zi 0]) c):CallsH P ZpK #[zi w] h R:=zv ⟨[(5,[(6,.i .i64)])],[(4,[])],[]⟩ Tryz.func128 hv
theorem ZAw {m o:Int} {p:Value} (hv:
 vNew h (.cells #[zi m,zi o,p] ZaC) fun p1 a2=>
 vNew a2 (.cells #[zi 0,zi 0,.slice none 0 0,.slice none 0 0] Zbz) fun p2 u=>
 ldI .i64 u (p1.add 1) fun x7=>
 CallsH P ZpK #[zi x7] u fun r8 a3=>∃ c,∃ e,∃ (f:Value),∃ x,r8=.tuple #[.agg #[zi c,zi e,f],zi x] ∧
 vNew a3 (.cells #[zi 0,zi 0,.slice none 0 0] Zcn) fun g a4=>
 vStore1 a4 g (zi c) fun a5=>
 vStore1 a5 (g.add 1) (zi e) fun a6=>
 vStore1 a6 (g.add 2) f fun b=>
 ∃ B:Nat→Prop,
 ldV b (p1.add 2) fun a7=>
 zV ZcR #[a7] b fun v w=>
 ExtBut B b w ∧
 ldI .i64 (hmask B b) g fun r=>
 ldI .i64 (hmask B b) (g.add 1) fun s=>
 ldV (hmask B b) (g.add 2) fun t=>
 vOne v fun _=>
 vStore1 w p2 (zi r) fun y=>
 vStore1 y (p2.add 1) (zi s) fun a0=>
 vStore1 a0 (p2.add 2) t fun a1=>
 vStore1 a1 (p2.add 3) v fun a=>
 ldI .i64 a p2 fun i=>
 ldI .i64 a (p2.add 1) fun j=>
 ldV a (p2.add 2) fun k=>
 ldV a (p2.add 3) fun l=>
 R (.agg #[zi i,zi j,k,l]) a):CallsH P Zj1 #[.agg #[zi m,zi o,p]] h R:=zv ⟨[],[],[]⟩ Tryz.func61 hv
theorem ZwF {c:Value} (g:
 vLen c fun i=>
 lq1 (0:Int) h fun J n e a=>
 bif decide (e<(i:Int)) then
 vIdx c e 1 fun f=>
 ldI .i64 a f fun b=>
 bif b !=0 then
 R (zi b) a
 else
 ag1 J n (zw (e+1)) a
 else
 R (zi 0) a):CallsH P ZqF #[c] h R:=zv ⟨[(3,[(8,.i .i64)])],[],[]⟩ Tryz.func247 g
theorem Zxw {b c e f:Int} (u:
 vNew h (.cells #[zi b,zi c] ZbE) fun p2 i=>
 vNew i (.cells #[zi e,zi f] ZbE) fun j a=>
 ∃ B:Nat→Prop,
 ldI .i64 a p2 fun v=>
 ldI .i64 a j fun w=>
 zI ZcS #[zi v,zi w] a fun x g=>
 ExtBut B a g ∧
 ldI .i64 (hmask B a) (p2.add 1) fun k=>
 ldI .i64 (hmask B a) (j.add 1) fun l=>
 zI ZcS #[zi k,zi l] g fun m o=>
 vNewS o (.cells #[zi x,zi m] t_int) 2 fun p r=>
 zI ZqF #[p] r fun s t=>
 R (zi s) t):CallsH P ZnA #[.agg #[zi b,zi c],.agg #[zi e,zi f]] h R:=zv ⟨[],[],[]⟩ Tryz.func195 u
theorem ZCl {a:Int} (c:
 zB Zap #[zi a,zi 0,zi 63] h fun e b=>
 R (.bool e) b):CallsH P Zph #[zi a] h R:=zv ⟨[],[],[]⟩ Tryz.func249 c
theorem ZEm {a:Int} (c:
 zB Zph #[zi a] h fun e b=>
 R (.bool (!e)) b):CallsH P Zmt #[zi a] h R:=zv ⟨[],[],[]⟩ Tryz.func248 c
theorem ZvW {a:Value} (c:
 vLen a fun e=>
 bif decide ((e:Int)≤64) then
 zB Zc7 #[a,.func (.func Zmt) #[] #[]] h fun f b=>
 R (.bool (!f)) b
 else
 R (.bool false) h):CallsH P Zp6 #[a] h R:=zv ⟨[],[],[]⟩ Tryz.func196 c
theorem ZFf {g i:Value} (hv:
 vNew h (.cells #[g,i] Zdl) fun p1 s=>
 ldV s (p1.add 1) fun w=>
 vLen w fun n7=>
 lq1 (0:Int) s fun J n f c=>
 bif decide (f<(n7:Int)) then
 vIdx w f 2 fun t=>
 ldI .i64 c t fun k=>
 ldI .i64 c (t.add 1) fun l=>
 vNew c (.cells #[zi 0,zi 0] ZbE) fun e x=>
 vStore1 x e (zi k) fun y=>
 vStore1 y (e.add 1) (zi l) fun a=>
 ∃ B:Nat→Prop,
 ldI .i64 a e fun a0=>
 bif decide (a0<0) then
 R (.bool false) a
 else
 ldI .i64 a e fun a1=>
 ldI .i64 a (e.add 1) fun a2=>
 bif decide (a1≥a2) then
 R (.bool false) a
 else
 ldV a p1 fun a3=>
 zI ZaA #[a3] a fun a4 b=>
 ExtBut B a b ∧
 ldI .i64 (hmask B a) (e.add 1) fun a5=>
 bif decide (a5≥a4) then
 R (.bool false) b
 else
 bif decide (f>0) then
 ldV b (p1.add 1) fun a6=>
 vIdx a6 (zw (f-1)) 2 fun u=>
 ldI .i64 b u fun m=>
 ldI .i64 b (u.add 1) fun o=>
 ldI .i64 b e fun p=>
 ldI .i64 b (e.add 1) fun r=>
 zI ZnA #[.agg #[zi m,zi o],.agg #[zi p,zi r]] b fun a7 v=>
 bif decide (a7≥0) then
 R (.bool false) v
 else
 ag1 J n (zw (f+1)) v
 else
 ag1 J n (zw (f+1)) b
 else
 ldV c p1 fun a8=>
 zB Zp6 #[a8] c fun a9 j=>
 bif a9 then
 ldV j (p1.add 1) fun aa=>
 vLen aa fun ab=>
 R (.bool (decide ((ab:Int)≤512))) j
 else
 R (.bool false) j):CallsH P Zn8 #[.agg #[g,i]] h R:=zv ⟨[(2,[(8,.i .i64)])],[],[]⟩ Tryz.func129 hv
theorem ZBZ {m o:Int} {p:Value} (hv:
 vNew h (.cells #[zi m,zi o,p] ZaC) fun p1 ac=>
 vNew ac (.cells #[.slice none 0 0,.slice none 0 0] Zdl) fun p2 a4=>
 ldI .i64 a4 (p1.add 1) fun x8=>
 zB Zap #[zi x8,zi 0,zi 64] a4 fun b9 r=>
 bif !b9 then
 vStore1 r p2 (.slice none 0 0) fun ad=>
 vStore1 ad (p2.add 1) (.slice none 0 0) fun s=>
 ldV s p2 fun k=>
 ldV s (p2.add 1) fun l=>
 R (.tuple #[.agg #[k,l],.bool false]) s
 else
 ldI .i64 r (p1.add 1) fun a5=>
 vMake 8 [zi 0] Zg a5 a5 r fun a6 ae=>
 vOne a6 fun _=>
 vNew ae (.cells #[.slice none 0 0,.slice none 0 0] Zdl) fun b af=>
 vStore1 af b a6 fun ag=>
 vStore1 ag (b.add 1) (.slice none 0 0) fun t=>
 ldV t (p1.add 2) fun a7=>
 vLen a7 fun ah=>
 lq1 (0:Int) t fun J n u a=>
 bif decide (u<(ah:Int)) then
 vIdx a7 u 1 fun ai=>
 ldV a ai fun v=>
 vLen v fun aj=>
 bif (aj:Int) !=2 then
 vStore1 a p2 (.slice none 0 0) fun a8=>
 vStore1 a8 (p2.add 1) (.slice none 0 0) fun i=>
 ldV i p2 fun c=>
 ldV i (p2.add 1) fun e=>
 R (.tuple #[.agg #[c,e],.bool false]) i
 else
 ∃ B:Nat→Prop,
 vIdx v 0 1 fun ak=>
 ldI .i64 a ak fun al=>
 vIdx v 1 1 fun am=>
 ldI .i64 a am fun an=>
 vNewS a (.cells #[zi al,zi an] ZbE) 1 fun ao w=>
 ExtBut B a w ∧
 ldV (hmask B a) (b.add 1) fun ap=>
 vAppend 2 16 [zi 0,zi 0] ZbE ap ao w fun aq a9=>
 vStore1 a9 (b.add 1) aq fun aa=>
 ag1 J n (zw (u+1)) aa
 else
 ∃ x:Nat→Prop,
 ldV a b fun a0=>
 ldV a (b.add 1) fun a1=>
 zB Zn8 #[.agg #[a0,a1]] a fun ar y=>
 ExtBut x a y ∧
 ldV (hmask x a) b fun a2=>
 ldV (hmask x a) (b.add 1) fun a3=>
 vStore1 y p2 a2 fun ab=>
 vStore1 ab (p2.add 1) a3 fun j=>
 ldV j p2 fun f=>
 ldV j (p2.add 1) fun g=>
 R (.tuple #[.agg #[f,g],.bool ar]) j):CallsH P Znq #[.agg #[zi m,zi o,p]] h R:=zv ⟨[(5,[(19,.i .i64)])],[],[]⟩ Tryz.func62 hv
theorem ZE8 {c:Int} (j:
 vMake 8 [zi 0] Zg c c h fun e f=>
 vLen e fun k=>
 lq1 (0:Int) f fun J n a b=>
 bif decide (a<(k:Int)) then
 vIdx e a 1 fun g=>
 vStore1 b g (zi a) fun i=>
 ag1 J n (zw (a+1)) i
 else
 R e b):CallsH P ZgT #[zi c] h R:=zv ⟨[(3,[(9,.i .i64)])],[],[]⟩ Tryz.func136 j
theorem ZAg {c:Value} (p:
 vLen c fun e=>
 vMake 1 [.int .u8 0] Zjc (e:Int) (e:Int) h fun f g=>
 vLen c fun i=>
 lq1 (0:Int) g fun J n a b=>
 bif decide (a<(i:Int)) then
 vIdx c a 1 fun j=>
 ldI .i64 b j fun k=>
 vIdx f a 1 fun l=>
 vStore1 b l (.int .u8 (IntKind.u8.wrap k)) fun m=>
 ag1 J n (zw (a+1)) m
 else
 vB2S f b fun o=>
 R (.string o) b):CallsH P ZjS #[c] h R:=zv ⟨[(3,[(11,.i .i64)])],[],[]⟩ Tryz.func250 p
theorem Zw9 {c f:Value} (s:
 vLen c fun g=>
 vMake 8 [zi 0] Zg (g:Int) (g:Int) h fun e i=>
 vLen e fun j=>
 lq1 (0:Int) i fun J n a b=>
 bif decide (a<(j:Int)) then
 vIdx c a 1 fun k=>
 ldI .i64 b k fun l=>
 vIdx f l 1 fun m=>
 ldI .i64 b m fun o=>
 vIdx e a 1 fun p=>
 vStore1 b p (zi o) fun r=>
 ag1 J n (zw (a+1)) r
 else
 R e b):CallsH P Zl7 #[c,f] h R:=zv ⟨[(3,[(12,.i .i64)])],[],[]⟩ Tryz.func251 s
theorem Zvg {y:Int} {s:Value} (hv:
 zV ZgT #[zi y] h fun j a0=>
 vOne j fun _=>
 vNewS a0 (.cells #[j] Zf) 1 fun k a1=>
 vMapNew a1 fun f l=>
 vIdx k 0 1 fun a2=>
 ldV l a2 fun a3=>
 zS ZjS #[a3] l fun a4 a5=>
 vMapSet .str f (.string a4) (.bool true) a5 fun a6=>
 lq2 k (0:Int) a6 fun J n i t m=>
 vLen i fun a7=>
 bif decide (t<(a7:Int)) then
 vLen s fun a8=>
 lq2 i (0:Int) m fun o p a e b=>
 bif decide (e<(a8:Int)) then
 vIdx s e 1 fun a9=>
 ldV b a9 fun aa=>
 vIdx a t 1 fun ab=>
 ldV b ab fun ac=>
 zV Zl7 #[ac,aa] b fun g ad=>
 zS ZjS #[g] ad fun r c=>
 mapGetB .str f (.string r) c fun ae=>
 bif !ae then
 vMapSet .str f (.string r) (.bool true) c fun u=>
 vOne g fun _=>
 vNewS u (.cells #[g] Zf) 1 fun af v=>
 vAppend 1 24 [.slice none 0 0] Zf a af v fun ag w=>
 ag2 o p ag (zw (e+1)) w
 else
 ag2 o p a (zw (e+1)) c
 else
 vLen a fun ah=>
 bif decide ((ah:Int)>720) then
 R (.tuple #[(.slice none 0 0),.bool false]) b
 else
 ag2 J n a (zw (t+1)) b
 else
 CallsH P Zt5 #[i,.func (.func ZcQ) #[] #[]] m fun ai x=>ai=.tuple #[] ∧
 R (.tuple #[i,.bool true]) x):CallsH P Zla #[zi y,s] h R:=zv ⟨[(4,[(6,.v),(8,.i .i64)]),(7,[(6,.v),(30,.i .i64)])],[],[]⟩ Tryz.func197 hv
theorem ZBB {g m:Value} {f:Nat} {e:List Value} (w:
 vLen g fun i=>
 lq2 (0:Int) (i:Int) h fun J n a b c=>
 bif decide (a<b) then
 (0:Int)≤1 ∧
 vIdx g (zw (Int.fdiv (IntKind.u64.wrap (zw (a+b))) (2^min (1:Int).toNat IntKind.u64.bits))) 1 fun o=>
 ldV c o fun p=>
 vOkf ctx f fun _=>
 CallsH P f (([p,m]:List Value)++e).toArray c fun r j=>∃ k,r=zi k ∧
 bif decide (k<0) then
 ag2 J n (zw ((zw (Int.fdiv (IntKind.u64.wrap (zw (a+b))) (2^min (1:Int).toNat IntKind.u64.bits)))+1)) b j
 else
 ag2 J n a (zw (Int.fdiv (IntKind.u64.wrap (zw (a+b))) (2^min (1:Int).toNat IntKind.u64.bits))) j
 else
 bif decide (a<(i:Int)) then
 vIdx g a 1 fun s=>
 ldV c s fun t=>
 vOkf ctx f fun _=>
 CallsH P f (([t,m]:List Value)++e).toArray c fun u v=>∃ l,u=zi l ∧
 R (.tuple #[zi a,.bool (l==0)]) v
 else
 R (.tuple #[zi a,.bool false]) c):CallsH P Znd #[g,m,.func (.func f) #[] e.toArray] h R:=zv ⟨[(3,[(9,.i .i64),(10,.i .i64)])],[],[]⟩ Tryz.func198 w
theorem ZBr {u:Int} {v:Value} (hv:
 CallsH P Zla #[zi u,(.slice none 0 0)] h fun w x=>∃ (b:Value),∃ (c:Bool),w=.tuple #[b,.bool c] ∧
 vLen v fun y=>
 lq4 ((.slice none 0 0):Value) b c (0:Int) x fun J n l m o a i=>
 bif decide (a<(y:Int)) then
 vIdx v a 1 fun a0=>
 ldV i a0 fun j=>
 ∃ r:Heap→Prop,(
 CallsH P Znd #[m,j,.func (.func ZcQ) #[] #[]] i fun a1 k=>∃ p,∃ (e:Bool),a1=.tuple #[zi p,.bool e] ∧
 bif e then
 ag4 J n l m o (zw (a+1)) k
 else
 bif !o then
 ag4 J n l m o (zw (a+1)) k
 else
 r k
 )∧∀ (_:Env) (s:Heap),r s →
 vOne j fun _=>
 vNewS s (.cells #[j] Zf) 1 fun a2 a3=>
 vAppend 1 24 [.slice none 0 0] Zf l a2 a3 fun t a4=>
 CallsH P Zla #[zi u,t] a4 fun a5 a6=>∃ (f:Value),∃ (g:Bool),a5=.tuple #[f,.bool g] ∧
 ag4 J n t f g (zw (a+1)) a6
 else
 R (.tuple #[l,m,.bool o]) i):CallsH P ZpO #[zi u,v] h R:=zv ⟨[(4,[(7,.v),(8,.v),(9,.b),(21,.i .i64)])],[(8,[])],[]⟩ Tryz.func130 hv
theorem Zx0 {f:Int} {g:Value} (hv:
 vNew h (.cells #[zi f,g] Zpf) fun p1 l=>
 ∃ J:Heap→Prop,(
 ldI .i64 l p1 fun x8=>
 zB Zap #[zi x8,zi 1,zi 32] l fun b9 b=>
 bif !b9 then
 R (.bool false) b
 else
 ldV b (p1.add 1) fun r=>
 vLen r fun s=>
 bif decide ((s:Int)<1) then
 R (.bool false) b
 else
 ldV b (p1.add 1) fun t=>
 vLen t fun u=>
 bif decide ((u:Int)>720) then
 R (.bool false) b
 else
 ldI .i64 b p1 fun v=>
 ldV b (p1.add 1) fun w=>
 zB ZkA #[zi v,w] b fun x m=>
 bif !x then
 R (.bool false) m
 else
 J m
 )∧∀ (_:Env) (o:Heap),J o →
 lq1 (1:Int) o fun y n j a=>
 ldV a (p1.add 1) fun a0=>
 vLen a0 fun a1=>
 bif decide (j<(a1:Int)) then
 ldV a (p1.add 1) fun a2=>
 vIdx a2 (zw (j-1)) 1 fun a3=>
 ldV a a3 fun a4=>
 ldV a (p1.add 1) fun a5=>
 vIdx a5 j 1 fun a6=>
 ldV a a6 fun a7=>
 zI ZcQ #[a4,a7] a fun a8 p=>
 bif decide (a8≥0) then
 R (.bool false) p
 else
 ag1 y n (zw (j+1)) p
 else
 ldI .i64 a p1 fun a9=>
 ldV a (p1.add 1) fun aa=>
 CallsH P ZpO #[zi a9,aa] a fun ab i=>∃ (k:Value),∃ (c:Value),∃ (e:Bool),ab=.tuple #[k,c,.bool e] ∧
 bif e then
 vLen c fun ac=>
 ldV i (p1.add 1) fun ad=>
 vLen ad fun ae=>
 R (.bool ((ac:Int)==(ae:Int))) i
 else
 R (.bool false) i):CallsH P ZoI #[.agg #[zi f,g]] h R:=zv ⟨[(4,[(3,.i .i64)])],[(3,[])],[]⟩ Tryz.func63 hv
theorem ZyO {e f:Int} {g:Value} (o:
 vNew h (.cells #[zi e,zi f,g] ZaC) fun p1 k=>
 vNew k (.cells #[zi 0,.slice none 0 0] Zpf) fun p2 a=>
 ∃ B:Nat→Prop,
 ldV a (p1.add 2) fun p=>
 zV ZcR #[p] a fun l j=>
 ExtBut B a j ∧
 ldI .i64 (hmask B a) (p1.add 1) fun r=>
 vOne l fun _=>
 vStore1 j p2 (zi r) fun m=>
 vStore1 m (p2.add 1) l fun i=>
 ldI .i64 i p2 fun b=>
 ldV i (p2.add 1) fun c=>
 R (.agg #[zi b,c]) i):CallsH P Zp0 #[.agg #[zi e,zi f,g]] h R:=zv ⟨[],[],[]⟩ Tryz.func64 o
theorem ZFj {w x:Int} {y:Value} (hv:
 vNew h (.cells #[zi w,zi x,y] ZaC) fun p1 a=>
 ldI .i64 a p1 fun s=>
 bif s==1 then
 ∃ B:Nat→Prop,
 ldV a (p1.add 2) fun ap=>
 zI Zaz #[ap] a fun aq t=>
 ExtBut B a t ∧
 ldI .i64 (hmask B a) (p1.add 1) fun ar=>
 bif aq==ar then
 ldV t (p1.add 2) fun au=>
 zB Zlz #[au] t fun av aw=>
 R (.bool av) aw
 else
 R (.bool false) t
 else
 bif s==2 then
 ldI .i64 a p1 fun a0=>
 ldI .i64 a (p1.add 1) fun a1=>
 ldV a (p1.add 2) fun a2=>
 CallsH P Zkn #[.agg #[zi a0,zi a1,a2]] a fun ax ay=>∃ b,∃ (c:Value),ax=.agg #[zi b,c] ∧
 zB Zop #[.agg #[zi b,c]] ay fun az b0=>
 R (.bool az) b0
 else
 bif s==3 then
 ∃ af:Nat→Prop,
 ldV a (p1.add 2) fun b1=>
 zI Zaz #[b1] a fun b2 u=>
 ExtBut af a u ∧
 ldI .i64 (hmask af a) (p1.add 1) fun b3=>
 bif b2==b3 then
 ldV u (p1.add 2) fun b4=>
 zB Zj7 #[b4] u fun b5 b6=>
 R (.bool b5) b6
 else
 R (.bool false) u
 else
 bif s==4 then
 ldV a (p1.add 2) fun b7=>
 vLen b7 fun b8=>
 bif decide ((b8:Int)>0) then
 ldI .i64 a p1 fun a3=>
 ldI .i64 a (p1.add 1) fun a4=>
 ldV a (p1.add 2) fun a5=>
 CallsH P Zk9 #[.agg #[zi a3,zi a4,a5]] a fun b9 ba=>∃ e,∃ f,∃ (g:Value),b9=.agg #[zi e,zi f,g] ∧
 zB Zlh #[.agg #[zi e,zi f,g]] ba fun bb ag=>
 R (.bool bb) ag
 else
 R (.bool false) a
 else
 bif s==5 then
 ldI .i64 a p1 fun a6=>
 ldI .i64 a (p1.add 1) fun a7=>
 ldV a (p1.add 2) fun a8=>
 CallsH P Zj1 #[.agg #[zi a6,zi a7,a8]] a fun bc ah=>∃ i,∃ j,∃ (k:Value),∃ (l:Value),bc=.agg #[zi i,zi j,k,l] ∧
 zB Zku #[.agg #[zi i,zi j,k,l]] ah fun bd ai=>
 R (.bool bd) ai
 else
 bif s==6 then
 ldI .i64 a p1 fun a9=>
 ldI .i64 a (p1.add 1) fun aa=>
 ldV a (p1.add 2) fun ab=>
 CallsH P Znq #[.agg #[zi a9,zi aa,ab]] a fun be aj=>∃ (m:Value),∃ (o:Value),∃ (v:Bool),be=.tuple #[.agg #[m,o],.bool v] ∧
 vNew aj (.cells #[.slice none 0 0,.slice none 0 0] Zdl) fun p3 ak=>
 vStore1 ak p3 m fun al=>
 vStore1 al (p3.add 1) o fun am=>
 R (.bool v) am
 else
 bif s==7 then
 ldI .i64 a p1 fun ac=>
 ldI .i64 a (p1.add 1) fun ad=>
 ldV a (p1.add 2) fun ae=>
 CallsH P Zp0 #[.agg #[zi ac,zi ad,ae]] a fun bg an=>∃ p,∃ (r:Value),bg=.agg #[zi p,r] ∧
 zB ZoI #[.agg #[zi p,r]] an fun bh ao=>
 R (.bool bh) ao
 else
 R (.bool false) a):CallsH P Zmj #[.agg #[zi w,zi x,y]] h R:=zv ⟨[],[],[]⟩ Tryz.func20 hv
theorem ZBl {a:Int} (c:
 zS Zsz #[zi a,zi 10] h fun e b=>
 R (.string e) b):CallsH P Zj8 #[zi a] h R:=zv ⟨[],[],[]⟩ Tryz.func69 c
theorem ZzE {a:ByteArray} {b:Int} (f:
 (((a:ByteArray).size+(⟨#[32]⟩:ByteArray).size:Nat):Int)≤IntKind.i64.max ∧
 zS Zj8 #[zi b] h fun c e=>
 ((((a:ByteArray)++(⟨#[32]⟩:ByteArray):ByteArray).size+(c:ByteArray).size:Nat):Int)≤IntKind.i64.max ∧
 R (.string (((a:ByteArray)++(⟨#[32]⟩:ByteArray):ByteArray)++(c:ByteArray))) e):CallsH P Zak #[.string a,zi b] h R:=zv ⟨[],[],[]⟩ Tryz.func25 f
theorem ZE6 {i:Value} {f:Nat} {a:List Value} (k:
 vLen i fun l=>
 lq1 (0:Int) h fun J n g b=>
 bif decide (g<(l:Int)) then
 vOkf ctx f fun _=>
 CallsH P f (([zi g]:List Value)++a).toArray b fun j c=>∃ (e:Bool),j=.bool e ∧
 bif !e then
 R (.bool false) c
 else
 ag1 J n (zw (g+1)) c
 else
 R (.bool true) b):CallsH P ZcT #[i,.func (.func f) #[] a.toArray] h R:=zv ⟨[(2,[(8,.i .i64)])],[],[]⟩ Tryz.func199 k
theorem ZFJ {a:Int} {p1:Addr} (c:
 ldV h p1 fun e=>
 vIdx e a 1 fun f=>
 ldV h f fun g=>
 vIdx g a 1 fun i=>
 ldI .i64 h i fun b=>
 R (.bool (b==a)) h):CallsH P ZqM #[zi a,.pointer (some p1)] h R:=zv ⟨[],[],[]⟩ Tryz.func200 c
theorem ZzK {a:Int} {p1:Addr} (j:
 ldV h p1 fun k=>
 vIdx k a 1 fun l=>
 ldV h l fun m=>
 vIdx m a 1 fun o=>
 ldI .i64 h o fun b=>
 ldV h p1 fun c=>
 vIdx c 0 1 fun e=>
 ldV h e fun f=>
 vIdx f 0 1 fun g=>
 ldI .i64 h g fun i=>
 R (.bool (b==i)) h):CallsH P Zmi #[zi a,.pointer (some p1)] h R:=zv ⟨[],[],[]⟩ Tryz.func201 j
theorem ZxF {a:Int} {p1 p2:Addr} (f:
 ldV h p1 fun g=>
 ldI .i64 h p2 fun i=>
 vFn g fun b j k=>
 vOkf ctx b fun _=>
 CallsH P b (j++([zi i,zi a]:List Value)++k).toArray h fun r8 c=>∃ (e:Bool),r8=.bool e ∧
 R (.bool e) c):CallsH P ZoN #[zi a,.pointer (some p1),.pointer (some p2)] h R:=zv ⟨[],[],[]⟩ Tryz.func254 f
theorem ZxR {b:Int} {p1 p2:Addr} (e:
 vNew h (.cells #[zi b] Zg) fun f a=>
 ldV a p1 fun g=>
 zB ZcT #[g,.func (.func ZoN) #[] #[.pointer (some p2),.pointer (some f)]] a fun i c=>
 R (.bool i) c):CallsH P ZmP #[zi b,.pointer (some p1),.pointer (some p2)] h R:=zv ⟨[],[],[]⟩ Tryz.func253 e
theorem ZCD {c:Value} {e:Nat} {a:List Value} (i:
 vOne c fun _=>
 vNew h (.cells #[c] ZfG) fun p2 f=>
 vNew f (.cells #[.func (.func e) #[] a.toArray] ZAo) fun j b=>
 ldV b p2 fun k=>
 zB ZcT #[k,.func (.func ZmP) #[] #[.pointer (some p2),.pointer (some j)]] b fun l g=>
 R (.bool l) g):CallsH P Zhe #[c,.func (.func e) #[] a.toArray] h R:=zv ⟨[],[],[]⟩ Tryz.func202 i
theorem ZBC {a b:Int} {p2:Addr} (l:
 ldV h p2 fun m=>
 vIdx m a 1 fun o=>
 ldV h o fun p=>
 vIdx p b 1 fun c=>
 ldI .i64 h c fun e=>
 ldV h p2 fun f=>
 vIdx f b 1 fun g=>
 ldV h g fun i=>
 vIdx i a 1 fun j=>
 ldI .i64 h j fun k=>
 R (.bool (e==k)) h):CallsH P ZpP #[zi a,zi b,.pointer (some p2)] h R:=zv ⟨[],[],[]⟩ Tryz.func203 l
theorem ZCc {a:Value} {p1:Addr} (f:
 ldV h p1 fun g=>
 zI Zaz #[g] h fun i b=>
 zV ZgT #[zi i] b fun j c=>
 zB Zki #[a,j] c fun k e=>
 R (.bool k) e):CallsH P ZqA #[a,.pointer (some p1)] h R:=zv ⟨[],[],[]⟩ Tryz.func255 f
theorem ZCr {b:Value} (e:
 vOne b fun _=>
 vNew h (.cells #[b] ZfG) fun p1 a=>
 ldV a p1 fun f=>
 zI Zg5 #[f,.func (.func ZqA) #[] #[.pointer (some p1)]] a fun g c=>
 R (zi g) c):CallsH P Zoa #[b] h R:=zv ⟨[],[],[]⟩ Tryz.func204 e
theorem ZuV {a:Int} {p1 p2:Addr} (e:
 ldV h p1 fun f=>
 vIdx f a 1 fun g=>
 ldV h g fun i=>
 ldI .i64 h p2 fun j=>
 vIdx i j 1 fun b=>
 ldI .i64 h b fun c=>
 R (.bool (c==a)) h):CallsH P Zmn #[zi a,.pointer (some p1),.pointer (some p2)] h R:=zv ⟨[],[],[]⟩ Tryz.func256 e
theorem ZwY {f:Value} (m:
 vOne f fun _=>
 vNew h (.cells #[f] ZfG) fun p1 b=>
 ldV b p1 fun o=>
 vLen o fun p=>
 lq1 (0:Int) b fun J n g c=>
 bif decide (g<(p:Int)) then
 vNew c (.cells #[zi 0] t_int) fun i j=>
 vStore1 j i (zi g) fun e=>
 ldV e p1 fun r=>
 zB ZcT #[r,.func (.func Zmn) #[] #[.pointer (some p1),.pointer (some i)]] e fun k a=>
 bif k then
 ldI .i64 a i fun l=>
 R (zi l) a
 else
 ag1 J n (zw (g+1)) a
 else
 R (zi (-1)) c):CallsH P Zpd #[f] h R:=zv ⟨[(2,[(6,.i .i64)])],[],[]⟩ Tryz.func205 m
theorem ZvH {a:Int} {p1 p2 b:Addr} (hv:
 ldV h p1 fun v6=>
 ldV h p1 fun v7=>
 ldI .i64 h p2 fun x8=>
 vIdx v7 x8 1 fun p9=>
 ldV h p9 fun c=>
 ldI .i64 h b fun e=>
 vIdx c e 1 fun f=>
 ldI .i64 h f fun g=>
 vIdx v6 g 1 fun i=>
 ldV h i fun j=>
 vIdx j a 1 fun k=>
 ldI .i64 h k fun l=>
 ldV h p1 fun m=>
 ldI .i64 h p2 fun o=>
 vIdx m o 1 fun p=>
 ldV h p fun r=>
 ldV h p1 fun s=>
 ldI .i64 h b fun t=>
 vIdx s t 1 fun u=>
 ldV h u fun v=>
 vIdx v a 1 fun w=>
 ldI .i64 h w fun x=>
 vIdx r x 1 fun y=>
 ldI .i64 h y fun a0=>
 R (.bool (l==a0)) h):CallsH P Zm2 #[zi a,.pointer (some p1),.pointer (some p2),.pointer (some b)] h R:=zv ⟨[],[],[]⟩ Tryz.func258 hv
theorem ZCH {b c:Int} {p2:Addr} (g:
 vNew h (.cells #[zi b] Zg) fun i e=>
 vNew e (.cells #[zi c] Zg) fun j a=>
 ldV a p2 fun k=>
 zB ZcT #[k,.func (.func Zm2) #[] #[.pointer (some p2),.pointer (some i),.pointer (some j)]] a fun l f=>
 R (.bool l) f):CallsH P Zo0 #[zi b,zi c,.pointer (some p2)] h R:=zv ⟨[],[],[]⟩ Tryz.func257 g
theorem ZDn {b:Value} (e:
 vOne b fun _=>
 vNew h (.cells #[b] ZfG) fun p1 a=>
 ldV a p1 fun f=>
 zB Zhe #[f,.func (.func Zo0) #[] #[.pointer (some p1)]] a fun g c=>
 R (.bool g) c):CallsH P Zpw #[b] h R:=zv ⟨[],[],[]⟩ Tryz.func206 e
theorem Zyq {a b:Int} {p2:Addr} (l:
 ldV h p2 fun m=>
 vIdx m a 1 fun o=>
 ldV h o fun p=>
 ldV h p2 fun c=>
 vIdx c b 1 fun e=>
 ldV h e fun f=>
 vIdx f a 1 fun g=>
 ldI .i64 h g fun i=>
 vIdx p i 1 fun j=>
 ldI .i64 h j fun k=>
 R (.bool (k==b)) h):CallsH P Zn0 #[zi a,zi b,.pointer (some p2)] h R:=zv ⟨[],[],[]⟩ Tryz.func207 l
theorem ZDX {e:Value} {b:Int} (hv:
 vOne e fun _=>
 vNew h (.cells #[e] ZfG) fun p2 a=>
 bif b==1 then
 ldV a p2 fun v8=>
 zB ZcT #[v8,.func (.func ZqM) #[] #[.pointer (some p2)]] a fun g i=>
 R (.bool g) i
 else
 bif b==2 then
 ldV a p2 fun j=>
 zB ZcT #[j,.func (.func Zmi) #[] #[.pointer (some p2)]] a fun k l=>
 R (.bool k) l
 else
 bif b==3 then
 ldV a p2 fun m=>
 zB Zhe #[m,.func (.func ZpP) #[] #[.pointer (some p2)]] a fun o p=>
 R (.bool o) p
 else
 bif b==4 then
 ldV a p2 fun r=>
 zI Zoa #[r] a fun s t=>
 R (.bool (decide (s≥0))) t
 else
 bif b==5 then
 ldV a p2 fun u=>
 zI Zpd #[u] a fun v w=>
 R (.bool (decide (v≥0))) w
 else
 bif b==6 then
 ldV a p2 fun x=>
 zB Zpw #[x] a fun y a0=>
 R (.bool y) a0
 else
 bif b==7 then
 ldV a p2 fun a1=>
 zB Zhe #[a1,.func (.func Zn0) #[] #[.pointer (some p2)]] a fun a2 a3=>
 R (.bool a2) a3
 else
 ldV a p2 fun a4=>
 zB ZcF #[a4,zi 3] a fun a5 c=>
 bif a5 then
 ldV c p2 fun a6=>
 zB ZcF #[a6,zi 7] c fun a7 f=>
 R (.bool a7) f
 else
 R (.bool false) c):CallsH P ZcF #[e,zi b] h R:=zv ⟨[],[],[]⟩ Tryz.func131 hv
theorem Zzv {f:Value} (o:
 zB Zlz #[f] h fun p b=>
 bif !p then
 R (.tuple #[(.slice none 0 0),zi 1]) b
 else
 lq2 ((.slice none 0 0):Value) (1:Int) b fun J n g a c=>
 bif decide (a≤8) then
 zB ZcF #[f,zi a] c fun i e=>
 bif i then
 vNewS e (.cells #[zi a] Zg) 1 fun j k=>
 vAppend 1 8 [zi 0] Zg g j k fun l m=>
 ag2 J n l (zw (a+1)) m
 else
 ag2 J n g (zw (a+1)) e
 else
 R (.tuple #[g,zi 0]) c):CallsH P ZoC #[f] h R:=zv ⟨[(5,[(4,.v),(5,.i .i64)])],[],[]⟩ Tryz.func65 o
theorem Zws {c:Int} (f:
 zB Zap #[zi c,zi 1,zi 8] h fun g a=>
 bif !g then
 R (.string ⟨#[]⟩) a
 else
 vNewS a (.cells #[.string ⟨#[105,100,101,109,112,111,116,101,110,116]⟩,.string ⟨#[117,110,105,112,111,116,101,110,116]⟩,.string ⟨#[99,111,109,109,117,116,97,116,105,118,101]⟩,.string ⟨#[108,101,102,116,45,117,110,105,116]⟩,.string ⟨#[114,105,103,104,116,45,117,110,105,116]⟩,.string ⟨#[97,115,115,111,99,105,97,116,105,118,101]⟩,.string ⟨#[115,101,109,105,115,121,109,109,101,116,114,105,99]⟩,.string ⟨#[115,121,109,109,101,116,114,105,99]⟩] ZV) 8 fun i b=>
 vIdx i (zw (c-1)) 1 fun j=>
 ldS b j fun e=>
 R (.string e) b):CallsH P Zqb #[zi c] h R:=zv ⟨[],[],[]⟩ Tryz.func66 f
theorem ZDG {e:Value} (hv:
 zI Zaz #[e] h fun c y=>
 lq2 ((.slice none 0 0):Value) (0:Int) y fun J n v3 f p=>
 bif decide (f<c) then
 lq2 v3 (zw (f+1)) p fun a1 a2 j k r=>
 bif decide (k<c) then
 lq2 j (0:Int) r fun a3 a4 l g s=>
 bif decide (g<c) then
 lq2 l (zw (g+1)) s fun t u b i a=>
 bif decide (i<c) then
 ∃ m:Bool→Heap→Prop,(
 vIdx e f 1 fun a5=>
 ldV a a5 fun a6=>
 vIdx a6 g 1 fun a7=>
 ldI .i64 a a7 fun a8=>
 vIdx e k 1 fun a9=>
 ldV a a9 fun aa=>
 vIdx aa i 1 fun ab=>
 ldI .i64 a ab fun ac=>
 bif a8==ac then
 vIdx e f 1 fun ad=>
 ldV a ad fun ae=>
 vIdx ae i 1 fun af=>
 ldI .i64 a af fun ag=>
 vIdx e k 1 fun ah=>
 ldV a ah fun ai=>
 vIdx ai g 1 fun aj=>
 ldI .i64 a aj fun ak=>
 m (ag==ak) a
 else
 m false a
 )∧∀ (_:Env) (v:Bool) (o:Heap),m v o →
 bif v then
 vNewS o (.cells #[zi f,zi k,zi g,zi i] Zg) 4 fun w al=>
 vOne w fun _=>
 vNewS al (.cells #[w] Zf) 1 fun am an=>
 vAppend 1 24 [.slice none 0 0] Zf b am an fun ao x=>
 ag2 t u ao (zw (i+1)) x
 else
 ag2 t u b (zw (i+1)) o
 else
 ag2 a3 a4 b (zw (g+1)) a
 else
 ag2 a1 a2 l (zw (k+1)) s
 else
 ag2 J n j (zw (f+1)) r
 else
 R v3 p):CallsH P Zpp #[e] h R:=zv ⟨[(4,[(3,.v),(5,.i .i64)]),(7,[(3,.v),(6,.i .i64)]),(10,[(3,.v),(7,.i .i64)]),(13,[(3,.v),(8,.i .i64)])],[(16,[(66,.b)])],[]⟩ Tryz.func67 hv
theorem ZCE {c e:Int} {f:Value} (hv:
 vNew h (.cells #[zi c,zi e,f] ZaC) fun p1 j=>
 ldI .i64 j (p1.add 1) fun x9=>
 zS Zak #[.string ⟨#[111,114,100,101,114]⟩,zi x9] j fun s t=>
 vNewS t (.cells #[.string s] ZV) 1 fun u k=>
 ldV k (p1.add 2) fun v=>
 CallsH P ZoC #[v] k fun w x=>∃ (a:Value),∃ i,w=.tuple #[a,zi i] ∧
 vLen a fun y=>
 lq2 u (0:Int) x fun J n v3 g b=>
 bif decide (g<(y:Int)) then
 vIdx a g 1 fun a1=>
 ldI .i64 b a1 fun a2=>
 zS Zqb #[zi a2] b fun a3 a4=>
 vNewS a4 (.cells #[.string a3] ZV) 1 fun a5 a6=>
 vAppend 1 16 [.string ⟨#[]⟩] ZV v3 a5 a6 fun a7 a8=>
 ag2 J n a7 (zw (g+1)) a8
 else
 ldV b (p1.add 2) fun a9=>
 zV Zpp #[a9] b fun aa l=>
 zI Zaz #[aa] l fun ab m=>
 zS Zak #[.string ⟨#[105,110,116,101,114,99,97,108,97,116,101,115]⟩,zi ab] m fun ac o=>
 vNewS o (.cells #[.string ac] ZV) 1 fun ad p=>
 vAppend 1 16 [.string ⟨#[]⟩] ZV v3 ad p fun ae r=>
 R ae r):CallsH P Zqp #[.agg #[zi c,zi e,f]] h R:=zv ⟨[(4,[(3,.v),(20,.i .i64)])],[],[]⟩ Tryz.func22 hv
theorem ZCK {f:Int} {g:Nat} {a:List Value} (hv:
 lq2 ((.slice none 0 0):Value) (0:Int) h fun J n l i b=>
 bif decide (i<f) then
 lq2 ((.slice none 0 0):Value) (0:Int) b fun m o j k c=>
 bif decide (k<f) then
 vOkf ctx g fun _=>
 CallsH P g (([zi i,zi k]:List Value)++a).toArray c fun p r=>∃ e,p=zi e ∧
 vNewS r (.cells #[zi e] Zg) 1 fun s t=>
 vAppend 1 8 [zi 0] Zg j s t fun u v=>
 ag2 m o u (zw (k+1)) v
 else
 vOne j fun _=>
 vNewS c (.cells #[j] Zf) 1 fun w x=>
 vAppend 1 24 [.slice none 0 0] Zf l w x fun y a0=>
 ag2 J n y (zw (i+1)) a0
 else
 R l b):CallsH P Zn4 #[zi f,.func (.func g) #[] a.toArray] h R:=zv ⟨[(3,[(5,.v),(6,.i .i64)]),(7,[(7,.v),(8,.i .i64)])],[],[]⟩ Tryz.func259 hv
theorem Zxr {a b:Int} (c:
 R (zi 0) h):CallsH P ZoL #[zi a,zi b] h R:=zv ⟨[],[],[]⟩ Tryz.func260 c
theorem ZDj {a:Int} (c:
 zV Zn4 #[zi a,.func (.func ZoL) #[] #[]] h fun e b=>
 R e b):CallsH P Zp8 #[zi a] h R:=zv ⟨[],[],[]⟩ Tryz.func208 c
theorem ZAx {e:Int} {f:Value} (hv:
 vNew h (.cells #[zi e,f] Zed) fun p1 p=>
 ldI .i64 p p1 fun x=>
 zV Zp8 #[zi x] p fun g r=>
 ldV r (p1.add 1) fun s=>
 vLen s fun y=>
 lq1 (0:Int) r fun J n i j=>
 bif decide (i<(y:Int)) then
 vIdx s i 1 fun a0=>
 ldV j a0 fun k=>
 vLen k fun a1=>
 lq1 (0:Int) j fun a2 a3 b l=>
 bif decide (b<(a1:Int)) then
 vIdx k b 1 fun a4=>
 ldI .i64 l a4 fun a5=>
 vSliceS k 1 (some (zi (zw (b+1)))) none none fun t=>
 vLen t fun a6=>
 lq1 (0:Int) l fun a7 a8 m a=>
 bif decide (m<(a6:Int)) then
 vIdx t m 1 fun a9=>
 ldI .i64 a a9 fun u=>
 vIdx g a5 1 fun aa=>
 ldV a aa fun v=>
 vIdx v u 1 fun ab=>
 ldI .i64 a ab fun ac=>
 vIdx v u 1 fun ad=>
 vStore1 a ad (zi (zw (ac+1))) fun ae=>
 ag1 a7 a8 (zw (m+1)) ae
 else
 ag1 a2 a3 (zw (b+1)) a
 else
 ag1 J n (zw (i+1)) l
 else
 vLen g fun af=>
 lq2 ((.slice none 0 0):Value) (0:Int) j fun ag ah w c o=>
 bif decide (c<(af:Int)) then
 vIdx g c 1 fun ai=>
 ldV o ai fun aj=>
 vSliceS aj 1 (some (zi (zw (c+1)))) none none fun ak=>
 vAppend 1 8 [zi 0] Zg w ak o fun al am=>
 ag2 ag ah al (zw (c+1)) am
 else
 R w o):CallsH P Zom #[.agg #[zi e,f]] h R:=zv ⟨[(3,[(19,.i .i64)]),(6,[(25,.i .i64)]),(9,[(35,.i .i64)]),(17,[(10,.v),(53,.i .i64)])],[],[]⟩ Tryz.func132 hv
theorem ZxW {b:Int} {c:Value} (hv:
 vNew h (.cells #[zi b,c] Zed) fun p1 j=>
 ldI .i64 j p1 fun p=>
 vMake 8 [zi 0] Zg p p j fun e k=>
 ldV k (p1.add 1) fun l=>
 vLen l fun r=>
 lq1 (0:Int) k fun J n f g=>
 bif decide (f<(r:Int)) then
 vIdx l f 1 fun s=>
 ldV g s fun m=>
 vLen m fun t=>
 lq1 (0:Int) g fun u v i a=>
 bif decide (i<(t:Int)) then
 vIdx m i 1 fun w=>
 ldI .i64 a w fun o=>
 vIdx e o 1 fun x=>
 ldI .i64 a x fun y=>
 vIdx e o 1 fun a0=>
 vStore1 a a0 (zi (zw (y+1))) fun a1=>
 ag1 u v (zw (i+1)) a1
 else
 ag1 J n (zw (f+1)) a
 else
 R e g):CallsH P Zmf #[.agg #[zi b,c]] h R:=zv ⟨[(3,[(14,.i .i64)]),(6,[(20,.i .i64)])],[],[]⟩ Tryz.func133 hv
theorem ZBj {au:Int} {av:Value} (hv:
 vNew h (.cells #[zi au,av] Zed) fun p1 c8=>
 vNew c8 (.cells #[zi 0,zi 0,zi 0,zi 0,zi 0] ZjZ) fun p2 k=>
 ∃ J:Heap→Prop,(
 ldI .i64 k p1 fun c9=>
 bif decide (c9<2) then
 vStore1 k p2 (zi 0) fun ca=>
 vStore1 ca (p2.add 1) (zi 0) fun cb=>
 vStore1 cb (p2.add 2) (zi 0) fun cc=>
 vStore1 cc (p2.add 3) (zi 0) fun cd=>
 vStore1 cd (p2.add 4) (zi 0) fun m=>
 ldI .i64 m p2 fun an=>
 ldI .i64 m (p2.add 1) fun ao=>
 ldI .i64 m (p2.add 2) fun ap=>
 ldI .i64 m (p2.add 3) fun aq=>
 ldI .i64 m (p2.add 4) fun ar=>
 R (.tuple #[.agg #[zi an,zi ao,zi ap,zi aq,zi ar],.bool false]) m
 else
 ldV k (p1.add 1) fun ce=>
 vLen ce fun cf=>
 bif (cf:Int)==0 then
 vStore1 k p2 (zi 0) fun cg=>
 vStore1 cg (p2.add 1) (zi 0) fun bh=>
 vStore1 bh (p2.add 2) (zi 0) fun bi=>
 vStore1 bi (p2.add 3) (zi 0) fun bj=>
 vStore1 bj (p2.add 4) (zi 0) fun b=>
 ldI .i64 b p2 fun r=>
 ldI .i64 b (p2.add 1) fun s=>
 ldI .i64 b (p2.add 2) fun t=>
 ldI .i64 b (p2.add 3) fun u=>
 ldI .i64 b (p2.add 4) fun v=>
 R (.tuple #[.agg #[zi r,zi s,zi t,zi u,zi v],.bool false]) b
 else
 ldV k (p1.add 1) fun ch=>
 vIdx ch 0 1 fun cj=>
 ldV k cj fun ck=>
 vLen ck fun cm=>
 bif decide ((cm:Int)<2) then
 vStore1 k p2 (zi 0) fun bk=>
 vStore1 bk (p2.add 1) (zi 0) fun bm=>
 vStore1 bm (p2.add 2) (zi 0) fun bn=>
 vStore1 bn (p2.add 3) (zi 0) fun bo=>
 vStore1 bo (p2.add 4) (zi 0) fun c=>
 ldI .i64 c p2 fun w=>
 ldI .i64 c (p2.add 1) fun x=>
 ldI .i64 c (p2.add 2) fun y=>
 ldI .i64 c (p2.add 3) fun a0=>
 ldI .i64 c (p2.add 4) fun a1=>
 R (.tuple #[.agg #[zi w,zi x,zi y,zi a0,zi a1],.bool false]) c
 else
 J k
 )∧∀ (_:Env) (o:Heap),J o →
 ldI .i64 o p1 fun b1=>
 ldV o (p1.add 1) fun b2=>
 zV Zom #[.agg #[zi b1,b2]] o fun a2 aw=>
 ldV aw (p1.add 1) fun be=>
 vLen be fun cn=>
 lq1 (0:Int) aw fun co n ax e=>
 bif decide (ax<(cn:Int)) then
 vIdx be ax 1 fun cp=>
 ldV e cp fun cq=>
 vLen cq fun cr=>
 ldV e (p1.add 1) fun ct=>
 vIdx ct 0 1 fun cu=>
 ldV e cu fun cv=>
 vLen cv fun cx=>
 bif (cr:Int) !=(cx:Int) then
 vStore1 e p2 (zi 0) fun bp=>
 vStore1 bp (p2.add 1) (zi 0) fun bq=>
 vStore1 bq (p2.add 2) (zi 0) fun br=>
 vStore1 br (p2.add 3) (zi 0) fun bs=>
 vStore1 bs (p2.add 4) (zi 0) fun f=>
 ldI .i64 f p2 fun a3=>
 ldI .i64 f (p2.add 1) fun a4=>
 ldI .i64 f (p2.add 2) fun a5=>
 ldI .i64 f (p2.add 3) fun a6=>
 ldI .i64 f (p2.add 4) fun a7=>
 R (.tuple #[.agg #[zi a3,zi a4,zi a5,zi a6,zi a7],.bool false]) f
 else
 ag1 co n (zw (ax+1)) e
 else
 vLen a2 fun cy=>
 lq1 (0:Int) e fun cz d0 ay a=>
 bif decide (ay<(cy:Int)) then
 vIdx a2 ay 1 fun d1=>
 ldI .i64 a d1 fun d2=>
 vIdx a2 0 1 fun d3=>
 ldI .i64 a d3 fun d4=>
 bif d2 !=d4 then
 vStore1 a p2 (zi 0) fun bt=>
 vStore1 bt (p2.add 1) (zi 0) fun bu=>
 vStore1 bu (p2.add 2) (zi 0) fun bv=>
 vStore1 bv (p2.add 3) (zi 0) fun bw=>
 vStore1 bw (p2.add 4) (zi 0) fun g=>
 ldI .i64 g p2 fun a8=>
 ldI .i64 g (p2.add 1) fun a9=>
 ldI .i64 g (p2.add 2) fun aa=>
 ldI .i64 g (p2.add 3) fun ab=>
 ldI .i64 g (p2.add 4) fun ac=>
 R (.tuple #[.agg #[zi a8,zi a9,zi aa,zi ab,zi ac],.bool false]) g
 else
 ag1 cz d0 (zw (ay+1)) a
 else
 ∃ B:Nat→Prop,
 ldV a (p1.add 1) fun d5=>
 zI Zaz #[d5] a fun bf az=>
 ExtBut B a az ∧
 ldI .i64 (hmask B a) p1 fun b3=>
 ldV (hmask B a) (p1.add 1) fun b4=>
 zV Zmf #[.agg #[zi b3,b4]] az fun bg l=>
 ExtBut B a l ∧
 (
 vIdx bg 0 1 fun d6=>
 ldI .i64 l d6 fun d7=>
 ExtBut B a l ∧
 ldV (hmask B a) (p1.add 1) fun d8=>
 vIdx d8 0 1 fun d9=>
 ldV (hmask B a) d9 fun da=>
 zI ZaA #[da] l fun db b0=>
 ExtBut B a b0 ∧
 ldI .i64 (hmask B a) p1 fun dc=>
 vIdx a2 0 1 fun dd=>
 ldI .i64 (hmask B a) dd fun de=>
 vStore1 b0 p2 (zi dc) fun bx=>
 vStore1 bx (p2.add 1) (zi bf) fun bz=>
 vStore1 bz (p2.add 2) (zi d7) fun c0=>
 vStore1 c0 (p2.add 3) (zi db) fun c3=>
 vStore1 c3 (p2.add 4) (zi de) fun i=>
 ldI .i64 i p2 fun ad=>
 ldI .i64 i (p2.add 1) fun ae=>
 ldI .i64 i (p2.add 2) fun af=>
 ldI .i64 i (p2.add 3) fun ag=>
 ldI .i64 i (p2.add 4) fun ah=>
 R (.tuple #[.agg #[zi ad,zi ae,zi af,zi ag,zi ah],.bool true]) i
 ) ∧
 (
 ldV (hmask B a) (p1.add 1) fun b5=>
 vIdx b5 0 1 fun b6=>
 ldV (hmask B a) b6 fun b7=>
 zI ZaA #[b7] l fun b8 p=>
 ExtBut B a p ∧
 vIdx bg 0 1 fun b9=>
 ldI .i64 p b9 fun ba=>
 ExtBut B a p ∧
 ldI .i64 (hmask B a) p1 fun bb=>
 vIdx a2 0 1 fun bc=>
 ldI .i64 (hmask B a) bc fun bd=>
 vStore1 p p2 (zi bb) fun c4=>
 vStore1 c4 (p2.add 1) (zi bf) fun c5=>
 vStore1 c5 (p2.add 2) (zi ba) fun c6=>
 vStore1 c6 (p2.add 3) (zi b8) fun c7=>
 vStore1 c7 (p2.add 4) (zi bd) fun j=>
 ldI .i64 j p2 fun ai=>
 ldI .i64 j (p2.add 1) fun aj=>
 ldI .i64 j (p2.add 2) fun ak=>
 ldI .i64 j (p2.add 3) fun al=>
 ldI .i64 j (p2.add 4) fun am=>
 R (.tuple #[.agg #[zi ai,zi aj,zi ak,zi al,zi am],.bool true]) j
 )):CallsH P ZpC #[.agg #[zi au,av]] h R:=zv ⟨[(5,[(32,.i .i64)]),(11,[(48,.i .i64)])],[(3,[])],[(16,[8])]⟩ Tryz.func68 hv
theorem Zvt {r s:Int} {t:Value} (hv:
 vNew h (.cells #[zi r,zi s,t] ZaC) fun p1 l=>
 ∃ B:Nat→Prop,
 ldI .i64 l (p1.add 1) fun x7=>
 zS Zak #[.string ⟨#[112,111,105,110,116,115]⟩,zi x7] l fun s8 a0=>
 ExtBut B l a0 ∧
 ldV (hmask B l) (p1.add 2) fun a9=>
 zI Zaz #[a9] a0 fun aa ab=>
 zS Zak #[.string ⟨#[98,108,111,99,107,115]⟩,zi aa] ab fun ac ad=>
 vNewS ad (.cells #[.string s8,.string ac] ZV) 2 fun a1 m=>
 ldI .i64 m p1 fun w=>
 ldI .i64 m (p1.add 1) fun x=>
 ldV m (p1.add 2) fun y=>
 CallsH P Zkn #[.agg #[zi w,zi x,y]] m fun ae af=>∃ b,∃ (c:Value),ae=.agg #[zi b,c] ∧
 CallsH P ZpC #[.agg #[zi b,c]] af fun ag ah=>∃ e,∃ f,∃ g,∃ i,∃ j,∃ (o:Bool),ag=.tuple #[.agg #[zi e,zi f,zi g,zi i,zi j],.bool o] ∧
 vNew ah (.cells #[zi 0,zi 0,zi 0,zi 0,zi 0] ZjZ) fun k ai=>
 vStore1 ai k (zi e) fun a2=>
 vStore1 a2 (k.add 1) (zi f) fun a3=>
 vStore1 a3 (k.add 2) (zi g) fun a4=>
 vStore1 a4 (k.add 3) (zi i) fun a5=>
 vStore1 a5 (k.add 4) (zi j) fun a=>
 bif o then
 ∃ p:Nat→Prop,
 ldI .i64 a (k.add 2) fun aj=>
 zS Zak #[.string ⟨#[114,101,112,108,105,99,97,116,105,111,110]⟩,zi aj] a fun ak u=>
 ExtBut p a u ∧
 ldI .i64 (hmask p a) (k.add 3) fun al=>
 zS Zak #[.string ⟨#[98,108,111,99,107,32,115,105,122,101]⟩,zi al] u fun am v=>
 ExtBut p a v ∧
 ldI .i64 (hmask p a) (k.add 4) fun an=>
 zS Zak #[.string ⟨#[108,97,109,98,100,97]⟩,zi an] v fun ao a6=>
 vNewS a6 (.cells #[.string ak,.string am,.string ao] ZV) 3 fun ap a7=>
 vAppend 1 16 [.string ⟨#[]⟩] ZV a1 ap a7 fun aq a8=>
 R aq a8
 else
 R a1 a):CallsH P Zpr #[.agg #[zi r,zi s,t]] h R:=zv ⟨[],[],[]⟩ Tryz.func23 hv
theorem ZBX {g:Value} (v:
 zB Zj7 #[g] h fun k i=>
 bif !k then
 R (.tuple #[zi 0,zi 1]) i
 else
 vLen g fun l=>
 lq2 (0:Int) (0:Int) i fun J n m a b=>
 bif decide (a<(l:Int)) then
 vIdx g a 1 fun o=>
 ldV b o fun j=>
 vLen j fun p=>
 lq2 m (0:Int) b fun r s c e f=>
 bif decide (e<(p:Int)) then
 vIdx j e 1 fun t=>
 ldI .i64 f t fun u=>
 ag2 r s (zw (c+u)) (zw (e+1)) f
 else
 ag2 J n c (zw (a+1)) f
 else
 R (.tuple #[zi m,zi 0]) b):CallsH P ZqO #[g] h R:=zv ⟨[(5,[(4,.i .i64),(14,.i .i64)]),(8,[(4,.i .i64),(20,.i .i64)])],[],[]⟩ Tryz.func24 v
theorem Zzr {e f:Int} {g o:Value} (hv:
 vNew h (.cells #[zi e,zi f,g] ZaW) fun p2 i=>
 ∃ B:Nat→Prop,
 zI ZaA #[o] i fun v p=>
 ExtBut B i p ∧
 ldI .i64 (hmask B i) p2 fun w=>
 zI Zb9 #[zi w,zi v,zi 256] p fun r x=>
 vMake 8 [zi 0] Zg r r x fun a s=>
 ldV s (p2.add 2) fun t=>
 vLen t fun y=>
 lq1 (0:Int) s fun J n j k=>
 bif decide (j<(y:Int)) then
 vIdx t j 1 fun a0=>
 ldV k a0 fun a1=>
 vLen o fun a2=>
 lq2 (0:Int) (0:Int) k fun a3 a4 u l b=>
 bif decide (l<(a2:Int)) then
 vIdx o l 1 fun a5=>
 ldI .i64 b a5 fun a6=>
 ldI .i64 b p2 fun a7=>
 vIdx a1 a6 1 fun a8=>
 ldI .i64 b a8 fun a9=>
 ag2 a3 a4 (zw ((zw (u*a7))+a9)) (zw (l+1)) b
 else
 vIdx a u 1 fun aa=>
 ldI .i64 b aa fun ab=>
 vIdx a u 1 fun ac=>
 vStore1 b ac (zi (zw (ab+1))) fun ad=>
 ag1 J n (zw (j+1)) ad
 else
 vLen a fun ae=>
 lq1 (0:Int) k fun af ag m c=>
 bif decide (m<(ae:Int)) then
 vIdx a m 1 fun ah=>
 ldI .i64 c ah fun ai=>
 vIdx a 0 1 fun aj=>
 ldI .i64 c aj fun ak=>
 bif ai !=ak then
 R (zi 0) c
 else
 ag1 af ag (zw (m+1)) c
 else
 vIdx a 0 1 fun al=>
 ldI .i64 c al fun am=>
 R (zi am) c):CallsH P ZkZ #[.agg #[zi e,zi f,g],o] h R:=zv ⟨[(3,[(22,.i .i64)]),(7,[(8,.i .i64),(28,.i .i64)]),(14,[(51,.i .i64)])],[],[]⟩ Tryz.func137 hv
theorem Zwn {k:Int} {c:Value} (y:
 zB ZlZ #[c,zi k] h fun l i=>
 bif !l then
 R (.tuple #[(.slice none 0 0),.bool false]) i
 else
 zI ZaA #[c] i fun e m=>
 lq1 (zw (e-1)) m fun J n a b=>
 bif decide (a≥0) then
 vIdx c a 1 fun o=>
 ldI .i64 b o fun p=>
 bif p==(zw ((zw (k-e))+a)) then
 ag1 J n (zw (a-1)) b
 else
 zV Zfp #[c] b fun j r=>
 lq1 a r fun s t g f=>
 bif decide (g<e) then
 vIdx c a 1 fun u=>
 ldI .i64 f u fun v=>
 vIdx j g 1 fun w=>
 vStore1 f w (zi (zw ((zw ((zw (v+1))+g))-a))) fun x=>
 ag1 s t (zw (g+1)) x
 else
 R (.tuple #[j,.bool true]) f
 else
 R (.tuple #[(.slice none 0 0),.bool false]) b):CallsH P Znj #[zi k,c] h R:=zv ⟨[(5,[(7,.i .i64)]),(10,[(9,.i .i64)])],[],[]⟩ Tryz.func138 y
theorem ZAK {g i:Int} {j:Value} {w:Int} (hv:
 vNew h (.cells #[zi g,zi i,j] ZaW) fun p2 b=>
 ∃ B:Nat→Prop,
 ldI .i64 b p2 fun x9=>
 zI Zb9 #[zi x9,zi w,zi 256] b fun x t=>
 ExtBut B b t ∧
 ldV (hmask B b) (p2.add 2) fun y=>
 zI Zaz #[y] t fun a0 u=>
 bif decide (x>a0) then
 R (zi 0) u
 else
 zV ZgT #[zi w] u fun v c=>
 ldI .i64 c p2 fun l=>
 ldI .i64 c (p2.add 1) fun m=>
 ldV c (p2.add 2) fun o=>
 zI ZkZ #[.agg #[zi l,zi m,o],v] c fun a1 a2=>
 lq2 v true a2 fun J n v5 b6 a=>
 bif b6 then
 ldI .i64 a p2 fun p=>
 ldI .i64 a (p2.add 1) fun r=>
 ldV a (p2.add 2) fun s=>
 zI ZkZ #[.agg #[zi p,zi r,s],v5] a fun a4 k=>
 bif a4==0 then
 R (zi 0) k
 else
 ldI .i64 k (p2.add 1) fun a5=>
 CallsH P Znj #[zi a5,v5] k fun a6 a7=>∃ (e:Value),∃ (f:Bool),a6=.tuple #[e,.bool f] ∧
 ag2 J n e f a7
 else
 R (zi a1) a):CallsH P Znw #[.agg #[zi g,zi i,j],zi w] h R:=zv ⟨[(5,[(5,.v),(6,.b)])],[],[]⟩ Tryz.func72 hv
theorem Zzy {c e:Int} {f:Value} (t:
 vNew h (.cells #[zi c,zi e,f] ZaW) fun p1 b=>
 ldI .i64 b p1 fun o=>
 ldI .i64 b (p1.add 1) fun p=>
 ldV b (p1.add 2) fun r=>
 zB Zlh #[.agg #[zi o,zi p,r]] b fun u g=>
 bif !u then
 R (zi 0) g
 else
 ldI .i64 g (p1.add 1) fun v=>
 lq1 v g fun J n i a=>
 bif decide (i≥1) then
 ldI .i64 a p1 fun j=>
 ldI .i64 a (p1.add 1) fun k=>
 ldV a (p1.add 2) fun l=>
 zI Znw #[.agg #[zi j,zi k,l],zi i] a fun s m=>
 bif decide (s>0) then
 R (zi i) m
 else
 ag1 J n (zw (i-1)) m
 else
 R (zi 0) a):CallsH P Zqy #[.agg #[zi c,zi e,f]] h R:=zv ⟨[(4,[(3,.i .i64)])],[],[]⟩ Tryz.func27 t
theorem Zxv {a b:Int} {c e:Value} (i:
 vNew h (.cells #[zi a,zi b,c,e] Zbz) fun p1 f=>
 ldV f (p1.add 3) fun j=>
 vIdx j 0 1 fun k=>
 ldV f k fun l=>
 zI ZaA #[l] f fun m g=>
 R (zi m) g):CallsH P ZlH #[.agg #[zi a,zi b,c,e]] h R:=zv ⟨[],[],[]⟩ Tryz.func74 i
theorem Zy1 {c:Int} {e f g i u v:Value} (hv:
 vNew h (.cells #[zi c,e,f,g,i] Zgc) fun j r=>
 vIdx u 0 1 fun w=>
 ldV r w fun x=>
 vLen x fun s=>
 vMake 8 [zi 0] Zg (s:Int) (s:Int) r fun t y=>
 vLen v fun a0=>
 lq1 (0:Int) y fun J n b a=>
 bif decide (b<(a0:Int)) then
 vIdx v b 1 fun a1=>
 ldI .i64 a a1 fun a2=>
 ldI .i64 a j fun k=>
 ldV a (j.add 1) fun l=>
 ldV a (j.add 2) fun m=>
 ldV a (j.add 3) fun o=>
 ldV a (j.add 4) fun p=>
 vIdx u b 1 fun a3=>
 ldV a a3 fun a4=>
 CallsH P Ziu #[.agg #[zi k,l,m,o,p],t,a4,zi a2] a fun a5 a6=>a5=.tuple #[] ∧
 ag1 J n (zw (b+1)) a6
 else
 R t a):CallsH P ZoW #[.agg #[zi c,e,f,g,i],u,v] h R:=zv ⟨[(3,[(17,.i .i64)])],[],[]⟩ Tryz.func214 hv
theorem Zu8 {b:Value} (p:
 vLen b fun r=>
 lq2 (0:Int) (zw ((r:Int)-1)) h fun J n c e a=>
 bif decide (c<e) then
 vIdx b e 1 fun f=>
 ldI .i64 a f fun g=>
 vIdx b c 1 fun i=>
 ldI .i64 a i fun j=>
 vIdx b c 1 fun k=>
 vStore1 a k (zi g) fun l=>
 vIdx b e 1 fun m=>
 vStore1 l m (zi j) fun o=>
 ag2 J n (zw (c+1)) (zw (e-1)) o
 else
 R (.tuple #[]) a):CallsH P ZqP #[b] h R:=zv ⟨[(1,[(2,.i .i64),(3,.i .i64)])],[],[]⟩ Tryz.func267 p
theorem ZEJ {b c e:Int} (j:
 zV ZbI #[zi b,zi c,zi e] h fun a f=>
 CallsH P ZqP #[a] f fun g i=>g=.tuple #[] ∧
 R a i):CallsH P ZpM #[zi b,zi c,zi e] h R:=zv ⟨[],[],[]⟩ Tryz.func215 j
theorem ZB7 {k l:Int} {m o:Value} (hv:
 vNew h (.cells #[zi k,zi l,m,o] Zbz) fun p1 j=>
 ldI .i64 j p1 fun a2=>
 ldI .i64 j (p1.add 1) fun a3=>
 ldV j (p1.add 2) fun a4=>
 CallsH P Zk6 #[.agg #[zi a2,zi a3,a4]] j fun r9 a9=>∃ c,∃ (e:Value),∃ (f:Value),∃ (g:Value),∃ (i:Value),r9=.agg #[zi c,e,f,g,i] ∧
 vNew a9 (.cells #[zi 0,.slice none 0 0,.slice none 0 0,.slice none 0 0,.slice none 0 0] Zgc) fun b aa=>
 vStore1 aa b (zi c) fun ab=>
 vStore1 ab (b.add 1) e fun ac=>
 vStore1 ac (b.add 2) f fun ad=>
 vStore1 ad (b.add 3) g fun ae=>
 vStore1 ae (b.add 4) i fun y=>
 ldV y (p1.add 3) fun af=>
 zI Zaz #[af] y fun a0 p=>
 ldI .i64 p b fun ag=>
 zI Zb9 #[zi ag,zi a0,zi 4096] p fun ah a5=>
 lq2 ((.slice none 0 0):Value) (0:Int) a5 fun J n v5 r a=>
 bif decide (r<ah) then
 ∃ B:Nat→Prop,
 ldI .i64 a b fun aj=>
 zV ZpM #[zi r,zi aj,zi a0] a fun ak s=>
 ExtBut B a s ∧
 ldI .i64 (hmask B a) b fun t=>
 ldV (hmask B a) (b.add 1) fun u=>
 ldV (hmask B a) (b.add 2) fun v=>
 ldV (hmask B a) (b.add 3) fun w=>
 ldV (hmask B a) (b.add 4) fun x=>
 ldV (hmask B a) (p1.add 3) fun al=>
 zV ZoW #[.agg #[zi t,u,v,w,x],al,ak] s fun a1 a6=>
 vOne a1 fun _=>
 vNewS a6 (.cells #[a1] Zf) 1 fun am a7=>
 vAppend 1 24 [.slice none 0 0] Zf v5 am a7 fun an a8=>
 ag2 J n an (zw (r+1)) a8
 else
 R v5 a):CallsH P ZnC #[.agg #[zi k,zi l,m,o]] h R:=zv ⟨[(5,[(5,.v),(17,.i .i64)])],[],[]⟩ Tryz.func141 hv
theorem ZwZ {c:Value} (i:
 vLen c fun j=>
 lq2 (0:Int) (0:Int) h fun J n e b a=>
 bif decide (b<(j:Int)) then
 vIdx c b 1 fun f=>
 ldI .i64 a f fun g=>
 bif g !=0 then
 ag2 J n (zw (e+1)) (zw (b+1)) a
 else
 ag2 J n e (zw (b+1)) a
 else
 R (zi e) a):CallsH P Zm4 #[c] h R:=zv ⟨[(3,[(3,.i .i64),(8,.i .i64)])],[],[]⟩ Tryz.func142 i
theorem Zxi {c e:Int} {f g:Value} (hv:
 vNew h (.cells #[zi c,zi e,f,g] Zbz) fun p1 a=>
 ldI .i64 a p1 fun t=>
 ldI .i64 a (p1.add 1) fun u=>
 ldV a (p1.add 2) fun v=>
 ldV a (p1.add 3) fun w=>
 zI ZlH #[.agg #[zi t,zi u,v,w]] a fun y a0=>
 vMake 8 [zi 0] Zg (zw (y+1)) (zw (y+1)) a0 fun x b=>
 ldI .i64 b p1 fun k=>
 ldI .i64 b (p1.add 1) fun l=>
 ldV b (p1.add 2) fun m=>
 ldV b (p1.add 3) fun o=>
 zV ZnC #[.agg #[zi k,zi l,m,o]] b fun p a1=>
 vLen p fun a2=>
 lq1 (0:Int) a1 fun J n i j=>
 bif decide (i<(a2:Int)) then
 vIdx p i 1 fun a3=>
 ldV j a3 fun a4=>
 zI Zm4 #[a4] j fun r s=>
 vIdx x r 1 fun a5=>
 ldI .i64 s a5 fun a6=>
 vIdx x r 1 fun a7=>
 vStore1 s a7 (zi (zw (a6+1))) fun a8=>
 ag1 J n (zw (i+1)) a8
 else
 R x j):CallsH P ZkL #[.agg #[zi c,zi e,f,g]] h R:=zv ⟨[(3,[(13,.i .i64)])],[],[]⟩ Tryz.func76 hv
theorem Zwp {c e:Int} {f g:Value} (y:
 vNew h (.cells #[zi c,zi e,f,g] Zbz) fun p1 b=>
 ldI .i64 b p1 fun j=>
 ldI .i64 b (p1.add 1) fun k=>
 ldV b (p1.add 2) fun l=>
 ldV b (p1.add 3) fun m=>
 zB Zku #[.agg #[zi j,zi k,l,m]] b fun b7 a=>
 bif !b7 then
 R (.tuple #[zi 0,zi 1]) a
 else
 ldI .i64 a p1 fun o=>
 ldI .i64 a (p1.add 1) fun p=>
 ldV a (p1.add 2) fun r=>
 ldV a (p1.add 3) fun s=>
 zV ZkL #[.agg #[zi o,zi p,r,s]] a fun u v=>
 lq1 (1:Int) v fun J n t i=>
 vIdx u t 1 fun w=>
 ldI .i64 i w fun x=>
 bif x==0 then
 ag1 J n (zw (t+1)) i
 else
 R (.tuple #[zi t,zi 0]) i):CallsH P ZqG #[.agg #[zi c,zi e,f,g]] h R:=zv ⟨[(5,[(5,.i .i64)])],[],[]⟩ Tryz.func73 y
theorem ZvD {a:Int} (c:
 zB Zap #[zi a,zi (-999999999),zi 999999999] h fun e b=>
 R (.bool (!e)) b):CallsH P ZoZ #[zi a] h R:=zv ⟨[],[],[]⟩ Tryz.func139 c
theorem ZFK {a:Value} (y:
 ∃ J:Heap→Prop,(
 vLen a fun n7=>
 bif decide ((n7:Int)>100) then
 R (.string ⟨#[]⟩) h
 else
 zB Zc7 #[a,.func (.func ZoZ) #[] #[]] h fun g f=>
 bif g then
 R (.string ⟨#[]⟩) f
 else
 J f
 )∧∀ (_:Env) (b:Heap),J b →
 vLen a fun i=>
 bif (i:Int)==0 then
 R (.string ⟨#[45]⟩) b
 else
 vLen a fun j=>
 lq2 ((.slice none 0 0):Value) (0:Int) b fun k n l c e=>
 bif decide (c<(j:Int)) then
 vIdx a c 1 fun m=>
 ldI .i64 e m fun o=>
 zS Zj8 #[zi o] e fun p r=>
 vNewS r (.cells #[.string p] ZV) 1 fun s t=>
 vAppend 1 16 [.string ⟨#[]⟩] ZV l s t fun u v=>
 ag2 k n u (zw (c+1)) v
 else
 zS Zth #[l,.string ⟨#[44]⟩] e fun w x=>
 R (.string w) x):CallsH P Zmy #[a] h R:=zv ⟨[(7,[(3,.v),(18,.i .i64)])],[(3,[])],[]⟩ Tryz.func75 y
theorem ZDf {m o:Int} {p:Value} (hv:
 vNew h (.cells #[zi m,zi o,p] ZaC) fun p1 k=>
 ldI .i64 k p1 fun a8=>
 ldI .i64 k (p1.add 1) fun a9=>
 ldV k (p1.add 2) fun aa=>
 CallsH P Zj1 #[.agg #[zi a8,zi a9,aa]] k fun r8 ai=>∃ e,∃ f,∃ (g:Value),∃ (i:Value),r8=.agg #[zi e,zi f,g,i] ∧
 vNew ai (.cells #[zi 0,zi 0,.slice none 0 0,.slice none 0 0] Zbz) fun a aj=>
 vStore1 aj a (zi e) fun ak=>
 vStore1 ak (a.add 1) (zi f) fun al=>
 vStore1 al (a.add 2) g fun am=>
 vStore1 am (a.add 3) i fun j=>
 ldI .i64 j a fun t=>
 ldI .i64 j (a.add 1) fun u=>
 ldV j (a.add 2) fun v=>
 ldV j (a.add 3) fun w=>
 CallsH P ZqG #[.agg #[zi t,zi u,v,w]] j fun an b=>∃ l,∃ x,an=.tuple #[zi l,zi x] ∧
 ∃ B:Nat→Prop,
 ldI .i64 b a fun y=>
 ldI .i64 b (a.add 1) fun a0=>
 ldV b (a.add 2) fun a1=>
 ldV b (a.add 3) fun a2=>
 zI ZlH #[.agg #[zi y,zi a0,a1,a2]] b fun ao r=>
 ExtBut B b r ∧
 zS Zak #[.string ⟨#[108,101,110,103,116,104]⟩,zi ao] r fun ap s=>
 ExtBut B b s ∧
 ldV (hmask B b) (a.add 3) fun aq=>
 zI Zaz #[aq] s fun ar ab=>
 zS Zak #[.string ⟨#[100,105,109,101,110,115,105,111,110]⟩,zi ar] ab fun au ac=>
 zS Zak #[.string ⟨#[100,105,115,116,97,110,99,101]⟩,zi l] ac fun av ad=>
 vNewS ad (.cells #[.string ap,.string au,.string av] ZV) 3 fun aw c=>
 ldI .i64 c a fun a3=>
 ldI .i64 c (a.add 1) fun a4=>
 ldV c (a.add 2) fun a5=>
 ldV c (a.add 3) fun a6=>
 zV ZkL #[.agg #[zi a3,zi a4,a5,a6]] c fun ax ae=>
 zS Zmy #[ax] ae fun a7 af=>
 (((⟨#[119,101,105,103,104,116,115,32]⟩:ByteArray).size+(a7:ByteArray).size:Nat):Int)≤IntKind.i64.max ∧
 vNewS af (.cells #[.string ((⟨#[119,101,105,103,104,116,115,32]⟩:ByteArray)++(a7:ByteArray))] ZV) 1 fun ay ag=>
 vAppend 1 16 [.string ⟨#[]⟩] ZV aw ay ag fun az ah=>
 R az ah):CallsH P Zok #[.agg #[zi m,zi o,p]] h R:=zv ⟨[],[],[]⟩ Tryz.func28 hv
theorem ZAl {l m:Int} {o:Value} (hv:
 vNew h (.cells #[zi l,zi m,o] ZaC) fun p1 j=>
 ldI .i64 j p1 fun ad=>
 ldI .i64 j (p1.add 1) fun ae=>
 ldV j (p1.add 2) fun af=>
 zB Zmj #[.agg #[zi ad,zi ae,af]] j fun b9 p=>
 bif !b9 then
 R (.tuple #[(.slice none 0 0),zi 1]) p
 else
 ldV p (p1.add 2) fun ax=>
 zI Zaz #[ax] p fun r a=>
 ldI .i64 a p1 fun c=>
 bif c==1 then
 ldI .i64 a p1 fun v=>
 ldI .i64 a (p1.add 1) fun w=>
 ldV a (p1.add 2) fun x=>
 zV Zqp #[.agg #[zi v,zi w,x]] a fun ay az=>
 R (.tuple #[ay,zi 0]) az
 else
 bif c==2 then
 ldI .i64 a p1 fun y=>
 ldI .i64 a (p1.add 1) fun a0=>
 ldV a (p1.add 2) fun a1=>
 zV Zpr #[.agg #[zi y,zi a0,a1]] a fun b0 b1=>
 R (.tuple #[b0,zi 0]) b1
 else
 bif c==3 then
 ldV a (p1.add 2) fun b2=>
 CallsH P ZqO #[b2] a fun b3 ac=>∃ k,∃ a2,b3=.tuple #[zi k,zi a2] ∧
 ldI .i64 ac (p1.add 1) fun b4=>
 zS Zak #[.string ⟨#[111,114,100,101,114]⟩,zi b4] ac fun b5 b6=>
 zS Zak #[.string ⟨#[101,120,99,101,115,115]⟩,zi k] b6 fun b7 b8=>
 vNewS b8 (.cells #[.string b5,.string b7] ZV) 2 fun ba ag=>
 R (.tuple #[ba,zi 0]) ag
 else
 bif c==4 then
 ldI .i64 a p1 fun a3=>
 ldI .i64 a (p1.add 1) fun a4=>
 ldV a (p1.add 2) fun a5=>
 CallsH P Zk9 #[.agg #[zi a3,zi a4,a5]] a fun bb ah=>∃ e,∃ f,∃ (g:Value),bb=.agg #[zi e,zi f,g] ∧
 vNew ah (.cells #[zi 0,zi 0,.slice none 0 0] ZaW) fun i ai=>
 vStore1 ai i (zi e) fun aj=>
 vStore1 aj (i.add 1) (zi f) fun ak=>
 vStore1 ak (i.add 2) g fun b=>
 ∃ B:Nat→Prop,
 ldI .i64 b i fun bc=>
 zS Zak #[.string ⟨#[108,101,118,101,108,115]⟩,zi bc] b fun bd s=>
 ExtBut B b s ∧
 ldI .i64 (hmask B b) (i.add 1) fun be=>
 zS Zak #[.string ⟨#[99,111,108,117,109,110,115]⟩,zi be] s fun bf t=>
 ExtBut B b t ∧
 zS Zak #[.string ⟨#[114,111,119,115]⟩,zi r] t fun bg u=>
 ExtBut B b u ∧
 ldI .i64 (hmask B b) i fun a6=>
 ldI .i64 (hmask B b) (i.add 1) fun a7=>
 ldV (hmask B b) (i.add 2) fun a8=>
 zI Zqy #[.agg #[zi a6,zi a7,a8]] u fun bh al=>
 zS Zak #[.string ⟨#[115,116,114,101,110,103,116,104]⟩,zi bh] al fun bi am=>
 vNewS am (.cells #[.string bd,.string bf,.string bg,.string bi] ZV) 4 fun bj an=>
 R (.tuple #[bj,zi 0]) an
 else
 bif c==5 then
 ldI .i64 a p1 fun a9=>
 ldI .i64 a (p1.add 1) fun aa=>
 ldV a (p1.add 2) fun ab=>
 zV Zok #[.agg #[zi a9,zi aa,ab]] a fun bk ao=>
 R (.tuple #[bk,zi 0]) ao
 else
 bif c==6 then
 ldI .i64 a (p1.add 1) fun bm=>
 zS Zak #[.string ⟨#[118,101,114,116,105,99,101,115]⟩,zi bm] a fun bn ap=>
 zS Zak #[.string ⟨#[101,100,103,101,115]⟩,zi r] ap fun bo aq=>
 vNewS aq (.cells #[.string bn,.string bo] ZV) 2 fun bp ar=>
 R (.tuple #[bp,zi 0]) ar
 else
 ldI .i64 a (p1.add 1) fun bq=>
 zS Zak #[.string ⟨#[100,101,103,114,101,101]⟩,zi bq] a fun br au=>
 zS Zak #[.string ⟨#[101,108,101,109,101,110,116,115]⟩,zi r] au fun bs av=>
 vNewS av (.cells #[.string br,.string bs] ZV) 2 fun bt aw=>
 R (.tuple #[bt,zi 0]) aw):CallsH P ZlA #[.agg #[zi l,zi m,o]] h R:=zv ⟨[],[],[]⟩ Tryz.func8 hv
theorem ZCa {b e:Value} (l:
 vLen b fun m=>
 vLen e fun o=>
 bif (m:Int) !=(o:Int) then
 R (.bool false) h
 else
 lq1 (0:Int) h fun J n c a=>
 vLen b fun f=>
 bif decide (c<(f:Int)) then
 vIdx b c 1 fun g=>
 ldS a g fun i=>
 vIdx e c 1 fun j=>
 ldS a j fun k=>
 bif !(i.toList==k.toList) then
 R (.bool false) a
 else
 ag1 J n (zw (c+1)) a
 else
 R (.bool true) a):CallsH P Zii #[b,e] h R:=zv ⟨[(4,[(5,.i .i64)])],[],[]⟩ Tryz.func9 l
theorem ZEV {b e:Value} (l:
 vLen b fun m=>
 vLen e fun o=>
 bif (m:Int) !=(o:Int) then
 R (.bool false) h
 else
 lq1 (0:Int) h fun J n c a=>
 vLen b fun f=>
 bif decide (c<(f:Int)) then
 vIdx b c 1 fun g=>
 ldI .i64 a g fun i=>
 vIdx e c 1 fun j=>
 ldI .i64 a j fun k=>
 bif i !=k then
 R (.bool false) a
 else
 ag1 J n (zw (c+1)) a
 else
 R (.bool true) a):CallsH P Zpx #[b,e] h R:=zv ⟨[(4,[(5,.i .i64)])],[],[]⟩ Tryz.func77 l
theorem Zz6 {b f:Value} (o:
 vLen b fun p=>
 vLen f fun r=>
 bif (p:Int) !=(r:Int) then
 R (.bool false) h
 else
 lq1 (0:Int) h fun J n c a=>
 vLen b fun g=>
 bif decide (c<(g:Int)) then
 vIdx b c 1 fun i=>
 ldV a i fun j=>
 vIdx f c 1 fun k=>
 ldV a k fun l=>
 zB Zpx #[j,l] a fun m e=>
 bif !m then
 R (.bool false) e
 else
 ag1 J n (zw (c+1)) e
 else
 R (.bool true) a):CallsH P ZmB #[b,f] h R:=zv ⟨[(4,[(5,.i .i64)])],[],[]⟩ Tryz.func29 o
theorem Zyf {b c:Int} {e:Value} {f g:Int} {i:Value} (t:
 vNew h (.cells #[zi b,zi c,e] ZaC) fun p2 l=>
 vNew l (.cells #[zi f,zi g,i] ZaC) fun k a=>
 ldI .i64 a p2 fun u=>
 ldI .i64 a k fun v=>
 bif u !=v then
 R (.bool false) a
 else
 ldI .i64 a (p2.add 1) fun m=>
 ldI .i64 a (k.add 1) fun o=>
 bif m !=o then
 R (.bool false) a
 else
 ldV a (p2.add 2) fun p=>
 ldV a (k.add 2) fun r=>
 zB ZmB #[p,r] a fun s j=>
 bif !s then
 R (.bool false) j
 else
 R (.bool true) j):CallsH P ZnY #[.agg #[zi b,zi c,e],.agg #[zi f,zi g,i]] h R:=zv ⟨[],[],[]⟩ Tryz.func10 t
theorem ZwU {c:Value} {f:Int} (j:
 lq2 f (0:Int) h fun J n a e b=>
 vLen c fun k=>
 bif decide (e<(k:Int)) then
 vIdx c e 1 fun g=>
 vStore1 b g (zi a) fun i=>
 ag2 J n (zw (a+1)) (zw (e+1)) i
 else
 R (zi a) b):CallsH P ZnL #[c,zi f] h R:=zv ⟨[(2,[(1,.i .i64),(5,.i .i64)])],[],[]⟩ Tryz.func78 j
theorem Zze {c:Value} {f:Int} (l:
 lq2 f (0:Int) h fun J n a e b=>
 vLen c fun m=>
 bif decide (e<(m:Int)) then
 vIdx c e 1 fun g=>
 ldV b g fun i=>
 zI ZnL #[i,zi a] b fun j k=>
 ag2 J n j (zw (e+1)) k
 else
 R (zi a) b):CallsH P ZqJ #[c,zi f] h R:=zv ⟨[(2,[(1,.i .i64),(5,.i .i64)])],[],[]⟩ Tryz.func30 l
theorem ZCy {a b:Int} {c:Value} {f:Int} (i:
 vNew h (.cells #[zi a,zi b,c] ZaC) fun p2 e=>
 ldV e (p2.add 2) fun j=>
 zI ZqJ #[j,zi f] e fun k g=>
 R (zi k) g):CallsH P Zqr #[.agg #[zi a,zi b,c],zi f] h R:=zv ⟨[],[],[]⟩ Tryz.func11 i
theorem ZCk {g:Int} (j:
 bif decide (g≤0) then
 R (.string ⟨#[109,48]⟩) h
 else
 lq2 g (⟨#[]⟩:ByteArray) h fun J n a b c=>
 bif decide (a>0) then
 (10:Int)≠0 ∧
 vNewS c (.cells #[.int .u8 (IntKind.u8.wrap (zw (48+(Int.tmod a 10))))] Zjc) 1 fun i e=>
 vB2S i e fun f=>
 (((f:ByteArray).size+(b:ByteArray).size:Nat):Int)≤IntKind.i64.max ∧
 (10:Int)≠0 ∧
 ag2 J n (zw (Int.tdiv a 10)) ((f:ByteArray)++(b:ByteArray)) e
 else
 (((⟨#[109]⟩:ByteArray).size+(b:ByteArray).size:Nat):Int)≤IntKind.i64.max ∧
 R (.string ((⟨#[109]⟩:ByteArray)++(b:ByteArray))) c):CallsH P Zke #[zi g] h R:=zv ⟨[(4,[(0,.i .i64),(3,.s)])],[],[]⟩ Tryz.func31 j
theorem Zwk {c:Value} {f:Int} (l:
 lq2 f (0:Int) h fun J n a e b=>
 vLen c fun m=>
 bif decide (e<(m:Int)) then
 zS Zke #[zi a] b fun g i=>
 vIdx c e 1 fun j=>
 vStore1 i j (.string g) fun k=>
 ag2 J n (zw (a+1)) (zw (e+1)) k
 else
 R (zi a) b):CallsH P Zpn #[c,zi f] h R:=zv ⟨[(2,[(1,.i .i64),(5,.i .i64)])],[],[]⟩ Tryz.func12 l
theorem ZyA {e:Value} {g:Int} (l:
 lq2 g (0:Int) h fun J n a f b=>
 vLen e fun m=>
 bif decide (f<(m:Int)) then
 ∃ B:Nat→Prop,
 zS Zke #[zi a] b fun i c=>
 ExtBut B b c ∧
 vIdx e f 1 fun j=>
 ldS (hmask B b) j fun k=>
 bif !(k.toList==i.toList) then
 R (zi (-1)) c
 else
 ag2 J n (zw (a+1)) (zw (f+1)) c
 else
 R (zi a) b):CallsH P ZkR #[e,zi g] h R:=zv ⟨[(2,[(1,.i .i64),(5,.i .i64)])],[],[]⟩ Tryz.func13 l
theorem ZCg {a9 aa:Int} {ab:Value} (hv:
 vNew h (.cells #[zi a9,zi aa,ab] Zow) fun p1 a5=>
 ldI .i64 a5 p1 fun ag=>
 ldI .i64 a5 (p1.add 1) fun ah=>
 ldV a5 (p1.add 2) fun ai=>
 zI Zod #[.agg #[zi ag,zi ah,ai],zi 1048576] a5 fun bf a0=>
 bif decide (bf<0) then
 R (.bool true) a0
 else
 ldI .i64 a0 p1 fun aj=>
 ldI .i64 a0 (p1.add 1) fun ak=>
 ldV a0 (p1.add 2) fun al=>
 CallsH P Zgb #[.agg #[zi aj,zi ak,al]] a0 fun bg bh=>∃ j,∃ k,∃ (l:Value),bg=.agg #[zi j,zi k,l] ∧
 CallsH P Zmc #[.agg #[zi j,zi k,l]] bh fun bi a6=>∃ (f:Value),∃ g,bi=.tuple #[f,zi g] ∧
 ldI .i64 a6 p1 fun am=>
 ldI .i64 a6 (p1.add 1) fun an=>
 ldV a6 (p1.add 2) fun ao=>
 CallsH P Zgb #[.agg #[zi am,zi an,ao]] a6 fun bj bk=>∃ m,∃ o,∃ (p:Value),bj=.agg #[zi m,zi o,p] ∧
 vNew bk (.cells #[zi 0,zi 0,.slice none 0 0] ZaC) fun e bm=>
 vStore1 bm e (zi m) fun bn=>
 vStore1 bn (e.add 1) (zi o) fun bo=>
 vStore1 bo (e.add 2) p fun x=>
 ldI .i64 x e fun ap=>
 ldI .i64 x (e.add 1) fun aq=>
 ldV x (e.add 2) fun ar=>
 CallsH P ZlA #[.agg #[zi ap,zi aq,ar]] x fun bp bb=>∃ (b:Value),∃ y,bp=.tuple #[b,zi y] ∧
 ∃ J:Heap→Prop,(
 zB Zii #[b,f] bb fun bq a1=>
 bif !bq then
 R (.bool false) a1
 else
 bif y !=g then
 R (.bool false) a1
 else
 J a1
 )∧∀ (_:Env) (a:Heap),J a →
 ∃ B:Nat→Prop,
 ldI .i64 a p1 fun au=>
 ldI .i64 a (p1.add 1) fun av=>
 ldV a (p1.add 2) fun aw=>
 CallsH P Zgb #[.agg #[zi au,zi av,aw]] a fun br ac=>∃ r,∃ s,∃ (t:Value),br=.agg #[zi r,zi s,t] ∧
 ExtBut B a ac ∧
 ldI .i64 (hmask B a) e fun ax=>
 ldI .i64 (hmask B a) (e.add 1) fun ay=>
 ldV (hmask B a) (e.add 2) fun az=>
 zB ZnY #[.agg #[zi ax,zi ay,az],.agg #[zi r,zi s,t]] ac fun bs i=>
 bif !bs then
 R (.bool false) i
 else
 ldI .i64 i e fun b0=>
 ldI .i64 i (e.add 1) fun b1=>
 ldV i (e.add 2) fun b2=>
 zI Zqr #[.agg #[zi b0,zi b1,b2],zi 1] i fun bt ad=>
 ∃ b6:Heap→Prop,(
 bif decide (bt<0) then
 R (.bool false) ad
 else
 zB Zii #[b,f] ad fun bu a2=>
 bif !bu then
 R (.bool false) a2
 else
 bif y !=g then
 R (.bool false) a2
 else
 b6 a2
 )∧∀ (_:Env) (ae:Heap),b6 ae →
 zI Zpn #[b,zi 1] ae fun b7 bc=>
 zI ZkR #[b,zi 1] bc fun b8 c=>
 bif decide (b8<0) then
 R (.bool false) c
 else
 bif b8 !=b7 then
 R (.bool false) c
 else
 ldI .i64 c p1 fun b3=>
 ldI .i64 c (p1.add 1) fun b4=>
 ldV c (p1.add 2) fun b5=>
 CallsH P Zgb #[.agg #[zi b3,zi b4,b5]] c fun bv bd=>∃ u,∃ v,∃ (w:Value),bv=.agg #[zi u,zi v,w] ∧
 CallsH P ZlA #[.agg #[zi u,zi v,w]] bd fun bw be=>∃ (a7:Value),∃ a8,bw=.tuple #[a7,zi a8] ∧
 ∃ b9:Heap→Prop,(
 zB Zii #[a7,f] be fun bx a3=>
 bif !bx then
 R (.bool false) a3
 else
 bif a8 !=g then
 R (.bool false) a3
 else
 b9 a3
 )∧∀ (_:Env) (af:Heap),b9 af →
 zI ZkR #[b,zi 1] af fun ba a4=>
 bif decide (ba<0) then
 R (.bool false) a4
 else
 bif ba !=b7 then
 R (.bool false) a4
 else
 R (.bool true) a4):CallsH P Zpv #[.agg #[zi a9,zi aa,ab]] h R:=zv ⟨[],[(10,[]),(16,[]),(27,[])],[]⟩ Tryz.func3 hv
end Go.Proofs.YtghbgeaammnkcaaGreatDoor
