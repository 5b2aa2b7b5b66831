import Derived.Test.YtccncimchmimdaaGreatDoorVcFnsA
import Derived.Test.YtccncimchmimdaaGreatDoorVcSoundE
import Derived.Test.YtccncimchmimdaaGreatDoorPuBase
import Derived.Test.YtccncimchmimdaaGreatDoorProg
import Derived.KernelRfl
namespace Go.Proofs.YtccncimchmimdaaGreatDoor
set_option linter.unusedSimpArgs false
open Go Go.Vc Go.Proofs
set_option linter.unusedVariables false
set_option maxRecDepth 100000
variable {R:Value->Heap->Prop} {h:Heap}
theorem ZEZ {i a g:Int} (p:
 vMake 8 [zi 0] 2 g g h fun b j=>
 vLen b fun k=>
 lq2 i (0:Int) j fun J n c e f=>
 bif decide (e<(k:Int)) then
 a≠0 /\
 vIdx b e 1 fun l=>
 vStore1 f l (zi (Int.tmod c a)) fun o=>
 a≠0 /\
 ag2 J n (zw (Int.tdiv c a)) (zw (e+1)) o
 else
 R b f):CallsH P 145 #[zi i,zi a,zi g] h R:=zv ⟨[(3,[(0,.i .i64),(13,.i .i64)])],[],[]⟩ Tryz.func145 p
theorem Zyo {v0 v1:Value} {f:Int} (hv:
 zV 127 #[v0] h fun a k=>
 vLen v1 fun b=>
 vLen a fun l=>
 lq1 (zw ((l:Int)-1)) k fun J n g i=>
 bif decide (g>=(zw ((b:Int)-1))) then
 vIdx a g 1 fun o=>
 ldI .i64 i o fun p=>
 vLen v1 fun r=>
 lq1 (0:Int) i fun s t c e=>
 bif decide (c<(r:Int)) then
 vIdx v1 c 1 fun u=>
 ldI .i64 e u fun v=>
 vIdx a (zw ((zw (g-(zw ((b:Int)-1))))+c)) 1 fun w=>
 ldI .i64 e w fun x=>
 f≠0 /\
 f≠0 /\
 vIdx a (zw ((zw (g-(zw ((b:Int)-1))))+c)) 1 fun y=>
 vStore1 e y (zi (Int.tmod (zw ((Int.tmod (zw (x-(zw (p*v)))) f)+f)) f)) fun a0=>
 ag1 s t (zw (c+1)) a0
 else
 ag1 J n (zw (g-1)) e
 else
 vLen a fun j=>
 vSliceS a 1 none (some (zi (if (j:Int)<(zw ((b:Int)-1)) then (j:Int) else zw ((b:Int)-1)))) none fun a1=>
 R a1 i):CallsH P 185 #[v0,v1,zi f] h R:=zv ⟨[(4,[(9,.i .i64)]),(8,[(33,.i .i64)])],[],[]⟩ Tryz.func185 hv
theorem ZFI {a:Int} (b:
 R (.bool (a !=0)) h):CallsH P 222 #[zi a] h R:=zv ⟨[],[],[]⟩ Tryz.func222 b
theorem ZFe {v0:Value} (b:
 zB 84 #[v0,.func (.func 222) #[] #[]] h fun c a=>
 R (.bool (!c)) a):CallsH P 187 #[v0] h R:=zv ⟨[],[],[]⟩ Tryz.func187 b
theorem ZFx {v0:Value} {b:Int} (hv:
 zI 83 #[v0] h fun x9 i=>
 lq1 (1:Int) i fun J n c e=>
 bif decide ((zw (2*c):Int)<=(zw (x9-1))) then
 lq1 (0:Int) e fun j k g l=>
 zI 89 #[zi b,zi c,zi 64] l fun o f=>
 bif decide (g<o) then
 zV 145 #[zi g,zi b,zi c] f fun p r=>
 vNewS r (.cells #[zi 1] 2) 1 fun s t=>
 vAppend 1 8 [zi 0] 2 p s t fun u v=>
 zV 185 #[v0,u,zi b] v fun w x=>
 zB 187 #[w] x fun y a=>
 bif y then
 R (.bool false) a
 else
 ag1 j k (zw (g+1)) a
 else
 ag1 J n (zw (c+1)) f
 else
 R (.bool true) e):CallsH P 144 #[v0,zi b] h R:=zv ⟨[(3,[(6,.i .i64)]),(6,[(7,.i .i64)])],[],[]⟩ Tryz.func144 hv
theorem ZFP {j:Int} (y:
 zB 48 #[zi j,zi 1,zi 1000000] h fun b6 g=>
 bif !b6 then
 R (.slice none 0 0) g
 else
 lq3 j ((.slice none 0 0):Value) (2:Int) g fun J n a k b e=>
 bif decide ((zw (b*b):Int)<=a) then
 lq2 a k e fun l o c f i=>
 b≠0 /\
 bif (Int.tmod c b:Int)==0 then
 vNewS i (.cells #[zi b] 2) 1 fun p r=>
 vAppend 1 8 [zi 0] 2 f p r fun s t=>
 b≠0 /\
 ag2 l o (zw (Int.tdiv c b)) s t
 else
 ag3 J n c f (zw (b+1)) i
 else
 bif decide (a>1) then
 vNewS e (.cells #[zi a] 2) 1 fun u v=>
 vAppend 1 8 [zi 0] 2 k u v fun w x=>
 R w x
 else
 R k e):CallsH P 186 #[zi j] h R:=zv ⟨[(5,[(0,.i .i64),(3,.v),(4,.i .i64)]),(7,[(0,.i .i64),(3,.v)])],[],[]⟩ Tryz.func186 y
theorem ZC0 {a:Int} (c:
 zV 186 #[zi a] h fun e b=>
 vLen e fun f=>
 R (.bool ((f:Int)==1)) b):CallsH P 182 #[zi a] h R:=zv ⟨[],[],[]⟩ Tryz.func182 c
theorem ZCr {f g:Int} {i:Value} (hv:
 vNew h (.cells #[zi f,zi g,i] 60) fun p1 l=>
 ∃ J:Heap->Prop,(
 ldI .i64 l p1 fun x6=>
 zB 182 #[zi x6] l fun b7 b=>
 bif !b7 then
 R (.bool false) b
 else
 ldI .i64 b (p1.add 1) fun u=>
 bif decide (u<1) then
 R (.bool false) b
 else
 ldI .i64 b p1 fun v=>
 ldI .i64 b (p1.add 1) fun w=>
 zI 89 #[zi v,zi w,zi 64] b fun x o=>
 bif decide (x>64) then
 R (.bool false) o
 else
 J o
 )/\∀ (_:Env) (e:Heap),J e ->
 ∃ p:Heap->Prop,(
 ∃ B:Nat->Prop,
 ldV e (p1.add 2) fun y=>
 zI 83 #[y] e fun a0 a=>
 ExtBut B e a /\
 ldI .i64 (hmask B e) (p1.add 1) fun a1=>
 bif a0 !=(zw (a1+1)) then
 R (.bool false) a
 else
 ldV a (p1.add 2) fun a2=>
 ldI .i64 a (p1.add 1) fun a3=>
 vIdx a2 a3 1 fun a4=>
 ldI .i64 a a4 fun a5=>
 bif a5 !=1 then
 R (.bool false) a
 else
 p a
 )/\∀ (_:Env) (j:Heap),p j ->
 ldV j (p1.add 2) fun r=>
 vLen r fun a6=>
 lq1 (0:Int) j fun a7 n k c=>
 bif decide (k<(a6:Int)) then
 vIdx r k 1 fun a8=>
 ldI .i64 c a8 fun a9=>
 ldI .i64 c p1 fun aa=>
 zB 48 #[zi a9,zi 0,zi (zw (aa-1))] c fun ab s=>
 bif !ab then
 R (.bool false) s
 else
 ag1 a7 n (zw (k+1)) s
 else
 ldV c (p1.add 2) fun ac=>
 ldI .i64 c p1 fun ad=>
 zB 144 #[ac,zi ad] c fun ae t=>
 R (.bool ae) t):CallsH P 133 #[.agg #[zi f,zi g,i]] h R:=zv ⟨[(6,[(41,.i .i64)])],[(3,[]),(5,[])],[]⟩ Tryz.func133 hv
theorem ZAB {a:Int} {p1:Addr} (c:
 ldI .i64 h p1 fun e=>
 zB 48 #[zi a,zi 0,zi (zw (e-1))] h fun f b=>
 R (.bool (!f)) b):CallsH P 183 #[zi a,.pointer (some p1)] h R:=zv ⟨[],[],[]⟩ Tryz.func183 c
theorem ZCj {a:Int} {v1:Value} (e:
 vNew h (.cells #[zi a] 2) fun p2 b=>
 zB 84 #[v1,.func (.func 183) #[] #[.pointer (some p2)]] b fun f c=>
 R (.bool (!f)) c):CallsH P 135 #[zi a,v1] h R:=zv ⟨[],[],[]⟩ Tryz.func135 e
theorem ZGw {v0:Value} {p1 p2:Addr} (f:
 vLen v0 fun g=>
 ldV h p1 fun i=>
 vIdx i 0 1 fun j=>
 ldV h j fun k=>
 vLen k fun a=>
 bif (g:Int) !=(a:Int) then
 R (.bool true) h
 else
 ldI .i64 h p2 fun b=>
 zB 135 #[zi b,v0] h fun c e=>
 R (.bool (!c)) e):CallsH P 134 #[v0,.pointer (some p1),.pointer (some p2)] h R:=zv ⟨[],[],[]⟩ Tryz.func134 f
theorem Zwx {e f:Int} {g v1:Value} (hv:
 vNew h (.cells #[zi e,zi f,g] 60) fun p2 y=>
 vOne v1 fun _=>
 vNew y (.cells #[v1] 22) fun k b=>
 ∃ J:Heap->Prop,(
 ldI .i64 b p2 fun s=>
 ldI .i64 b (p2.add 1) fun t=>
 ldV b (p2.add 2) fun u=>
 zB 133 #[.agg #[zi s,zi t,u]] b fun b7 i=>
 bif !b7 then
 R (.bool false) i
 else
 ldV i k fun a0=>
 zI 36 #[a0] i fun a1 a2=>
 zB 48 #[zi a1,zi 1,zi 32] a2 fun a3 c=>
 bif !a3 then
 R (.bool false) c
 else
 ldV c k fun a4=>
 vIdx a4 0 1 fun a5=>
 ldV c a5 fun a6=>
 zI 83 #[a6] c fun a7 a8=>
 zB 48 #[zi a7,zi 1,zi 32] a8 fun a9 r=>
 bif !a9 then
 R (.bool false) r
 else
 J r
 )/\∀ (_:Env) (a:Heap),J a ->
 ldI .i64 a p2 fun l=>
 ldI .i64 a (p2.add 1) fun o=>
 ldV a (p2.add 2) fun p=>
 zI 90 #[.agg #[zi l,zi o,p]] a fun aa v=>
 vNew v (.cells #[zi 0] 2) fun p5 w=>
 vStore1 w p5 (zi aa) fun j=>
 ldV j k fun ac=>
 zB 125 #[ac,.func (.func 134) #[] #[.pointer (some k),.pointer (some p5)]] j fun ad x=>
 R (.bool (!ad)) x):CallsH P 88 #[.agg #[zi e,zi f,g],v1] h R:=zv ⟨[],[(3,[])],[]⟩ Tryz.func88 hv
theorem ZxO {v0:Value} {c:Int} (i:
 vLen v0 fun j=>
 lq2 (0:Int) (zw ((j:Int)-1)) h fun J n e b a=>
 bif decide (b>=0) then
 vIdx v0 b 1 fun f=>
 ldI .i64 a f fun g=>
 ag2 J n (zw ((zw (e*c))+g)) (zw (b-1)) a
 else
 R (zi e) a):CallsH P 184 #[v0,zi c] h R:=zv ⟨[(3,[(5,.i .i64),(6,.i .i64)])],[],[]⟩ Tryz.func184 i
theorem ZE0 {g i:Int} {j:Value} {o p r:Int} (hv:
 vNew h (.cells #[zi g,zi i,j] 60) fun e b=>
 ∃ B:Nat->Prop,
 ldI .i64 b e fun s=>
 ldI .i64 b (e.add 1) fun t=>
 zV 145 #[zi o,zi s,zi t] b fun f k=>
 ExtBut B b k /\
 ldI .i64 (hmask B b) e fun u=>
 ldI .i64 (hmask B b) (e.add 1) fun v=>
 zV 145 #[zi p,zi u,zi v] k fun w x=>
 vLen f fun y=>
 lq1 (0:Int) x fun J n c a=>
 bif decide (c<(y:Int)) then
 vIdx f c 1 fun a0=>
 ldI .i64 a a0 fun a1=>
 vIdx w c 1 fun a2=>
 ldI .i64 a a2 fun a3=>
 ldI .i64 a e fun a4=>
 ldI .i64 a e fun l=>
 l≠0 /\
 vIdx f c 1 fun a5=>
 vStore1 a a5 (zi (Int.tmod (zw ((zw (a1+(zw (r*a3))))+a4)) l)) fun a6=>
 ag1 J n (zw (c+1)) a6
 else
 ldI .i64 a e fun a7=>
 zI 184 #[f,zi a7] a fun a8 a9=>
 R (zi a8) a9):CallsH P 136 #[.agg #[zi g,zi i,j],zi o,zi p,zi r] h R:=zv ⟨[(3,[(26,.i .i64)])],[],[]⟩ Tryz.func136 hv
theorem Zzz {i j:Int} {k:Value} {y x2:Int} (hv:
 vNew h (.cells #[zi i,zi j,k] 60) fun e a=>
 ∃ B:Nat->Prop,
 ldI .i64 a e fun a1=>
 ldI .i64 a (e.add 1) fun a2=>
 zV 145 #[zi y,zi a1,zi a2] a fun o p=>
 ExtBut B a p /\
 ldI .i64 (hmask B a) e fun a3=>
 ldI .i64 (hmask B a) (e.add 1) fun a4=>
 zV 145 #[zi x2,zi a3,zi a4] p fun r s=>
 ldI .i64 s (e.add 1) fun t=>
 vMake 8 [zi 0] 2 (zw (2*t)) (zw (2*t)) s fun l a5=>
 vLen o fun a6=>
 lq1 (0:Int) a5 fun J n f b=>
 bif decide (f<(a6:Int)) then
 vLen r fun a7=>
 lq1 (0:Int) b fun a8 a9 g c=>
 bif decide (g<(a7:Int)) then
 vIdx l (zw (f+g)) 1 fun aa=>
 ldI .i64 c aa fun ab=>
 vIdx o f 1 fun ac=>
 ldI .i64 c ac fun ad=>
 vIdx r g 1 fun ae=>
 ldI .i64 c ae fun af=>
 ldI .i64 c e fun u=>
 u≠0 /\
 vIdx l (zw (f+g)) 1 fun ag=>
 vStore1 c ag (zi (Int.tmod (zw (ab+(zw (ad*af)))) u)) fun ah=>
 ag1 a8 a9 (zw (g+1)) ah
 else
 ag1 J n (zw (f+1)) c
 else
 ∃ v:Nat->Prop,
 ldV b (e.add 2) fun ai=>
 ldI .i64 b e fun aj=>
 zV 185 #[l,ai,zi aj] b fun ak w=>
 ExtBut v b w /\
 ldI .i64 (hmask v b) e fun al=>
 zI 184 #[ak,zi al] w fun am x=>
 R (zi am) x):CallsH P 137 #[.agg #[zi i,zi j,k],zi y,zi x2] h R:=zv ⟨[(4,[(30,.i .i64)]),(7,[(35,.i .i64)])],[],[]⟩ Tryz.func137 hv
theorem ZDW {bn bo:Int} {bp:Value} (hv:
 vNew h (.cells #[zi bn,zi bo,bp] 60) fun p1 ir=>
 vNew ir (.cells #[zi 0,.slice none 0 0,.slice none 0 0,.slice none 0 0,.slice none 0 0] 130) fun p2 aa=>
 ldI .i64 aa p1 fun hh=>
 ldI .i64 aa (p1.add 1) fun hi=>
 ldV aa (p1.add 2) fun hj=>
 zI 90 #[.agg #[zi hh,zi hi,hj]] aa fun it iu=>
 vNew iu (.cells #[zi 0,.slice none 0 0,.slice none 0 0,.slice none 0 0,.slice none 0 0] 130) fun c iw=>
 vStore1 iw c (zi it) fun iy=>
 vStore1 iy (c.add 1) (.slice none 0 0) fun iz=>
 vStore1 iz (c.add 2) (.slice none 0 0) fun j0=>
 vStore1 j0 (c.add 3) (.slice none 0 0) fun j1=>
 vStore1 j1 (c.add 4) (.slice none 0 0) fun bq=>
 ldI .i64 bq c fun h9=>
 vMake 8 [zi 0] 2 h9 h9 bq fun j2 hk=>
 vStore1 hk (c.add 4) j2 fun hl=>
 lq1 (0:Int) hl fun J n x4 e=>
 ldI .i64 e c fun j3=>
 bif decide (x4<j3) then
 vK (fun K:Value->Value->Value->Heap->Prop=>
 ∃ B:Nat->Prop,
 (
 ldI .i64 (hmask B e) c fun ha=>
 vMake 8 [zi 0] 2 ha ha e fun hb y=>
 ExtBut B e y /\
 (
 ldI .i64 (hmask B e) c fun hc=>
 vMake 8 [zi 0] 2 hc hc y fun j4 br=>
 ExtBut B e br /\
 ldI .i64 (hmask B e) c fun hd=>
 vMake 8 [zi 0] 2 hd hd br fun j5 bs=>
 ExtBut B e bs /\
 K hb j4 j5 bs
 ) /\
 (
 ldI .i64 (hmask B e) c fun ab=>
 vMake 8 [zi 0] 2 ab ab y fun dt bt=>
 ExtBut B e bt /\
 ldI .i64 (hmask B e) c fun ac=>
 vMake 8 [zi 0] 2 ac ac bt fun du bu=>
 ExtBut B e bu /\
 K hb du dt bu
 )
 ) /\
 (
 ldI .i64 (hmask B e) c fun ad=>
 vMake 8 [zi 0] 2 ad ad e fun ae a0=>
 ExtBut B e a0 /\
 (
 ldI .i64 (hmask B e) c fun af=>
 vMake 8 [zi 0] 2 af af a0 fun dv bv=>
 ExtBut B e bv /\
 ldI .i64 (hmask B e) c fun ag=>
 vMake 8 [zi 0] 2 ag ag bv fun dw bw=>
 ExtBut B e bw /\
 K dv ae dw bw
 ) /\
 (
 ldI .i64 (hmask B e) c fun ah=>
 vMake 8 [zi 0] 2 ah ah a0 fun dx bx=>
 ExtBut B e bx /\
 ldI .i64 (hmask B e) c fun ai=>
 vMake 8 [zi 0] 2 ai ai bx fun dy bz=>
 ExtBut B e bz /\
 K dy ae dx bz
 )
 ) /\
 (
 ldI .i64 (hmask B e) c fun aj=>
 vMake 8 [zi 0] 2 aj aj e fun ak a1=>
 ExtBut B e a1 /\
 (
 ldI .i64 (hmask B e) c fun al=>
 vMake 8 [zi 0] 2 al al a1 fun dz c0=>
 ExtBut B e c0 /\
 ldI .i64 (hmask B e) c fun am=>
 vMake 8 [zi 0] 2 am am c0 fun e0 c3=>
 ExtBut B e c3 /\
 K dz e0 ak c3
 ) /\
 (
 ldI .i64 (hmask B e) c fun an=>
 vMake 8 [zi 0] 2 an an a1 fun e1 c4=>
 ExtBut B e c4 /\
 ldI .i64 (hmask B e) c fun ao=>
 vMake 8 [zi 0] 2 ao ao c4 fun e2 c5=>
 ExtBut B e c5 /\
 K e2 e1 ak c5
 )
 )
 ) fun o i f hm=>
 lq1 (0:Int) hm fun he hf p a=>
 ldI .i64 a c fun j6=>
 bif decide (p<j6) then
 ∃ k:Nat->Prop,
 ldI .i64 a p1 fun e3=>
 ldI .i64 a (p1.add 1) fun e4=>
 ldV a (p1.add 2) fun e5=>
 zI 136 #[.agg #[zi e3,zi e4,e5],zi x4,zi p,zi 1] a fun j7 c6=>
 ExtBut k a c6 /\
 ldI .i64 (hmask k a) p1 fun e6=>
 ldI .i64 (hmask k a) (p1.add 1) fun e7=>
 ldV (hmask k a) (p1.add 2) fun e8=>
 zI 136 #[.agg #[zi e6,zi e7,e8],zi x4,zi p,zi (-1)] c6 fun j8 c7=>
 ExtBut k a c7 /\
 ldI .i64 (hmask k a) p1 fun e9=>
 ldI .i64 (hmask k a) (p1.add 1) fun ea=>
 ldV (hmask k a) (p1.add 2) fun eb=>
 zI 137 #[.agg #[zi e9,zi ea,eb],zi x4,zi p] c7 fun j9 hn=>
 vIdx o p 1 fun ja=>
 vStore1 hn ja (zi j7) fun ho=>
 vIdx i p 1 fun jb=>
 vStore1 ho jb (zi j8) fun hp=>
 vIdx f p 1 fun jc=>
 vStore1 hp jc (zi j9) fun s=>
 vIdx f p 1 fun jd=>
 ldI .i64 s jd fun je=>
 bif je==1 then
 ldV s (c.add 4) fun jf=>
 vIdx jf x4 1 fun jg=>
 vStore1 s jg (zi p) fun hq=>
 ag1 he hf (zw (p+1)) hq
 else
 ag1 he hf (zw (p+1)) s
 else
 vK (fun g:Heap->Prop=>
 ∃ b:Nat->Prop,
 (
 vOne o fun _=>
 vNewS a (.cells #[o] 36) 1 fun x t=>
 ExtBut b a t /\
 (
 ldV (hmask b a) (c.add 1) fun jh=>
 vAppend 1 24 [.slice none 0 0] 36 jh x t fun c8 a2=>
 ExtBut b a a2 /\
 (
 vOne i fun _=>
 vNewS a2 (.cells #[i] 36) 1 fun hg a3=>
 ExtBut b a a3 /\
 (
 ldV (hmask b a) (c.add 2) fun ji=>
 vAppend 1 24 [.slice none 0 0] 36 ji hg a3 fun jj c9=>
 ExtBut b a c9 /\
 vOne f fun _=>
 vNewS c9 (.cells #[f] 36) 1 fun jk ca=>
 ExtBut b a ca /\
 ldV (hmask b a) (c.add 3) fun jl=>
 vAppend 1 24 [.slice none 0 0] 36 jl jk ca fun jm hr=>
 vStore1 hr (c.add 1) c8 fun hs=>
 vStore1 hs (c.add 2) jj fun ht=>
 vStore1 ht (c.add 3) jm fun hu=>
 g hu
 ) /\
 (
 vOne f fun _=>
 vNewS a3 (.cells #[f] 36) 1 fun ec cb=>
 ExtBut b a cb /\
 ldV (hmask b a) (c.add 2) fun ed=>
 vAppend 1 24 [.slice none 0 0] 36 ed hg cb fun ee cc=>
 ExtBut b a cc /\
 ldV (hmask b a) (c.add 3) fun ef=>
 vAppend 1 24 [.slice none 0 0] 36 ef ec cc fun eg hw=>
 vStore1 hw (c.add 1) c8 fun hx=>
 vStore1 hx (c.add 2) ee fun hy=>
 vStore1 hy (c.add 3) eg fun i0=>
 g i0
 )
 ) /\
 (
 vOne f fun _=>
 vNewS a2 (.cells #[f] 36) 1 fun eh cd=>
 ExtBut b a cd /\
 vOne i fun _=>
 vNewS cd (.cells #[i] 36) 1 fun ei ce=>
 ExtBut b a ce /\
 ldV (hmask b a) (c.add 2) fun ej=>
 vAppend 1 24 [.slice none 0 0] 36 ej ei ce fun ek cf=>
 ExtBut b a cf /\
 ldV (hmask b a) (c.add 3) fun em=>
 vAppend 1 24 [.slice none 0 0] 36 em eh cf fun en i1=>
 vStore1 i1 (c.add 1) c8 fun i2=>
 vStore1 i2 (c.add 2) ek fun i3=>
 vStore1 i3 (c.add 3) en fun i4=>
 g i4
 )
 ) /\
 (
 vOne i fun _=>
 vNewS t (.cells #[i] 36) 1 fun u a4=>
 ExtBut b a a4 /\
 (
 ldV (hmask b a) (c.add 1) fun eo=>
 vAppend 1 24 [.slice none 0 0] 36 eo x a4 fun ap a5=>
 ExtBut b a a5 /\
 (
 ldV (hmask b a) (c.add 2) fun ep=>
 vAppend 1 24 [.slice none 0 0] 36 ep u a5 fun eq cg=>
 ExtBut b a cg /\
 vOne f fun _=>
 vNewS cg (.cells #[f] 36) 1 fun er ch=>
 ExtBut b a ch /\
 ldV (hmask b a) (c.add 3) fun es=>
 vAppend 1 24 [.slice none 0 0] 36 es er ch fun et i5=>
 vStore1 i5 (c.add 1) ap fun i6=>
 vStore1 i6 (c.add 2) eq fun i7=>
 vStore1 i7 (c.add 3) et fun i8=>
 g i8
 ) /\
 (
 vOne f fun _=>
 vNewS a5 (.cells #[f] 36) 1 fun eu cj=>
 ExtBut b a cj /\
 ldV (hmask b a) (c.add 2) fun ew=>
 vAppend 1 24 [.slice none 0 0] 36 ew u cj fun ey ck=>
 ExtBut b a ck /\
 ldV (hmask b a) (c.add 3) fun ez=>
 vAppend 1 24 [.slice none 0 0] 36 ez eu ck fun f0 i9=>
 vStore1 i9 (c.add 1) ap fun ia=>
 vStore1 ia (c.add 2) ey fun ib=>
 vStore1 ib (c.add 3) f0 fun ic=>
 g ic
 )
 ) /\
 (
 vOne f fun _=>
 vNewS a4 (.cells #[f] 36) 1 fun f1 cm=>
 ExtBut b a cm /\
 ldV (hmask b a) (c.add 1) fun f2=>
 vAppend 1 24 [.slice none 0 0] 36 f2 x cm fun f3 cn=>
 ExtBut b a cn /\
 ldV (hmask b a) (c.add 2) fun f4=>
 vAppend 1 24 [.slice none 0 0] 36 f4 u cn fun f5 co=>
 ExtBut b a co /\
 ldV (hmask b a) (c.add 3) fun f6=>
 vAppend 1 24 [.slice none 0 0] 36 f6 f1 co fun f7 id=>
 vStore1 id (c.add 1) f3 fun ie=>
 vStore1 ie (c.add 2) f5 fun ig=>
 vStore1 ig (c.add 3) f7 fun ih=>
 g ih
 )
 ) /\
 (
 vOne f fun _=>
 vNewS t (.cells #[f] 36) 1 fun aq a6=>
 ExtBut b a a6 /\
 (
 ldV (hmask b a) (c.add 1) fun f8=>
 vAppend 1 24 [.slice none 0 0] 36 f8 x a6 fun f9 cp=>
 ExtBut b a cp /\
 vOne i fun _=>
 vNewS cp (.cells #[i] 36) 1 fun fa cq=>
 ExtBut b a cq /\
 ldV (hmask b a) (c.add 2) fun fb=>
 vAppend 1 24 [.slice none 0 0] 36 fb fa cq fun fc cr=>
 ExtBut b a cr /\
 ldV (hmask b a) (c.add 3) fun fe=>
 vAppend 1 24 [.slice none 0 0] 36 fe aq cr fun ff ii=>
 vStore1 ii (c.add 1) f9 fun ij=>
 vStore1 ij (c.add 2) fc fun ik=>
 vStore1 ik (c.add 3) ff fun il=>
 g il
 ) /\
 (
 vOne i fun _=>
 vNewS a6 (.cells #[i] 36) 1 fun fg ct=>
 ExtBut b a ct /\
 ldV (hmask b a) (c.add 1) fun fh=>
 vAppend 1 24 [.slice none 0 0] 36 fh x ct fun fi cu=>
 ExtBut b a cu /\
 ldV (hmask b a) (c.add 2) fun fj=>
 vAppend 1 24 [.slice none 0 0] 36 fj fg cu fun fk cv=>
 ExtBut b a cv /\
 ldV (hmask b a) (c.add 3) fun fl=>
 vAppend 1 24 [.slice none 0 0] 36 fl aq cv fun fm im=>
 vStore1 im (c.add 1) fi fun io=>
 vStore1 io (c.add 2) fk fun ip=>
 vStore1 ip (c.add 3) fm fun iq=>
 g iq
 )
 )
 ) /\
 (
 vOne i fun _=>
 vNewS a (.cells #[i] 36) 1 fun l a7=>
 ExtBut b a a7 /\
 (
 vOne o fun _=>
 vNewS a7 (.cells #[o] 36) 1 fun ar a8=>
 ExtBut b a a8 /\
 (
 ldV (hmask b a) (c.add 1) fun fn=>
 vAppend 1 24 [.slice none 0 0] 36 fn ar a8 fun au a9=>
 ExtBut b a a9 /\
 (
 ldV (hmask b a) (c.add 2) fun fo=>
 vAppend 1 24 [.slice none 0 0] 36 fo l a9 fun fp cx=>
 ExtBut b a cx /\
 vOne f fun _=>
 vNewS cx (.cells #[f] 36) 1 fun fq av=>
 ExtBut b a av /\
 ldV (hmask b a) (c.add 3) fun fr=>
 vAppend 1 24 [.slice none 0 0] 36 fr fq av fun fs ft=>
 vStore1 ft (c.add 1) au fun fu=>
 vStore1 fu (c.add 2) fp fun fv=>
 vStore1 fv (c.add 3) fs fun fw=>
 g fw
 ) /\
 (
 vOne f fun _=>
 vNewS a9 (.cells #[f] 36) 1 fun fx aw=>
 ExtBut b a aw /\
 ldV (hmask b a) (c.add 2) fun cy=>
 vAppend 1 24 [.slice none 0 0] 36 cy l aw fun cz ax=>
 ExtBut b a ax /\
 ldV (hmask b a) (c.add 3) fun d0=>
 vAppend 1 24 [.slice none 0 0] 36 d0 fx ax fun d1 fy=>
 vStore1 fy (c.add 1) au fun fz=>
 vStore1 fz (c.add 2) cz fun g0=>
 vStore1 g0 (c.add 3) d1 fun g1=>
 g g1
 )
 ) /\
 (
 vOne f fun _=>
 vNewS a8 (.cells #[f] 36) 1 fun d2 ay=>
 ExtBut b a ay /\
 ldV (hmask b a) (c.add 1) fun g2=>
 vAppend 1 24 [.slice none 0 0] 36 g2 ar ay fun g3 az=>
 ExtBut b a az /\
 ldV (hmask b a) (c.add 2) fun d3=>
 vAppend 1 24 [.slice none 0 0] 36 d3 l az fun d4 b0=>
 ExtBut b a b0 /\
 ldV (hmask b a) (c.add 3) fun d5=>
 vAppend 1 24 [.slice none 0 0] 36 d5 d2 b0 fun d6 g4=>
 vStore1 g4 (c.add 1) g3 fun g5=>
 vStore1 g5 (c.add 2) d4 fun g6=>
 vStore1 g6 (c.add 3) d6 fun g7=>
 g g7
 )
 ) /\
 (
 vOne f fun _=>
 vNewS a7 (.cells #[f] 36) 1 fun d7 b1=>
 ExtBut b a b1 /\
 vOne o fun _=>
 vNewS b1 (.cells #[o] 36) 1 fun g8 b2=>
 ExtBut b a b2 /\
 ldV (hmask b a) (c.add 1) fun g9=>
 vAppend 1 24 [.slice none 0 0] 36 g9 g8 b2 fun ga b3=>
 ExtBut b a b3 /\
 ldV (hmask b a) (c.add 2) fun d8=>
 vAppend 1 24 [.slice none 0 0] 36 d8 l b3 fun d9 b4=>
 ExtBut b a b4 /\
 ldV (hmask b a) (c.add 3) fun da=>
 vAppend 1 24 [.slice none 0 0] 36 da d7 b4 fun db gb=>
 vStore1 gb (c.add 1) ga fun gc=>
 vStore1 gc (c.add 2) d9 fun gd=>
 vStore1 gd (c.add 3) db fun ge=>
 g ge
 )
 ) /\
 (
 vOne f fun _=>
 vNewS a (.cells #[f] 36) 1 fun r v=>
 ExtBut b a v /\
 (
 vOne o fun _=>
 vNewS v (.cells #[o] 36) 1 fun b5 w=>
 ExtBut b a w /\
 (
 ldV (hmask b a) (c.add 1) fun gg=>
 vAppend 1 24 [.slice none 0 0] 36 gg b5 w fun gh b6=>
 ExtBut b a b6 /\
 vOne i fun _=>
 vNewS b6 (.cells #[i] 36) 1 fun gi b7=>
 ExtBut b a b7 /\
 ldV (hmask b a) (c.add 2) fun dc=>
 vAppend 1 24 [.slice none 0 0] 36 dc gi b7 fun dd b8=>
 ExtBut b a b8 /\
 ldV (hmask b a) (c.add 3) fun de=>
 vAppend 1 24 [.slice none 0 0] 36 de r b8 fun df gj=>
 vStore1 gj (c.add 1) gh fun gk=>
 vStore1 gk (c.add 2) dd fun gl=>
 vStore1 gl (c.add 3) df fun gm=>
 g gm
 ) /\
 (
 vOne i fun _=>
 vNewS w (.cells #[i] 36) 1 fun gn b9=>
 ExtBut b a b9 /\
 ldV (hmask b a) (c.add 1) fun dg=>
 vAppend 1 24 [.slice none 0 0] 36 dg b5 b9 fun dh ba=>
 ExtBut b a ba /\
 ldV (hmask b a) (c.add 2) fun di=>
 vAppend 1 24 [.slice none 0 0] 36 di gn ba fun dj bb=>
 ExtBut b a bb /\
 ldV (hmask b a) (c.add 3) fun dk=>
 vAppend 1 24 [.slice none 0 0] 36 dk r bb fun dl go=>
 vStore1 go (c.add 1) dh fun gp=>
 vStore1 gp (c.add 2) dj fun gq=>
 vStore1 gq (c.add 3) dl fun gr=>
 g gr
 )
 ) /\
 (
 vOne i fun _=>
 vNewS v (.cells #[i] 36) 1 fun gs bc=>
 ExtBut b a bc /\
 vOne o fun _=>
 vNewS bc (.cells #[o] 36) 1 fun gt bd=>
 ExtBut b a bd /\
 ldV (hmask b a) (c.add 1) fun dm=>
 vAppend 1 24 [.slice none 0 0] 36 dm gt bd fun dn be=>
 ExtBut b a be /\
 ldV (hmask b a) (c.add 2) fun dp=>
 vAppend 1 24 [.slice none 0 0] 36 dp gs be fun dq bf=>
 ExtBut b a bf /\
 ldV (hmask b a) (c.add 3) fun dr=>
 vAppend 1 24 [.slice none 0 0] 36 dr r bf fun ds gu=>
 vStore1 gu (c.add 1) dn fun gv=>
 vStore1 gv (c.add 2) dq fun gw=>
 vStore1 gw (c.add 3) ds fun gy=>
 g gy
 )
 )
 ) fun gz=>
 ag1 J n (zw (x4+1)) gz
 else
 ldI .i64 e c fun h0=>
 ldV e (c.add 1) fun h1=>
 ldV e (c.add 2) fun h2=>
 ldV e (c.add 3) fun h3=>
 ldV e (c.add 4) fun h4=>
 vStore1 e p2 (zi h0) fun h5=>
 vStore1 h5 (p2.add 1) h1 fun h6=>
 vStore1 h6 (p2.add 2) h2 fun h7=>
 vStore1 h7 (p2.add 3) h3 fun h8=>
 vStore1 h8 (p2.add 4) h4 fun j=>
 ldI .i64 j p2 fun bh=>
 ldV j (p2.add 1) fun bi=>
 ldV j (p2.add 2) fun bj=>
 ldV j (p2.add 3) fun bk=>
 ldV j (p2.add 4) fun bm=>
 R (.agg #[zi bh,bi,bj,bk,bm]) j):CallsH P 91 #[.agg #[zi bn,zi bo,bp]] h R:=zv ⟨[(4,[(4,.i .i64)]),(8,[(8,.i .i64)])],[],[]⟩ Tryz.func91 hv
theorem ZyH {v0:Value} {p1:Addr} (a:
 ldI .i64 h p1 fun b=>
 vIdx v0 b 1 fun c=>
 ldI .i64 h c fun e=>
 R (.bool (e !=0)) h):CallsH P 139 #[v0,.pointer (some p1)] h R:=zv ⟨[],[],[]⟩ Tryz.func139 a
theorem ZrR {c:Int} {e f g i v1 j:Value} {k:Int} (hv:
 vNew h (.cells #[zi c,e,f,g,i] 130) fun l o=>
 vLen j fun p=>
 lq1 (0:Int) o fun J n b a=>
 bif decide (b<(p:Int)) then
 vIdx j b 1 fun r=>
 ldI .i64 a r fun s=>
 ldV a (l.add 1) fun t=>
 vIdx v1 b 1 fun u=>
 ldI .i64 a u fun v=>
 vIdx t v 1 fun w=>
 ldV a w fun x=>
 ldV a (l.add 3) fun y=>
 vIdx y k 1 fun a0=>
 ldV a a0 fun a1=>
 vIdx a1 s 1 fun a2=>
 ldI .i64 a a2 fun a3=>
 vIdx x a3 1 fun a4=>
 ldI .i64 a a4 fun a5=>
 vIdx v1 b 1 fun a6=>
 vStore1 a a6 (zi a5) fun a7=>
 ag1 J n (zw (b+1)) a7
 else
 R (.tuple #[]) a):CallsH P 140 #[.agg #[zi c,e,f,g,i],v1,j,zi k] h R:=zv ⟨[(2,[(12,.i .i64)])],[],[]⟩ Tryz.func140 hv
theorem ZzE {x:Int} {y a0 a1 a2 v1:Value} (hv:
 vNew h (.cells #[zi x,y,a0,a1,a2] 130) fun p2 bx=>
 zV 82 #[v1] bx fun b bz=>
 ∃ J:Value->Int->Heap->Prop,(
 vNew bz (.cells #[zi 0] t_int) fun al c0=>
 vStore1 c0 al (zi 0) fun c3=>
 lq3 ((.slice none 0 0):Value) (1:Int) al c3 fun c4 n v8 x9 c o=>
 ∃ am:Heap->Prop,(
 vLen b fun c5=>
 bif decide ((c5:Int)>0) then
 ldI .i64 o c fun c6=>
 vIdx b 0 1 fun c7=>
 ldV o c7 fun c8=>
 vLen c8 fun c9=>
 bif decide (c6<(c9:Int)) then
 am o
 else
 J v8 x9 o
 else
 J v8 x9 o
 )/\∀ (_:Env) (an:Heap),am an ->
 ∃ a4:Value->Int->Heap->Prop,(
 vLen v8 fun g=>
 vSliceS b 1 (some (zi (g:Int))) none none fun ca=>
 zI 138 #[ca,.func (.func 139) #[] #[.pointer (some c)]] an fun v p=>
 bif decide (v<0) then
 a4 v8 0 p
 else
 ∃ a5:Int->Heap->Prop,(
 bif decide (v>0) then
 vIdx b (zw ((g:Int)+v)) 1 fun cb=>
 ldV p cb fun cc=>
 vIdx b (g:Int) 1 fun cd=>
 ldV p cd fun ce=>
 vIdx b (g:Int) 1 fun cf=>
 vStore1 p cf cc fun cg=>
 vIdx b (zw ((g:Int)+v)) 1 fun ch=>
 vStore1 cg ch ce fun l=>
 ldV l (p2.add 2) fun cj=>
 vIdx cj 0 1 fun p64=>
 ldV l p64 fun ck=>
 vIdx ck x9 1 fun cm=>
 ldI .i64 l cm fun cn=>
 a5 cn l
 else
 a5 x9 p
 )/\∀ (_:Env) a6 (e:Heap),a5 a6 e ->
 vIdx b (g:Int) 1 fun co=>
 ldV e co fun cp=>
 ldI .i64 e c fun cq=>
 vIdx cp cq 1 fun cr=>
 ldI .i64 e cr fun ao=>
 ldV e (p2.add 3) fun ct=>
 vIdx ct a6 1 fun cu=>
 ldV e cu fun cv=>
 vIdx cv ao 1 fun cx=>
 ldI .i64 e cx fun ap=>
 vIdx b (g:Int) 1 fun cy=>
 ldV e cy fun aq=>
 vLen aq fun cz=>
 lq1 (0:Int) e fun d0 d1 w f=>
 bif decide (w<(cz:Int)) then
 vIdx aq w 1 fun d2=>
 ldI .i64 f d2 fun d3=>
 vIdx b (g:Int) 1 fun d4=>
 ldV f d4 fun d5=>
 ldV f (p2.add 3) fun av=>
 ldV f (p2.add 4) fun aw=>
 vIdx aw ao 1 fun ax=>
 ldI .i64 f ax fun ay=>
 vIdx av ay 1 fun az=>
 ldV f az fun b0=>
 vIdx b0 d3 1 fun b1=>
 ldI .i64 f b1 fun b2=>
 vIdx d5 w 1 fun b3=>
 vStore1 f b3 (zi b2) fun b4=>
 ag1 d0 d1 (zw (w+1)) b4
 else
 vLen b fun b5=>
 lq1 (0:Int) f fun ar au k i=>
 bif decide (k<(b5:Int)) then
 vIdx b k 1 fun b6=>
 ldV i b6 fun r=>
 ∃ a7:Bool->Heap->Prop,(
 bif k !=(g:Int) then
 ldI .i64 i c fun b7=>
 vIdx r b7 1 fun b8=>
 ldI .i64 i b8 fun b9=>
 a7 (b9 !=0) i
 else
 a7 false i
 )/\∀ (_:Env) (a8:Bool) (a:Heap),a7 a8 a ->
 bif a8 then
 ldI .i64 a p2 fun a9=>
 ldV a (p2.add 1) fun aa=>
 ldV a (p2.add 2) fun ab=>
 ldV a (p2.add 3) fun ac=>
 ldV a (p2.add 4) fun ad=>
 vIdx b (g:Int) 1 fun ba=>
 ldV a ba fun bb=>
 ldV a (p2.add 2) fun bc=>
 vIdx bc 0 1 fun bd=>
 ldV a bd fun be=>
 ldI .i64 a c fun bf=>
 vIdx r bf 1 fun bg=>
 ldI .i64 a bg fun bh=>
 vIdx be bh 1 fun bi=>
 ldI .i64 a bi fun bj=>
 CallsH P 140 #[.agg #[zi a9,aa,ab,ac,ad],r,bb,zi bj] a fun bk bm=>bk=.tuple #[] /\
 ag1 ar au (zw (k+1)) bm
 else
 ag1 ar au (zw (k+1)) a
 else
 ldI .i64 i c fun bn=>
 vNewS i (.cells #[zi bn] 2) 1 fun bo bp=>
 vAppend 1 8 [zi 0] 2 v8 bo bp fun s ae=>
 vLen s fun bq=>
 vLen b fun br=>
 bif (bq:Int)==(br:Int) then
 J s ap ae
 else
 a4 s ap ae
 )/\∀ (_:Env) (af:Value) ag (t:Heap),a4 af ag t ->
 ldI .i64 t c fun bs=>
 vNew t (.cells #[zi 0] t_int) fun j bt=>
 vStore1 bt j (zi bs) fun ah=>
 ldI .i64 ah j fun d6=>
 vStore1 ah j (zi (zw (d6+1))) fun bu=>
 ag3 c4 n af ag j bu
 )/\∀ (_:Env) (u:Value) ai (aj:Heap),J u ai aj ->
 vLen u fun bv=>
 vSliceS b 1 none (some (zi (bv:Int))) none fun bw=>
 R (.tuple #[bw,u,zi ai]) aj):CallsH P 92 #[.agg #[zi x,y,a0,a1,a2],v1] h R:=zv ⟨[(5,[(8,.v),(9,.i .i64),(10,.p)]),(17,[(89,.i .i64)]),(22,[(115,.i .i64)])],[(7,[]),(14,[(9,.i .i64)]),(25,[(129,.b)]),(29,[(8,.v),(9,.i .i64)]),(31,[(8,.v),(9,.i .i64)])],[]⟩ Tryz.func92 hv
theorem ZEY {v0 v1:Value} {g:Nat} {c:List Value} (t:
 vLen v0 fun i=>
 vLen v1 fun j=>
 bif (i:Int) !=(j:Int) then
 R (.bool false) h
 else
 vLen v0 fun k=>
 lq1 (0:Int) h fun J n a b=>
 bif decide (a<(k:Int)) then
 vIdx v0 a 1 fun l=>
 ldV b l fun o=>
 vIdx v1 a 1 fun p=>
 ldV b p fun r=>
 vOkf ctx g fun _=>
 CallsH P g (([o,r]:List Value)++c).toArray b fun s e=>∃ (f:Bool),s=.bool f /\
 bif !f then
 R (.bool false) e
 else
 ag1 J n (zw (a+1)) e
 else
 R (.bool true) b):CallsH P 141 #[v0,v1,.func (.func g) #[] c.toArray] h R:=zv ⟨[(4,[(17,.i .i64)])],[],[]⟩ Tryz.func141 t
theorem ZCZ {v0 v1:Value} (j:
 vLen v0 fun k=>
 vLen v1 fun l=>
 bif (k:Int) !=(l:Int) then
 R (.bool false) h
 else
 vLen v0 fun c=>
 lq1 (0:Int) h fun J n b a=>
 bif decide (b<(c:Int)) then
 vIdx v0 b 1 fun e=>
 ldI .i64 a e fun f=>
 vIdx v1 b 1 fun g=>
 ldI .i64 a g fun i=>
 bif f !=i then
 R (.bool false) a
 else
 ag1 J n (zw (b+1)) a
 else
 R (.bool true) a):CallsH P 142 #[v0,v1] h R:=zv ⟨[(4,[(13,.i .i64)])],[],[]⟩ Tryz.func142 j
theorem ZGg {v0 v1:Value} (b:
 zB 141 #[v0,v1,.func (.func 142) #[] #[]] h fun c a=>
 R (.bool c) a):CallsH P 93 #[v0,v1] h R:=zv ⟨[],[],[]⟩ Tryz.func93 b
theorem ZDK {l o:Int} {p r:Value} (hv:
 vNew h (.cells #[zi l,zi o,p,r] 62) fun p1 a=>
 ∃ J:Heap->Prop,(
 ∃ B:Nat->Prop,
 ldI .i64 a p1 fun a6=>
 ldI .i64 a (p1.add 1) fun a7=>
 ldV a (p1.add 2) fun a8=>
 ldV a (p1.add 3) fun v9=>
 zB 88 #[.agg #[zi a6,zi a7,a8],v9] a fun aa b=>
 ExtBut B a b /\
 bif !aa then
 R (.bool false) b
 else
 ldV b (p1.add 3) fun ab=>
 vLen ab fun ac=>
 bif decide ((ac:Int)>8) then
 R (.bool false) b
 else
 ldI .i64 b p1 fun s=>
 ldI .i64 b (p1.add 1) fun t=>
 ldV b (p1.add 2) fun u=>
 zI 90 #[.agg #[zi s,zi t,u]] b fun ad a1=>
 ExtBut B a a1 /\
 ldV (hmask B a) (p1.add 3) fun ae=>
 zI 36 #[ae] a1 fun af ag=>
 zI 89 #[zi ad,zi af,zi 4096] ag fun ah a2=>
 bif decide (ah>4096) then
 R (.bool false) a2
 else
 J a2
 )/\∀ (_:Env) (c:Heap),J c ->
 ∃ a3:Nat->Prop,
 ldI .i64 c p1 fun v=>
 ldI .i64 c (p1.add 1) fun w=>
 ldV c (p1.add 2) fun x=>
 CallsH P 91 #[.agg #[zi v,zi w,x]] c fun ai a4=>∃ e,∃ (f:Value),∃ (g:Value),∃ (i:Value),∃ (j:Value),ai=.agg #[zi e,f,g,i,j] /\
 ExtBut a3 c a4 /\
 ldV (hmask a3 c) (p1.add 3) fun aj=>
 CallsH P 92 #[.agg #[zi e,f,g,i,j],aj] a4 fun ak a5=>∃ (k:Value),∃ (y:Value),∃ a0,ak=.tuple #[k,y,zi a0] /\
 ldV a5 (p1.add 3) fun al=>
 zB 93 #[k,al] a5 fun am a9=>
 R (.bool am) a9):CallsH P 43 #[.agg #[zi l,zi o,p,r]] h R:=zv ⟨[],[(3,[])],[]⟩ Tryz.func43 hv
theorem ZyX {f:Int} (u:
 zV 186 #[zi f] h fun b g=>
 vLen b fun i=>
 lq1 (0:Int) g fun J n c a=>
 bif decide (c<(i:Int)) then
 vIdx b c 1 fun j=>
 ldI .i64 a j fun k=>
 vIdx b 0 1 fun l=>
 ldI .i64 a l fun o=>
 bif k !=o then
 R (.tuple #[zi 0,zi 0]) a
 else
 ag1 J n (zw (c+1)) a
 else
 vLen b fun p=>
 bif (p:Int)==0 then
 R (.tuple #[zi 0,zi 0]) a
 else
 ∃ B:Nat->Prop,
 zI 83 #[b] a fun r e=>
 ExtBut B a e /\
 vIdx b 0 1 fun s=>
 ldI .i64 (hmask B a) s fun t=>
 R (.tuple #[zi t,zi r]) e):CallsH P 143 #[zi f] h R:=zv ⟨[(3,[(11,.i .i64)])],[],[]⟩ Tryz.func143 u
theorem ZCC {x:Int} (hv:
 vNew h (.cells #[zi 0,zi 0,.slice none 0 0] 60) fun p2 a9=>
 CallsH P 143 #[zi x] a9 fun r9 t=>∃ a,∃ b,r9=.tuple #[zi a,zi b] /\
 ∃ J:Heap->Prop,(
 bif a==0 then
 vStore1 t p2 (zi 0) fun aa=>
 vStore1 aa (p2.add 1) (zi 0) fun ab=>
 vStore1 ab (p2.add 2) (.slice none 0 0) fun l=>
 ldI .i64 l p2 fun p=>
 ldI .i64 l (p2.add 1) fun r=>
 ldV l (p2.add 2) fun s=>
 R (.tuple #[.agg #[zi p,zi r,s],zi 2]) l
 else
 bif decide (x>64) then
 vStore1 t p2 (zi 0) fun ac=>
 vStore1 ac (p2.add 1) (zi 0) fun ad=>
 vStore1 ad (p2.add 2) (.slice none 0 0) fun o=>
 ldI .i64 o p2 fun e=>
 ldI .i64 o (p2.add 1) fun f=>
 ldV o (p2.add 2) fun g=>
 R (.tuple #[.agg #[zi e,zi f,g],zi 2]) o
 else
 J t
 )/\∀ (_:Env) (u:Heap),J u ->
 lq1 (0:Int) u fun ae n y a0=>
 zV 145 #[zi y,zi a,zi b] a0 fun af a1=>
 vNewS a1 (.cells #[zi 1] 2) 1 fun ag a2=>
 vAppend 1 8 [zi 0] 2 af ag a2 fun ah a3=>
 zB 144 #[ah,zi a] a3 fun ai v=>
 bif !ai then
 ag1 ae n (zw (y+1)) v
 else
 zV 145 #[zi y,zi a,zi b] v fun aj a4=>
 vNewS a4 (.cells #[zi 1] 2) 1 fun ak a5=>
 vAppend 1 8 [zi 0] 2 aj ak a5 fun w a6=>
 vOne w fun _=>
 vStore1 a6 p2 (zi a) fun a7=>
 vStore1 a7 (p2.add 1) (zi b) fun a8=>
 vStore1 a8 (p2.add 2) w fun c=>
 ldI .i64 c p2 fun i=>
 ldI .i64 c (p2.add 1) fun j=>
 ldV c (p2.add 2) fun k=>
 R (.tuple #[.agg #[zi i,zi j,k],zi 0]) c):CallsH P 94 #[zi x] h R:=zv ⟨[(5,[(6,.i .i64)])],[(4,[])],[]⟩ Tryz.func94 hv
theorem ZFg {o p:Int} {r:Value} (hv:
 vNew h (.cells #[zi o,zi p,r] 28) fun p1 a3=>
 vNew a3 (.cells #[zi 0,zi 0,.slice none 0 0,.slice none 0 0] 62) fun p2 v=>
 ldI .i64 v (p1.add 1) fun x7=>
 CallsH P 94 #[zi x7] v fun r8 a4=>∃ c,∃ e,∃ (f:Value),∃ y,r8=.tuple #[.agg #[zi c,zi e,f],zi y] /\
 vNew a4 (.cells #[zi 0,zi 0,.slice none 0 0] 60) fun g a5=>
 vStore1 a5 g (zi c) fun a6=>
 vStore1 a6 (g.add 1) (zi e) fun a7=>
 vStore1 a7 (g.add 2) f fun b=>
 ∃ B:Nat->Prop,
 ldV b (p1.add 2) fun a8=>
 zV 82 #[a8] b fun w x=>
 ExtBut B b x /\
 ldI .i64 (hmask B b) g fun s=>
 ldI .i64 (hmask B b) (g.add 1) fun t=>
 ldV (hmask B b) (g.add 2) fun u=>
 vOne w fun _=>
 vStore1 x p2 (zi s) fun a0=>
 vStore1 a0 (p2.add 1) (zi t) fun a1=>
 vStore1 a1 (p2.add 2) u fun a2=>
 vStore1 a2 (p2.add 3) w fun a=>
 ldI .i64 a p2 fun i=>
 ldI .i64 a (p2.add 1) fun j=>
 ldV a (p2.add 2) fun k=>
 ldV a (p2.add 3) fun l=>
 R (.agg #[zi i,zi j,k,l]) a):CallsH P 44 #[.agg #[zi o,zi p,r]] h R:=zv ⟨[],[],[]⟩ Tryz.func44 hv
theorem ZzI {v0:Value} (f:
 vLen v0 fun g=>
 lq1 (0:Int) h fun J n c a=>
 bif decide (c<(g:Int)) then
 vIdx v0 c 1 fun e=>
 ldI .i64 a e fun b=>
 bif b !=0 then
 R (zi b) a
 else
 ag1 J n (zw (c+1)) a
 else
 R (zi 0) a):CallsH P 188 #[v0] h R:=zv ⟨[(3,[(8,.i .i64)])],[],[]⟩ Tryz.func188 f
theorem ZFn {b c e f:Int} (v:
 vNew h (.cells #[zi b,zi c] 110) fun p2 i=>
 vNew i (.cells #[zi e,zi f] 110) fun j a=>
 ∃ B:Nat->Prop,
 ldI .i64 a p2 fun w=>
 ldI .i64 a j fun x=>
 zI 131 #[zi w,zi x] a fun y g=>
 ExtBut B a g /\
 ldI .i64 (hmask B a) (p2.add 1) fun k=>
 ldI .i64 (hmask B a) (j.add 1) fun l=>
 zI 131 #[zi k,zi l] g fun o p=>
 vNewS p (.cells #[zi y,zi o] t_int) 2 fun r s=>
 zI 188 #[r] s fun t u=>
 R (zi t) u):CallsH P 146 #[.agg #[zi b,zi c],.agg #[zi e,zi f]] h R:=zv ⟨[],[],[]⟩ Tryz.func146 v
theorem Zwp {a:Int} (c:
 zB 48 #[zi a,zi 0,zi 63] h fun e b=>
 R (.bool e) b):CallsH P 190 #[zi a] h R:=zv ⟨[],[],[]⟩ Tryz.func190 c
theorem Zzw {a:Int} (c:
 zB 190 #[zi a] h fun e b=>
 R (.bool (!e)) b):CallsH P 189 #[zi a] h R:=zv ⟨[],[],[]⟩ Tryz.func189 c
theorem ZAl {v0:Value} (b:
 vLen v0 fun c=>
 bif decide ((c:Int)<=64) then
 zB 84 #[v0,.func (.func 189) #[] #[]] h fun e a=>
 R (.bool (!e)) a
 else
 R (.bool false) h):CallsH P 147 #[v0] h R:=zv ⟨[],[],[]⟩ Tryz.func147 b
theorem ZxR {g i:Value} (hv:
 vNew h (.cells #[g,i] 39) fun p1 t=>
 ldV t (p1.add 1) fun x=>
 vLen x fun n7=>
 lq1 (0:Int) t fun J n f c=>
 bif decide (f<(n7:Int)) then
 vIdx x f 2 fun u=>
 ldI .i64 c u fun k=>
 ldI .i64 c (u.add 1) fun l=>
 vNew c (.cells #[zi 0,zi 0] 110) fun e y=>
 vStore1 y e (zi k) fun a0=>
 vStore1 a0 (e.add 1) (zi l) fun a=>
 ∃ B:Nat->Prop,
 ldI .i64 a e fun a1=>
 bif decide (a1<0) then
 R (.bool false) a
 else
 ldI .i64 a e fun a2=>
 ldI .i64 a (e.add 1) fun a3=>
 bif decide (a2>=a3) then
 R (.bool false) a
 else
 ldV a p1 fun a4=>
 zI 83 #[a4] a fun a5 b=>
 ExtBut B a b /\
 ldI .i64 (hmask B a) (e.add 1) fun a6=>
 bif decide (a6>=a5) then
 R (.bool false) b
 else
 bif decide (f>0) then
 ldV b (p1.add 1) fun a7=>
 vIdx a7 (zw (f-1)) 2 fun v=>
 ldI .i64 b v fun o=>
 ldI .i64 b (v.add 1) fun p=>
 ldI .i64 b e fun r=>
 ldI .i64 b (e.add 1) fun s=>
 zI 146 #[.agg #[zi o,zi p],.agg #[zi r,zi s]] b fun a8 w=>
 bif decide (a8>=0) then
 R (.bool false) w
 else
 ag1 J n (zw (f+1)) w
 else
 ag1 J n (zw (f+1)) b
 else
 ldV c p1 fun a9=>
 zB 147 #[a9] c fun aa j=>
 bif aa then
 ldV j (p1.add 1) fun ab=>
 vLen ab fun ac=>
 R (.bool (decide ((ac:Int)<=512))) j
 else
 R (.bool false) j):CallsH P 95 #[.agg #[g,i]] h R:=zv ⟨[(2,[(8,.i .i64)])],[],[]⟩ Tryz.func95 hv
theorem ZxA {o p:Int} {r:Value} (hv:
 vNew h (.cells #[zi o,zi p,r] 28) fun p1 ad=>
 vNew ad (.cells #[.slice none 0 0,.slice none 0 0] 39) fun p2 a5=>
 ldI .i64 a5 (p1.add 1) fun x8=>
 zB 48 #[zi x8,zi 0,zi 64] a5 fun b9 s=>
 bif !b9 then
 vStore1 s p2 (.slice none 0 0) fun ae=>
 vStore1 ae (p2.add 1) (.slice none 0 0) fun t=>
 ldV t p2 fun k=>
 ldV t (p2.add 1) fun l=>
 R (.tuple #[.agg #[k,l],.bool false]) t
 else
 ldI .i64 s (p1.add 1) fun a6=>
 vMake 8 [zi 0] 2 a6 a6 s fun a7 af=>
 vOne a7 fun _=>
 vNew af (.cells #[.slice none 0 0,.slice none 0 0] 39) fun b ag=>
 vStore1 ag b a7 fun ah=>
 vStore1 ah (b.add 1) (.slice none 0 0) fun u=>
 ldV u (p1.add 2) fun a8=>
 vLen a8 fun ai=>
 lq1 (0:Int) u fun J n v a=>
 bif decide (v<(ai:Int)) then
 vIdx a8 v 1 fun aj=>
 ldV a aj fun w=>
 vLen w fun ak=>
 bif (ak:Int) !=2 then
 vStore1 a p2 (.slice none 0 0) fun a9=>
 vStore1 a9 (p2.add 1) (.slice none 0 0) fun i=>
 ldV i p2 fun c=>
 ldV i (p2.add 1) fun e=>
 R (.tuple #[.agg #[c,e],.bool false]) i
 else
 ∃ B:Nat->Prop,
 vIdx w 0 1 fun al=>
 ldI .i64 a al fun am=>
 vIdx w 1 1 fun an=>
 ldI .i64 a an fun ao=>
 vNewS a (.cells #[zi am,zi ao] 110) 1 fun ap x=>
 ExtBut B a x /\
 ldV (hmask B a) (b.add 1) fun aq=>
 vAppend 2 16 [zi 0,zi 0] 110 aq ap x fun ar aa=>
 vStore1 aa (b.add 1) ar fun ab=>
 ag1 J n (zw (v+1)) ab
 else
 ∃ y:Nat->Prop,
 ldV a b fun a1=>
 ldV a (b.add 1) fun a2=>
 zB 95 #[.agg #[a1,a2]] a fun au a0=>
 ExtBut y a a0 /\
 ldV (hmask y a) b fun a3=>
 ldV (hmask y a) (b.add 1) fun a4=>
 vStore1 a0 p2 a3 fun ac=>
 vStore1 ac (p2.add 1) a4 fun j=>
 ldV j p2 fun f=>
 ldV j (p2.add 1) fun g=>
 R (.tuple #[.agg #[f,g],.bool au]) j):CallsH P 45 #[.agg #[zi o,zi p,r]] h R:=zv ⟨[(5,[(19,.i .i64)])],[],[]⟩ Tryz.func45 hv
theorem ZBR {c:Int} (j:
 vMake 8 [zi 0] 2 c c h fun e f=>
 vLen e fun k=>
 lq1 (0:Int) f fun J n a b=>
 bif decide (a<(k:Int)) then
 vIdx e a 1 fun g=>
 vStore1 b g (zi a) fun i=>
 ag1 J n (zw (a+1)) i
 else
 R e b):CallsH P 191 #[zi c] h R:=zv ⟨[(3,[(9,.i .i64)])],[],[]⟩ Tryz.func191 j
theorem Zw5 {v0:Value} (p:
 vLen v0 fun c=>
 vMake 1 [.int .u8 0] 5 (c:Int) (c:Int) h fun e f=>
 vLen v0 fun g=>
 lq1 (0:Int) f fun J n a b=>
 bif decide (a<(g:Int)) then
 vIdx v0 a 1 fun i=>
 ldI .i64 b i fun j=>
 vIdx e a 1 fun k=>
 vStore1 b k (.int .u8 (IntKind.u8.wrap j)) fun l=>
 ag1 J n (zw (a+1)) l
 else
 vB2S e b fun o=>
 R (.string o) b):CallsH P 192 #[v0] h R:=zv ⟨[(3,[(11,.i .i64)])],[],[]⟩ Tryz.func192 p
theorem ZwA {v0 v1:Value} (r:
 vLen v0 fun e=>
 vMake 8 [zi 0] 2 (e:Int) (e:Int) h fun c f=>
 vLen c fun g=>
 lq1 (0:Int) f fun J n a b=>
 bif decide (a<(g:Int)) then
 vIdx v0 a 1 fun i=>
 ldI .i64 b i fun j=>
 vIdx v1 j 1 fun k=>
 ldI .i64 b k fun l=>
 vIdx c a 1 fun o=>
 vStore1 b o (zi l) fun p=>
 ag1 J n (zw (a+1)) p
 else
 R c b):CallsH P 193 #[v0,v1] h R:=zv ⟨[(3,[(12,.i .i64)])],[],[]⟩ Tryz.func193 r
theorem Zw4 {y:Int} {v1:Value} (hv:
 zV 191 #[zi y] h fun j a0=>
 vOne j fun _=>
 vNewS a0 (.cells #[j] 36) 1 fun k a1=>
 vMapNew a1 fun f l=>
 vIdx k 0 1 fun a2=>
 ldV l a2 fun a3=>
 zS 192 #[a3] l fun a4 a5=>
 vMapSet .str f (.string a4) (.bool true) a5 fun a6=>
 lq2 k (0:Int) a6 fun J n i t o=>
 vLen i fun a7=>
 bif decide (t<(a7:Int)) then
 vLen v1 fun a8=>
 lq2 i (0:Int) o fun p r a e b=>
 bif decide (e<(a8:Int)) then
 vIdx v1 e 1 fun a9=>
 ldV b a9 fun aa=>
 vIdx a t 1 fun ab=>
 ldV b ab fun ac=>
 zV 193 #[ac,aa] b fun g ad=>
 zS 192 #[g] ad fun s c=>
 mapGetB .str f (.string s) c fun ae=>
 bif !ae then
 vMapSet .str f (.string s) (.bool true) c fun u=>
 vOne g fun _=>
 vNewS u (.cells #[g] 36) 1 fun af v=>
 vAppend 1 24 [.slice none 0 0] 36 a af v fun ag w=>
 ag2 p r ag (zw (e+1)) w
 else
 ag2 p r a (zw (e+1)) c
 else
 vLen a fun ah=>
 bif decide ((ah:Int)>720) then
 R (.tuple #[(.slice none 0 0),.bool false]) b
 else
 ag2 J n a (zw (t+1)) b
 else
 CallsH P 194 #[i,.func (.func 81) #[] #[]] o fun ai x=>ai=.tuple #[] /\
 R (.tuple #[i,.bool true]) x):CallsH P 148 #[zi y,v1] h R:=zv ⟨[(4,[(6,.v),(8,.i .i64)]),(7,[(6,.v),(30,.i .i64)])],[],[]⟩ Tryz.func148 hv
theorem ZwJ {v0 v1:Value} {f:Nat} {e:List Value} (v:
 vLen v0 fun g=>
 lq2 (0:Int) (g:Int) h fun J n a b c=>
 bif decide (a<b) then
 (0:Int)<=1 /\
 vIdx v0 (zw (Int.fdiv (IntKind.u64.wrap (zw (a+b))) (2^min (1:Int).toNat IntKind.u64.bits))) 1 fun l=>
 ldV c l fun o=>
 vOkf ctx f fun _=>
 CallsH P f (([o,v1]:List Value)++e).toArray c fun p i=>∃ j,p=zi j /\
 bif decide (j<0) then
 ag2 J n (zw ((zw (Int.fdiv (IntKind.u64.wrap (zw (a+b))) (2^min (1:Int).toNat IntKind.u64.bits)))+1)) b i
 else
 ag2 J n a (zw (Int.fdiv (IntKind.u64.wrap (zw (a+b))) (2^min (1:Int).toNat IntKind.u64.bits))) i
 else
 bif decide (a<(g:Int)) then
 vIdx v0 a 1 fun r=>
 ldV c r fun s=>
 vOkf ctx f fun _=>
 CallsH P f (([s,v1]:List Value)++e).toArray c fun t u=>∃ k,t=zi k /\
 R (.tuple #[zi a,.bool (k==0)]) u
 else
 R (.tuple #[zi a,.bool false]) c):CallsH P 149 #[v0,v1,.func (.func f) #[] e.toArray] h R:=zv ⟨[(3,[(9,.i .i64),(10,.i .i64)])],[],[]⟩ Tryz.func149 v
theorem ZEp {v:Int} {v1:Value} (hv:
 CallsH P 148 #[zi v,(.slice none 0 0)] h fun w x=>∃ (b:Value),∃ (c:Bool),w=.tuple #[b,.bool c] /\
 vLen v1 fun y=>
 lq4 ((.slice none 0 0):Value) b c (0:Int) x fun J n l o p a i=>
 bif decide (a<(y:Int)) then
 vIdx v1 a 1 fun a0=>
 ldV i a0 fun j=>
 ∃ s:Heap->Prop,(
 CallsH P 149 #[o,j,.func (.func 81) #[] #[]] i fun a1 k=>∃ r,∃ (e:Bool),a1=.tuple #[zi r,.bool e] /\
 bif e then
 ag4 J n l o p (zw (a+1)) k
 else
 bif !p then
 ag4 J n l o p (zw (a+1)) k
 else
 s k
 )/\∀ (_:Env) (t:Heap),s t ->
 vOne j fun _=>
 vNewS t (.cells #[j] 36) 1 fun a2 a3=>
 vAppend 1 24 [.slice none 0 0] 36 l a2 a3 fun u a4=>
 CallsH P 148 #[zi v,u] a4 fun a5 a6=>∃ (f:Value),∃ (g:Bool),a5=.tuple #[f,.bool g] /\
 ag4 J n u f g (zw (a+1)) a6
 else
 R (.tuple #[l,o,.bool p]) i):CallsH P 96 #[zi v,v1] h R:=zv ⟨[(4,[(7,.v),(8,.v),(9,.b),(21,.i .i64)])],[(8,[])],[]⟩ Tryz.func96 hv
theorem ZDA {f:Int} {g:Value} (hv:
 vNew h (.cells #[zi f,g] 71) fun p1 l=>
 ∃ J:Heap->Prop,(
 ldI .i64 l p1 fun x8=>
 zB 48 #[zi x8,zi 1,zi 32] l fun b9 b=>
 bif !b9 then
 R (.bool false) b
 else
 ldV b (p1.add 1) fun s=>
 vLen s fun t=>
 bif decide ((t:Int)<1) then
 R (.bool false) b
 else
 ldV b (p1.add 1) fun u=>
 vLen u fun v=>
 bif decide ((v:Int)>720) then
 R (.bool false) b
 else
 ldI .i64 b p1 fun w=>
 ldV b (p1.add 1) fun x=>
 zB 77 #[zi w,x] b fun y o=>
 bif !y then
 R (.bool false) o
 else
 J o
 )/\∀ (_:Env) (p:Heap),J p ->
 lq1 (1:Int) p fun a0 n j a=>
 ldV a (p1.add 1) fun a1=>
 vLen a1 fun a2=>
 bif decide (j<(a2:Int)) then
 ldV a (p1.add 1) fun a3=>
 vIdx a3 (zw (j-1)) 1 fun a4=>
 ldV a a4 fun a5=>
 ldV a (p1.add 1) fun a6=>
 vIdx a6 j 1 fun a7=>
 ldV a a7 fun a8=>
 zI 81 #[a5,a8] a fun a9 r=>
 bif decide (a9>=0) then
 R (.bool false) r
 else
 ag1 a0 n (zw (j+1)) r
 else
 ldI .i64 a p1 fun aa=>
 ldV a (p1.add 1) fun ab=>
 CallsH P 96 #[zi aa,ab] a fun ac i=>∃ (k:Value),∃ (c:Value),∃ (e:Bool),ac=.tuple #[k,c,.bool e] /\
 bif e then
 vLen c fun ad=>
 ldV i (p1.add 1) fun ae=>
 vLen ae fun af=>
 R (.bool ((ad:Int)==(af:Int))) i
 else
 R (.bool false) i):CallsH P 46 #[.agg #[zi f,g]] h R:=zv ⟨[(4,[(3,.i .i64)])],[(3,[])],[]⟩ Tryz.func46 hv
theorem ZyN {e f:Int} {g:Value} (p:
 vNew h (.cells #[zi e,zi f,g] 28) fun p1 k=>
 vNew k (.cells #[zi 0,.slice none 0 0] 71) fun p2 a=>
 ∃ B:Nat->Prop,
 ldV a (p1.add 2) fun r=>
 zV 82 #[r] a fun l j=>
 ExtBut B a j /\
 ldI .i64 (hmask B a) (p1.add 1) fun s=>
 vOne l fun _=>
 vStore1 j p2 (zi s) fun o=>
 vStore1 o (p2.add 1) l fun i=>
 ldI .i64 i p2 fun b=>
 ldV i (p2.add 1) fun c=>
 R (.agg #[zi b,c]) i):CallsH P 47 #[.agg #[zi e,zi f,g]] h R:=zv ⟨[],[],[]⟩ Tryz.func47 p
theorem ZDZ {x y:Int} {a0:Value} (hv:
 vNew h (.cells #[zi x,zi y,a0] 28) fun p1 a=>
 ldI .i64 a p1 fun t=>
 bif t==1 then
 ∃ B:Nat->Prop,
 ldV a (p1.add 2) fun aq=>
 zI 36 #[aq] a fun ar u=>
 ExtBut B a u /\
 ldI .i64 (hmask B a) (p1.add 1) fun au=>
 bif ar==au then
 ldV u (p1.add 2) fun av=>
 zB 37 #[av] u fun aw ax=>
 R (.bool aw) ax
 else
 R (.bool false) u
 else
 bif t==2 then
 ldI .i64 a p1 fun a1=>
 ldI .i64 a (p1.add 1) fun a2=>
 ldV a (p1.add 2) fun a3=>
 CallsH P 39 #[.agg #[zi a1,zi a2,a3]] a fun ay az=>∃ b,∃ (c:Value),ay=.agg #[zi b,c] /\
 zB 38 #[.agg #[zi b,c]] az fun b0 b1=>
 R (.bool b0) b1
 else
 bif t==3 then
 ∃ ag:Nat->Prop,
 ldV a (p1.add 2) fun b2=>
 zI 36 #[b2] a fun b3 v=>
 ExtBut ag a v /\
 ldI .i64 (hmask ag a) (p1.add 1) fun b4=>
 bif b3==b4 then
 ldV v (p1.add 2) fun b5=>
 zB 40 #[b5] v fun b6 b7=>
 R (.bool b6) b7
 else
 R (.bool false) v
 else
 bif t==4 then
 ldV a (p1.add 2) fun b8=>
 vLen b8 fun b9=>
 bif decide ((b9:Int)>0) then
 ldI .i64 a p1 fun a4=>
 ldI .i64 a (p1.add 1) fun a5=>
 ldV a (p1.add 2) fun a6=>
 CallsH P 42 #[.agg #[zi a4,zi a5,a6]] a fun ba bb=>∃ e,∃ f,∃ (g:Value),ba=.agg #[zi e,zi f,g] /\
 zB 41 #[.agg #[zi e,zi f,g]] bb fun bc ah=>
 R (.bool bc) ah
 else
 R (.bool false) a
 else
 bif t==5 then
 ldI .i64 a p1 fun a7=>
 ldI .i64 a (p1.add 1) fun a8=>
 ldV a (p1.add 2) fun a9=>
 CallsH P 44 #[.agg #[zi a7,zi a8,a9]] a fun bd ai=>∃ i,∃ j,∃ (k:Value),∃ (l:Value),bd=.agg #[zi i,zi j,k,l] /\
 zB 43 #[.agg #[zi i,zi j,k,l]] ai fun be aj=>
 R (.bool be) aj
 else
 bif t==6 then
 ldI .i64 a p1 fun aa=>
 ldI .i64 a (p1.add 1) fun ab=>
 ldV a (p1.add 2) fun ac=>
 CallsH P 45 #[.agg #[zi aa,zi ab,ac]] a fun bf ak=>∃ (o:Value),∃ (p:Value),∃ (w:Bool),bf=.tuple #[.agg #[o,p],.bool w] /\
 vNew ak (.cells #[.slice none 0 0,.slice none 0 0] 39) fun p3 al=>
 vStore1 al p3 o fun am=>
 vStore1 am (p3.add 1) p fun an=>
 R (.bool w) an
 else
 bif t==7 then
 ldI .i64 a p1 fun ad=>
 ldI .i64 a (p1.add 1) fun ae=>
 ldV a (p1.add 2) fun af=>
 CallsH P 47 #[.agg #[zi ad,zi ae,af]] a fun bh ao=>∃ r,∃ (s:Value),bh=.agg #[zi r,s] /\
 zB 46 #[.agg #[zi r,s]] ao fun bi ap=>
 R (.bool bi) ap
 else
 R (.bool false) a):CallsH P 15 #[.agg #[zi x,zi y,a0]] h R:=zv ⟨[],[],[]⟩ Tryz.func15 hv
theorem ZAH {a:Int} (c:
 zB 48 #[zi a,zi 1,zi 20000] h fun e b=>
 R (.bool e) b):CallsH P 16 #[zi a] h R:=zv ⟨[],[],[]⟩ Tryz.func16 c
theorem ZAC {v0:Value} (hv:
 vLen v0 fun n7=>
 bif decide ((n7:Int)<2) then
 R v0 h
 else
 lq1 (1:Int) h fun J n f b=>
 vLen v0 fun a4=>
 bif decide (f<(a4:Int)) then
 vIdx v0 f 2 fun v=>
 ldI .i64 b v fun i=>
 ldI .i64 b (v.add 1) fun j=>
 vIdx v0 (zw (f-1)) 2 fun w=>
 ldI .i64 b w fun k=>
 ldI .i64 b (w.add 1) fun l=>
 bif i==k&&j==l then
 vSliceS v0 2 (some (zi f)) none none fun e=>
 lq2 f (1:Int) b fun x y c g a=>
 vLen e fun a5=>
 bif decide (g<(a5:Int)) then
 vIdx e g 2 fun a0=>
 ldI .i64 a a0 fun o=>
 ldI .i64 a (a0.add 1) fun p=>
 vIdx e (zw (g-1)) 2 fun a1=>
 ldI .i64 a a1 fun r=>
 ldI .i64 a (a1.add 1) fun s=>
 bif !(o==r&&p==s) then
 vIdx e g 2 fun a2=>
 ldI .i64 a a2 fun t=>
 ldI .i64 a (a2.add 1) fun u=>
 vIdx v0 c 2 fun a3=>
 vStore1 a a3 (zi t) fun a6=>
 vStore1 a6 (a3.add 1) (zi u) fun a7=>
 ag2 x y (zw (c+1)) (zw (g+1)) a7
 else
 ag2 x y c (zw (g+1)) a
 else
 vSliceS v0 2 (some (zi c)) none none fun a8=>
 vClear [zi 0,zi 0] a8 a fun _ a9=>
 vSliceS v0 2 none (some (zi c)) none fun aa=>
 R aa a9
 else
 ag1 J n (zw (f+1)) b
 else
 R v0 b):CallsH P 196 #[v0] h R:=zv ⟨[(4,[(3,.i .i64)]),(9,[(3,.i .i64),(5,.i .i64)])],[],[]⟩ Tryz.func196 hv
theorem ZCR {v0:Value} (hv:
 vLen v0 fun n7=>
 lq2 ((.slice none 0 0):Value) (0:Int) h fun J n o p b=>
 bif decide (p<(n7:Int)) then
 vIdx v0 p 2 fun g=>
 ldI .i64 b g fun e=>
 ldI .i64 b (g.add 1) fun f=>
 vNew b (.cells #[zi 0,zi 0] 110) fun c r=>
 vStore1 r c (zi e) fun s=>
 vStore1 s (c.add 1) (zi f) fun a=>
 ldI .i64 a c fun i=>
 ldI .i64 a (c.add 1) fun j=>
 ldI .i64 a c fun k=>
 ldI .i64 a (c.add 1) fun l=>
 vNewS a (.cells #[zi (if j<i then j else i),zi (if l>k then l else k)] 110) 1 fun t u=>
 vAppend 2 16 [zi 0,zi 0] 110 o t u fun v w=>
 ag2 J n v (zw (p+1)) w
 else
 CallsH P 195 #[o,.func (.func 146) #[] #[]] b fun x y=>x=.tuple #[] /\
 zV 196 #[o] y fun a0 a1=>
 R a0 a1):CallsH P 150 #[v0] h R:=zv ⟨[(3,[(3,.v),(8,.i .i64)])],[],[]⟩ Tryz.func150 hv
theorem ZFy {v0 v1:Value} (x:
 vNew h (.cells #[.slice none 0 0,.slice none 0 0] 39) fun a k=>
 ∃ J:Heap->Prop,(
 vLen v0 fun y=>
 bif decide ((y:Int)>64) then
 vStore1 k a (.slice none 0 0) fun s=>
 vStore1 s (a.add 1) (.slice none 0 0) fun l=>
 ldV l a fun i=>
 ldV l (a.add 1) fun j=>
 R (.tuple #[.agg #[i,j],zi 5]) l
 else
 vLen v1 fun t=>
 bif decide ((t:Int)>512) then
 vStore1 k a (.slice none 0 0) fun u=>
 vStore1 u (a.add 1) (.slice none 0 0) fun o=>
 ldV o a fun b=>
 ldV o (a.add 1) fun c=>
 R (.tuple #[.agg #[b,c],zi 5]) o
 else
 J k
 )/\∀ (_:Env) (p:Heap),J p ->
 zV 150 #[v1] p fun r v=>
 vOne v0 fun _=>
 vOne r fun _=>
 vStore1 v a v0 fun w=>
 vStore1 w (a.add 1) r fun g=>
 ldV g a fun e=>
 ldV g (a.add 1) fun f=>
 R (.tuple #[.agg #[e,f],zi 0]) g):CallsH P 97 #[v0,v1] h R:=zv ⟨[],[(3,[])],[]⟩ Tryz.func97 x
theorem ZwC {v0:Value} {b1:Bool} (hv:
 vNew h (.cells #[.slice none 0 0,.slice none 0 0] 39) fun b ad=>
 zB 37 #[v0] ad fun ae a3=>
 bif !ae then
 vStore1 a3 b (.slice none 0 0) fun af=>
 vStore1 af (b.add 1) (.slice none 0 0) fun y=>
 ldV y b fun w=>
 ldV y (b.add 1) fun x=>
 R (.tuple #[.agg #[w,x],zi 1]) y
 else
 zI 36 #[v0] a3 fun a a4=>
 bif decide (a>6) then
 vStore1 a4 b (.slice none 0 0) fun ag=>
 vStore1 ag (b.add 1) (.slice none 0 0) fun a0=>
 ldV a0 b fun k=>
 ldV a0 (b.add 1) fun l=>
 R (.tuple #[.agg #[k,l],zi 5]) a0
 else
 lq2 ((.slice none 0 0):Value) (0:Int) a4 fun J n v7 c s=>
 bif decide (c<(zw ((zw (3*a))+(zw (a*a))))) then
 a≠0 /\
 ∃ t:Int->Heap->Prop,(
 bif b1 then
 bif decide (c<(zw (3*a))) then
 t 0 s
 else
 t (if (3:Int)<(zw (Int.tdiv c a)) then 3 else zw (Int.tdiv c a)) s
 else
 t (if (3:Int)<(zw (Int.tdiv c a)) then 3 else zw (Int.tdiv c a)) s
 )/\∀ (_:Env) x9 (a1:Heap),t x9 a1 ->
 vNewS a1 (.cells #[zi x9] 2) 1 fun aj a6=>
 vAppend 1 8 [zi 0] 2 v7 aj a6 fun ak a7=>
 ag2 J n ak (zw (c+1)) a7
 else
 lq2 ((.slice none 0 0):Value) (0:Int) s fun al am a5 e a2=>
 bif decide (e<a) then
 lq2 a5 (0:Int) a2 fun an ao u f j=>
 bif decide (f<a) then
 vIdx v0 e 1 fun ap=>
 ldV j ap fun aq=>
 vIdx aq f 1 fun ar=>
 ldI .i64 j ar fun au=>
 vNewS j (.cells #[zi e,zi (zw ((zw ((zw (3*a))+(zw (a*e))))+f)),zi (zw (a+f)),zi (zw ((zw ((zw (3*a))+(zw (a*e))))+f)),zi (zw ((zw (2*a))+au)),zi (zw ((zw ((zw (3*a))+(zw (a*e))))+f))] 110) 3 fun av a8=>
 vAppend 2 16 [zi 0,zi 0] 110 u av a8 fun aw a9=>
 ag2 an ao aw (zw (f+1)) a9
 else
 ag2 al am u (zw (e+1)) j
 else
 CallsH P 97 #[v7,a5] a2 fun ax aa=>∃ (g:Value),∃ (i:Value),∃ v,ax=.tuple #[.agg #[g,i],zi v] /\
 vStore1 aa b g fun ab=>
 vStore1 ab (b.add 1) i fun r=>
 ldV r b fun o=>
 ldV r (b.add 1) fun p=>
 R (.tuple #[.agg #[o,p],zi v]) r):CallsH P 49 #[v0,.bool b1] h R:=zv ⟨[(8,[(7,.v),(29,.i .i64)]),(17,[(10,.v),(49,.i .i64)]),(20,[(10,.v),(53,.i .i64)])],[(13,[(9,.i .i64)])],[]⟩ Tryz.func49 hv
theorem ZBI {a b:Int} (k:
 vMake 8 [zi 0] 2 (zw (a+b)) (zw (a+b)) h fun c g=>
 lq1 a g fun J n f e=>
 bif decide (f<(zw (a+b))) then
 vIdx c f 1 fun i=>
 vStore1 e i (zi 1) fun j=>
 ag1 J n (zw (f+1)) j
 else
 R c e):CallsH P 151 #[zi a,zi b] h R:=zv ⟨[(3,[(6,.i .i64)])],[],[]⟩ Tryz.func151 k
theorem Zw3 {s:Int} {v1:Value} (hv:
 vNew h (.cells #[.slice none 0 0,.slice none 0 0] 39) fun p u=>
 vLen v1 fun v=>
 lq2 ((.slice none 0 0):Value) (0:Int) u fun J n w e j=>
 bif decide (e<(v:Int)) then
 vIdx v1 e 1 fun x=>
 ldV j x fun r=>
 vLen r fun y=>
 lq2 w (0:Int) j fun a0 a1 k l o=>
 bif decide (l<(y:Int)) then
 vIdx r l 1 fun a2=>
 ldI .i64 o a2 fun a3=>
 vNewS o (.cells #[zi a3,zi (zw (s+e))] 110) 1 fun a4 a5=>
 vAppend 2 16 [zi 0,zi 0] 110 k a4 a5 fun a6 a7=>
 ag2 a0 a1 a6 (zw (l+1)) a7
 else
 ag2 J n k (zw (e+1)) o
 else
 zI 36 #[v1] j fun a8 a9=>
 zV 151 #[zi s,zi a8] a9 fun aa ab=>
 CallsH P 97 #[aa,w] ab fun ac ad=>∃ (a:Value),∃ (b:Value),∃ f,ac=.tuple #[.agg #[a,b],zi f] /\
 vStore1 ad p a fun t=>
 vStore1 t (p.add 1) b fun c=>
 ldV c p fun g=>
 ldV c (p.add 1) fun i=>
 R (.tuple #[.agg #[g,i],zi f]) c):CallsH P 98 #[zi s,v1] h R:=zv ⟨[(3,[(6,.v),(13,.i .i64)]),(6,[(6,.v),(20,.i .i64)])],[],[]⟩ Tryz.func98 hv
theorem ZES {k:Int} {l:Value} (hv:
 vNew h (.cells #[zi k,l] 53) fun p1 u=>
 vNew u (.cells #[.slice none 0 0,.slice none 0 0] 39) fun p2 o=>
 ldI .i64 o p1 fun s=>
 ldV o (p1.add 1) fun t=>
 zB 38 #[.agg #[zi s,t]] o fun b5 f=>
 bif !b5 then
 vStore1 f p2 (.slice none 0 0) fun v=>
 vStore1 v (p2.add 1) (.slice none 0 0) fun p=>
 ldV p p2 fun i=>
 ldV p (p2.add 1) fun j=>
 R (.tuple #[.agg #[i,j],zi 1]) p
 else
 ldI .i64 f p1 fun x9=>
 ldV f (p1.add 1) fun w=>
 CallsH P 98 #[zi x9,w] f fun x y=>∃ (a:Value),∃ (b:Value),∃ g,x=.tuple #[.agg #[a,b],zi g] /\
 vStore1 y p2 a fun a0=>
 vStore1 a0 (p2.add 1) b fun r=>
 ldV r p2 fun c=>
 ldV r (p2.add 1) fun e=>
 R (.tuple #[.agg #[c,e],zi g]) r):CallsH P 50 #[.agg #[zi k,l]] h R:=zv ⟨[],[],[]⟩ Tryz.func50 hv
theorem ZEc {c:Int} {e f g i v1 v:Value} (hv:
 vNew h (.cells #[zi c,e,f,g,i] 130) fun j s=>
 vIdx v1 0 1 fun w=>
 ldV s w fun x=>
 vLen x fun t=>
 vMake 8 [zi 0] 2 (t:Int) (t:Int) s fun u y=>
 vLen v fun a0=>
 lq1 (0:Int) y fun J n b a=>
 bif decide (b<(a0:Int)) then
 vIdx v b 1 fun a1=>
 ldI .i64 a a1 fun a2=>
 ldI .i64 a j fun k=>
 ldV a (j.add 1) fun l=>
 ldV a (j.add 2) fun o=>
 ldV a (j.add 3) fun p=>
 ldV a (j.add 4) fun r=>
 vIdx v1 b 1 fun a3=>
 ldV a a3 fun a4=>
 CallsH P 140 #[.agg #[zi k,l,o,p,r],u,a4,zi a2] a fun a5 a6=>a5=.tuple #[] /\
 ag1 J n (zw (b+1)) a6
 else
 R u a):CallsH P 152 #[.agg #[zi c,e,f,g,i],v1,v] h R:=zv ⟨[(3,[(17,.i .i64)])],[],[]⟩ Tryz.func152 hv
theorem ZBs {v0:Value} (p:
 vLen v0 fun r=>
 lq2 (0:Int) (zw ((r:Int)-1)) h fun J n b c a=>
 bif decide (b<c) then
 vIdx v0 c 1 fun e=>
 ldI .i64 a e fun f=>
 vIdx v0 b 1 fun g=>
 ldI .i64 a g fun i=>
 vIdx v0 b 1 fun j=>
 vStore1 a j (zi f) fun k=>
 vIdx v0 c 1 fun l=>
 vStore1 k l (zi i) fun o=>
 ag2 J n (zw (b+1)) (zw (c-1)) o
 else
 R (.tuple #[]) a):CallsH P 197 #[v0] h R:=zv ⟨[(1,[(2,.i .i64),(3,.i .i64)])],[],[]⟩ Tryz.func197 p
theorem Zy7 {b c e:Int} (j:
 zV 145 #[zi b,zi c,zi e] h fun a f=>
 CallsH P 197 #[a] f fun g i=>g=.tuple #[] /\
 R a i):CallsH P 153 #[zi b,zi c,zi e] h R:=zv ⟨[],[],[]⟩ Tryz.func153 j
theorem ZCG {k l:Int} {o p:Value} (hv:
 vNew h (.cells #[zi k,zi l,o,p] 62) fun p1 j=>
 ldI .i64 j p1 fun a3=>
 ldI .i64 j (p1.add 1) fun a4=>
 ldV j (p1.add 2) fun a5=>
 CallsH P 91 #[.agg #[zi a3,zi a4,a5]] j fun r9 aa=>∃ c,∃ (e:Value),∃ (f:Value),∃ (g:Value),∃ (i:Value),r9=.agg #[zi c,e,f,g,i] /\
 vNew aa (.cells #[zi 0,.slice none 0 0,.slice none 0 0,.slice none 0 0,.slice none 0 0] 130) fun b ab=>
 vStore1 ab b (zi c) fun ac=>
 vStore1 ac (b.add 1) e fun ad=>
 vStore1 ad (b.add 2) f fun ae=>
 vStore1 ae (b.add 3) g fun af=>
 vStore1 af (b.add 4) i fun a0=>
 ldV a0 (p1.add 3) fun ag=>
 zI 36 #[ag] a0 fun a1 r=>
 ldI .i64 r b fun ah=>
 zI 89 #[zi ah,zi a1,zi 4096] r fun ai a6=>
 lq2 ((.slice none 0 0):Value) (0:Int) a6 fun J n v5 s a=>
 bif decide (s<ai) then
 ∃ B:Nat->Prop,
 ldI .i64 a b fun ak=>
 zV 153 #[zi s,zi ak,zi a1] a fun al t=>
 ExtBut B a t /\
 ldI .i64 (hmask B a) b fun u=>
 ldV (hmask B a) (b.add 1) fun v=>
 ldV (hmask B a) (b.add 2) fun w=>
 ldV (hmask B a) (b.add 3) fun x=>
 ldV (hmask B a) (b.add 4) fun y=>
 ldV (hmask B a) (p1.add 3) fun am=>
 zV 152 #[.agg #[zi u,v,w,x,y],am,al] t fun a2 a7=>
 vOne a2 fun _=>
 vNewS a7 (.cells #[a2] 36) 1 fun an a8=>
 vAppend 1 24 [.slice none 0 0] 36 v5 an a8 fun ao a9=>
 ag2 J n ao (zw (s+1)) a9
 else
 R v5 a):CallsH P 99 #[.agg #[zi k,zi l,o,p]] h R:=zv ⟨[(5,[(5,.v),(17,.i .i64)])],[],[]⟩ Tryz.func99 hv
theorem Zxd {v0:Value} (l:
 vLen v0 fun o=>
 lq2 ((.slice none 0 0):Value) (0:Int) h fun J n c b a=>
 bif decide (b<(o:Int)) then
 vIdx v0 b 1 fun e=>
 ldI .i64 a e fun f=>
 bif f !=0 then
 vNewS a (.cells #[zi b] 2) 1 fun g i=>
 vAppend 1 8 [zi 0] 2 c g i fun j k=>
 ag2 J n j (zw (b+1)) k
 else
 ag2 J n c (zw (b+1)) a
 else
 R c a):CallsH P 100 #[v0] h R:=zv ⟨[(3,[(3,.v),(8,.i .i64)])],[],[]⟩ Tryz.func100 l
theorem Zzm {a b:Int} {c e:Value} (i:
 vNew h (.cells #[zi a,zi b,c,e] 62) fun p1 f=>
 ldV f (p1.add 3) fun j=>
 vIdx j 0 1 fun k=>
 ldV f k fun l=>
 zI 83 #[l] f fun o g=>
 R (zi o) g):CallsH P 101 #[.agg #[zi a,zi b,c,e]] h R:=zv ⟨[],[],[]⟩ Tryz.func101 i
theorem ZD1 {t u:Int} {v w:Value} (hv:
 vNew h (.cells #[zi t,zi u,v,w] 62) fun p1 ap=>
 vNew ap (.cells #[.slice none 0 0,.slice none 0 0] 39) fun p2 f=>
 ldI .i64 f p1 fun ae=>
 ldI .i64 f (p1.add 1) fun af=>
 ldV f (p1.add 2) fun ag=>
 ldV f (p1.add 3) fun ah=>
 zB 43 #[.agg #[zi ae,zi af,ag,ah]] f fun b8 g=>
 bif !b8 then
 vStore1 g p2 (.slice none 0 0) fun aq=>
 vStore1 aq (p2.add 1) (.slice none 0 0) fun x=>
 ldV x p2 fun r=>
 ldV x (p2.add 1) fun s=>
 R (.tuple #[.agg #[r,s],zi 1]) x
 else
 ldI .i64 g p1 fun a1=>
 ldI .i64 g (p1.add 1) fun a2=>
 ldV g (p1.add 2) fun a3=>
 zI 90 #[.agg #[zi a1,zi a2,a3]] g fun ar b=>
 bif ar !=2 then
 vStore1 b p2 (.slice none 0 0) fun au=>
 vStore1 au (p2.add 1) (.slice none 0 0) fun y=>
 ldV y p2 fun i=>
 ldV y (p2.add 1) fun j=>
 R (.tuple #[.agg #[i,j],zi 6]) y
 else
 ldI .i64 b p1 fun a4=>
 ldI .i64 b (p1.add 1) fun a5=>
 ldV b (p1.add 2) fun a6=>
 ldV b (p1.add 3) fun a7=>
 zV 99 #[.agg #[zi a4,zi a5,a6,a7]] b fun av ai=>
 vSliceS av 1 (some (zi 1)) none none fun ac=>
 vLen ac fun aw=>
 lq2 ((.slice none 0 0):Value) (0:Int) ai fun J n v4 a0 a=>
 bif decide (a0<(aw:Int)) then
 vIdx ac a0 1 fun ay=>
 ldV a ay fun az=>
 zV 100 #[az] a fun ad aj=>
 vOne ad fun _=>
 vNewS aj (.cells #[ad] 36) 1 fun b0 ak=>
 vAppend 1 24 [.slice none 0 0] 36 v4 b0 ak fun b1 al=>
 ag2 J n b1 (zw (a0+1)) al
 else
 ldI .i64 a p1 fun a8=>
 ldI .i64 a (p1.add 1) fun a9=>
 ldV a (p1.add 2) fun aa=>
 ldV a (p1.add 3) fun ab=>
 zI 101 #[.agg #[zi a8,zi a9,aa,ab]] a fun b2 am=>
 CallsH P 98 #[zi b2,v4] am fun b3 an=>∃ (c:Value),∃ (e:Value),∃ p,b3=.tuple #[.agg #[c,e],zi p] /\
 vStore1 an p2 c fun ao=>
 vStore1 ao (p2.add 1) e fun o=>
 ldV o p2 fun k=>
 ldV o (p2.add 1) fun l=>
 R (.tuple #[.agg #[k,l],zi p]) o):CallsH P 51 #[.agg #[zi t,zi u,v,w]] h R:=zv ⟨[(7,[(4,.v),(20,.i .i64)])],[],[]⟩ Tryz.func51 hv
theorem ZAa {c e:Int} {f:Value} {k:Int} (o:
 vNew h (.cells #[zi c,zi e,f] 28) fun p2 a=>
 ldI .i64 a p2 fun g=>
 ldI .i64 a (p2.add 1) fun i=>
 ldV a (p2.add 2) fun j=>
 zB 15 #[.agg #[zi g,zi i,j]] a fun p b=>
 bif !p then
 R (zi 1) b
 else
 ldI .i64 b p2 fun l=>
 bif l !=k then
 R (zi 6) b
 else
 R (zi 0) b):CallsH P 102 #[.agg #[zi c,zi e,f],zi k] h R:=zv ⟨[],[],[]⟩ Tryz.func102 o
theorem ZvS {o p:Int} {r:Value} (hv:
 vNew h (.cells #[zi o,zi p,r] 28) fun p1 a5=>
 vNew a5 (.cells #[.slice none 0 0,.slice none 0 0] 39) fun p2 j=>
 ldI .i64 j p1 fun a1=>
 ldI .i64 j (p1.add 1) fun a2=>
 ldV j (p1.add 2) fun a3=>
 zI 102 #[.agg #[zi a1,zi a2,a3],zi 6] j fun x8 c=>
 bif x8 !=0 then
 vStore1 c p2 (.slice none 0 0) fun a7=>
 vStore1 a7 (p2.add 1) (.slice none 0 0) fun s=>
 ldV s p2 fun k=>
 ldV s (p2.add 1) fun l=>
 R (.tuple #[.agg #[k,l],zi x8]) s
 else
 ldI .i64 c p1 fun t=>
 ldI .i64 c (p1.add 1) fun u=>
 ldV c (p1.add 2) fun v=>
 CallsH P 45 #[.agg #[zi t,zi u,v]] c fun a8 a9=>∃ (a:Value),∃ (b:Value),∃ (w:Bool),a8=.tuple #[.agg #[a,b],.bool w] /\
 vNew a9 (.cells #[.slice none 0 0,.slice none 0 0] 39) fun x aa=>
 vStore1 aa x a fun ab=>
 vStore1 ab (x.add 1) b fun g=>
 ldV g x fun y=>
 ldV g (x.add 1) fun a0=>
 vStore1 g p2 y fun a4=>
 vStore1 a4 (p2.add 1) a0 fun i=>
 ldV i p2 fun e=>
 ldV i (p2.add 1) fun f=>
 R (.tuple #[.agg #[e,f],zi 0]) i):CallsH P 52 #[.agg #[zi o,zi p,r]] h R:=zv ⟨[],[],[]⟩ Tryz.func52 hv
theorem ZCV {ad ae:Int} {af:Value} (hv:
 vNew h (.cells #[zi ad,zi ae,af] 28) fun p1 az=>
 vNew az (.cells #[.slice none 0 0,.slice none 0 0] 39) fun p2 a=>
 ldI .i64 a p1 fun x5=>
 bif x5==1 then
 ldV a (p1.add 2) fun v9=>
 CallsH P 49 #[v9,.bool false] a fun b0 b1=>∃ (b:Value),∃ (c:Value),∃ a7,b0=.tuple #[.agg #[b,c],zi a7] /\
 vStore1 b1 p2 b fun b2=>
 vStore1 b2 (p2.add 1) c fun ag=>
 ldV ag p2 fun ab=>
 ldV ag (p2.add 1) fun ac=>
 R (.tuple #[.agg #[ab,ac],zi a7]) ag
 else
 bif x5==2 then
 ldI .i64 a p1 fun ai=>
 ldI .i64 a (p1.add 1) fun aj=>
 ldV a (p1.add 2) fun ak=>
 CallsH P 39 #[.agg #[zi ai,zi aj,ak]] a fun b3 b4=>∃ e,∃ (f:Value),b3=.agg #[zi e,f] /\
 CallsH P 50 #[.agg #[zi e,f]] b4 fun b5 b6=>∃ (g:Value),∃ (i:Value),∃ a8,b5=.tuple #[.agg #[g,i],zi a8] /\
 vStore1 b6 p2 g fun b7=>
 vStore1 b7 (p2.add 1) i fun a3=>
 ldV a3 p2 fun u=>
 ldV a3 (p2.add 1) fun v=>
 R (.tuple #[.agg #[u,v],zi a8]) a3
 else
 bif x5==5 then
 ldI .i64 a p1 fun al=>
 ldI .i64 a (p1.add 1) fun am=>
 ldV a (p1.add 2) fun an=>
 CallsH P 44 #[.agg #[zi al,zi am,an]] a fun b8 ar=>∃ j,∃ k,∃ (l:Value),∃ (o:Value),b8=.agg #[zi j,zi k,l,o] /\
 CallsH P 51 #[.agg #[zi j,zi k,l,o]] ar fun b9 au=>∃ (p:Value),∃ (r:Value),∃ a9,b9=.tuple #[.agg #[p,r],zi a9] /\
 vStore1 au p2 p fun av=>
 vStore1 av (p2.add 1) r fun a4=>
 ldV a4 p2 fun w=>
 ldV a4 (p2.add 1) fun x=>
 R (.tuple #[.agg #[w,x],zi a9]) a4
 else
 bif x5==6 then
 ldI .i64 a p1 fun ao=>
 ldI .i64 a (p1.add 1) fun ap=>
 ldV a (p1.add 2) fun aq=>
 CallsH P 52 #[.agg #[zi ao,zi ap,aq]] a fun ba aw=>∃ (s:Value),∃ (t:Value),∃ aa,ba=.tuple #[.agg #[s,t],zi aa] /\
 vStore1 aw p2 s fun ax=>
 vStore1 ax (p2.add 1) t fun a5=>
 ldV a5 p2 fun y=>
 ldV a5 (p2.add 1) fun a0=>
 R (.tuple #[.agg #[y,a0],zi aa]) a5
 else
 vStore1 a p2 (.slice none 0 0) fun ay=>
 vStore1 ay (p2.add 1) (.slice none 0 0) fun a6=>
 ldV a6 p2 fun a1=>
 ldV a6 (p2.add 1) fun a2=>
 R (.tuple #[.agg #[a1,a2],zi 6]) a6):CallsH P 17 #[.agg #[zi ad,zi ae,af]] h R:=zv ⟨[],[],[]⟩ Tryz.func17 hv
theorem ZAi {j k:Value} (hv:
 vNew h (.cells #[j,k] 39) fun p1 u=>
 ldV u p1 fun v9=>
 vLen v9 fun v=>
 vMake 24 [.slice none 0 0] 36 (v:Int) (v:Int) u fun b w=>
 ldV w (p1.add 1) fun x=>
 vLen x fun a4=>
 lq1 (0:Int) w fun J n l i=>
 bif decide (l<(a4:Int)) then
 vIdx x l 2 fun y=>
 ldI .i64 i y fun s=>
 ldI .i64 i (y.add 1) fun t=>
 vNew i (.cells #[zi 0,zi 0] 110) fun e a5=>
 vStore1 a5 e (zi s) fun a6=>
 vStore1 a6 (e.add 1) (zi t) fun c=>
 ∃ B:Nat->Prop,
 ldI .i64 c (e.add 1) fun a7=>
 vNewS c (.cells #[zi a7] 2) 1 fun a8 a0=>
 ExtBut B c a0 /\
 ldI .i64 (hmask B c) e fun a9=>
 vIdx b a9 1 fun aa=>
 ldV (hmask B c) aa fun ab=>
 vAppend 1 8 [zi 0] 2 ab a8 a0 fun ac a1=>
 ExtBut B c a1 /\
 ldI .i64 (hmask B c) e fun ad=>
 vIdx b ad 1 fun ae=>
 vStore1 a1 ae ac fun a=>
 ∃ f:Nat->Prop,
 ldI .i64 a e fun af=>
 vNewS a (.cells #[zi af] 2) 1 fun ag o=>
 ExtBut f a o /\
 ldI .i64 (hmask f a) (e.add 1) fun ah=>
 vIdx b ah 1 fun ai=>
 ldV (hmask f a) ai fun aj=>
 vAppend 1 8 [zi 0] 2 aj ag o fun ak p=>
 ExtBut f a p /\
 ldI .i64 (hmask f a) (e.add 1) fun al=>
 vIdx b al 1 fun am=>
 vStore1 p am ak fun a2=>
 ag1 J n (zw (l+1)) a2
 else
 vLen b fun an=>
 lq1 (0:Int) i fun ao ap r g=>
 bif decide (r<(an:Int)) then
 vIdx b r 1 fun aq=>
 ldV g aq fun ar=>
 CallsH P 128 #[ar] g fun au a3=>au=.tuple #[] /\
 ag1 ao ap (zw (r+1)) a3
 else
 R b g):CallsH P 154 #[.agg #[j,k]] h R:=zv ⟨[(3,[(15,.i .i64)]),(9,[(48,.i .i64)])],[],[]⟩ Tryz.func154 hv
theorem ZFa {v0:Value} (c:
 vNilS false v0 fun e=>
 bif e then
 R (.slice none 0 0) h
 else
 vNewS h (.cells #[] 36) 0 fun f a=>
 vAppend 1 24 [.slice none 0 0] 36 f v0 a fun g b=>
 R g b):CallsH P 227 #[v0] h R:=zv ⟨[],[],[]⟩ Tryz.func227 c
theorem ZE6 {v0:Value} {j:Nat} {b:List Value} (hv:
 vLen v0 fun n9=>
 bif decide ((n9:Int)<2) then
 R v0 h
 else
 lq1 (1:Int) h fun J n g c=>
 vLen v0 fun t=>
 bif decide (g<(t:Int)) then
 vIdx v0 g 1 fun u=>
 ldV c u fun v=>
 vIdx v0 (zw (g-1)) 1 fun w=>
 ldV c w fun x=>
 vOkf ctx j fun _=>
 CallsH P j (([v,x]:List Value)++b).toArray c fun y l=>∃ (o:Bool),y=.bool o /\
 bif o then
 vSliceS v0 1 (some (zi g)) none none fun e=>
 lq2 g (1:Int) l fun p r a i f=>
 vLen e fun a0=>
 bif decide (i<(a0:Int)) then
 vIdx e i 1 fun a1=>
 ldV f a1 fun a2=>
 vIdx e (zw (i-1)) 1 fun a3=>
 ldV f a3 fun a4=>
 vOkf ctx j fun _=>
 CallsH P j (([a2,a4]:List Value)++b).toArray f fun a5 k=>∃ (s:Bool),a5=.bool s /\
 bif !s then
 vIdx e i 1 fun a6=>
 ldV k a6 fun a7=>
 vIdx v0 a 1 fun a8=>
 vStore1 k a8 a7 fun a9=>
 ag2 p r (zw (a+1)) (zw (i+1)) a9
 else
 ag2 p r a (zw (i+1)) k
 else
 vSliceS v0 1 (some (zi a)) none none fun aa=>
 vClear [.slice none 0 0] aa f fun _ ab=>
 vSliceS v0 1 none (some (zi a)) none fun ac=>
 R ac ab
 else
 ag1 J n (zw (g+1)) l
 else
 R v0 c):CallsH P 228 #[v0,.func (.func j) #[] b.toArray] h R:=zv ⟨[(4,[(5,.i .i64)]),(9,[(5,.i .i64),(7,.i .i64)])],[],[]⟩ Tryz.func228 hv
theorem ZCK {v0 v1:Value} (hv:
 vLen v1 fun l=>
 vMake 24 [.slice none 0 0] 36 (l:Int) (l:Int) h fun c a2=>
 vLen v1 fun a3=>
 lq1 (0:Int) a2 fun J n a e=>
 bif decide (a<(a3:Int)) then
 vIdx v1 a 1 fun a4=>
 ldI .i64 e a4 fun a5=>
 vIdx v0 a 1 fun a6=>
 ldV e a6 fun o=>
 vLen o fun a7=>
 lq2 ((.slice none 0 0):Value) (0:Int) e fun a8 a9 t j f=>
 bif decide (j<(a7:Int)) then
 vIdx o j 1 fun aa=>
 ldI .i64 f aa fun ab=>
 vIdx v1 ab 1 fun ac=>
 ldI .i64 f ac fun ad=>
 vNewS f (.cells #[zi ad] 2) 1 fun ae af=>
 vAppend 1 8 [zi 0] 2 t ae af fun ag ah=>
 ag2 a8 a9 ag (zw (j+1)) ah
 else
 CallsH P 128 #[t] f fun ai aj=>ai=.tuple #[] /\
 vNewS aj (.cells #[zi a5] 2) 1 fun ak al=>
 vAppend 1 8 [zi 0] 2 ak t al fun am an=>
 vIdx c a 1 fun ao=>
 vStore1 an ao am fun u=>
 ag1 J n (zw (a+1)) u
 else
 zV 227 #[c] e fun p v=>
 CallsH P 194 #[p,.func (.func 81) #[] #[]] v fun ap w=>ap=.tuple #[] /\
 zV 228 #[p,.func (.func 142) #[] #[]] w fun aq x=>
 vLen v1 fun r=>
 vMake 8 [zi 0] 2 (r:Int) (r:Int) x fun s y=>
 vLen c fun ar=>
 lq1 (0:Int) y fun au av g b=>
 bif decide (g<(ar:Int)) then
 vIdx c g 1 fun aw=>
 ldV b aw fun ax=>
 CallsH P 149 #[aq,ax,.func (.func 81) #[] #[]] b fun ay a0=>∃ i,∃ (k:Bool),ay=.tuple #[zi i,.bool k] /\
 vIdx s g 1 fun az=>
 vStore1 a0 az (zi i) fun a1=>
 ag1 au av (zw (g+1)) a1
 else
 R s b):CallsH P 201 #[v0,v1] h R:=zv ⟨[(3,[(22,.i .i64)]),(7,[(8,.v),(32,.i .i64)]),(19,[(65,.i .i64)])],[],[]⟩ Tryz.func201 hv
theorem ZFY {v0:Value} (hv:
 vLen v0 fun n7=>
 bif decide ((n7:Int)<2) then
 R v0 h
 else
 lq1 (1:Int) h fun J n f c=>
 vLen v0 fun k=>
 bif decide (f<(k:Int)) then
 vIdx v0 f 1 fun l=>
 ldI .i64 c l fun o=>
 vIdx v0 (zw (f-1)) 1 fun p=>
 ldI .i64 c p fun r=>
 bif o==r then
 vSliceS v0 1 (some (zi f)) none none fun e=>
 lq2 f (1:Int) c fun i j a g b=>
 vLen e fun s=>
 bif decide (g<(s:Int)) then
 vIdx e g 1 fun t=>
 ldI .i64 b t fun u=>
 vIdx e (zw (g-1)) 1 fun v=>
 ldI .i64 b v fun w=>
 bif u !=w then
 vIdx e g 1 fun x=>
 ldI .i64 b x fun y=>
 vIdx v0 a 1 fun a0=>
 vStore1 b a0 (zi y) fun a1=>
 ag2 i j (zw (a+1)) (zw (g+1)) a1
 else
 ag2 i j a (zw (g+1)) b
 else
 vSliceS v0 1 (some (zi a)) none none fun a2=>
 vClear [zi 0] a2 b fun _ a3=>
 vSliceS v0 1 none (some (zi a)) none fun a4=>
 R a4 a3
 else
 ag1 J n (zw (f+1)) c
 else
 R v0 c):CallsH P 229 #[v0] h R:=zv ⟨[(4,[(3,.i .i64)]),(9,[(3,.i .i64),(5,.i .i64)])],[],[]⟩ Tryz.func229 hv
theorem Zx6 {v0:Value} (g:
 zV 127 #[v0] h fun a b=>
 CallsH P 128 #[a] b fun i c=>i=.tuple #[] /\
 zV 229 #[a] c fun j e=>
 vLen j fun f=>
 R (zi (f:Int)) e):CallsH P 202 #[v0] h R:=zv ⟨[],[],[]⟩ Tryz.func202 g
theorem ZzU {v0 v1:Value} (k:
 lq1 v1 h fun J n a e=>
 zV 201 #[v0,a] e fun c f=>
 zI 202 #[c] f fun g i=>
 zI 202 #[a] i fun j b=>
 bif g==j then
 R c b
 else
 ag1 J n c b):CallsH P 156 #[v0,v1] h R:=zv ⟨[(1,[(1,.v)])],[],[]⟩ Tryz.func156 k
theorem ZBl {v0:Value} (u:
 vLen v0 fun v=>
 lq1 (0:Int) h fun J n i e=>
 bif decide (i<(v:Int)) then
 vLen v0 fun j=>
 lq2 ((.slice none 0 0):Value) (0:Int) e fun f g c a b=>
 bif decide (a<(j:Int)) then
 vIdx v0 a 1 fun k=>
 ldI .i64 b k fun l=>
 bif l==i then
 vNewS b (.cells #[zi a] 2) 1 fun o p=>
 vAppend 1 8 [zi 0] 2 c o p fun r s=>
 ag2 f g r (zw (a+1)) s
 else
 ag2 f g c (zw (a+1)) b
 else
 vLen c fun t=>
 bif decide ((t:Int)>1) then
 R c b
 else
 ag1 J n (zw (i+1)) b
 else
 R (.slice none 0 0) e):CallsH P 198 #[v0] h R:=zv ⟨[(2,[(9,.i .i64)]),(6,[(4,.v),(14,.i .i64)])],[],[]⟩ Tryz.func198 u
theorem Zv1 {l o v1:Value} (hv:
 vNew h (.cells #[l,o] 39) fun p2 ac=>
 vNew ac (.cells #[.slice none 0 0,.slice none 0 0] 39) fun s y=>
 ldV y p2 fun ad=>
 vLen ad fun a0=>
 vMake 8 [zi 0] 2 (a0:Int) (a0:Int) y fun a1 ae=>
 vOne a1 fun _=>
 vNew ae (.cells #[.slice none 0 0,.slice none 0 0] 39) fun e af=>
 vStore1 af e a1 fun ag=>
 vStore1 ag (e.add 1) (.slice none 0 0) fun a2=>
 ldV a2 p2 fun a3=>
 vLen a3 fun ah=>
 lq1 (0:Int) a2 fun J n i c=>
 bif decide (i<(ah:Int)) then
 vIdx a3 i 1 fun ai=>
 ldI .i64 c ai fun aj=>
 ldV c e fun ak=>
 vIdx v1 i 1 fun al=>
 ldI .i64 c al fun am=>
 vIdx ak am 1 fun an=>
 vStore1 c an (zi aj) fun ao=>
 ag1 J n (zw (i+1)) ao
 else
 ldV c (p2.add 1) fun a4=>
 vLen a4 fun ap=>
 lq1 (0:Int) c fun aq ar p b=>
 bif decide (p<(ap:Int)) then
 vIdx a4 p 2 fun a5=>
 ldI .i64 b a5 fun t=>
 ldI .i64 b (a5.add 1) fun u=>
 vNew b (.cells #[zi 0,zi 0] 110) fun v a6=>
 vStore1 a6 v (zi t) fun a7=>
 vStore1 a7 (v.add 1) (zi u) fun a=>
 ∃ B:Nat->Prop,
 ldI .i64 a v fun au=>
 vIdx v1 au 1 fun av=>
 ldI .i64 a av fun aw=>
 ldI .i64 a (v.add 1) fun ax=>
 vIdx v1 ax 1 fun ay=>
 ldI .i64 a ay fun az=>
 vNewS a (.cells #[zi aw,zi az] 110) 1 fun b0 r=>
 ExtBut B a r /\
 ldV (hmask B a) (e.add 1) fun b1=>
 vAppend 2 16 [zi 0,zi 0] 110 b1 b0 r fun b2 a8=>
 vStore1 a8 (e.add 1) b2 fun a9=>
 ag1 aq ar (zw (p+1)) a9
 else
 ldV b (e.add 1) fun b3=>
 zV 150 #[b3] b fun b4 aa=>
 vStore1 aa (e.add 1) b4 fun f=>
 ldV f e fun w=>
 ldV f (e.add 1) fun x=>
 vStore1 f s w fun ab=>
 vStore1 ab (s.add 1) x fun g=>
 ldV g s fun j=>
 ldV g (s.add 1) fun k=>
 R (.agg #[j,k]) g):CallsH P 225 #[.agg #[l,o],v1] h R:=zv ⟨[(3,[(18,.i .i64)]),(8,[(35,.i .i64)])],[],[]⟩ Tryz.func225 hv
theorem ZEw {v0:Value} (v:
 vLen v0 fun w=>
 lq2 ((.slice none 0 0):Value) (0:Int) h fun J n j i a=>
 bif decide (i<(w:Int)) then
 vIdx v0 i 2 fun g=>
 ldI .i64 a g fun c=>
 ldI .i64 a (g.add 1) fun e=>
 vNew a (.cells #[zi 0,zi 0] 110) fun f k=>
 vStore1 k f (zi c) fun l=>
 vStore1 l (f.add 1) (zi e) fun b=>
 ldI .i64 b f fun o=>
 ldI .i64 b (f.add 1) fun p=>
 vNewS b (.cells #[zi o,zi p] 2) 2 fun r s=>
 vAppend 1 8 [zi 0] 2 j r s fun t u=>
 ag2 J n t (zw (i+1)) u
 else
 R j a):CallsH P 257 #[v0] h R:=zv ⟨[(3,[(3,.v),(8,.i .i64)])],[],[]⟩ Tryz.func257 v
theorem ZER {b c e f:Value} (w:
 vNew h (.cells #[b,c] 39) fun p2 k=>
 vNew k (.cells #[e,f] 39) fun l g=>
 ldV g p2 fun x=>
 ldV g l fun y=>
 zI 81 #[x,y] g fun i a=>
 bif i !=0 then
 R (zi i) a
 else
 ∃ B:Nat->Prop,
 ldV a (p2.add 1) fun o=>
 zV 257 #[o] a fun p j=>
 ExtBut B a j /\
 ldV (hmask B a) (l.add 1) fun r=>
 zV 257 #[r] j fun s t=>
 zI 81 #[p,s] t fun u v=>
 R (zi u) v):CallsH P 226 #[.agg #[b,c],.agg #[e,f]] h R:=zv ⟨[],[],[]⟩ Tryz.func226 w
theorem ZzJ {a:Addr} {v1:Value} (hv:
 ldI .i64 h (a.add 6) fun x9=>
 vStore1 h (a.add 6) (zi (zw (x9+1))) fun j=>
 ldV j (a.add 2) fun l=>
 ldV j ((a.add 2).add 1) fun o=>
 CallsH P 225 #[.agg #[l,o],v1] j fun a3 a4=>∃ (c:Value),∃ (e:Value),a3=.agg #[c,e] /\
 vNew a4 (.cells #[.slice none 0 0,.slice none 0 0] 39) fun i a5=>
 vStore1 a5 i c fun a6=>
 vStore1 a6 (i.add 1) e fun b=>
 ∃ J:Int->Heap->Prop,(
 ldV b (a.add 9) fun a7=>
 vLen a7 fun a8=>
 bif decide ((a8:Int)>0) then
 ldV b i fun p=>
 ldV b (i.add 1) fun r=>
 ldV b (a.add 7) fun s=>
 ldV b ((a.add 7).add 1) fun t=>
 zI 226 #[.agg #[p,r],.agg #[s,t]] b fun a9 aa=>
 J a9 aa
 else
 J (-1) b
 )/\∀ (_:Env) w (g:Heap),J w g ->
 ∃ k:Heap->Prop,(
 bif decide (w<0) then
 ldV g i fun u=>
 ldV g (i.add 1) fun v=>
 vStore1 g (a.add 7) u fun ab=>
 vStore1 ab ((a.add 7).add 1) v fun x=>
 vStore1 x (a.add 9) (.slice none 0 0) fun y=>
 k y
 else
 k g
 )/\∀ (_:Env) (f:Heap),k f ->
 bif decide (w<=0) then
 ldV f (a.add 9) fun ac=>
 vOne v1 fun _=>
 vNewS f (.cells #[v1] 36) 1 fun ad a0=>
 vAppend 1 24 [.slice none 0 0] 36 ac ad a0 fun ae a1=>
 vStore1 a1 (a.add 9) ae fun a2=>
 R (.tuple #[]) a2
 else
 R (.tuple #[]) f):CallsH P 199 #[.pointer (some a),v1] h R:=zv ⟨[],[(5,[(5,.i .i64)]),(7,[])],[]⟩ Tryz.func199 hv
theorem ZDH {a:Addr} (f:
 ldI .i64 h a fun g=>
 bif g==0 then
 vStore1 h (a.add 1) (.bool true) fun b=>
 R (.bool false) b
 else
 ldI .i64 h a fun c=>
 vStore1 h a (zi (zw (c-1))) fun e=>
 R (.bool true) e):CallsH P 200 #[.pointer (some a)] h R:=zv ⟨[],[],[]⟩ Tryz.func200 f
theorem ZBg {a:Addr} {v1:Value} (hv:
 zV 198 #[v1] h fun g l=>
 vLen g fun w=>
 bif (w:Int)==0 then
 CallsH P 199 #[.pointer (some a),v1] l fun x y=>x=.tuple #[] /\
 R (.tuple #[]) y
 else
 vLen g fun a0=>
 lq1 (0:Int) l fun J n i b=>
 bif decide (i<(a0:Int)) then
 vIdx g i 1 fun a1=>
 ldI .i64 b a1 fun o=>
 ∃ p:Heap->Prop,(
 ldB b (a.add 1) fun a2=>
 bif a2 then
 R (.tuple #[]) b
 else
 zB 200 #[.pointer (some a)] b fun a3 r=>
 bif !a3 then
 R (.tuple #[]) r
 else
 p r
 )/\∀ (_:Env) (j:Heap),p j ->
 ldI .i64 j (a.add 5) fun a4=>
 vStore1 j (a.add 5) (zi (zw (a4+1))) fun a5=>
 vLen v1 fun s=>
 vMake 8 [zi 0] 2 (s:Int) (s:Int) a5 fun c a6=>
 vLen v1 fun a7=>
 lq1 (0:Int) a6 fun a8 a9 e f=>
 bif decide (e<(a7:Int)) then
 vIdx v1 e 1 fun aa=>
 ldI .i64 f aa fun ab=>
 vIdx c e 1 fun ac=>
 vStore1 f ac (zi (zw ((zw (2*ab))+1))) fun t=>
 ag1 a8 a9 (zw (e+1)) t
 else
 vIdx c o 1 fun ad=>
 ldI .i64 f ad fun ae=>
 vIdx c o 1 fun af=>
 vStore1 f af (zi (zw (ae-1))) fun k=>
 ldV k (a.add 4) fun ag=>
 zV 156 #[ag,c] k fun ah u=>
 CallsH P 155 #[.pointer (some a),ah] u fun ai v=>ai=.tuple #[] /\
 ag1 J n (zw (i+1)) v
 else
 R (.tuple #[]) b):CallsH P 155 #[.pointer (some a),v1] h R:=zv ⟨[(4,[(20,.i .i64)]),(10,[(48,.i .i64)])],[(7,[])],[]⟩ Tryz.func155 hv
theorem ZzR {c e:Value} {t:Int} (hv:
 vNew h (.cells #[c,e] 39) fun p2 f=>
 ldV f p2 fun u=>
 ldV f (p2.add 1) fun v=>
 zB 95 #[.agg #[u,v]] f fun b8 p=>
 bif !b8 then
 R (.tuple #[(.pointer none),zi 1]) p
 else
 zB 16 #[zi t] p fun w a=>
 bif !w then
 R (.tuple #[(.pointer none),zi 2]) a
 else
 ∃ B:Nat->Prop,
 ldV a p2 fun j=>
 ldV a (p2.add 1) fun k=>
 zV 154 #[.agg #[j,k]] a fun r s=>
 ExtBut B a s /\
 ldV (hmask B a) p2 fun l=>
 ldV (hmask B a) (p2.add 1) fun o=>
 vOne r fun _=>
 vNew s (.cells #[zi t,.bool false,l,o,r,zi 0,zi 0,(.slice none 0 0),(.slice none 0 0),(.slice none 0 0)] 148) fun b g=>
 ldV g (b.add 4) fun x=>
 ldV g p2 fun y=>
 zV 156 #[x,y] g fun a0 a1=>
 CallsH P 155 #[.pointer (some b),a0] a1 fun a2 i=>a2=.tuple #[] /\
 ldB i (b.add 1) fun a3=>
 bif a3 then
 R (.tuple #[(.pointer none),zi 5]) i
 else
 R (.tuple #[.pointer (some b),zi 0]) i):CallsH P 103 #[.agg #[c,e],zi t] h R:=zv ⟨[],[],[]⟩ Tryz.func103 hv
theorem ZBv {l o:Value} {x:Int} (hv:
 vNew h (.cells #[l,o] 39) fun p2 y=>
 vNew y (.cells #[.slice none 0 0,.slice none 0 0] 39) fun e p=>
 ldV p p2 fun s=>
 ldV p (p2.add 1) fun t=>
 CallsH P 103 #[.agg #[s,t],zi x] p fun a0 a=>∃ (b:Value),∃ c,a0=.tuple #[b,zi c] /\
 bif c !=0 then
 vStore1 a e (.slice none 0 0) fun a1=>
 vStore1 a1 (e.add 1) (.slice none 0 0) fun r=>
 ldV r e fun j=>
 ldV r (e.add 1) fun k=>
 R (.tuple #[.agg #[j,k],(.slice none 0 0),zi c]) r
 else
 ∃ B:Nat->Prop,
 vNilQ b (fun _ _ _=>False) fun w=>
 ldV a (w.add 7) fun u=>
 ldV a ((w.add 7).add 1) fun v=>
 vStore1 a e u fun a2=>
 vStore1 a2 (e.add 1) v fun i=>
 ExtBut B a i /\
 vNilQ b (fun _ _ _=>False) fun a3=>
 ldV (hmask B a) (a3.add 9) fun a4=>
 vIdx a4 0 1 fun a5=>
 ldV (hmask B a) a5 fun a6=>
 ldV i e fun f=>
 ldV i (e.add 1) fun g=>
 R (.tuple #[.agg #[f,g],a6,zi 0]) i):CallsH P 53 #[.agg #[l,o],zi x] h R:=zv ⟨[],[],[]⟩ Tryz.func53 hv
theorem Zwn {a:Int} (c:
 zS 157 #[zi a,zi 10] h fun e b=>
 R (.string e) b):CallsH P 104 #[zi a] h R:=zv ⟨[],[],[]⟩ Tryz.func104 c
theorem ZwW {a:Int} (c:
 zB 48 #[zi a,zi (-999999999),zi 999999999] h fun e b=>
 R (.bool (!e)) b):CallsH P 158 #[zi a] h R:=zv ⟨[],[],[]⟩ Tryz.func158 c
theorem ZCc {v0:Value} (y:
 ∃ J:Heap->Prop,(
 vLen v0 fun n7=>
 bif decide ((n7:Int)>100) then
 R (.string ⟨#[]⟩) h
 else
 zB 84 #[v0,.func (.func 158) #[] #[]] h fun f e=>
 bif f then
 R (.string ⟨#[]⟩) e
 else
 J e
 )/\∀ (_:Env) (a:Heap),J a ->
 vLen v0 fun g=>
 bif (g:Int)==0 then
 R (.string ⟨#[45]⟩) a
 else
 vLen v0 fun i=>
 lq2 ((.slice none 0 0):Value) (0:Int) a fun j n k b c=>
 bif decide (b<(i:Int)) then
 vIdx v0 b 1 fun l=>
 ldI .i64 c l fun o=>
 zS 104 #[zi o] c fun p r=>
 vNewS r (.cells #[.string p] 9) 1 fun s t=>
 vAppend 1 16 [.string ⟨#[]⟩] 9 k s t fun u v=>
 ag2 j n u (zw (b+1)) v
 else
 zS 106 #[k,.string ⟨#[44]⟩] c fun w x=>
 R (.string w) x):CallsH P 105 #[v0] h R:=zv ⟨[(7,[(3,.v),(18,.i .i64)])],[(3,[])],[]⟩ Tryz.func105 y
theorem ZAf {c e:Value} (hv:
 vNew h (.cells #[c,e] 39) fun p1 f=>
 ldV f p1 fun w=>
 ldV f (p1.add 1) fun x=>
 zB 95 #[.agg #[w,x]] f fun b7 g=>
 bif !b7 then
 R (.string ⟨#[]⟩) g
 else
 ldV g (p1.add 1) fun r=>
 vLen r fun a3=>
 lq2 ((.slice none 0 0):Value) (0:Int) g fun J n v3 i a=>
 bif decide (i<(a3:Int)) then
 vIdx r i 2 fun s=>
 ldI .i64 a s fun l=>
 ldI .i64 a (s.add 1) fun o=>
 vNew a (.cells #[zi 0,zi 0] 110) fun p a5=>
 vStore1 a5 p (zi l) fun a6=>
 vStore1 a6 (p.add 1) (zi o) fun b=>
 ∃ B:Nat->Prop,
 ldI .i64 b p fun a7=>
 zS 104 #[zi a7] b fun j t=>
 ExtBut B b t /\
 ldI .i64 (hmask B b) (p.add 1) fun a8=>
 zS 104 #[zi a8] t fun u a9=>
 (((j:ByteArray).size+(⟨#[45]⟩:ByteArray).size:Nat):Int)<=IntKind.i64.max /\
 ((((j:ByteArray)++(⟨#[45]⟩:ByteArray):ByteArray).size+(u:ByteArray).size:Nat):Int)<=IntKind.i64.max /\
 vNewS a9 (.cells #[.string (((j:ByteArray)++(⟨#[45]⟩:ByteArray):ByteArray)++(u:ByteArray))] 9) 1 fun aa y=>
 vAppend 1 16 [.string ⟨#[]⟩] 9 v3 aa y fun ab a0=>
 ag2 J n ab (zw (i+1)) a0
 else
 ldV a p1 fun ac=>
 zS 105 #[ac] a fun k a1=>
 (((k:ByteArray).size+(⟨#[59]⟩:ByteArray).size:Nat):Int)<=IntKind.i64.max /\
 zS 106 #[v3,.string ⟨#[44]⟩] a1 fun v a2=>
 ((((k:ByteArray)++(⟨#[59]⟩:ByteArray):ByteArray).size+(v:ByteArray).size:Nat):Int)<=IntKind.i64.max /\
 R (.string (((k:ByteArray)++(⟨#[59]⟩:ByteArray):ByteArray)++(v:ByteArray))) a2):CallsH P 54 #[.agg #[c,e]] h R:=zv ⟨[(5,[(3,.v),(12,.i .i64)])],[],[]⟩ Tryz.func54 hv
theorem Zwj {f g:Value} {s:Int} (hv:
 vNew h (.cells #[f,g] 39) fun p2 i=>
 ldV i p2 fun j=>
 ldV i (p2.add 1) fun k=>
 CallsH P 53 #[.agg #[j,k],zi s] i fun t u=>∃ (a:Value),∃ (b:Value),∃ (l:Value),∃ c,t=.tuple #[.agg #[a,b],l,zi c] /\
 vNew u (.cells #[.slice none 0 0,.slice none 0 0] 39) fun o v=>
 vStore1 v o a fun w=>
 vStore1 w (o.add 1) b fun e=>
 bif c !=0 then
 R (.tuple #[.string ⟨#[]⟩,zi c]) e
 else
 ldV e o fun p=>
 ldV e (o.add 1) fun r=>
 zS 54 #[.agg #[p,r]] e fun x y=>
 R (.tuple #[.string x,zi 0]) y):CallsH P 18 #[.agg #[f,g],zi s] h R:=zv ⟨[],[],[]⟩ Tryz.func18 hv
theorem Zye {k l:Int} {o:Value} {x:Int} (hv:
 vNew h (.cells #[zi k,zi l,o] 28) fun p2 f=>
 ldI .i64 f p2 fun y=>
 ldI .i64 f (p2.add 1) fun a0=>
 ldV f (p2.add 2) fun a1=>
 zB 15 #[.agg #[zi y,zi a0,a1]] f fun b9 w=>
 bif !b9 then
 R (.tuple #[.string ⟨#[]⟩,zi 1]) w
 else
 zB 16 #[zi x] w fun a2 e=>
 bif !a2 then
 R (.tuple #[.string ⟨#[]⟩,zi 2]) e
 else
 ldI .i64 e p2 fun p=>
 ldI .i64 e (p2.add 1) fun r=>
 ldV e (p2.add 2) fun s=>
 CallsH P 17 #[.agg #[zi p,zi r,s]] e fun a3 a4=>∃ (a:Value),∃ (b:Value),∃ c,a3=.tuple #[.agg #[a,b],zi c] /\
 vNew a4 (.cells #[.slice none 0 0,.slice none 0 0] 39) fun t a5=>
 vStore1 a5 t a fun a6=>
 vStore1 a6 (t.add 1) b fun g=>
 bif c !=0 then
 R (.tuple #[.string ⟨#[]⟩,zi c]) g
 else
 ldV g t fun u=>
 ldV g (t.add 1) fun v=>
 CallsH P 18 #[.agg #[u,v],zi x] g fun a7 a8=>∃ (i:ByteArray),∃ j,a7=.tuple #[.string i,zi j] /\
 R (.tuple #[.string i,zi j]) a8):CallsH P 7 #[.agg #[zi k,zi l,o],zi x] h R:=zv ⟨[],[],[]⟩ Tryz.func7 hv
theorem ZCP {v0 v1:Value} (j:
 vLen v0 fun k=>
 vLen v1 fun l=>
 bif (k:Int) !=(l:Int) then
 R (.bool false) h
 else
 lq1 (0:Int) h fun J n b a=>
 vLen v0 fun c=>
 bif decide (b<(c:Int)) then
 vIdx v0 b 1 fun e=>
 ldI .i64 a e fun f=>
 vIdx v1 b 1 fun g=>
 ldI .i64 a g fun i=>
 bif f !=i then
 R (.bool false) a
 else
 ag1 J n (zw (b+1)) a
 else
 R (.bool true) a):CallsH P 55 #[v0,v1] h R:=zv ⟨[(4,[(5,.i .i64)])],[],[]⟩ Tryz.func55 j
theorem ZCD {v0 v1:Value} (l:
 vLen v0 fun o=>
 vLen v1 fun p=>
 bif (o:Int) !=(p:Int) then
 R (.bool false) h
 else
 lq1 (0:Int) h fun J n b a=>
 vLen v0 fun e=>
 bif decide (b<(e:Int)) then
 vIdx v0 b 1 fun f=>
 ldV a f fun g=>
 vIdx v1 b 1 fun i=>
 ldV a i fun j=>
 zB 55 #[g,j] a fun k c=>
 bif !k then
 R (.bool false) c
 else
 ag1 J n (zw (b+1)) c
 else
 R (.bool true) a):CallsH P 19 #[v0,v1] h R:=zv ⟨[(4,[(5,.i .i64)])],[],[]⟩ Tryz.func19 l
theorem ZyT {b c:Int} {e:Value} {f g:Int} {i:Value} (u:
 vNew h (.cells #[zi b,zi c,e] 28) fun p2 l=>
 vNew l (.cells #[zi f,zi g,i] 28) fun k a=>
 ldI .i64 a p2 fun v=>
 ldI .i64 a k fun w=>
 bif v !=w then
 R (.bool false) a
 else
 ldI .i64 a (p2.add 1) fun o=>
 ldI .i64 a (k.add 1) fun p=>
 bif o !=p then
 R (.bool false) a
 else
 ldV a (p2.add 2) fun r=>
 ldV a (k.add 2) fun s=>
 zB 19 #[r,s] a fun t j=>
 bif !t then
 R (.bool false) j
 else
 R (.bool true) j):CallsH P 8 #[.agg #[zi b,zi c,e],.agg #[zi f,zi g,i]] h R:=zv ⟨[],[],[]⟩ Tryz.func8 u
theorem Zyn {a0 a1:Int} {a2:Value} {x1:Int} (hv:
 vNew h (.cells #[zi a0,zi a1,a2] 24) fun p2 t=>
 ldI .i64 t p2 fun a5=>
 ldI .i64 t (p2.add 1) fun a6=>
 ldV t (p2.add 2) fun a7=>
 zI 4 #[.agg #[zi a5,zi a6,a7],zi 1048576] t fun ao r=>
 bif decide (ao<0) then
 R (.bool true) r
 else
 ldI .i64 r p2 fun a8=>
 ldI .i64 r (p2.add 1) fun a9=>
 ldV r (p2.add 2) fun aa=>
 CallsH P 6 #[.agg #[zi a8,zi a9,aa]] r fun ap aq=>∃ b,∃ c,∃ (e:Value),ap=.agg #[zi b,zi c,e] /\
 CallsH P 5 #[.agg #[zi b,zi c,e],zi x1] aq fun ar u=>∃ (v:ByteArray),∃ w,ar=.tuple #[.string v,zi w] /\
 ldI .i64 u p2 fun ab=>
 ldI .i64 u (p2.add 1) fun ac=>
 ldV u (p2.add 2) fun ad=>
 CallsH P 6 #[.agg #[zi ab,zi ac,ad]] u fun au av=>∃ f,∃ g,∃ (i:Value),au=.agg #[zi f,zi g,i] /\
 vNew av (.cells #[zi 0,zi 0,.slice none 0 0] 28) fun o aw=>
 vStore1 aw o (zi f) fun ax=>
 vStore1 ax (o.add 1) (zi g) fun ay=>
 vStore1 ay (o.add 2) i fun p=>
 ldI .i64 p o fun ae=>
 ldI .i64 p (o.add 1) fun af=>
 ldV p (o.add 2) fun ag=>
 CallsH P 7 #[.agg #[zi ae,zi af,ag],zi x1] p fun az s=>∃ (x:ByteArray),∃ y,az=.tuple #[.string x,zi y] /\
 ∃ J:Heap->Prop,(
 bif !(x.toList==v.toList) then
 R (.bool false) s
 else
 bif y !=w then
 R (.bool false) s
 else
 J s
 )/\∀ (_:Env) (a:Heap),J a ->
 ∃ B:Nat->Prop,
 ldI .i64 a p2 fun ah=>
 ldI .i64 a (p2.add 1) fun ai=>
 ldV a (p2.add 2) fun aj=>
 CallsH P 6 #[.agg #[zi ah,zi ai,aj]] a fun b0 a3=>∃ j,∃ k,∃ (l:Value),b0=.agg #[zi j,zi k,l] /\
 ExtBut B a a3 /\
 ldI .i64 (hmask B a) o fun ak=>
 ldI .i64 (hmask B a) (o.add 1) fun al=>
 ldV (hmask B a) (o.add 2) fun am=>
 zB 8 #[.agg #[zi ak,zi al,am],.agg #[zi j,zi k,l]] a3 fun b1 a4=>
 bif !b1 then
 R (.bool false) a4
 else
 R (.bool true) a4):CallsH P 3 #[.agg #[zi a0,zi a1,a2],zi x1] h R:=zv ⟨[],[(10,[])],[]⟩ Tryz.func3 hv
end Go.Proofs.YtccncimchmimdaaGreatDoor
