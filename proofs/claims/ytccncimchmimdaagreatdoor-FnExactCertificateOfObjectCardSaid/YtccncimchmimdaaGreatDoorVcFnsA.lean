import Derived.Test.YtccncimchmimdaaGreatDoorVcSoundE
import Derived.Test.YtccncimchmimdaaGreatDoorVcDn
import Derived.Test.YtccncimchmimdaaGreatDoorPuBase
import Derived.Test.YtccncimchmimdaaGreatDoorProg
import Derived.KernelRfl
namespace Go.Proofs.YtccncimchmimdaaGreatDoor
set_option linter.unusedSimpArgs false
open Go Go.Vc Go.Proofs
set_option linter.unusedVariables false
set_option maxRecDepth 100000
noncomputable abbrev P:Program:=Tryz.prog
abbrev zw (x:Int):Int:=IntKind.i64.wrap x
abbrev zi (x:Int):Value:=.int .i64 x
abbrev zB (f:FuncId) (a:Array Value) (h:Heap) (K:Bool->Heap->Prop):Prop:=CallsH P f a h fun r h'=>∃ b,r=.bool b/\K b h'
abbrev zI (f:FuncId) (a:Array Value) (h:Heap) (K:Int->Heap->Prop):Prop:=CallsH P f a h fun r h'=>∃ x,r=.int .i64 x/\K x h'
abbrev zV (f:FuncId) (a:Array Value) (h:Heap) (K:Value->Heap->Prop):Prop:=CallsH P f a h fun r h'=>∃ v,r=v/\K v h'
abbrev zS (f:FuncId) (a:Array Value) (h:Heap) (K:ByteArray->Heap->Prop):Prop:=CallsH P f a h fun r h'=>∃ s,r=.string s/\K s h'
abbrev t_int:Nat:=3
def tab:List (Nat×TE):=[(2,⟨.int .i64,[.i .i64],[.int .i64 0],8⟩),
 (3,⟨.int .i64,[.i .i64],[.int .i64 0],8⟩),
 (4,⟨.bool,[.b],[.bool false],1⟩),
 (5,⟨.int .u8,[.i .u8],[.int .u8 0],1⟩),
 (9,⟨.str,[.s],[.string ⟨#[]⟩],16⟩),
 (22,⟨.slice 36,[.v],[.slice none 0 0],24⟩),
 (24,⟨.struct [(0,1,false),(1,1,false),(2,1,false)],[.i .i64,.i .i64,.v],[.int .i64 0,.int .i64 0,.slice none 0 0],40⟩),
 (28,⟨.struct [(0,1,false),(1,1,false),(2,1,false)],[.i .i64,.i .i64,.v],[.int .i64 0,.int .i64 0,.slice none 0 0],40⟩),
 (36,⟨.slice 2,[.v],[.slice none 0 0],24⟩),
 (37,⟨.slice 110,[.v],[.slice none 0 0],24⟩),
 (39,⟨.struct [(0,1,false),(1,1,false)],[.v,.v],[.slice none 0 0,.slice none 0 0],48⟩),
 (53,⟨.struct [(0,1,false),(1,1,false)],[.i .i64,.v],[.int .i64 0,.slice none 0 0],32⟩),
 (55,⟨.struct [(0,1,false),(1,1,false),(2,1,false)],[.i .i64,.i .i64,.v],[.int .i64 0,.int .i64 0,.slice none 0 0],40⟩),
 (60,⟨.struct [(0,1,false),(1,1,false),(2,1,false)],[.i .i64,.i .i64,.v],[.int .i64 0,.int .i64 0,.slice none 0 0],40⟩),
 (62,⟨.struct [(0,3,true),(3,1,false)],[.i .i64,.i .i64,.v,.v],[.int .i64 0,.int .i64 0,.slice none 0 0,.slice none 0 0],64⟩),
 (71,⟨.struct [(0,1,false),(1,1,false)],[.i .i64,.v],[.int .i64 0,.slice none 0 0],32⟩),
 (80,⟨.struct [(0,2,true),(2,1,false),(3,2,true),(5,1,false),(6,1,false),(7,1,false),(8,1,false),(9,1,false)],[.v,.v,.v,.v,.v,.v,.i .i64,.i .i64,.i .i64,.b],[.slice none 0 0,.slice none 0 0,.slice none 0 0,.slice none 0 0,.slice none 0 0,.slice none 0 0,.int .i64 0,.int .i64 0,.int .i64 0,.bool false],176⟩),
 (110,⟨.struct [(0,1,false),(1,1,false)],[.i .i64,.i .i64],[.int .i64 0,.int .i64 0],16⟩),
 (130,⟨.struct [(0,1,false),(1,1,false),(2,1,false),(3,1,false),(4,1,false)],[.i .i64,.v,.v,.v,.v],[.int .i64 0,.slice none 0 0,.slice none 0 0,.slice none 0 0,.slice none 0 0],104⟩),
 (146,⟨.struct [(0,1,false),(1,1,false)],[.i .i64,.b],[.int .i64 0,.bool false],16⟩),
 (148,⟨.struct [(0,2,true),(2,2,true),(4,1,false),(5,1,false),(6,1,false),(7,2,true),(9,1,false)],[.i .i64,.b,.v,.v,.v,.i .i64,.i .i64,.v,.v,.v],[.int .i64 0,.bool false,.slice none 0 0,.slice none 0 0,.slice none 0 0,.int .i64 0,.int .i64 0,.slice none 0 0,.slice none 0 0,.slice none 0 0],176⟩),
 (149,⟨.slice 9,[.v],[.slice none 0 0],24⟩),
 (166,⟨.slice 5,[.v],[.slice none 0 0],24⟩),
 (200,⟨.slice 202,[.v],[.slice none 0 0],24⟩),
 (202,⟨.slice 4,[.v],[.slice none 0 0],24⟩),
 (208,⟨.int .u64,[.i .u64],[.int .u64 0],8⟩),
 (210,⟨.map 9 4,[.v],[.map none],8⟩),
 (230,⟨.slice 3,[.v],[.slice none 0 0],24⟩)]
def rst:List (Nat×RS):=[(0,⟨true,[]⟩),
 (2,⟨false,[(false,[.i .i64])]⟩),
 (3,⟨false,[(false,[.i .i64])]⟩),
 (4,⟨false,[(false,[.b])]⟩),
 (9,⟨false,[(false,[.s])]⟩),
 (22,⟨false,[(false,[.v])]⟩),
 (26,⟨true,[(false,[.s]),(false,[.i .i64])]⟩),
 (28,⟨false,[(true,[.i .i64,.i .i64,.v])]⟩),
 (36,⟨false,[(false,[.v])]⟩),
 (37,⟨false,[(false,[.v])]⟩),
 (39,⟨false,[(true,[.v,.v])]⟩),
 (40,⟨true,[(true,[.v,.v]),(false,[.i .i64])]⟩),
 (53,⟨false,[(true,[.i .i64,.v])]⟩),
 (55,⟨false,[(true,[.i .i64,.i .i64,.v])]⟩),
 (60,⟨false,[(true,[.i .i64,.i .i64,.v])]⟩),
 (62,⟨false,[(true,[.i .i64,.i .i64,.v,.v])]⟩),
 (66,⟨true,[(true,[.v,.v]),(false,[.b])]⟩),
 (71,⟨false,[(true,[.i .i64,.v])]⟩),
 (75,⟨false,[(false,[.p])]⟩),
 (76,⟨true,[(false,[.v]),(false,[.i .i64])]⟩),
 (94,⟨true,[(true,[.v,.v]),(false,[.v]),(false,[.i .i64])]⟩),
 (101,⟨true,[(false,[.i .i64]),(false,[.i .i64])]⟩),
 (112,⟨true,[(false,[.v]),(false,[.b])]⟩),
 (128,⟨true,[(false,[.v]),(false,[.v]),(false,[.i .i64])]⟩),
 (130,⟨false,[(true,[.i .i64,.v,.v,.v,.v])]⟩),
 (133,⟨true,[(true,[.i .i64,.i .i64,.v]),(false,[.i .i64])]⟩),
 (135,⟨true,[(false,[.v]),(false,[.v]),(false,[.b])]⟩),
 (143,⟨true,[(false,[.v]),(false,[.i .i64])]⟩),
 (155,⟨true,[(false,[.v]),(false,[.v])]⟩),
 (159,⟨true,[(false,[.i .i64]),(false,[.b])]⟩),
 (200,⟨false,[(false,[.v])]⟩)]
def exs:List Nat:=[234,235,273,274,275,276,277,278,279,280,281,282,283,284,285,286,287,288,289,290,291,292,293,294]
noncomputable def ctx:Ctx:=⟨Tryz.prog,tab,rst,3,296,exs,[],[110],False⟩
theorem tz {t te} (h:TeOk P t te:=by exact ⟨κ,κ,κ,κ⟩):TeOk P t te:=h
theorem tabOk_all:∀ p∈tab,TeOk P p.1 p.2:=by
 unfold tab
 simp only [List.forall_mem_cons]
 exact ⟨tz,tz,tz,tz,tz,tz,tz,tz,tz,tz,tz,tz,tz,tz,tz,tz,tz,tz,tz,tz,tz,tz,tz,tz,tz,tz,tz,tz,fun p hp=>by cases hp⟩
theorem tab_mem:∀ (l:List (Nat×TE)) (t:Nat) (c:TE),tabGet l t=some c->(t,c)∈l
 | [],t,c,h=>by cases h
 | (k,x)::r,t,c,h=>by
  unfold tabGet at h
  cases a:Nat.beq k t with
  | true=>rw [a] at h;have:=Nat.eq_of_beq_eq_true a;subst this;cases h;exact List.mem_cons_self ..
  | false=>rw [a] at h;exact List.mem_cons_of_mem _ (tab_mem r t c h)
noncomputable def fnB (f:Nat):Bool:=match P.funcs[f]? with|some fn=>fn.body.isSome&&!(fn.name== "runtime.NumGoroutine")|none=>false
theorem fns_all:(List.range' 3 293).all (fun f=>inL exs f||fnB f)=true:=κ
theorem eq2ok:eq2B P 110=true:=κ
theorem ctxOk:CtxOk ctx where
 tab:=fun t k h=>tabOk_all (t,k) (tab_mem _ t k h)
 fns:=fun f g=>by
  simp only [Ctx.okf,Bool.and_eq_true,Bool.not_eq_true'] at g
  have b:3<=f:=Nat.le_of_ble_eq_true g.1.1
  have e:f<296:=Nat.blt_eq.mp g.1.2
  have h:=List.all_eq_true.1 fns_all f (List.mem_range'_1.2 ⟨b,by omega⟩)
  have c:inL exs f=false:=g.2
  simp only [c,Bool.false_or] at h
  unfold fnB at h
  split at h
  ·rename_i fn j;simp only [Bool.and_eq_true,Bool.not_eq_true'] at h;exact ⟨fn,j,h.1,h.2⟩
  ·cases h
 mixed:=κ
 ovs:=fun f g=>by cases g
 eqs:=fun f g=>by
  have l:f=110:=by
   unfold ctx inL at g
   cases a:Nat.beq 110 f with
   | true=>exact (Nat.eq_of_beq_eq_true a).symm
   | false=>simp [a,inL] at g
  subst l
  exact eq2ok
theorem zv {F:Prop} {f:FuncId} {fn:Func} {g:List Value} {h:Heap} {R:Value->Heap->Prop} (A:Ann) (j:P.funcs[f]?=some fn) (a:F)
  (b:((match fn.body with|some c=>cOk fn.ntmps c|none=>false)&&Nat.ble g.length fn.ntmps)=true:=by kernel_rfl) (e:vcFn ctx A fn g h R=F:=by kernel_rfl):CallsH P f g.toArray h R:=
 Zf3 ctxOk A j g h R b (e▸a)
variable {R:Value->Heap->Prop} {h:Heap}
theorem ZCv {v0:Value} {a:Int} (c:
 vLen v0 fun b=>
 bif decide ((zw (a-(b:Int)):Int)<0) then
 R (zi (-1)) h
 else
 R (zi (zw (a-(b:Int)))) h):CallsH P 20 #[v0,zi a] h R:=zv ⟨[],[],[]⟩ Tryz.func20 c
theorem ZB2 {v0:Value} {f:Int} (o:
 vLen v0 fun i=>
 bif decide ((zw (f-(i:Int)):Int)<0) then
 R (zi (-1)) h
 else
 lq2 (zw (f-(i:Int))) (0:Int) h fun J n a g b=>
 vLen v0 fun j=>
 bif decide (g<(j:Int)) then
 vIdx v0 g 1 fun k=>
 ldV b k fun l=>
 zI 20 #[l,zi a] b fun c e=>
 bif decide (c<0) then
 R (zi (-1)) e
 else
 ag2 J n c (zw (g+1)) e
 else
 R (zi a) b):CallsH P 9 #[v0,zi f] h R:=zv ⟨[(5,[(1,.i .i64),(5,.i .i64)])],[],[]⟩ Tryz.func9 o
theorem ZEl {a b:Int} {c:Value} {g:Int} (j:
 vNew h (.cells #[zi a,zi b,c] 24) fun p2 e=>
 ldV e (p2.add 2) fun k=>
 zI 9 #[k,zi g] e fun i f=>
 bif decide (i<0) then
 R (zi (-1)) f
 else
 R (zi i) f):CallsH P 4 #[.agg #[zi a,zi b,c],zi g] h R:=zv ⟨[],[],[]⟩ Tryz.func4 j
theorem ZFU {a b c:Int} (e:
 bif decide (a>=b) then
 R (.bool (decide (a<=c))) h
 else
 R (.bool false) h):CallsH P 11 #[zi a,zi b,zi c] h R:=zv ⟨[],[],[]⟩ Tryz.func11 e
theorem ZDq {v0:Value} {c:Int} (g:
 lq1 (0:Int) h fun J n b a=>
 vLen v0 fun i=>
 bif decide (b<(i:Int)) then
 vIdx v0 b 1 fun e=>
 ldI .i64 a e fun f=>
 bif f==c then
 R (.bool true) a
 else
 ag1 J n (zw (b+1)) a
 else
 R (.bool false) a):CallsH P 71 #[v0,zi c] h R:=zv ⟨[(2,[(5,.i .i64)])],[],[]⟩ Tryz.func71 g
theorem ZFt {v0:Value} (r:
 vLen v0 fun s=>
 bif decide ((s:Int)>32) then
 R (.bool false) h
 else
 lq1 (0:Int) h fun J n a b=>
 vLen v0 fun t=>
 bif decide (a<(t:Int)) then
 vIdx v0 a 1 fun f=>
 ldI .i64 b f fun g=>
 vLen v0 fun i=>
 zB 11 #[zi g,zi 0,zi (zw ((i:Int)-1))] b fun j c=>
 bif !j then
 R (.bool false) c
 else
 vSliceS v0 1 none (some (zi a)) none fun k=>
 vIdx v0 a 1 fun l=>
 ldI .i64 c l fun o=>
 zB 71 #[k,zi o] c fun p e=>
 bif p then
 R (.bool false) e
 else
 ag1 J n (zw (a+1)) e
 else
 R (.bool true) b):CallsH P 56 #[v0] h R:=zv ⟨[(4,[(3,.i .i64)])],[],[]⟩ Tryz.func56 r
theorem ZGB {v0:Value} (hv:
 vLen v0 fun c=>
 ∃ J:Heap->Prop,(
 bif decide ((c:Int)<1) then
 R (.bool false) h
 else
 bif decide ((c:Int)>10) then
 R (.bool false) h
 else
 J h
 )/\∀ (_:Env) (g:Heap),J g ->
 lq1 (0:Int) g fun o n f a=>
 bif decide (f<(c:Int)) then
 vIdx v0 f 1 fun p=>
 ldV a p fun r=>
 vLen r fun s=>
 bif (s:Int) !=(c:Int) then
 R (.bool false) a
 else
 vIdx v0 f 1 fun t=>
 ldV a t fun u=>
 zB 56 #[u] a fun v i=>
 bif !v then
 R (.bool false) i
 else
 ag1 o n (zw (f+1)) i
 else
 lq1 (0:Int) a fun w x k j=>
 bif decide (k<(c:Int)) then
 vNewS j (.cells #[] 2) 0 fun y a0=>
 lq2 y (0:Int) a0 fun a1 a2 v6 l b=>
 bif decide (l<(c:Int)) then
 vIdx v0 l 1 fun a4=>
 ldV b a4 fun a5=>
 vIdx a5 k 1 fun a6=>
 ldI .i64 b a6 fun a7=>
 vNewS b (.cells #[zi a7] 2) 1 fun a8 a9=>
 vAppend 1 8 [zi 0] 2 v6 a8 a9 fun aa ab=>
 ag2 a1 a2 aa (zw (l+1)) ab
 else
 zB 56 #[v6] b fun ac e=>
 bif !ac then
 R (.bool false) e
 else
 ag1 w x (zw (k+1)) e
 else
 R (.bool true) j):CallsH P 21 #[v0] h R:=zv ⟨[(5,[(4,.i .i64)]),(10,[(5,.i .i64)]),(14,[(6,.v),(7,.i .i64)])],[(4,[])],[]⟩ Tryz.func21 hv
theorem ZCf {v0:Value} {e f:Int} (s:
 lq1 (0:Int) h fun J n b c=>
 vLen v0 fun g=>
 bif decide (b<(g:Int)) then
 vIdx v0 b 1 fun i=>
 ldI .i64 c i fun j=>
 zB 11 #[zi j,zi e,zi f] c fun k a=>
 bif !k then
 R (.bool false) a
 else
 bif decide (b>0) then
 vIdx v0 (zw (b-1)) 1 fun l=>
 ldI .i64 a l fun o=>
 vIdx v0 b 1 fun p=>
 ldI .i64 a p fun r=>
 bif decide (o>=r) then
 R (.bool false) a
 else
 ag1 J n (zw (b+1)) a
 else
 ag1 J n (zw (b+1)) a
 else
 R (.bool true) c):CallsH P 107 #[v0,zi e,zi f] h R:=zv ⟨[(2,[(7,.i .i64)])],[],[]⟩ Tryz.func107 s
theorem Zzs {v0:Value} {a:Int} (e:
 vLen v0 fun f=>
 bif decide ((f:Int)>0) then
 zB 107 #[v0,zi 0,zi (zw (a-1))] h fun b c=>
 R (.bool b) c
 else
 R (.bool false) h):CallsH P 57 #[v0,zi a] h R:=zv ⟨[],[],[]⟩ Tryz.func57 e
theorem ZvY {v0 v1:Value} (y:
 ∃ J:Heap->Prop,(
 lq1 (0:Int) h fun g n b e=>
 ∃ f:Heap->Prop,(
 vLen v0 fun n8=>
 bif decide (b<(n8:Int)) then
 vLen v1 fun i=>
 bif decide (b<(i:Int)) then
 f e
 else
 J e
 else
 J e
 )/\∀ (_:Env) (a:Heap),f a ->
 vIdx v0 b 1 fun j=>
 ldI .i64 a j fun k=>
 vIdx v1 b 1 fun l=>
 ldI .i64 a l fun o=>
 bif decide (k<o) then
 R (zi (-1)) a
 else
 vIdx v0 b 1 fun p=>
 ldI .i64 a p fun r=>
 vIdx v1 b 1 fun s=>
 ldI .i64 a s fun t=>
 bif decide (r>t) then
 R (zi 1) a
 else
 ag1 g n (zw (b+1)) a
 )/\∀ (_:Env) (c:Heap),J c ->
 vLen v0 fun u=>
 vLen v1 fun v=>
 bif decide ((u:Int)<(v:Int)) then
 R (zi (-1)) c
 else
 vLen v0 fun w=>
 vLen v1 fun x=>
 bif decide ((w:Int)>(x:Int)) then
 R (zi 1) c
 else
 R (zi 0) c):CallsH P 58 #[v0,v1] h R:=zv ⟨[(2,[(5,.i .i64)])],[(4,[]),(8,[])],[]⟩ Tryz.func58 y
theorem ZyI {c:Addr} (hv:
 ∃ J:Heap->Prop,(
 ldI .i64 h c fun x7=>
 zB 11 #[zi x7,zi 1,zi 32] h fun b8 f=>
 bif !b8 then
 R (.bool false) f
 else
 ldV f (c.add 1) fun k=>
 vLen k fun l=>
 bif decide ((l:Int)>128) then
 R (.bool false) f
 else
 J f
 )/\∀ (_:Env) (g:Heap),J g ->
 lq1 (0:Int) g fun i n e b=>
 ldV b (c.add 1) fun o=>
 vLen o fun p=>
 bif decide (e<(p:Int)) then
 ldV b (c.add 1) fun r=>
 vIdx r e 1 fun s=>
 ldV b s fun t=>
 ldI .i64 b c fun u=>
 zB 57 #[t,zi u] b fun v a=>
 bif !v then
 R (.bool false) a
 else
 bif decide (e>0) then
 ldV a (c.add 1) fun w=>
 vIdx w (zw (e-1)) 1 fun x=>
 ldV a x fun y=>
 ldV a (c.add 1) fun a0=>
 vIdx a0 e 1 fun a1=>
 ldV a a1 fun a2=>
 zI 58 #[y,a2] a fun a3 j=>
 bif decide (a3>0) then
 R (.bool false) j
 else
 ag1 i n (zw (e+1)) j
 else
 ag1 i n (zw (e+1)) a
 else
 R (.bool true) b):CallsH P 22 #[.pointer (some c)] h R:=zv ⟨[(4,[(3,.i .i64)])],[(3,[])],[]⟩ Tryz.func22 hv
theorem ZxP {v0 v1:Value} (j:
 lq2 (0:Int) (0:Int) h fun J n c b a=>
 vLen v0 fun k=>
 bif decide (b<(k:Int)) then
 vIdx v0 b 1 fun e=>
 ldI .i64 a e fun f=>
 vIdx v1 b 1 fun g=>
 ldI .i64 a g fun i=>
 ag2 J n (zw (c+(zw (f*i)))) (zw (b+1)) a
 else
 R (zi c) a):CallsH P 59 #[v0,v1] h R:=zv ⟨[(3,[(5,.i .i64),(6,.i .i64)])],[],[]⟩ Tryz.func59 j
theorem ZDm {v0:Value} (hv:
 vLen v0 fun e=>
 ∃ J:Heap->Prop,(
 bif decide ((e:Int)<1) then
 R (.bool false) h
 else
 bif decide ((e:Int)>32) then
 R (.bool false) h
 else
 J h
 )/\∀ (_:Env) (j:Heap),J j ->
 lq1 (0:Int) j fun s n f b=>
 bif decide (f<(e:Int)) then
 vIdx v0 f 1 fun t=>
 ldV b t fun u=>
 vLen u fun v=>
 bif (v:Int) !=(e:Int) then
 R (.bool false) b
 else
 lq1 (0:Int) b fun k l g a=>
 bif decide (g<(e:Int)) then
 vIdx v0 f 1 fun w=>
 ldV a w fun x=>
 vIdx x g 1 fun y=>
 ldI .i64 a y fun a0=>
 bif a0 !=1 then
 vIdx v0 f 1 fun a1=>
 ldV a a1 fun a2=>
 vIdx a2 g 1 fun a3=>
 ldI .i64 a a3 fun a4=>
 bif a4 !=(-1) then
 R (.bool false) a
 else
 ag1 k l (zw (g+1)) a
 else
 ag1 k l (zw (g+1)) a
 else
 ag1 s n (zw (f+1)) a
 else
 lq1 (0:Int) b fun a5 a6 i o=>
 bif decide (i<(e:Int)) then
 lq1 (0:Int) o fun a7 a8 r c=>
 bif decide (r<i) then
 vIdx v0 i 1 fun a9=>
 ldV c a9 fun aa=>
 vIdx v0 r 1 fun ab=>
 ldV c ab fun ac=>
 zI 59 #[aa,ac] c fun ad p=>
 bif ad !=0 then
 R (.bool false) p
 else
 ag1 a7 a8 (zw (r+1)) p
 else
 ag1 a5 a6 (zw (i+1)) c
 else
 R (.bool true) o):CallsH P 23 #[v0] h R:=zv ⟨[(5,[(4,.i .i64)]),(10,[(5,.i .i64)]),(15,[(6,.i .i64)]),(18,[(7,.i .i64)])],[(4,[])],[]⟩ Tryz.func23 hv
theorem ZEe {u:Addr} (hv:
 vNew h (.cells #[zi 0,zi 0,.slice none 0 0] 55) fun p2 j=>
 ∃ B:Nat->Prop,
 vNew j (.cells #[zi 0,zi 0,.slice none 0 0] 55) fun b y=>
 ExtBut B j y /\
 ldI .i64 (hmask B j) (u.add 1) fun x7=>
 ldV (hmask B j) (u.add 2) fun a0=>
 vOne a0 fun _=>
 vStore1 y b (zi x7) fun a3=>
 vStore1 a3 (b.add 1) (zi 0) fun a4=>
 vStore1 a4 (b.add 2) a0 fun a=>
 ldV a (u.add 2) fun a5=>
 vLen a5 fun a6=>
 bif decide ((a6:Int)>0) then
 ldV a (u.add 2) fun a7=>
 vIdx a7 0 1 fun a8=>
 ldV a a8 fun a9=>
 vLen a9 fun aa=>
 vStore1 a (b.add 1) (zi (aa:Int)) fun k=>
 ldI .i64 k b fun v=>
 ldI .i64 k (b.add 1) fun w=>
 ldV k (b.add 2) fun x=>
 vStore1 k p2 (zi v) fun ab=>
 vStore1 ab (p2.add 1) (zi w) fun ac=>
 vStore1 ac (p2.add 2) x fun c=>
 ldI .i64 c p2 fun l=>
 ldI .i64 c (p2.add 1) fun o=>
 ldV c (p2.add 2) fun p=>
 R (.agg #[zi l,zi o,p]) c
 else
 ldI .i64 a b fun r=>
 ldI .i64 a (b.add 1) fun s=>
 ldV a (b.add 2) fun t=>
 vStore1 a p2 (zi r) fun a1=>
 vStore1 a1 (p2.add 1) (zi s) fun a2=>
 vStore1 a2 (p2.add 2) t fun e=>
 ldI .i64 e p2 fun f=>
 ldI .i64 e (p2.add 1) fun g=>
 ldV e (p2.add 2) fun i=>
 R (.agg #[zi f,zi g,i]) e):CallsH P 24 #[.pointer (some u)] h R:=zv ⟨[],[],[]⟩ Tryz.func24 hv
theorem ZDs {b c:Int} (f:
 zB 11 #[zi b,zi 2,zi 16] h fun g a=>
 bif g then
 zB 11 #[zi c,zi 1,zi 8] a fun i e=>
 R (.bool i) e
 else
 R (.bool false) a):CallsH P 60 #[zi b,zi c] h R:=zv ⟨[],[],[]⟩ Tryz.func60 f
theorem ZxV {c:Addr} (hv:
 ∃ J:Heap->Prop,(
 ldI .i64 h c fun x8=>
 ldI .i64 h (c.add 1) fun k=>
 zB 60 #[zi x8,zi k] h fun l e=>
 bif !l then
 R (.bool false) e
 else
 ldV e (c.add 2) fun o=>
 vLen o fun p=>
 bif decide ((p:Int)>256) then
 R (.bool false) e
 else
 J e
 )/\∀ (_:Env) (g:Heap),J g ->
 lq1 (0:Int) g fun r n f b=>
 ldV b (c.add 2) fun s=>
 vLen s fun t=>
 bif decide (f<(t:Int)) then
 ldV b (c.add 2) fun u=>
 vIdx u f 1 fun v=>
 ldV b v fun w=>
 vLen w fun x=>
 ldI .i64 b (c.add 1) fun y=>
 bif (x:Int) !=y then
 R (.bool false) b
 else
 lq1 (0:Int) b fun a0 a1 j a=>
 ldV a (c.add 2) fun a2=>
 vIdx a2 f 1 fun a3=>
 ldV a a3 fun a4=>
 vLen a4 fun a5=>
 bif decide (j<(a5:Int)) then
 ldV a (c.add 2) fun a6=>
 vIdx a6 f 1 fun a7=>
 ldV a a7 fun a8=>
 vIdx a8 j 1 fun a9=>
 ldI .i64 a a9 fun aa=>
 ldI .i64 a c fun ab=>
 zB 11 #[zi aa,zi 0,zi (zw (ab-1))] a fun ac i=>
 bif !ac then
 R (.bool false) i
 else
 ag1 a0 a1 (zw (j+1)) i
 else
 ag1 r n (zw (f+1)) a
 else
 R (.bool true) b):CallsH P 25 #[.pointer (some c)] h R:=zv ⟨[(4,[(3,.i .i64)]),(9,[(4,.i .i64)])],[(3,[])],[]⟩ Tryz.func25 hv
theorem Zzb {c:Int} (l:
 zB 11 #[zi c,zi 2,zi 64] h fun o e=>
 bif !o then
 R (.tuple #[zi 0,zi 0]) e
 else
 lq1 (2:Int) e fun J n a f=>
 a≠0 /\
 bif (Int.tmod c a:Int) !=0 then
 ag1 J n (zw (a+1)) f
 else
 lq2 (0:Int) c f fun i j k g b=>
 bif decide (g>1) then
 a≠0 /\
 bif (Int.tmod g a:Int) !=0 then
 R (.tuple #[zi 0,zi 0]) b
 else
 a≠0 /\
 ag2 i j (zw (k+1)) (zw (Int.tdiv g a)) b
 else
 R (.tuple #[zi a,zi k]) b):CallsH P 61 #[zi c] h R:=zv ⟨[(4,[(4,.i .i64)]),(8,[(5,.i .i64),(6,.i .i64)])],[],[]⟩ Tryz.func61 l
theorem ZGm {f a g:Int} (r:
 vNewS h (.cells #[] 2) 0 fun s i=>
 lq3 f g s i fun J n b c j e=>
 bif decide (c>0) then
 a≠0 /\
 vNewS e (.cells #[zi (Int.tmod b a)] 2) 1 fun k l=>
 vAppend 1 8 [zi 0] 2 j k l fun o p=>
 a≠0 /\
 ag3 J n (zw (Int.tdiv b a)) (zw (c-1)) o p
 else
 R j e):CallsH P 108 #[zi f,zi a,zi g] h R:=zv ⟨[(2,[(0,.i .i64),(2,.i .i64),(7,.v)])],[],[]⟩ Tryz.func108 r
theorem ZwX {c e:Int} (g:
 lq2 e (1:Int) h fun J n a f b=>
 bif decide (a>0) then
 ag2 J n (zw (a-1)) (zw (f*c)) b
 else
 R (zi f) b):CallsH P 112 #[zi c,zi e] h R:=zv ⟨[(2,[(1,.i .i64),(5,.i .i64)])],[],[]⟩ Tryz.func112 g
theorem ZDp {v0:Value} (c:
 vNewS h (.cells #[] 2) 0 fun e a=>
 vAppend 1 8 [zi 0] 2 e v0 a fun f b=>
 R f b):CallsH P 119 #[v0] h R:=zv ⟨[],[],[]⟩ Tryz.func119 c
theorem ZEO {v0 v1:Value} {i:Int} (hv:
 zV 119 #[v0] h fun a l=>
 vLen v1 fun b=>
 vLen a fun o=>
 lq1 (zw ((o:Int)-1)) l fun J n f g=>
 bif decide (f>=(zw ((b:Int)-1))) then
 vIdx a f 1 fun p=>
 ldI .i64 g p fun r=>
 lq1 (0:Int) g fun s t c e=>
 bif decide (c<(b:Int)) then
 vIdx a (zw ((zw ((zw (f-(b:Int)))+1))+c)) 1 fun u=>
 ldI .i64 e u fun v=>
 vIdx v1 c 1 fun w=>
 ldI .i64 e w fun x=>
 i≠0 /\
 vIdx a (zw ((zw ((zw (f-(b:Int)))+1))+c)) 1 fun y=>
 vStore1 e y (zi (Int.tmod (zw (v+(zw ((zw (i-r))*x)))) i)) fun a0=>
 ag1 s t (zw (c+1)) a0
 else
 ag1 J n (zw (f-1)) e
 else
 lq1 a g fun a1 a2 j k=>
 vLen j fun a3=>
 bif decide ((a3:Int)>=(b:Int)) then
 vLen j fun a4=>
 vSliceS j 1 none (some (zi (zw ((a4:Int)-1)))) none fun a5=>
 ag1 a1 a2 a5 k
 else
 R j k):CallsH P 162 #[v0,v1,zi i] h R:=zv ⟨[(4,[(9,.i .i64)]),(8,[(11,.i .i64)]),(12,[(7,.v)])],[],[]⟩ Tryz.func162 hv
theorem ZCE {v0:Value} {c:Int} (i:
 vLen v0 fun j=>
 lq2 (0:Int) (zw ((j:Int)-1)) h fun J n e b a=>
 bif decide (b>=0) then
 vIdx v0 b 1 fun f=>
 ldI .i64 a f fun g=>
 ag2 J n (zw ((zw (e*c))+g)) (zw (b-1)) a
 else
 R (zi e) a):CallsH P 163 #[v0,zi c] h R:=zv ⟨[(3,[(5,.i .i64),(6,.i .i64)])],[],[]⟩ Tryz.func163 i
theorem ZCB {v0:Value} {a:Int} (hv:
 vLen v0 fun i=>
 lq1 (1:Int) h fun J n b c=>
 bif decide ((zw (2*b):Int)<=(zw ((i:Int)-1))) then
 lq1 (0:Int) c fun j k g l=>
 zI 112 #[zi a,zi b] l fun o e=>
 bif decide (g<o) then
 zV 108 #[zi g,zi a,zi b] e fun p r=>
 vNewS r (.cells #[zi 1] 2) 1 fun s t=>
 vAppend 1 8 [zi 0] 2 p s t fun u v=>
 zV 162 #[v0,u,zi a] v fun w x=>
 zI 163 #[w,zi a] x fun y f=>
 bif y==0 then
 R (.bool false) f
 else
 ag1 j k (zw (g+1)) f
 else
 ag1 J n (zw (b+1)) e
 else
 R (.bool true) c):CallsH P 109 #[v0,zi a] h R:=zv ⟨[(3,[(6,.i .i64)]),(6,[(7,.i .i64)])],[],[]⟩ Tryz.func109 hv
theorem Zwm {l:Int} (hv:
 vNew h (.cells #[zi 0,zi 0,.slice none 0 0] 60) fun p2 o=>
 CallsH P 61 #[zi l] o fun r9 p=>∃ a,∃ c,r9=.tuple #[zi a,zi c] /\
 lq1 (0:Int) p fun J n r s=>
 zV 108 #[zi r,zi a,zi c] s fun t u=>
 vNewS u (.cells #[zi 1] 2) 1 fun v w=>
 vAppend 1 8 [zi 0] 2 t v w fun i x=>
 zB 109 #[i,zi a] x fun y j=>
 bif y then
 vOne i fun _=>
 vStore1 j p2 (zi a) fun a0=>
 vStore1 a0 (p2.add 1) (zi c) fun k=>
 vStore1 k (p2.add 2) i fun b=>
 ldI .i64 b p2 fun e=>
 ldI .i64 b (p2.add 1) fun f=>
 ldV b (p2.add 2) fun g=>
 R (.agg #[zi e,zi f,g]) b
 else
 ag1 J n (zw (r+1)) j):CallsH P 62 #[zi l] h R:=zv ⟨[(4,[(5,.i .i64)])],[],[]⟩ Tryz.func62 hv
theorem ZCT {u:Addr} (hv:
 vNew h (.cells #[zi 0,zi 0,.slice none 0 0,.slice none 0 0] 62) fun p2 w=>
 ldI .i64 w (u.add 1) fun x9=>
 CallsH P 61 #[zi x9] w fun a2 f=>∃ o,∃ v,a2=.tuple #[zi o,zi v] /\
 bif o==0 then
 vStore1 f p2 (zi 0) fun a3=>
 vStore1 a3 (p2.add 1) (zi 0) fun a4=>
 vStore1 a4 (p2.add 2) (.slice none 0 0) fun a5=>
 vStore1 a5 (p2.add 3) (.slice none 0 0) fun g=>
 ldI .i64 g p2 fun p=>
 ldI .i64 g (p2.add 1) fun r=>
 ldV g (p2.add 2) fun s=>
 ldV g (p2.add 3) fun t=>
 R (.agg #[zi p,zi r,s,t]) g
 else
 ∃ B:Nat->Prop,
 ldI .i64 f (u.add 1) fun a6=>
 CallsH P 62 #[zi a6] f fun a7 x=>∃ b,∃ c,∃ (e:Value),a7=.agg #[zi b,zi c,e] /\
 ExtBut B f x /\
 ldV (hmask B f) (u.add 2) fun y=>
 vOne y fun _=>
 vStore1 x p2 (zi b) fun a8=>
 vStore1 a8 (p2.add 1) (zi c) fun a0=>
 vStore1 a0 (p2.add 2) e fun a1=>
 vStore1 a1 (p2.add 3) y fun a=>
 ldI .i64 a p2 fun i=>
 ldI .i64 a (p2.add 1) fun j=>
 ldV a (p2.add 2) fun k=>
 ldV a (p2.add 3) fun l=>
 R (.agg #[zi i,zi j,k,l]) a):CallsH P 26 #[.pointer (some u)] h R:=zv ⟨[],[],[]⟩ Tryz.func26 hv
theorem ZAu {b:Addr} (hv:
 ∃ J:Heap->Prop,(
 ldI .i64 h b fun o=>
 zB 11 #[zi o,zi 2,zi 64] h fun p g=>
 bif !p then
 R (.bool false) g
 else
 ldI .i64 g (b.add 1) fun r=>
 zB 11 #[zi r,zi 1,zi 6] g fun s a=>
 bif !s then
 R (.bool false) a
 else
 ldV a (b.add 2) fun t=>
 vLen t fun u=>
 ldI .i64 a (b.add 1) fun v=>
 bif (u:Int) !=(zw (v+1)) then
 R (.bool false) a
 else
 ldV a (b.add 2) fun w=>
 ldI .i64 a (b.add 1) fun x=>
 vIdx w x 1 fun y=>
 ldI .i64 a y fun a0=>
 bif a0 !=1 then
 R (.bool false) a
 else
 J a
 )/\∀ (_:Env) (f:Heap),J f ->
 ldI .i64 f b fun a1=>
 ldI .i64 f (b.add 1) fun a2=>
 zI 112 #[zi a1,zi a2] f fun a3 a4=>
 CallsH P 61 #[zi a3] a4 fun a5 i=>∃ c,∃ j,a5=.tuple #[zi c,zi j] /\
 ldI .i64 i b fun a6=>
 bif c !=a6 then
 R (.bool false) i
 else
 lq1 (0:Int) i fun a7 n l e=>
 ldV e (b.add 2) fun a8=>
 vLen a8 fun a9=>
 bif decide (l<(a9:Int)) then
 ldV e (b.add 2) fun aa=>
 vIdx aa l 1 fun ab=>
 ldI .i64 e ab fun ac=>
 zB 11 #[zi ac,zi 0,zi (zw (c-1))] e fun ad k=>
 bif !ad then
 R (.bool false) k
 else
 ag1 a7 n (zw (l+1)) k
 else
 ldV e (b.add 2) fun ae=>
 zB 109 #[ae,zi c] e fun af ag=>
 R (.bool af) ag):CallsH P 110 #[.pointer (some b)] h R:=zv ⟨[(8,[(6,.i .i64)])],[(3,[])],[]⟩ Tryz.func110 hv
theorem ZAI {a:Addr} (f:
 ldI .i64 h a fun g=>
 ldI .i64 h (a.add 1) fun b=>
 zI 112 #[zi g,zi b] h fun c e=>
 R (zi c) e):CallsH P 65 #[.pointer (some a)] h R:=zv ⟨[],[],[]⟩ Tryz.func65 f
theorem ZB3 {e:Addr} {v1:Value} (l:
 zI 65 #[.pointer (some e)] h fun o f=>
 lq1 (0:Int) f fun J n c a=>
 vLen v1 fun g=>
 bif decide (c<(g:Int)) then
 vIdx v1 c 1 fun i=>
 ldI .i64 a i fun j=>
 zB 11 #[zi j,zi 0,zi (zw (o-1))] a fun k b=>
 bif !k then
 R (.bool false) b
 else
 ag1 J n (zw (c+1)) b
 else
 R (.bool true) a):CallsH P 111 #[.pointer (some e),v1] h R:=zv ⟨[(3,[(6,.i .i64)])],[],[]⟩ Tryz.func111 l
theorem ZF2 {g:Addr} {v1:Value} (hv:
 ∃ J:Heap->Prop,(
 zB 110 #[.pointer (some g)] h fun b7 a=>
 bif !b7 then
 R (.bool false) a
 else
 vLen v1 fun i=>
 bif (i:Int)==0 then
 R (.bool false) a
 else
 vLen v1 fun j=>
 bif decide ((j:Int)>32) then
 R (.bool false) a
 else
 vIdx v1 0 1 fun k=>
 ldV a k fun l=>
 vLen l fun o=>
 bif (o:Int)==0 then
 R (.bool false) a
 else
 vIdx v1 0 1 fun p=>
 ldV a p fun r=>
 vLen r fun s=>
 bif decide ((s:Int)>32) then
 R (.bool false) a
 else
 J a
 )/\∀ (_:Env) (e:Heap),J e ->
 lq1 (0:Int) e fun t n c b=>
 vLen v1 fun u=>
 bif decide (c<(u:Int)) then
 vIdx v1 c 1 fun v=>
 ldV b v fun w=>
 vLen w fun x=>
 vIdx v1 0 1 fun y=>
 ldV b y fun a0=>
 vLen a0 fun a1=>
 bif (x:Int) !=(a1:Int) then
 R (.bool false) b
 else
 vIdx v1 c 1 fun a2=>
 ldV b a2 fun a3=>
 zB 111 #[.pointer (some g),a3] b fun a4 f=>
 bif !a4 then
 R (.bool false) f
 else
 ag1 t n (zw (c+1)) f
 else
 R (.bool true) b):CallsH P 63 #[.pointer (some g),v1] h R:=zv ⟨[(4,[(5,.i .i64)])],[(3,[])],[]⟩ Tryz.func63 hv
theorem ZEX {c f:Int} (g:
 lq2 f (1:Int) h fun J n a e b=>
 bif decide (a>0) then
 bif decide ((zw (e*c):Int)>4096) then
 R (zi 0) b
 else
 ag2 J n (zw (a-1)) (zw (e*c)) b
 else
 R (zi e) b):CallsH P 64 #[zi c,zi f] h R:=zv ⟨[(2,[(1,.i .i64),(5,.i .i64)])],[],[]⟩ Tryz.func64 g
theorem ZEE {v0 v1:Value} (j:
 vLen v0 fun k=>
 vLen v1 fun l=>
 bif (k:Int) !=(l:Int) then
 R (.bool false) h
 else
 lq1 (0:Int) h fun J n b a=>
 vLen v0 fun c=>
 bif decide (b<(c:Int)) then
 vIdx v0 b 1 fun e=>
 ldI .i64 a e fun f=>
 vIdx v1 b 1 fun g=>
 ldI .i64 a g fun i=>
 bif f !=i then
 R (.bool false) a
 else
 ag1 J n (zw (b+1)) a
 else
 R (.bool true) a):CallsH P 113 #[v0,v1] h R:=zv ⟨[(4,[(5,.i .i64)])],[],[]⟩ Tryz.func113 j
theorem ZvU {v0 v1:Value} (l:
 vLen v0 fun o=>
 vLen v1 fun p=>
 bif (o:Int) !=(p:Int) then
 R (.bool false) h
 else
 lq1 (0:Int) h fun J n b a=>
 vLen v0 fun e=>
 bif decide (b<(e:Int)) then
 vIdx v0 b 1 fun f=>
 ldV a f fun g=>
 vIdx v1 b 1 fun i=>
 ldV a i fun j=>
 zB 113 #[g,j] a fun k c=>
 bif !k then
 R (.bool false) c
 else
 ag1 J n (zw (b+1)) c
 else
 R (.bool true) a):CallsH P 66 #[v0,v1] h R:=zv ⟨[(4,[(5,.i .i64)])],[],[]⟩ Tryz.func66 l
theorem ZBp {a:Addr} {s t:Int} (hv:
 ldI .i64 h a fun u=>
 ldI .i64 h (a.add 1) fun v=>
 zV 108 #[zi s,zi u,zi v] h fun j g=>
 ldI .i64 g a fun w=>
 ldI .i64 g (a.add 1) fun x=>
 zV 108 #[zi t,zi w,zi x] g fun k l=>
 ldI .i64 l (a.add 1) fun o=>
 vMake 8 [zi 0] 2 (zw ((zw (2*o))-1)) (zw ((zw (2*o))-1)) l fun i y=>
 lq1 (0:Int) y fun J n e b=>
 vLen j fun a0=>
 bif decide (e<(a0:Int)) then
 lq1 (0:Int) b fun a1 a2 f c=>
 vLen k fun a3=>
 bif decide (f<(a3:Int)) then
 vIdx i (zw (e+f)) 1 fun a4=>
 ldI .i64 c a4 fun a5=>
 vIdx j e 1 fun a6=>
 ldI .i64 c a6 fun a7=>
 vIdx k f 1 fun a8=>
 ldI .i64 c a8 fun a9=>
 ldI .i64 c a fun p=>
 p≠0 /\
 vIdx i (zw (e+f)) 1 fun aa=>
 vStore1 c aa (zi (Int.tmod (zw (a5+(zw (a7*a9)))) p)) fun ab=>
 ag1 a1 a2 (zw (f+1)) ab
 else
 ag1 J n (zw (e+1)) c
 else
 ∃ B:Nat->Prop,
 ldV b (a.add 2) fun ac=>
 ldI .i64 b a fun ad=>
 zV 162 #[i,ac,zi ad] b fun ae r=>
 ExtBut B b r /\
 ldI .i64 (hmask B b) a fun af=>
 zI 163 #[ae,zi af] r fun ag ah=>
 R (zi ag) ah):CallsH P 170 #[.pointer (some a),zi s,zi t] h R:=zv ⟨[(5,[(10,.i .i64)]),(8,[(11,.i .i64)])],[],[]⟩ Tryz.func170 hv
theorem Zyz {c:Addr} {v1:Value} {e:Int} (u:
 vNewS h (.cells #[] 2) 0 fun v f=>
 lq2 v (0:Int) f fun J n g b a=>
 vLen v1 fun i=>
 bif decide (b<(i:Int)) then
 vIdx v1 b 1 fun j=>
 ldI .i64 a j fun k=>
 zI 170 #[.pointer (some c),zi k,zi e] a fun l o=>
 vNewS o (.cells #[zi l] 2) 1 fun p r=>
 vAppend 1 8 [zi 0] 2 g p r fun s t=>
 ag2 J n s (zw (b+1)) t
 else
 R g a):CallsH P 120 #[.pointer (some c),v1,zi e] h R:=zv ⟨[(3,[(7,.v),(8,.i .i64)])],[],[]⟩ Tryz.func120 u
theorem ZxS {v0:Value} (r:
 vNewS h (.cells #[] 36) 0 fun s e=>
 lq2 s (0:Int) e fun J n f c a=>
 vLen v0 fun t=>
 bif decide (c<(t:Int)) then
 vIdx v0 c 1 fun g=>
 ldV a g fun i=>
 zV 119 #[i] a fun b j=>
 vOne b fun _=>
 vNewS j (.cells #[b] 36) 1 fun k l=>
 vAppend 1 24 [.slice none 0 0] 36 f k l fun o p=>
 ag2 J n o (zw (c+1)) p
 else
 R f a):CallsH P 164 #[v0] h R:=zv ⟨[(3,[(3,.v),(4,.i .i64)])],[],[]⟩ Tryz.func164 r
theorem Zz2 {c:Addr} {e:Int} (g:
 lq1 (1:Int) h fun J n b f=>
 zI 170 #[.pointer (some c),zi e,zi b] f fun i a=>
 bif i !=1 then
 ag1 J n (zw (b+1)) a
 else
 R (zi b) a):CallsH P 165 #[.pointer (some c),zi e] h R:=zv ⟨[(2,[(5,.i .i64)])],[],[]⟩ Tryz.func165 g
theorem Zwo {c:Addr} {i j k:Int} (hv:
 ldI .i64 h c fun l=>
 ldI .i64 h (c.add 1) fun o=>
 zV 108 #[zi i,zi l,zi o] h fun e f=>
 ldI .i64 f c fun p=>
 ldI .i64 f (c.add 1) fun r=>
 zV 108 #[zi j,zi p,zi r] f fun s t=>
 lq1 (0:Int) t fun J n b a=>
 vLen e fun u=>
 bif decide (b<(u:Int)) then
 vIdx e b 1 fun v=>
 ldI .i64 a v fun w=>
 vIdx s b 1 fun x=>
 ldI .i64 a x fun y=>
 ldI .i64 a c fun g=>
 g≠0 /\
 vIdx e b 1 fun a0=>
 vStore1 a a0 (zi (Int.tmod (zw (w+(zw (k*y)))) g)) fun a1=>
 ag1 J n (zw (b+1)) a1
 else
 ldI .i64 a c fun a2=>
 zI 163 #[e,zi a2] a fun a3 a4=>
 R (zi a3) a4):CallsH P 171 #[.pointer (some c),zi i,zi j,zi k] h R:=zv ⟨[(4,[(11,.i .i64)])],[],[]⟩ Tryz.func171 hv
theorem ZDr {c:Addr} {v1 f:Value} {g:Int} (hv:
 vNewS h (.cells #[] 2) 0 fun i j=>
 lq2 i (0:Int) j fun J n k b a=>
 vLen v1 fun l=>
 bif decide (b<(l:Int)) then
 ∃ B:Nat->Prop,
 vIdx f b 1 fun o=>
 ldI .i64 a o fun p=>
 zI 170 #[.pointer (some c),zi p,zi g] a fun r e=>
 ExtBut B a e /\
 vIdx v1 b 1 fun s=>
 ldI .i64 (hmask B a) s fun t=>
 ldI .i64 (hmask B a) c fun u=>
 zI 171 #[.pointer (some c),zi t,zi r,zi (zw (u-1))] e fun v w=>
 vNewS w (.cells #[zi v] 2) 1 fun x y=>
 vAppend 1 8 [zi 0] 2 k x y fun a0 a1=>
 ag2 J n a0 (zw (b+1)) a1
 else
 R k a):CallsH P 166 #[.pointer (some c),v1,f,zi g] h R:=zv ⟨[(3,[(9,.v),(10,.i .i64)])],[],[]⟩ Tryz.func166 hv
theorem ZAO {r:Addr} {v1:Value} {x2:Int} (hv:
 zV 164 #[v1] h fun a ad=>
 vNewS ad (.cells #[] 2) 0 fun ae af=>
 lq2 ae (0:Int) af fun J n l e o=>
 ∃ s:Heap->Prop,(
 bif decide (e<x2) then
 vLen l fun ag=>
 vLen a fun ah=>
 bif decide ((ag:Int)<(ah:Int)) then
 s o
 else
 R (.tuple #[a,l]) o
 else
 R (.tuple #[a,l]) o
 )/\∀ (_:Env) (t:Heap),s t ->
 vLen l fun k=>
 ∃ p:Int->Heap->Prop,(
 lq1 (k:Int) t fun ai aj i j=>
 vLen a fun ak=>
 bif decide (i<(ak:Int)) then
 vIdx a i 1 fun al=>
 ldV j al fun am=>
 vIdx am e 1 fun an=>
 ldI .i64 j an fun ao=>
 bif ao==0 then
 ag1 ai aj (zw (i+1)) j
 else
 p i j
 else
 p i j
 )/\∀ (_:Env) b (f:Heap),p b f ->
 vLen a fun ap=>
 bif b==(ap:Int) then
 ag2 J n l (zw (e+1)) f
 else
 ∃ B:Nat->Prop,
 vIdx a b 1 fun aq=>
 ldV f aq fun ar=>
 vIdx ar e 1 fun p64=>
 ldI .i64 f p64 fun au=>
 zI 165 #[.pointer (some r),zi au] f fun av u=>
 ExtBut B f u /\
 vIdx a b 1 fun aw=>
 ldV (hmask B f) aw fun ax=>
 zV 120 #[.pointer (some r),ax,zi av] u fun v w=>
 vIdx a (k:Int) 1 fun ay=>
 ldV w ay fun az=>
 vIdx a b 1 fun b0=>
 vStore1 w b0 az fun a0=>
 vIdx a (k:Int) 1 fun b1=>
 vStore1 a0 b1 v fun a1=>
 lq1 (0:Int) a1 fun x y g c=>
 vLen a fun b2=>
 bif decide (g<(b2:Int)) then
 bif g !=(k:Int) then
 vIdx a g 1 fun b3=>
 ldV c b3 fun b4=>
 vIdx a g 1 fun b5=>
 ldV c b5 fun b6=>
 vIdx b6 e 1 fun a2=>
 ldI .i64 c a2 fun a3=>
 zV 166 #[.pointer (some r),b4,v,zi a3] c fun a4 a5=>
 vIdx a g 1 fun a6=>
 vStore1 a5 a6 a4 fun a7=>
 ag1 x y (zw (g+1)) a7
 else
 ag1 x y (zw (g+1)) c
 else
 vNewS c (.cells #[zi e] 2) 1 fun a8 a9=>
 vAppend 1 8 [zi 0] 2 l a8 a9 fun aa ab=>
 ag2 J n aa (zw (e+1)) ab):CallsH P 114 #[.pointer (some r),v1,zi x2] h R:=zv ⟨[(4,[(9,.v),(10,.i .i64)]),(8,[(12,.i .i64)]),(15,[(14,.i .i64)])],[(6,[]),(10,[(12,.i .i64)])],[]⟩ Tryz.func114 hv
theorem Zyf {c:Addr} {v1:Value} (o:
 vIdx v1 0 1 fun e=>
 ldV h e fun f=>
 vLen f fun g=>
 CallsH P 114 #[.pointer (some c),v1,zi (g:Int)] h fun i j=>∃ (a:Value),∃ (b:Value),i=.tuple #[a,b] /\
 vLen b fun k=>
 vSliceS a 1 none (some (zi (k:Int))) none fun l=>
 R l j):CallsH P 67 #[.pointer (some c),v1] h R:=zv ⟨[],[],[]⟩ Tryz.func67 o
theorem ZCg {b:Addr} (hv:
 ∃ J:Heap->Prop,(
 ldV h (b.add 3) fun v9=>
 zB 63 #[.pointer (some b),v9] h fun j a=>
 bif !j then
 R (.bool false) a
 else
 ldV a (b.add 3) fun k=>
 vIdx k 0 1 fun l=>
 ldV a l fun o=>
 vLen o fun p=>
 bif decide ((p:Int)>32) then
 R (.bool false) a
 else
 ldV a (b.add 3) fun r=>
 vLen r fun s=>
 bif decide ((s:Int)>8) then
 R (.bool false) a
 else
 J a
 )/\∀ (_:Env) (e:Heap),J e ->
 ∃ B:Nat->Prop,
 zI 65 #[.pointer (some b)] e fun t f=>
 ExtBut B e f /\
 ldV (hmask B e) (b.add 3) fun u=>
 vLen u fun v=>
 zI 64 #[zi t,zi (v:Int)] f fun w c=>
 bif w==0 then
 R (.bool false) c
 else
 ∃ g:Nat->Prop,
 ldV c (b.add 3) fun x=>
 zV 67 #[.pointer (some b),x] c fun y i=>
 ExtBut g c i /\
 ldV (hmask g c) (b.add 3) fun a0=>
 zB 66 #[y,a0] i fun a1 a2=>
 R (.bool a1) a2):CallsH P 27 #[.pointer (some b)] h R:=zv ⟨[],[(3,[])],[]⟩ Tryz.func27 hv
theorem ZzZ {v0:Value} (i:
 vLen v0 fun j=>
 bif decide ((j:Int)>64) then
 R (.bool false) h
 else
 lq1 (0:Int) h fun J n c a=>
 vLen v0 fun k=>
 bif decide (c<(k:Int)) then
 vIdx v0 c 1 fun e=>
 ldI .i64 a e fun f=>
 zB 11 #[zi f,zi 0,zi 63] a fun g b=>
 bif !g then
 R (.bool false) b
 else
 ag1 J n (zw (c+1)) b
 else
 R (.bool true) a):CallsH P 115 #[v0] h R:=zv ⟨[(4,[(3,.i .i64)])],[],[]⟩ Tryz.func115 i
theorem Zza {b c e f:Int} (p:
 vNew h (.cells #[zi b,zi c] 110) fun p2 i=>
 vNew i (.cells #[zi e,zi f] 110) fun g a=>
 ldI .i64 a p2 fun r=>
 ldI .i64 a g fun s=>
 bif decide (r<s) then
 R (.bool true) a
 else
 ldI .i64 a p2 fun j=>
 ldI .i64 a g fun k=>
 bif j==k then
 ldI .i64 a (p2.add 1) fun l=>
 ldI .i64 a (g.add 1) fun o=>
 R (.bool (decide (l<o))) a
 else
 R (.bool false) a):CallsH P 116 #[.agg #[zi b,zi c],.agg #[zi e,zi f]] h R:=zv ⟨[],[],[]⟩ Tryz.func116 p
theorem ZDI {i j:Value} (hv:
 vNew h (.cells #[i,j] 39) fun p1 v=>
 ∃ J:Heap->Prop,(
 ldV v p1 fun v7=>
 zB 115 #[v7] v fun b8 e=>
 bif !b8 then
 R (.bool false) e
 else
 ldV e (p1.add 1) fun a2=>
 vLen a2 fun a3=>
 bif decide ((a3:Int)>512) then
 R (.bool false) e
 else
 J e
 )/\∀ (_:Env) (k:Heap),J k ->
 ldV k p1 fun a4=>
 vLen a4 fun w=>
 lq1 (0:Int) k fun x n g b=>
 ldV b (p1.add 1) fun a5=>
 vLen a5 fun a6=>
 bif decide (g<(a6:Int)) then
 ldV b (p1.add 1) fun a7=>
 vIdx a7 g 2 fun y=>
 ldI .i64 b y fun o=>
 ldI .i64 b (y.add 1) fun p=>
 vNew b (.cells #[zi 0,zi 0] 110) fun c a8=>
 vStore1 a8 c (zi o) fun a9=>
 vStore1 a9 (c.add 1) (zi p) fun a0=>
 ldI .i64 a0 c fun aa=>
 zB 11 #[zi aa,zi 0,zi (zw ((w:Int)-1))] a0 fun ab f=>
 bif !ab then
 R (.bool false) f
 else
 ldI .i64 f (c.add 1) fun ac=>
 ldI .i64 f c fun ad=>
 zB 11 #[zi ac,zi (zw (ad+1)),zi (zw ((w:Int)-1))] f fun ae a=>
 bif !ae then
 R (.bool false) a
 else
 bif decide (g>0) then
 ldV a (p1.add 1) fun af=>
 vIdx af (zw (g-1)) 2 fun a1=>
 ldI .i64 a a1 fun r=>
 ldI .i64 a (a1.add 1) fun s=>
 ldI .i64 a c fun t=>
 ldI .i64 a (c.add 1) fun u=>
 zB 116 #[.agg #[zi r,zi s],.agg #[zi t,zi u]] a fun ag l=>
 bif !ag then
 R (.bool false) l
 else
 ag1 x n (zw (g+1)) l
 else
 ag1 x n (zw (g+1)) a
 else
 R (.bool true) b):CallsH P 68 #[.agg #[i,j]] h R:=zv ⟨[(5,[(4,.i .i64)])],[(3,[])],[]⟩ Tryz.func68 hv
theorem ZDb {i:Addr} (hv:
 vNew h (.cells #[.slice none 0 0,.slice none 0 0] 39) fun p2 a1=>
 ldI .i64 a1 (i.add 1) fun x9=>
 zB 11 #[zi x9,zi 0,zi 64] a1 fun a8 p=>
 bif !a8 then
 vStore1 p p2 (.slice none 0 0) fun a9=>
 vStore1 a9 (p2.add 1) (.slice none 0 0) fun r=>
 ldV r p2 fun l=>
 ldV r (p2.add 1) fun o=>
 R (.tuple #[.agg #[l,o],.bool false]) r
 else
 ldI .i64 p (i.add 1) fun a2=>
 vMake 8 [zi 0] 2 a2 a2 p fun a3 aa=>
 vOne a3 fun _=>
 vNew aa (.cells #[.slice none 0 0,.slice none 0 0] 39) fun b ab=>
 vStore1 ab b a3 fun ac=>
 vStore1 ac (b.add 1) (.slice none 0 0) fun ad=>
 lq1 (0:Int) ad fun J n s a=>
 ldV a (i.add 2) fun ae=>
 vLen ae fun af=>
 bif decide (s<(af:Int)) then
 ldV a (i.add 2) fun ag=>
 vIdx ag s 1 fun ah=>
 ldV a ah fun ai=>
 vLen ai fun aj=>
 bif (aj:Int) !=2 then
 vStore1 a p2 (.slice none 0 0) fun a4=>
 vStore1 a4 (p2.add 1) (.slice none 0 0) fun j=>
 ldV j p2 fun c=>
 ldV j (p2.add 1) fun e=>
 R (.tuple #[.agg #[c,e],.bool false]) j
 else
 ∃ B:Nat->Prop,
 ldV a (i.add 2) fun ak=>
 vIdx ak s 1 fun al=>
 ldV a al fun am=>
 vIdx am 0 1 fun an=>
 ldI .i64 a an fun ao=>
 ldV a (i.add 2) fun ap=>
 vIdx ap s 1 fun aq=>
 ldV a aq fun ar=>
 vIdx ar 1 1 fun au=>
 ldI .i64 a au fun av=>
 vNewS a (.cells #[zi ao,zi av] 110) 1 fun aw t=>
 ExtBut B a t /\
 ldV (hmask B a) (b.add 1) fun ax=>
 vAppend 2 16 [zi 0,zi 0] 110 ax aw t fun ay a5=>
 vStore1 a5 (b.add 1) ay fun a6=>
 ag1 J n (zw (s+1)) a6
 else
 ∃ u:Nat->Prop,
 ldV a b fun w=>
 ldV a (b.add 1) fun x=>
 zB 68 #[.agg #[w,x]] a fun az v=>
 ExtBut u a v /\
 ldV (hmask u a) b fun y=>
 ldV (hmask u a) (b.add 1) fun a0=>
 vStore1 v p2 y fun a7=>
 vStore1 a7 (p2.add 1) a0 fun k=>
 ldV k p2 fun f=>
 ldV k (p2.add 1) fun g=>
 R (.tuple #[.agg #[f,g],.bool az]) k):CallsH P 28 #[.pointer (some i)] h R:=zv ⟨[(5,[(5,.i .i64)])],[],[]⟩ Tryz.func28 hv
theorem ZA8 {v0 v1:Value} (k:
 vLen v0 fun g=>
 lq2 (0:Int) (g:Int) h fun J n a b c=>
 bif decide (a<b) then
 (2:Int)≠0 /\
 vIdx v0 (zw (Int.tdiv (zw (a+b)) 2)) 1 fun i=>
 ldV c i fun j=>
 zI 58 #[j,v1] c fun f e=>
 bif f==0 then
 R (.tuple #[zi (zw (Int.tdiv (zw (a+b)) 2)),.bool true]) e
 else
 bif decide (f<0) then
 ag2 J n (zw ((zw (Int.tdiv (zw (a+b)) 2))+1)) b e
 else
 ag2 J n a (zw (Int.tdiv (zw (a+b)) 2)) e
 else
 R (.tuple #[zi a,.bool false]) c):CallsH P 118 #[v0,v1] h R:=zv ⟨[(3,[(6,.i .i64),(7,.i .i64)])],[],[]⟩ Tryz.func118 k
theorem ZE8 {c:Int} (l:
 vNewS h (.cells #[] 2) 0 fun o e=>
 lq2 o (0:Int) e fun J n f b a=>
 bif decide (b<c) then
 vNewS a (.cells #[zi b] 2) 1 fun g i=>
 vAppend 1 8 [zi 0] 2 f g i fun j k=>
 ag2 J n j (zw (b+1)) k
 else
 R f a):CallsH P 167 #[zi c] h R:=zv ⟨[(3,[(3,.v),(4,.i .i64)])],[],[]⟩ Tryz.func167 l
theorem Zx4 {v0 v1:Value} (s:
 vNewS h (.cells #[] 2) 0 fun t c=>
 lq2 t (0:Int) c fun J n e b a=>
 vLen v0 fun f=>
 bif decide (b<(f:Int)) then
 vIdx v0 b 1 fun g=>
 ldI .i64 a g fun i=>
 vIdx v1 i 1 fun j=>
 ldI .i64 a j fun k=>
 vNewS a (.cells #[zi k] 2) 1 fun l o=>
 vAppend 1 8 [zi 0] 2 e l o fun p r=>
 ag2 J n p (zw (b+1)) r
 else
 R e a):CallsH P 168 #[v0,v1] h R:=zv ⟨[(3,[(5,.v),(6,.i .i64)])],[],[]⟩ Tryz.func168 s
theorem ZBw {v0:Value} {a:Int} {b:Value} (s:
 vNewS h (.cells #[] 36) 0 fun t c=>
 vSliceS v0 1 none (some (zi a)) none fun e=>
 vAppend 1 24 [.slice none 0 0] 36 t e c fun f g=>
 vOne b fun _=>
 vNewS g (.cells #[b] 36) 1 fun i j=>
 vAppend 1 24 [.slice none 0 0] 36 f i j fun k l=>
 vSliceS v0 1 (some (zi a)) none none fun o=>
 vAppend 1 24 [.slice none 0 0] 36 k o l fun p r=>
 R p r):CallsH P 169 #[v0,zi a,b] h R:=zv ⟨[],[],[]⟩ Tryz.func169 s
theorem Zyp {v:Int} {v1:Value} {w:Int} (hv:
 zV 167 #[zi v] h fun c x=>
 vOne c fun _=>
 vNewS x (.cells #[c] 36) 1 fun y a0=>
 vOne c fun _=>
 vNewS a0 (.cells #[c] 36) 1 fun a1 a2=>
 lq3 y a1 (0:Int) a2 fun J n v9 o k p=>
 vLen o fun a4=>
 bif decide (k<(a4:Int)) then
 lq3 v9 o (0:Int) p fun r s b a e f=>
 vLen v1 fun a5=>
 bif decide (e<(a5:Int)) then
 vIdx a k 1 fun a6=>
 ldV f a6 fun a7=>
 vIdx v1 e 1 fun a8=>
 ldV f a8 fun a9=>
 zV 168 #[a7,a9] f fun g aa=>
 CallsH P 118 #[b,g] aa fun ab l=>∃ i,∃ (j:Bool),ab=.tuple #[zi i,.bool j] /\
 bif j then
 ag3 r s b a (zw (e+1)) l
 else
 vLen b fun ac=>
 bif (ac:Int)==w then
 R (.tuple #[(.slice none 0 0),.bool false]) l
 else
 zV 169 #[b,zi i,g] l fun ad ae=>
 vOne g fun _=>
 vNewS ae (.cells #[g] 36) 1 fun af t=>
 vAppend 1 24 [.slice none 0 0] 36 a af t fun ag u=>
 ag3 r s ad ag (zw (e+1)) u
 else
 ag3 J n b a (zw (k+1)) f
 else
 R (.tuple #[v9,.bool true]) p):CallsH P 117 #[zi v,v1,zi w] h R:=zv ⟨[(5,[(9,.v),(10,.v),(11,.i .i64)]),(8,[(9,.v),(10,.v),(12,.i .i64)])],[],[]⟩ Tryz.func117 hv
theorem ZEr {s:Int} {v1:Value} (hv:
 vNewS h (.cells #[] 36) 0 fun l w=>
 CallsH P 117 #[zi s,l,zi 1] w fun x y=>∃ (a:Value),∃ (j:Bool),x=.tuple #[a,.bool j] /\
 lq3 l a (0:Int) y fun J n t u f g=>
 vLen v1 fun a0=>
 bif decide (f<(a0:Int)) then
 vIdx v1 f 1 fun a1=>
 ldV g a1 fun a2=>
 CallsH P 118 #[u,a2] g fun a3 i=>∃ k,∃ (b:Bool),a3=.tuple #[zi k,.bool b] /\
 bif b then
 ag3 J n t u (zw (f+1)) i
 else
 vIdx v1 f 1 fun a4=>
 ldV i a4 fun a5=>
 zV 119 #[a5] i fun o a6=>
 vOne o fun _=>
 vNewS a6 (.cells #[o] 36) 1 fun a7 a8=>
 vAppend 1 24 [.slice none 0 0] 36 t a7 a8 fun p a9=>
 vLen v1 fun aa=>
 CallsH P 117 #[zi s,p,zi (aa:Int)] a9 fun ab r=>∃ (c:Value),∃ (e:Bool),ab=.tuple #[c,.bool e] /\
 bif !e then
 R (.tuple #[(.slice none 0 0),.bool false]) r
 else
 ag3 J n p c (zw (f+1)) r
 else
 zB 66 #[u,v1] g fun ac v=>
 R (.tuple #[t,.bool ac]) v):CallsH P 69 #[zi s,v1] h R:=zv ⟨[(4,[(6,.v),(7,.v),(9,.i .i64)])],[],[]⟩ Tryz.func69 hv
theorem ZCe {b:Addr} (hv:
 ∃ J:Heap->Prop,(
 ldI .i64 h b fun x9=>
 zB 11 #[zi x9,zi 1,zi 32] h fun o e=>
 bif !o then
 R (.bool false) e
 else
 ldV e (b.add 1) fun p=>
 vLen p fun r=>
 bif (r:Int)==0 then
 R (.bool false) e
 else
 ldV e (b.add 1) fun s=>
 vLen s fun t=>
 bif decide ((t:Int)>720) then
 R (.bool false) e
 else
 J e
 )/\∀ (_:Env) (j:Heap),J j ->
 lq1 (0:Int) j fun k n f c=>
 ldV c (b.add 1) fun u=>
 vLen u fun v=>
 bif decide (f<(v:Int)) then
 ldV c (b.add 1) fun w=>
 vIdx w f 1 fun x=>
 ldV c x fun y=>
 zB 56 #[y] c fun a0 a=>
 bif !a0 then
 R (.bool false) a
 else
 ldV a (b.add 1) fun a1=>
 vIdx a1 f 1 fun a2=>
 ldV a a2 fun a3=>
 vLen a3 fun a4=>
 ldI .i64 a b fun a5=>
 bif (a4:Int) !=a5 then
 R (.bool false) a
 else
 bif decide (f>0) then
 ldV a (b.add 1) fun a6=>
 vIdx a6 (zw (f-1)) 1 fun a7=>
 ldV a a7 fun a8=>
 ldV a (b.add 1) fun a9=>
 vIdx a9 f 1 fun aa=>
 ldV a aa fun ab=>
 zI 58 #[a8,ab] a fun ac l=>
 bif decide (ac>=0) then
 R (.bool false) l
 else
 ag1 k n (zw (f+1)) l
 else
 ag1 k n (zw (f+1)) a
 else
 ldI .i64 c b fun ad=>
 ldV c (b.add 1) fun ae=>
 CallsH P 69 #[zi ad,ae] c fun af ag=>∃ (i:Value),∃ (g:Bool),af=.tuple #[i,.bool g] /\
 R (.bool g) ag):CallsH P 29 #[.pointer (some b)] h R:=zv ⟨[(4,[(3,.i .i64)])],[(3,[])],[]⟩ Tryz.func29 hv
theorem ZDO {a:Addr} (hv:
 ldI .i64 h a fun b=>
 bif b==1 then
 ldV h (a.add 2) fun ae=>
 zB 21 #[ae] h fun af r=>
 bif af then
 ldV r (a.add 2) fun ag=>
 vLen ag fun ah=>
 ldI .i64 r (a.add 1) fun ai=>
 R (.bool ((ah:Int)==ai)) r
 else
 R (.bool false) r
 else
 bif b==2 then
 ldI .i64 h (a.add 1) fun aj=>
 ldV h (a.add 2) fun w=>
 vOne w fun _=>
 vNew h (.cells #[zi aj,w] 53) fun ak al=>
 zB 22 #[.pointer (some ak)] al fun am an=>
 R (.bool am) an
 else
 bif b==3 then
 ldV h (a.add 2) fun ao=>
 zB 23 #[ao] h fun ap s=>
 bif ap then
 ldV s (a.add 2) fun aq=>
 vLen aq fun ar=>
 ldI .i64 s (a.add 1) fun au=>
 R (.bool ((ar:Int)==au)) s
 else
 R (.bool false) s
 else
 bif b==4 then
 CallsH P 24 #[.pointer (some a)] h fun av aw=>∃ c,∃ e,∃ (f:Value),av=.agg #[zi c,zi e,f] /\
 vNew aw (.cells #[zi 0,zi 0,.slice none 0 0] 55) fun v ax=>
 vStore1 ax v (zi c) fun ay=>
 vStore1 ay (v.add 1) (zi e) fun az=>
 vStore1 az (v.add 2) f fun p=>
 ldV p (a.add 2) fun b0=>
 vLen b0 fun b1=>
 bif decide ((b1:Int)>0) then
 zB 25 #[.pointer (some v)] p fun b2 y=>
 R (.bool b2) y
 else
 R (.bool false) p
 else
 bif b==5 then
 CallsH P 26 #[.pointer (some a)] h fun b3 a0=>∃ g,∃ i,∃ (j:Value),∃ (k:Value),b3=.agg #[zi g,zi i,j,k] /\
 vNew a0 (.cells #[zi 0,zi 0,.slice none 0 0,.slice none 0 0] 62) fun u a1=>
 vStore1 a1 u (zi g) fun a2=>
 vStore1 a2 (u.add 1) (zi i) fun a3=>
 vStore1 a3 (u.add 2) j fun a4=>
 vStore1 a4 (u.add 3) k fun a5=>
 zB 27 #[.pointer (some u)] a5 fun b4 a6=>
 R (.bool b4) a6
 else
 bif b==6 then
 CallsH P 28 #[.pointer (some a)] h fun b5 a7=>∃ (l:Value),∃ (o:Value),∃ (t:Bool),b5=.tuple #[.agg #[l,o],.bool t] /\
 vNew a7 (.cells #[.slice none 0 0,.slice none 0 0] 39) fun p5 a8=>
 vStore1 a8 p5 l fun a9=>
 vStore1 a9 (p5.add 1) o fun aa=>
 R (.bool t) aa
 else
 bif b==7 then
 ldI .i64 h (a.add 1) fun b7=>
 ldV h (a.add 2) fun x=>
 vOne x fun _=>
 vNew h (.cells #[zi b7,x] 71) fun b8 ab=>
 zB 29 #[.pointer (some b8)] ab fun ac ad=>
 R (.bool ac) ad
 else
 R (.bool false) h):CallsH P 10 #[.pointer (some a)] h R:=zv ⟨[],[],[]⟩ Tryz.func10 hv
theorem ZCp {v0:Value} {b1:Bool} (hv:
 vNew h (.cells #[.slice none 0 0,.slice none 0 0] 39) fun y ad=>
 vLen v0 fun a=>
 vNew ad (.cells #[.slice none 0 0,.slice none 0 0] 39) fun c ae=>
 vStore1 ae c (.slice none 0 0) fun af=>
 vStore1 af (c.add 1) (.slice none 0 0) fun ag=>
 lq1 (0:Int) ag fun J n x7 s=>
 bif decide (x7<(zw (3*(a:Int)))) then
 ∃ t:Int->Heap->Prop,(
 bif !b1 then
 (a:Int)≠0 /\
 t (zw (Int.tdiv x7 (a:Int))) s
 else
 t 0 s
 )/\∀ (_:Env) x8 (u:Heap),t x8 u ->
 ldV u c fun ai=>
 vNewS u (.cells #[zi x8] 2) 1 fun aj ak=>
 vAppend 1 8 [zi 0] 2 ai aj ak fun al am=>
 vStore1 am c al fun a4=>
 ag1 J n (zw (x7+1)) a4
 else
 lq1 (0:Int) s fun an ao x9 k=>
 bif decide (x9<(zw ((a:Int)*(a:Int)))) then
 ldV k c fun aq=>
 vNewS k (.cells #[zi 3] 2) 1 fun ar a5=>
 vAppend 1 8 [zi 0] 2 aq ar a5 fun au a6=>
 vStore1 a6 c au fun a7=>
 ag1 an ao (zw (x9+1)) a7
 else
 lq1 (0:Int) k fun av aw e g=>
 bif decide (e<(zw (3*(a:Int)))) then
 lq1 (0:Int) g fun ax ay j v=>
 bif decide (j<(a:Int)) then
 lq1 (0:Int) v fun a0 a1 f b=>
 bif decide (f<(a:Int)) then
 ∃ o:Bool->Heap->Prop,(
 bif e==j then
 o true b
 else
 bif e==(zw ((a:Int)+f)) then
 o true b
 else
 vIdx v0 j 1 fun az=>
 ldV b az fun b0=>
 vIdx b0 f 1 fun b2=>
 ldI .i64 b b2 fun b3=>
 o (e==(zw ((zw (2*(a:Int)))+b3))) b
 )/\∀ (_:Env) (a2:Bool) (i:Heap),o a2 i ->
 bif a2 then
 ldV i (c.add 1) fun b4=>
 vNewS i (.cells #[zi e,zi (zw ((zw ((zw (3*(a:Int)))+(zw (j*(a:Int)))))+f))] 110) 1 fun b5 a8=>
 vAppend 2 16 [zi 0,zi 0] 110 b4 b5 a8 fun b6 a9=>
 vStore1 a9 (c.add 1) b6 fun aa=>
 ag1 a0 a1 (zw (f+1)) aa
 else
 ag1 a0 a1 (zw (f+1)) i
 else
 ag1 ax ay (zw (j+1)) b
 else
 ag1 av aw (zw (e+1)) v
 else
 ldV g c fun w=>
 ldV g (c.add 1) fun x=>
 vStore1 g y w fun ab=>
 vStore1 ab (y.add 1) x fun l=>
 ldV l y fun p=>
 ldV l (y.add 1) fun r=>
 R (.agg #[p,r]) l):CallsH P 70 #[v0,.bool b1] h R:=zv ⟨[(4,[(7,.i .i64)]),(11,[(9,.i .i64)]),(15,[(10,.i .i64)]),(18,[(11,.i .i64)]),(21,[(12,.i .i64)])],[(9,[(8,.i .i64)]),(24,[(84,.b)])],[]⟩ Tryz.func70 hv
theorem ZyY {v0:Value} {s:Bool} (hv:
 vNew h (.cells #[.slice none 0 0,.slice none 0 0] 39) fun a t=>
 zB 21 #[v0] t fun b7 o=>
 bif !b7 then
 vStore1 o a (.slice none 0 0) fun u=>
 vStore1 u (a.add 1) (.slice none 0 0) fun p=>
 ldV p a fun k=>
 ldV p (a.add 1) fun l=>
 R (.tuple #[.agg #[k,l],zi 1]) p
 else
 vLen v0 fun v=>
 bif decide ((v:Int)>6) then
 vStore1 o a (.slice none 0 0) fun w=>
 vStore1 w (a.add 1) (.slice none 0 0) fun r=>
 ldV r a fun e=>
 ldV r (a.add 1) fun f=>
 R (.tuple #[.agg #[e,f],zi 5]) r
 else
 CallsH P 70 #[v0,.bool s] o fun x y=>∃ (b:Value),∃ (c:Value),x=.agg #[b,c] /\
 vStore1 y a b fun a0=>
 vStore1 a0 (a.add 1) c fun j=>
 ldV j a fun g=>
 ldV j (a.add 1) fun i=>
 R (.tuple #[.agg #[g,i],zi 0]) j):CallsH P 30 #[v0,.bool s] h R:=zv ⟨[],[],[]⟩ Tryz.func30 hv
theorem ZyQ {s:Addr} (hv:
 vNew h (.cells #[.slice none 0 0,.slice none 0 0] 39) fun p2 p=>
 ldI .i64 p s fun r=>
 ldV p (s.add 1) fun ae=>
 vLen ae fun af=>
 bif decide ((zw (r+(af:Int)):Int)>64) then
 vStore1 p p2 (.slice none 0 0) fun ag=>
 vStore1 ag (p2.add 1) (.slice none 0 0) fun v=>
 ldV v p2 fun t=>
 ldV v (p2.add 1) fun u=>
 R (.tuple #[.agg #[t,u],zi 5]) v
 else
 vNew p (.cells #[.slice none 0 0,.slice none 0 0] 39) fun b ah=>
 vStore1 ah b (.slice none 0 0) fun ai=>
 vStore1 ai (b.add 1) (.slice none 0 0) fun aj=>
 lq1 (0:Int) aj fun J n x6 w=>
 bif decide (x6<r) then
 ldV w b fun al=>
 vNewS w (.cells #[zi 0] 2) 1 fun am an=>
 vAppend 1 8 [zi 0] 2 al am an fun ao a4=>
 vStore1 a4 b ao fun a5=>
 ag1 J n (zw (x6+1)) a5
 else
 lq1 (0:Int) w fun ap aq x7 e=>
 ldV e (s.add 1) fun au=>
 vLen au fun av=>
 bif decide (x7<(av:Int)) then
 ldV e b fun aw=>
 vNewS e (.cells #[zi 1] 2) 1 fun ax a6=>
 vAppend 1 8 [zi 0] 2 aw ax a6 fun ay a7=>
 vStore1 a7 b ay fun a8=>
 ag1 ap aq (zw (x7+1)) a8
 else
 lq1 (0:Int) e fun az b0 y a=>
 bif decide (y<r) then
 lq1 (0:Int) a fun a2 a3 x c=>
 ldV c (s.add 1) fun b1=>
 vLen b1 fun b2=>
 bif decide (x<(b2:Int)) then
 ldV c (s.add 1) fun b3=>
 vIdx b3 x 1 fun b4=>
 ldV c b4 fun b5=>
 zB 71 #[b5,zi y] c fun b6 k=>
 bif b6 then
 ldV k (b.add 1) fun b7=>
 vNewS k (.cells #[zi y,zi (zw (r+x))] 110) 1 fun b8 a9=>
 vAppend 2 16 [zi 0,zi 0] 110 b7 b8 a9 fun b9 aa=>
 vStore1 aa (b.add 1) b9 fun ab=>
 ag1 a2 a3 (zw (x+1)) ab
 else
 ag1 a2 a3 (zw (x+1)) k
 else
 ag1 az b0 (zw (y+1)) c
 else
 ldV a (b.add 1) fun ba=>
 vLen ba fun bb=>
 bif decide ((bb:Int)>512) then
 vStore1 a p2 (.slice none 0 0) fun ac=>
 vStore1 ac (p2.add 1) (.slice none 0 0) fun l=>
 ldV l p2 fun f=>
 ldV l (p2.add 1) fun g=>
 R (.tuple #[.agg #[f,g],zi 5]) l
 else
 ldV a b fun a0=>
 ldV a (b.add 1) fun a1=>
 vStore1 a p2 a0 fun ad=>
 vStore1 ad (p2.add 1) a1 fun o=>
 ldV o p2 fun i=>
 ldV o (p2.add 1) fun j=>
 R (.tuple #[.agg #[i,j],zi 0]) o):CallsH P 31 #[.pointer (some s)] h R:=zv ⟨[(6,[(6,.i .i64)]),(10,[(7,.i .i64)]),(14,[(8,.i .i64)]),(17,[(9,.i .i64)])],[],[]⟩ Tryz.func31 hv
theorem ZEL {g:Addr} {v1 f:Value} (hv:
 vLen v1 fun e=>
 vMake 8 [zi 0] 2 (e:Int) (e:Int) h fun c i=>
 lq1 (0:Int) i fun J n b a=>
 vLen v1 fun j=>
 bif decide (b<(j:Int)) then
 vIdx f b 1 fun k=>
 ldI .i64 a k fun l=>
 bif l==0 then
 vIdx v1 b 1 fun o=>
 ldI .i64 a o fun p=>
 vIdx c b 1 fun r=>
 vStore1 a r (zi p) fun s=>
 ag1 J n (zw (b+1)) s
 else
 vIdx v1 b 1 fun t=>
 ldI .i64 a t fun u=>
 vIdx f b 1 fun v=>
 ldI .i64 a v fun w=>
 zI 171 #[.pointer (some g),zi u,zi w,zi 1] a fun x y=>
 vIdx c b 1 fun a0=>
 vStore1 y a0 (zi x) fun a1=>
 ag1 J n (zw (b+1)) a1
 else
 R c a):CallsH P 121 #[.pointer (some g),v1,f] h R:=zv ⟨[(3,[(8,.i .i64)])],[],[]⟩ Tryz.func121 hv
theorem ZwU {b:Addr} (hv:
 ldV h (b.add 3) fun a1=>
 vIdx a1 0 1 fun a2=>
 ldV h a2 fun a3=>
 vLen a3 fun j=>
 vMake 8 [zi 0] 2 (j:Int) (j:Int) h fun k a4=>
 vOne k fun _=>
 vNewS a4 (.cells #[k] 36) 1 fun a5 a6=>
 zI 65 #[.pointer (some b)] a6 fun l a7=>
 lq2 a5 (0:Int) a7 fun J n r s e=>
 ldV e (b.add 3) fun a8=>
 vLen a8 fun a9=>
 bif decide (s<(a9:Int)) then
 vNewS e (.cells #[] 36) 0 fun aa ab=>
 lq2 aa (0:Int) ab fun ac ad v6 t c=>
 bif decide (t<l) then
 ldV c (b.add 3) fun af=>
 vIdx af s 1 fun ag=>
 ldV c ag fun ah=>
 zV 120 #[.pointer (some b),ah,zi t] c fun o ai=>
 vOne o fun _=>
 vNewS ai (.cells #[o] 36) 1 fun aj ak=>
 vAppend 1 24 [.slice none 0 0] 36 v6 aj ak fun al u=>
 ag2 ac ad al (zw (t+1)) u
 else
 vNewS c (.cells #[] 36) 0 fun am v=>
 lq2 am (0:Int) v fun an ao v8 w f=>
 vLen r fun aq=>
 bif decide (w<(aq:Int)) then
 lq2 v8 (0:Int) f fun ar au g i a=>
 bif decide (i<l) then
 vIdx r w 1 fun av=>
 ldV a av fun aw=>
 vIdx v6 i 1 fun ax=>
 ldV a ax fun ay=>
 zV 121 #[.pointer (some b),aw,ay] a fun p x=>
 vOne p fun _=>
 vNewS x (.cells #[p] 36) 1 fun az y=>
 vAppend 1 24 [.slice none 0 0] 36 g az y fun b0 a0=>
 ag2 ar au b0 (zw (i+1)) a0
 else
 ag2 an ao g (zw (w+1)) a
 else
 ag2 J n v8 (zw (s+1)) f
 else
 R r e):CallsH P 72 #[.pointer (some b)] h R:=zv ⟨[(4,[(3,.v),(5,.i .i64)]),(8,[(6,.v),(7,.i .i64)]),(13,[(8,.v),(9,.i .i64)]),(16,[(8,.v),(10,.i .i64)])],[],[]⟩ Tryz.func72 hv
theorem ZwG {p0:Addr} (hv:
 vNew h (.cells #[.slice none 0 0,.slice none 0 0] 39) fun p2 al=>
 zI 65 #[.pointer (some p0)] al fun am t=>
 bif am !=2 then
 vStore1 t p2 (.slice none 0 0) fun an=>
 vStore1 an (p2.add 1) (.slice none 0 0) fun y=>
 ldV y p2 fun w=>
 ldV y (p2.add 1) fun x=>
 R (.tuple #[.agg #[w,x],zi 6]) y
 else
 ldV t (p0.add 3) fun ao=>
 vIdx ao 0 1 fun ap=>
 ldV t ap fun aq=>
 vLen aq fun u=>
 zV 72 #[.pointer (some p0)] t fun v a5=>
 vLen v fun ar=>
 bif decide ((zw ((zw ((u:Int)+(ar:Int)))-1):Int)>64) then
 vStore1 a5 p2 (.slice none 0 0) fun au=>
 vStore1 au (p2.add 1) (.slice none 0 0) fun a0=>
 ldV a0 p2 fun e=>
 ldV a0 (p2.add 1) fun f=>
 R (.tuple #[.agg #[e,f],zi 5]) a0
 else
 vNew a5 (.cells #[.slice none 0 0,.slice none 0 0] 39) fun c av=>
 vStore1 av c (.slice none 0 0) fun a8=>
 vStore1 a8 (c.add 1) (.slice none 0 0) fun a9=>
 lq1 (0:Int) a9 fun J n x7 o=>
 bif decide (x7<(u:Int)) then
 ldV o c fun ax=>
 vNewS o (.cells #[zi 0] 2) 1 fun ay aa=>
 vAppend 1 8 [zi 0] 2 ax ay aa fun az ab=>
 vStore1 ab c az fun ac=>
 ag1 J n (zw (x7+1)) ac
 else
 lq1 (1:Int) o fun b0 b1 x8 p=>
 vLen v fun b3=>
 bif decide (x8<(b3:Int)) then
 ldV p c fun b4=>
 vNewS p (.cells #[zi 1] 2) 1 fun b5 ad=>
 vAppend 1 8 [zi 0] 2 b4 b5 ad fun b6 ae=>
 vStore1 ae c b6 fun af=>
 ag1 b0 b1 (zw (x8+1)) af
 else
 lq1 (0:Int) p fun b7 b8 x9 a=>
 bif decide (x9<(u:Int)) then
 lq1 (1:Int) a fun a6 a7 g b=>
 vLen v fun b9=>
 bif decide (g<(b9:Int)) then
 vIdx v g 1 fun ba=>
 ldV b ba fun bb=>
 vIdx bb x9 1 fun bc=>
 ldI .i64 b bc fun bd=>
 bif bd==1 then
 ldV b (c.add 1) fun be=>
 vNewS b (.cells #[zi x9,zi (zw ((zw ((u:Int)+g))-1))] 110) 1 fun bf ag=>
 vAppend 2 16 [zi 0,zi 0] 110 be bf ag fun bg ah=>
 vStore1 ah (c.add 1) bg fun ai=>
 ag1 a6 a7 (zw (g+1)) ai
 else
 ag1 a6 a7 (zw (g+1)) b
 else
 ag1 b7 b8 (zw (x9+1)) b
 else
 ldV a (c.add 1) fun bh=>
 vLen bh fun bi=>
 bif decide ((bi:Int)>512) then
 vStore1 a p2 (.slice none 0 0) fun aj=>
 vStore1 aj (p2.add 1) (.slice none 0 0) fun r=>
 ldV r p2 fun i=>
 ldV r (p2.add 1) fun j=>
 R (.tuple #[.agg #[i,j],zi 5]) r
 else
 ldV a c fun a3=>
 ldV a (c.add 1) fun a4=>
 vStore1 a p2 a3 fun ak=>
 vStore1 ak (p2.add 1) a4 fun s=>
 ldV s p2 fun k=>
 ldV s (p2.add 1) fun l=>
 R (.tuple #[.agg #[k,l],zi 0]) s):CallsH P 32 #[.pointer (some p0)] h R:=zv ⟨[(9,[(7,.i .i64)]),(13,[(8,.i .i64)]),(17,[(9,.i .i64)]),(20,[(10,.i .i64)])],[],[]⟩ Tryz.func32 hv
theorem ZGo {p0:Addr} (hv:
 vNew h (.cells #[.slice none 0 0,.slice none 0 0] 39) fun p2 a=>
 ldI .i64 a p0 fun a6=>
 bif a6==1 then
 ldV a (p0.add 2) fun az=>
 CallsH P 30 #[az,.bool false] a fun b0 b1=>∃ (b:Value),∃ (c:Value),∃ a7,b0=.tuple #[.agg #[b,c],zi a7] /\
 vStore1 b1 p2 b fun b2=>
 vStore1 b2 (p2.add 1) c fun ac=>
 ldV ac p2 fun aa=>
 ldV ac (p2.add 1) fun ab=>
 R (.tuple #[.agg #[aa,ab],zi a7]) ac
 else
 bif a6==2 then
 ldI .i64 a (p0.add 1) fun b3=>
 ldV a (p0.add 2) fun aj=>
 vOne aj fun _=>
 vNew a (.cells #[zi b3,aj] 53) fun b4 b5=>
 CallsH P 31 #[.pointer (some b4)] b5 fun b6 b7=>∃ (e:Value),∃ (f:Value),∃ a8,b6=.tuple #[.agg #[e,f],zi a8] /\
 vStore1 b7 p2 e fun b8=>
 vStore1 b8 (p2.add 1) f fun ad=>
 ldV ad p2 fun s=>
 ldV ad (p2.add 1) fun t=>
 R (.tuple #[.agg #[s,t],zi a8]) ad
 else
 bif a6==5 then
 CallsH P 26 #[.pointer (some p0)] a fun b9 ak=>∃ g,∃ i,∃ (j:Value),∃ (k:Value),b9=.agg #[zi g,zi i,j,k] /\
 vNew ak (.cells #[zi 0,zi 0,.slice none 0 0,.slice none 0 0] 62) fun p4 al=>
 vStore1 al p4 (zi g) fun am=>
 vStore1 am (p4.add 1) (zi i) fun an=>
 vStore1 an (p4.add 2) j fun ao=>
 vStore1 ao (p4.add 3) k fun ap=>
 CallsH P 32 #[.pointer (some p4)] ap fun ba aq=>∃ (l:Value),∃ (o:Value),∃ a9,ba=.tuple #[.agg #[l,o],zi a9] /\
 vStore1 aq p2 l fun ar=>
 vStore1 ar (p2.add 1) o fun a2=>
 ldV a2 p2 fun u=>
 ldV a2 (p2.add 1) fun v=>
 R (.tuple #[.agg #[u,v],zi a9]) a2
 else
 bif a6==6 then
 CallsH P 28 #[.pointer (some p0)] a fun bb au=>∃ (p:Value),∃ (r:Value),∃ (af:Bool),bb=.tuple #[.agg #[p,r],.bool af] /\
 vNew au (.cells #[.slice none 0 0,.slice none 0 0] 39) fun p5 av=>
 vStore1 av p5 p fun aw=>
 vStore1 aw (p5.add 1) r fun a3=>
 ldV a3 p5 fun ah=>
 ldV a3 (p5.add 1) fun ai=>
 vStore1 a3 p2 ah fun ax=>
 vStore1 ax (p2.add 1) ai fun a4=>
 ldV a4 p2 fun w=>
 ldV a4 (p2.add 1) fun x=>
 R (.tuple #[.agg #[w,x],zi 0]) a4
 else
 vStore1 a p2 (.slice none 0 0) fun ay=>
 vStore1 ay (p2.add 1) (.slice none 0 0) fun a5=>
 ldV a5 p2 fun y=>
 ldV a5 (p2.add 1) fun a0=>
 R (.tuple #[.agg #[y,a0],zi 6]) a5):CallsH P 12 #[.pointer (some p0)] h R:=zv ⟨[],[],[]⟩ Tryz.func12 hv
theorem ZGe {a:Int} (c:
 zB 11 #[zi a,zi 1,zi 20000] h fun e b=>
 R (.bool e) b):CallsH P 73 #[zi a] h R:=zv ⟨[],[],[]⟩ Tryz.func73 c
theorem ZDh {f g:Value} (hv:
 vNew h (.cells #[f,g] 39) fun p1 o=>
 ldV o p1 fun v9=>
 vLen v9 fun i=>
 vNewS o (.cells #[] 202) 0 fun w x=>
 lq2 w (0:Int) x fun J n j y p=>
 bif decide (y<(i:Int)) then
 vMake 1 [.bool false] 4 (i:Int) (i:Int) p fun r a0=>
 vOne r fun _=>
 vNewS a0 (.cells #[r] 202) 1 fun a1 a2=>
 vAppend 1 24 [.slice none 0 0] 202 j a1 a2 fun a3 a4=>
 ag2 J n a3 (zw (y+1)) a4
 else
 lq1 (0:Int) p fun a5 a6 t a=>
 ldV a (p1.add 1) fun a7=>
 vLen a7 fun a8=>
 bif decide (t<(a8:Int)) then
 ldV a (p1.add 1) fun a9=>
 vIdx a9 t 2 fun s=>
 ldI .i64 a s fun k=>
 ldI .i64 a (s.add 1) fun l=>
 vNew a (.cells #[zi 0,zi 0] 110) fun e aa=>
 vStore1 aa e (zi k) fun u=>
 vStore1 u (e.add 1) (zi l) fun b=>
 ldI .i64 b e fun ab=>
 vIdx j ab 1 fun ac=>
 ldV b ac fun ad=>
 ldI .i64 b (e.add 1) fun ae=>
 vIdx ad ae 1 fun af=>
 vStore1 b af (.bool true) fun c=>
 ldI .i64 c (e.add 1) fun ag=>
 vIdx j ag 1 fun ah=>
 ldV c ah fun ai=>
 ldI .i64 c e fun aj=>
 vIdx ai aj 1 fun ak=>
 vStore1 c ak (.bool true) fun v=>
 ag1 a5 a6 (zw (t+1)) v
 else
 R j a):CallsH P 172 #[.agg #[f,g]] h R:=zv ⟨[(4,[(4,.v),(5,.i .i64)]),(8,[(6,.i .i64)])],[],[]⟩ Tryz.func172 hv
theorem ZEz {b c:Value} (hv:
 vNew h (.cells #[b,c] 39) fun p1 e=>
 ldV e p1 fun l=>
 ldV e (p1.add 1) fun o=>
 zV 172 #[.agg #[l,o]] e fun p u=>
 vNewS u (.cells #[] 36) 0 fun v w=>
 lq2 v (0:Int) w fun J n x r i=>
 vLen p fun y=>
 bif decide (r<(y:Int)) then
 vNewS i (.cells #[] 2) 0 fun a0 a1=>
 lq2 a0 (0:Int) a1 fun j k g f a=>
 vLen p fun a2=>
 bif decide (f<(a2:Int)) then
 vIdx p r 1 fun a3=>
 ldV a a3 fun a4=>
 vIdx a4 f 1 fun a5=>
 ldB a a5 fun a6=>
 bif a6 then
 vNewS a (.cells #[zi f] 2) 1 fun a7 a8=>
 vAppend 1 8 [zi 0] 2 g a7 a8 fun a9 aa=>
 ag2 j k a9 (zw (f+1)) aa
 else
 ag2 j k g (zw (f+1)) a
 else
 vOne g fun _=>
 vNewS a (.cells #[g] 36) 1 fun ab s=>
 vAppend 1 24 [.slice none 0 0] 36 x ab s fun ac t=>
 ag2 J n ac (zw (r+1)) t
 else
 R x i):CallsH P 122 #[.agg #[b,c]] h R:=zv ⟨[(4,[(4,.v),(5,.i .i64)]),(8,[(6,.v),(7,.i .i64)])],[],[]⟩ Tryz.func122 hv
theorem ZCz {v0:Value} {e:Int} (hv:
 vNewS h (.cells #[] 2) 0 fun v8 t=>
 lq3 v8 false (0:Int) t fun J n f p g a=>
 vLen v0 fun u=>
 bif decide (g<(u:Int)) then
 ∃ c:Value->Bool->Heap->Prop,(
 ∃ i:Bool->Heap->Prop,(
 bif !p then
 vIdx v0 g 1 fun v=>
 ldI .i64 a v fun w=>
 i (decide (w>=e)) a
 else
 i false a
 )/\∀ (_:Env) (o:Bool) (b:Heap),i o b ->
 bif o then
 vIdx v0 g 1 fun x=>
 ldI .i64 b x fun y=>
 bif decide (y>e) then
 vNewS b (.cells #[zi e] 2) 1 fun a0 a1=>
 vAppend 1 8 [zi 0] 2 f a0 a1 fun a2 a3=>
 c a2 true a3
 else
 c f true b
 else
 c f p b
 )/\∀ (_:Env) (j:Value) (k:Bool) (l:Heap),c j k l ->
 vIdx v0 g 1 fun a4=>
 ldI .i64 l a4 fun a5=>
 vNewS l (.cells #[zi a5] 2) 1 fun a6 a7=>
 vAppend 1 8 [zi 0] 2 j a6 a7 fun a8 a9=>
 ag3 J n a8 k (zw (g+1)) a9
 else
 bif !p then
 vNewS a (.cells #[zi e] 2) 1 fun aa r=>
 vAppend 1 8 [zi 0] 2 f aa r fun ab s=>
 R ab s
 else
 R f a):CallsH P 208 #[v0,zi e] h R:=zv ⟨[(4,[(5,.v),(6,.b),(7,.i .i64)])],[(7,[(24,.b)]),(10,[(5,.v),(6,.b)])],[]⟩ Tryz.func208 hv
theorem Zzq {v0:Value} (l:
 vNewS h (.cells #[] 2) 0 fun o c=>
 lq2 o (0:Int) c fun J n e b a=>
 vLen v0 fun p=>
 bif decide (b<(p:Int)) then
 vIdx v0 b 1 fun f=>
 ldI .i64 a f fun g=>
 zV 208 #[e,zi g] a fun i j=>
 ag2 J n i (zw (b+1)) j
 else
 vLen e fun k=>
 R (zi (k:Int)) a):CallsH P 176 #[v0] h R:=zv ⟨[(3,[(3,.v),(4,.i .i64)])],[],[]⟩ Tryz.func176 l
theorem Zxy {v0:Value} (hv:
 vNewS h (.cells #[] 2) 0 fun v7 k=>
 lq2 v7 (0:Int) k fun J n j g f=>
 vLen v0 fun l=>
 bif decide (g<(l:Int)) then
 vLen j fun o=>
 vIdx v0 g 1 fun p=>
 ldI .i64 f p fun r=>
 vNewS f (.cells #[zi r] 2) 1 fun s t=>
 vAppend 1 8 [zi 0] 2 j s t fun a u=>
 lq1 (o:Int) u fun v w b c=>
 ∃ i:Heap->Prop,(
 bif decide (b>0) then
 vIdx a (zw (b-1)) 1 fun x=>
 ldI .i64 c x fun y=>
 vIdx a b 1 fun a0=>
 ldI .i64 c a0 fun a1=>
 bif decide (y>a1) then
 i c
 else
 ag2 J n a (zw (g+1)) c
 else
 ag2 J n a (zw (g+1)) c
 )/\∀ (_:Env) (e:Heap),i e ->
 vIdx a b 1 fun a2=>
 ldI .i64 e a2 fun a3=>
 vIdx a (zw (b-1)) 1 fun a4=>
 ldI .i64 e a4 fun a5=>
 vIdx a b 1 fun a6=>
 vStore1 e a6 (zi a5) fun a7=>
 vIdx a (zw (b-1)) 1 fun a8=>
 vStore1 a7 a8 (zi a3) fun a9=>
 ag1 v w (zw (b-1)) a9
 else
 R j f):CallsH P 209 #[v0] h R:=zv ⟨[(3,[(3,.v),(4,.i .i64)]),(7,[(5,.i .i64)])],[(8,[])],[]⟩ Tryz.func209 hv
theorem ZEn {v0 v1:Value} (hv:
 vNewS h (.cells #[] 36) 0 fun v9 w=>
 lq3 v9 false (0:Int) w fun J n e s k a=>
 vLen v0 fun x=>
 bif decide (k<(x:Int)) then
 vIdx v0 k 1 fun y=>
 ldV a y fun a0=>
 zI 58 #[a0,v1] a fun l o=>
 ∃ b:Value->Bool->Heap->Prop,(
 ∃ f:Bool->Heap->Prop,(
 bif !s then
 f (decide (l>=0)) o
 else
 f false o
 )/\∀ (_:Env) (p:Bool) (c:Heap),f p c ->
 bif p then
 bif decide (l>0) then
 vOne v1 fun _=>
 vNewS c (.cells #[v1] 36) 1 fun a1 a2=>
 vAppend 1 24 [.slice none 0 0] 36 e a1 a2 fun a3 a4=>
 b a3 true a4
 else
 b e true c
 else
 b e s c
 )/\∀ (_:Env) (g:Value) (i:Bool) (j:Heap),b g i j ->
 vIdx v0 k 1 fun a5=>
 ldV j a5 fun r=>
 vOne r fun _=>
 vNewS j (.cells #[r] 36) 1 fun a6 a7=>
 vAppend 1 24 [.slice none 0 0] 36 g a6 a7 fun a8 t=>
 ag3 J n a8 i (zw (k+1)) t
 else
 bif !s then
 vOne v1 fun _=>
 vNewS a (.cells #[v1] 36) 1 fun a9 u=>
 vAppend 1 24 [.slice none 0 0] 36 e a9 u fun aa v=>
 R aa v
 else
 R e a):CallsH P 210 #[v0,v1] h R:=zv ⟨[(4,[(5,.v),(6,.b),(7,.i .i64)])],[(8,[(27,.b)]),(11,[(5,.v),(6,.b)])],[]⟩ Tryz.func210 hv
theorem ZwD {v0 v1:Value} (hv:
 vLen v0 fun j=>
 vNewS h (.cells #[] 36) 0 fun am an=>
 lq2 am (0:Int) an fun J n u f a2=>
 bif decide (f<(j:Int)) then
 vNewS a2 (.cells #[] 2) 0 fun ao ap=>
 lq2 ao (0:Int) ap fun aq ar v8 x9 a=>
 vIdx v0 f 1 fun au=>
 ldV a au fun av=>
 vLen av fun aw=>
 bif decide (x9<(aw:Int)) then
 vIdx v0 f 1 fun ax=>
 ldV a ax fun ay=>
 vIdx ay x9 1 fun az=>
 ldI .i64 a az fun b0=>
 vIdx v1 b0 1 fun b1=>
 ldI .i64 a b1 fun b2=>
 vNewS a (.cells #[zi b2] 2) 1 fun b3 b4=>
 vAppend 1 8 [zi 0] 2 v8 b3 b4 fun b5 b6=>
 ag2 aq ar b5 (zw (x9+1)) b6
 else
 ∃ B:Nat->Prop,
 (
 vIdx v1 f 1 fun b7=>
 ldI .i64 (hmask B a) b7 fun b8=>
 vNewS a (.cells #[zi b8] 2) 1 fun b9 a3=>
 ExtBut B a a3 /\
 zV 209 #[v8] a3 fun ba a4=>
 ExtBut B a a4 /\
 vAppend 1 8 [zi 0] 2 b9 ba a4 fun a5 ab=>
 vOne a5 fun _=>
 vNewS ab (.cells #[a5] 36) 1 fun bb ac=>
 vAppend 1 24 [.slice none 0 0] 36 u bb ac fun bc ad=>
 ag2 J n bc (zw (f+1)) ad
 ) /\
 (
 zV 209 #[v8] a fun v k=>
 ExtBut B a k /\
 vIdx v1 f 1 fun w=>
 ldI .i64 (hmask B a) w fun x=>
 vNewS k (.cells #[zi x] 2) 1 fun y l=>
 ExtBut B a l /\
 vAppend 1 8 [zi 0] 2 y v l fun i ae=>
 vOne i fun _=>
 vNewS ae (.cells #[i] 36) 1 fun a0 af=>
 vAppend 1 24 [.slice none 0 0] 36 u a0 af fun a1 ag=>
 ag2 J n a1 (zw (f+1)) ag
 )
 else
 vNewS a2 (.cells #[] 36) 0 fun bd ah=>
 lq2 bd (0:Int) ah fun be bf o p g=>
 bif decide (p<(j:Int)) then
 vIdx u p 1 fun bg=>
 ldV g bg fun bh=>
 zV 210 #[o,bh] g fun bi ai=>
 ag2 be bf bi (zw (p+1)) ai
 else
 vNewS g (.cells #[] 2) 0 fun bj aj=>
 lq2 bj (0:Int) aj fun bk bm a6 r s=>
 bif decide (r<(j:Int)) then
 lq2 a6 (0:Int) s fun a7 a8 b e c=>
 vLen o fun bn=>
 bif decide (e<(bn:Int)) then
 vIdx o e 1 fun bo=>
 ldV c bo fun bp=>
 vIdx u r 1 fun bq=>
 ldV c bq fun br=>
 zI 58 #[bp,br] c fun bs t=>
 bif bs==0 then
 vNewS t (.cells #[zi e] 2) 1 fun bt ak=>
 vAppend 1 8 [zi 0] 2 b bt ak fun bu al=>
 ag2 a7 a8 bu (zw (e+1)) al
 else
 ag2 a7 a8 b (zw (e+1)) t
 else
 ag2 bk bm b (zw (r+1)) c
 else
 R a6 s):CallsH P 177 #[v0,v1] h R:=zv ⟨[(4,[(6,.v),(7,.i .i64)]),(8,[(8,.v),(9,.i .i64)]),(14,[(10,.v),(11,.i .i64)]),(19,[(12,.v),(13,.i .i64)]),(22,[(12,.v),(14,.i .i64)])],[],[]⟩ Tryz.func177 hv
theorem ZyA {v0 v1:Value} (p:
 zI 176 #[v1] h fun r c=>
 zV 177 #[v0,v1] c fun e f=>
 lq2 r e f fun J n s a g=>
 zI 176 #[a] g fun i b=>
 bif decide (i>s) then
 zI 176 #[a] b fun j k=>
 zV 177 #[v0,a] k fun l o=>
 ag2 J n j l o
 else
 R a b):CallsH P 124 #[v0,v1] h R:=zv ⟨[(3,[(5,.i .i64),(6,.v)])],[],[]⟩ Tryz.func124 p
theorem ZGn {v0:Value} (y:
 lq2 ((-1):Int) (0:Int) h fun J n o f i=>
 vLen v0 fun n8=>
 bif decide (f<(n8:Int)) then
 lq2 o (0:Int) i fun j k b g a=>
 bif decide (g<f) then
 ∃ c:Bool->Heap->Prop,(
 vIdx v0 f 1 fun p=>
 ldI .i64 a p fun r=>
 vIdx v0 g 1 fun s=>
 ldI .i64 a s fun t=>
 bif r==t then
 bif decide (b<0) then
 c true a
 else
 vIdx v0 f 1 fun u=>
 ldI .i64 a u fun v=>
 c (decide (v<b)) a
 else
 c false a
 )/\∀ (_:Env) (l:Bool) (e:Heap),c l e ->
 bif l then
 vIdx v0 f 1 fun w=>
 ldI .i64 e w fun x=>
 ag2 j k x (zw (g+1)) e
 else
 ag2 j k b (zw (g+1)) e
 else
 ag2 J n b (zw (f+1)) a
 else
 R (zi o) i):CallsH P 173 #[v0] h R:=zv ⟨[(3,[(3,.i .i64),(4,.i .i64)]),(6,[(3,.i .i64),(5,.i .i64)])],[(9,[(37,.b)])],[]⟩ Tryz.func173 y
theorem ZCA {v0 v1:Value} (hv:
 vNew h (.cells #[.slice none 0 0,.slice none 0 0] 39) fun k x=>
 zV 119 #[v0] x fun y a0=>
 vNewS a0 (.cells #[] 110) 0 fun p a1=>
 vOne y fun _=>
 vOne p fun _=>
 vNew a1 (.cells #[.slice none 0 0,.slice none 0 0] 39) fun e a2=>
 vStore1 a2 e y fun a3=>
 vStore1 a3 (e.add 1) p fun a4=>
 lq1 (0:Int) a4 fun J n i c=>
 vLen v0 fun a5=>
 bif decide (i<(a5:Int)) then
 lq1 (zw (i+1)) c fun r s j a=>
 vLen v0 fun a6=>
 bif decide (j<(a6:Int)) then
 vIdx v1 i 1 fun a7=>
 ldV a a7 fun a8=>
 vIdx a8 j 1 fun a9=>
 ldB a a9 fun aa=>
 bif aa then
 ldV a (e.add 1) fun ab=>
 vNewS a (.cells #[zi i,zi j] 110) 1 fun ac t=>
 vAppend 2 16 [zi 0,zi 0] 110 ab ac t fun ad u=>
 vStore1 u (e.add 1) ad fun v=>
 ag1 r s (zw (j+1)) v
 else
 ag1 r s (zw (j+1)) a
 else
 ag1 J n (zw (i+1)) a
 else
 ldV c e fun l=>
 ldV c (e.add 1) fun o=>
 vStore1 c k l fun w=>
 vStore1 w (k.add 1) o fun b=>
 ldV b k fun f=>
 ldV b (k.add 1) fun g=>
 R (.agg #[f,g]) b):CallsH P 206 #[v0,v1] h R:=zv ⟨[(3,[(6,.i .i64)]),(6,[(7,.i .i64)])],[],[]⟩ Tryz.func206 hv
theorem ZEx {p r v1:Value} (hv:
 vNew h (.cells #[p,r] 39) fun p2 a5=>
 vNew a5 (.cells #[.slice none 0 0,.slice none 0 0] 39) fun t a6=>
 vLen v1 fun x=>
 vMake 8 [zi 0] 2 (x:Int) (x:Int) a6 fun j a7=>
 lq1 (0:Int) a7 fun J n u g=>
 vLen v1 fun a8=>
 bif decide (u<(a8:Int)) then
 vIdx v1 u 1 fun a9=>
 ldI .i64 g a9 fun aa=>
 ldV g p2 fun ab=>
 vIdx ab u 1 fun ac=>
 ldI .i64 g ac fun ad=>
 vIdx j aa 1 fun ae=>
 vStore1 g ae (zi ad) fun af=>
 ag1 J n (zw (u+1)) af
 else
 vOne j fun _=>
 zV 172 #[.agg #[j,(.slice none 0 0)]] g fun s ag=>
 lq1 (0:Int) ag fun ah ai x8 c=>
 ldV c (p2.add 1) fun aj=>
 vLen aj fun ak=>
 bif decide (x8<(ak:Int)) then
 ldV c (p2.add 1) fun al=>
 vIdx al x8 2 fun y=>
 ldI .i64 c y fun v=>
 ldI .i64 c (y.add 1) fun w=>
 vNew c (.cells #[zi 0,zi 0] 110) fun k am=>
 vStore1 am k (zi v) fun a1=>
 vStore1 a1 (k.add 1) (zi w) fun a=>
 ldI .i64 a k fun an=>
 vIdx v1 an 1 fun ao=>
 ldI .i64 a ao fun ap=>
 vIdx s ap 1 fun aq=>
 ldV a aq fun ar=>
 ldI .i64 a (k.add 1) fun au=>
 vIdx v1 au 1 fun av=>
 ldI .i64 a av fun aw=>
 vIdx ar aw 1 fun ax=>
 vStore1 a ax (.bool true) fun b=>
 ldI .i64 b (k.add 1) fun ay=>
 vIdx v1 ay 1 fun az=>
 ldI .i64 b az fun b0=>
 vIdx s b0 1 fun b1=>
 ldV b b1 fun b2=>
 ldI .i64 b k fun b3=>
 vIdx v1 b3 1 fun b4=>
 ldI .i64 b b4 fun b5=>
 vIdx b2 b5 1 fun b6=>
 vStore1 b b6 (.bool true) fun a2=>
 ag1 ah ai (zw (x8+1)) a2
 else
 CallsH P 206 #[j,s] c fun b7 a3=>∃ (e:Value),∃ (f:Value),b7=.agg #[e,f] /\
 vStore1 a3 t e fun a4=>
 vStore1 a4 (t.add 1) f fun i=>
 ldV i t fun l=>
 ldV i (t.add 1) fun o=>
 R (.agg #[l,o]) i):CallsH P 174 #[.agg #[p,r],v1] h R:=zv ⟨[(3,[(6,.i .i64)]),(8,[(8,.i .i64)])],[],[]⟩ Tryz.func174 hv
theorem ZEb {b c:Value} (w:
 vNew h (.cells #[b,c] 39) fun p1 f=>
 vNewS f (.cells #[] 2) 0 fun x g=>
 lq2 x (0:Int) g fun J n i e a=>
 ldV a (p1.add 1) fun y=>
 vLen y fun n9=>
 bif decide (e<(n9:Int)) then
 ldV a (p1.add 1) fun j=>
 vIdx j e 2 fun k=>
 ldI .i64 a k fun l=>
 ldV a (p1.add 1) fun o=>
 vIdx o e 2 fun p=>
 ldI .i64 a (p.add 1) fun r=>
 vNewS a (.cells #[zi l,zi r] 2) 2 fun s t=>
 vAppend 1 8 [zi 0] 2 i s t fun u v=>
 ag2 J n u (zw (e+1)) v
 else
 R i a):CallsH P 207 #[.agg #[b,c]] h R:=zv ⟨[(3,[(3,.v),(4,.i .i64)])],[],[]⟩ Tryz.func207 w
theorem ZyF {b c e f:Value} (y:
 vNew h (.cells #[b,c] 39) fun p2 s=>
 vNew s (.cells #[e,f] 39) fun r g=>
 ldV g p2 fun v7=>
 ldV g r fun v9=>
 zI 58 #[v7,v9] g fun o a=>
 bif o !=0 then
 R (zi o) a
 else
 ∃ B:Nat->Prop,
 ldV a p2 fun i=>
 ldV a (p2.add 1) fun j=>
 zV 207 #[.agg #[i,j]] a fun t p=>
 ExtBut B a p /\
 ldV (hmask B a) r fun k=>
 ldV (hmask B a) (r.add 1) fun l=>
 zV 207 #[.agg #[k,l]] p fun u v=>
 zI 58 #[t,u] v fun w x=>
 R (zi w) x):CallsH P 175 #[.agg #[b,c],.agg #[e,f]] h R:=zv ⟨[],[],[]⟩ Tryz.func175 y
theorem ZAJ {a:Addr} {v1:Value} (hv:
 zI 173 #[v1] h fun a9 o=>
 bif decide (a9<0) then
 ldI .i64 o (a.add 7) fun b0=>
 vStore1 o (a.add 7) (zi (zw (b0+1))) fun p=>
 ldV p a fun a0=>
 ldV p (a.add 1) fun a1=>
 CallsH P 174 #[.agg #[a0,a1],v1] p fun b1 b2=>∃ (i:Value),∃ (j:Value),b1=.agg #[i,j] /\
 vNew b2 (.cells #[.slice none 0 0,.slice none 0 0] 39) fun l b3=>
 vStore1 b3 l i fun b4=>
 vStore1 b4 (l.add 1) j fun e=>
 ∃ J:Int->Heap->Prop,(
 ldV e (a.add 5) fun b5=>
 vLen b5 fun b6=>
 bif decide ((b6:Int)>0) then
 ldV e l fun a2=>
 ldV e (l.add 1) fun a3=>
 ldV e (a.add 3) fun a4=>
 ldV e ((a.add 3).add 1) fun a5=>
 zI 175 #[.agg #[a2,a3],.agg #[a4,a5]] e fun b7 b8=>
 J b7 b8
 else
 J (-1) e
 )/\∀ (_:Env) x6 (k:Heap),J x6 k ->
 ∃ r:Heap->Prop,(
 bif decide (x6<0) then
 ldV k l fun a6=>
 ldV k (l.add 1) fun a7=>
 vStore1 k (a.add 3) a6 fun ae=>
 vStore1 ae ((a.add 3).add 1) a7 fun af=>
 vNewS af (.cells #[] 36) 0 fun b9 ag=>
 vStore1 ag (a.add 5) b9 fun ah=>
 r ah
 else
 r k
 )/\∀ (_:Env) (c:Heap),r c ->
 bif decide (x6<=0) then
 ∃ B:Nat->Prop,
 zV 119 #[v1] c fun aa s=>
 ExtBut B c s /\
 vOne aa fun _=>
 vNewS s (.cells #[aa] 36) 1 fun ba t=>
 ExtBut B c t /\
 ldV (hmask B c) (a.add 5) fun bb=>
 vAppend 1 24 [.slice none 0 0] 36 bb ba t fun bc ai=>
 vStore1 ai (a.add 5) bc fun aj=>
 R (.tuple #[]) aj
 else
 R (.tuple #[]) c
 else
 lq1 (0:Int) o fun ab n u b=>
 vLen v1 fun bd=>
 bif decide (u<(bd:Int)) then
 vIdx v1 u 1 fun be=>
 ldI .i64 b be fun bf=>
 bif bf !=a9 then
 ag1 ab n (zw (u+1)) b
 else
 ∃ v:Heap->Prop,(
 ldI .i64 b (a.add 6) fun bg=>
 ldI .i64 b (a.add 8) fun bh=>
 bif bg==bh then
 vStore1 b (a.add 9) (.bool true) fun ak=>
 v ak
 else
 v b
 )/\∀ (_:Env) (f:Heap),v f ->
 ldB f (a.add 9) fun bi=>
 bif bi then
 R (.tuple #[]) f
 else
 ldI .i64 f (a.add 6) fun bj=>
 vStore1 f (a.add 6) (zi (zw (bj+1))) fun al=>
 vNewS al (.cells #[] 2) 0 fun bk am=>
 lq2 bk (0:Int) am fun bm bn v8 x9 g=>
 vLen v1 fun an=>
 bif decide (x9<(an:Int)) then
 vIdx v1 x9 1 fun ao=>
 ldI .i64 g ao fun w=>
 ∃ x:Int->Heap->Prop,(
 bif x9==u then
 x (zw ((zw ((zw (2*w))+1))-1)) g
 else
 x (zw ((zw (2*w))+1)) g
 )/\∀ (_:Env) ac (y:Heap),x ac y ->
 vNewS y (.cells #[zi ac] 2) 1 fun ap aq=>
 vAppend 1 8 [zi 0] 2 v8 ap aq fun ar au=>
 ag2 bm bn ar (zw (x9+1)) au
 else
 ldV g (a.add 2) fun av=>
 zV 124 #[av,v8] g fun aw ax=>
 CallsH P 123 #[.pointer (some a),aw] ax fun ay az=>ay=.tuple #[] /\
 ag1 ab n (zw (u+1)) az
 else
 R (.tuple #[]) b):CallsH P 123 #[.pointer (some a),v1] h R:=zv ⟨[(13,[(7,.i .i64)]),(22,[(8,.v),(9,.i .i64)])],[(7,[(6,.i .i64)]),(10,[]),(18,[]),(27,[(10,.i .i64)])],[]⟩ Tryz.func123 hv
theorem ZyG {b c:Value} {o:Int} (x:
 vNew h (.cells #[b,c] 39) fun p2 a=>
 ∃ B:Nat->Prop,
 ldV a p2 fun i=>
 ldV a (p2.add 1) fun j=>
 zV 122 #[.agg #[i,j]] a fun p g=>
 ExtBut B a g /\
 ldV (hmask B a) p2 fun k=>
 ldV (hmask B a) (p2.add 1) fun l=>
 vOne p fun _=>
 vNew g (.cells #[k,l,p,(.slice none 0 0),(.slice none 0 0),(.slice none 0 0),zi 0,zi 0,zi o,.bool false] 80) fun e f=>
 ldV f (e.add 2) fun r=>
 ldV f p2 fun s=>
 zV 124 #[r,s] f fun t u=>
 CallsH P 123 #[.pointer (some e),t] u fun v w=>v=.tuple #[] /\
 R (.pointer (some e)) w):CallsH P 74 #[.agg #[b,c],zi o] h R:=zv ⟨[],[],[]⟩ Tryz.func74 x
theorem Zyw {b c:Value} {l:Int} (hv:
 vNew h (.cells #[b,c] 39) fun p2 e=>
 ldV e p2 fun o=>
 ldV e (p2.add 1) fun p=>
 zB 68 #[.agg #[o,p]] e fun b8 k=>
 bif !b8 then
 vNew k (.cells #[(.slice none 0 0),(.slice none 0 0),(.slice none 0 0),(.slice none 0 0),(.slice none 0 0),(.slice none 0 0),zi 0,zi 0,zi 0,.bool false] 80) fun r s=>
 R (.tuple #[.pointer (some r),zi 1]) s
 else
 zB 73 #[zi l] k fun t a=>
 bif !t then
 vNew a (.cells #[(.slice none 0 0),(.slice none 0 0),(.slice none 0 0),(.slice none 0 0),(.slice none 0 0),(.slice none 0 0),zi 0,zi 0,zi 0,.bool false] 80) fun u v=>
 R (.tuple #[.pointer (some u),zi 2]) v
 else
 ldV a p2 fun i=>
 ldV a (p2.add 1) fun j=>
 CallsH P 74 #[.agg #[i,j],zi l] a fun w f=>∃ (g:Addr),w=.pointer (some g) /\
 ldB f (g.add 9) fun x=>
 bif x then
 vNew f (.cells #[(.slice none 0 0),(.slice none 0 0),(.slice none 0 0),(.slice none 0 0),(.slice none 0 0),(.slice none 0 0),zi 0,zi 0,zi 0,.bool false] 80) fun y a0=>
 R (.tuple #[.pointer (some y),zi 5]) a0
 else
 R (.tuple #[.pointer (some g),zi 0]) f):CallsH P 33 #[.agg #[b,c],zi l] h R:=zv ⟨[],[],[]⟩ Tryz.func33 hv
theorem Zx1 {i:Int} (u:
 vNewS h (.cells #[] 5) 0 fun v j=>
 lq2 v i j fun J n e b a=>
 bif b !=0 then
 (10:Int)≠0 /\
 ∃ c:Int->Heap->Prop,(
 bif decide ((Int.tmod b 10:Int)<0) then
 c (zw (0-(Int.tmod b 10))) a
 else
 c (Int.tmod b 10) a
 )/\∀ (_:Env) k (f:Heap),c k f ->
 vNewS f (.cells #[.int .u8 (IntKind.u8.wrap (zw (48+k)))] 5) 1 fun l o=>
 vAppend 1 1 [.int .u8 0] 5 l e o fun p r=>
 (10:Int)≠0 /\
 ag2 J n p (zw (Int.tdiv b 10)) r
 else
 vLen e fun s=>
 bif (s:Int)==0 then
 R (.string ⟨#[48]⟩) a
 else
 bif decide (i<0) then
 vB2S e a fun g=>
 (((⟨#[45]⟩:ByteArray).size+(g:ByteArray).size:Nat):Int)<=IntKind.i64.max /\
 R (.string ((⟨#[45]⟩:ByteArray)++(g:ByteArray))) a
 else
 vB2S e a fun t=>
 R (.string t) a):CallsH P 76 #[zi i] h R:=zv ⟨[(3,[(3,.v),(4,.i .i64)])],[(8,[(5,.i .i64)])],[]⟩ Tryz.func76 u
theorem ZGf {v0:Value} (u:
 vLen v0 fun v=>
 bif decide ((v:Int)>100) then
 R (.string ⟨#[]⟩) h
 else
 vLen v0 fun w=>
 bif (w:Int)==0 then
 R (.string ⟨#[45]⟩) h
 else
 lq2 (⟨#[]⟩:ByteArray) (0:Int) h fun J n i b c=>
 vLen v0 fun k=>
 bif decide (b<(k:Int)) then
 vIdx v0 b 1 fun l=>
 ldI .i64 c l fun o=>
 zB 11 #[zi o,zi (-999999999),zi 999999999] c fun p e=>
 bif !p then
 R (.string ⟨#[]⟩) e
 else
 ∃ f:ByteArray->Heap->Prop,(
 bif decide (b>0) then
 (((i:ByteArray).size+(⟨#[44]⟩:ByteArray).size:Nat):Int)<=IntKind.i64.max /\
 f ((i:ByteArray)++(⟨#[44]⟩:ByteArray)) e
 else
 f i e
 )/\∀ (_:Env) (a:ByteArray) (g:Heap),f a g ->
 vIdx v0 b 1 fun r=>
 ldI .i64 g r fun s=>
 zS 76 #[zi s] g fun j t=>
 (((a:ByteArray).size+(j:ByteArray).size:Nat):Int)<=IntKind.i64.max /\
 ag2 J n ((a:ByteArray)++(j:ByteArray)) (zw (b+1)) t
 else
 R (.string i) c):CallsH P 75 #[v0] h R:=zv ⟨[(7,[(3,.s),(4,.i .i64)])],[(13,[(3,.s)])],[]⟩ Tryz.func75 u
theorem ZBq {f g:Value} (hv:
 vNew h (.cells #[f,g] 39) fun p1 o=>
 ldV o p1 fun v6=>
 zS 75 #[v6] o fun r s=>
 (((r:ByteArray).size+(⟨#[59]⟩:ByteArray).size:Nat):Int)<=IntKind.i64.max /\
 lq2 (((r:ByteArray)++(⟨#[59]⟩:ByteArray)):ByteArray) (0:Int) s fun J n l i c=>
 ldV c (p1.add 1) fun t=>
 vLen t fun u=>
 bif decide (i<(u:Int)) then
 ∃ j:ByteArray->Heap->Prop,(
 bif decide (i>0) then
 (((l:ByteArray).size+(⟨#[44]⟩:ByteArray).size:Nat):Int)<=IntKind.i64.max /\
 j ((l:ByteArray)++(⟨#[44]⟩:ByteArray)) c
 else
 j l c
 )/\∀ (_:Env) (b:ByteArray) (a:Heap),j b a ->
 ∃ B:Nat->Prop,
 ldV a (p1.add 1) fun v=>
 vIdx v i 2 fun w=>
 ldI .i64 a w fun x=>
 zS 76 #[zi x] a fun e p=>
 ExtBut B a p /\
 ldV (hmask B a) (p1.add 1) fun y=>
 vIdx y i 2 fun a0=>
 ldI .i64 (hmask B a) (a0.add 1) fun a1=>
 zS 76 #[zi a1] p fun k a2=>
 (((e:ByteArray).size+(⟨#[45]⟩:ByteArray).size:Nat):Int)<=IntKind.i64.max /\
 ((((e:ByteArray)++(⟨#[45]⟩:ByteArray):ByteArray).size+(k:ByteArray).size:Nat):Int)<=IntKind.i64.max /\
 (((b:ByteArray).size+(((e:ByteArray)++(⟨#[45]⟩:ByteArray):ByteArray)++(k:ByteArray):ByteArray).size:Nat):Int)<=IntKind.i64.max /\
 ag2 J n ((b:ByteArray)++(((e:ByteArray)++(⟨#[45]⟩:ByteArray):ByteArray)++(k:ByteArray):ByteArray)) (zw (i+1)) a2
 else
 R (.string l) c):CallsH P 34 #[.agg #[f,g]] h R:=zv ⟨[(3,[(3,.s),(4,.i .i64)])],[(7,[(3,.s)])],[]⟩ Tryz.func34 hv
theorem ZwN {e f:Value} {p:Int} (u:
 vNew h (.cells #[e,f] 39) fun p2 g=>
 ldV g p2 fun l=>
 ldV g (p2.add 1) fun o=>
 CallsH P 33 #[.agg #[l,o],zi p] g fun r b=>∃ (c:Value),∃ a,r=.tuple #[c,zi a] /\
 bif a !=0 then
 R (.tuple #[.string ⟨#[]⟩,zi a]) b
 else
 vNilQ c (fun _ _ _=>False) fun k=>
 ldV b (k.add 3) fun i=>
 ldV b ((k.add 3).add 1) fun j=>
 zS 34 #[.agg #[i,j]] b fun s t=>
 R (.tuple #[.string s,zi 0]) t):CallsH P 13 #[.agg #[e,f],zi p] h R:=zv ⟨[],[],[]⟩ Tryz.func13 u
theorem ZC8 {i j:Int} {k:Value} {t:Int} (hv:
 vNew h (.cells #[zi i,zi j,k] 28) fun p2 u=>
 zB 10 #[.pointer (some p2)] u fun b8 r=>
 bif !b8 then
 R (.tuple #[.string ⟨#[]⟩,zi 1]) r
 else
 zB 11 #[zi t,zi 1,zi 20000] r fun v s=>
 bif !v then
 R (.tuple #[.string ⟨#[]⟩,zi 2]) s
 else
 CallsH P 12 #[.pointer (some p2)] s fun w x=>∃ (a:Value),∃ (b:Value),∃ c,w=.tuple #[.agg #[a,b],zi c] /\
 vNew x (.cells #[.slice none 0 0,.slice none 0 0] 39) fun l y=>
 vStore1 y l a fun a0=>
 vStore1 a0 (l.add 1) b fun e=>
 bif c !=0 then
 R (.tuple #[.string ⟨#[]⟩,zi c]) e
 else
 ldV e l fun o=>
 ldV e (l.add 1) fun p=>
 CallsH P 13 #[.agg #[o,p],zi t] e fun a1 a2=>∃ (f:ByteArray),∃ g,a1=.tuple #[.string f,zi g] /\
 R (.tuple #[.string f,zi g]) a2):CallsH P 5 #[.agg #[zi i,zi j,k],zi t] h R:=zv ⟨[],[],[]⟩ Tryz.func5 hv
theorem Zwg {v0:Value} (o:
 vLen v0 fun c=>
 vMake 8 [zi 0] 2 (c:Int) (c:Int) h fun e f=>
 lq1 (0:Int) f fun J n b a=>
 vLen v0 fun g=>
 bif decide (b<(g:Int)) then
 vIdx v0 b 1 fun i=>
 ldI .i64 a i fun j=>
 vIdx e b 1 fun k=>
 vStore1 a k (zi j) fun l=>
 ag1 J n (zw (b+1)) l
 else
 R e a):CallsH P 35 #[v0] h R:=zv ⟨[(3,[(4,.i .i64)])],[],[]⟩ Tryz.func35 o
theorem ZAr {v0:Value} (r:
 vLen v0 fun c=>
 vMake 24 [.slice none 0 0] 36 (c:Int) (c:Int) h fun e f=>
 lq1 (0:Int) f fun J n b a=>
 vLen v0 fun g=>
 bif decide (b<(g:Int)) then
 vIdx v0 b 1 fun i=>
 ldV a i fun j=>
 zV 35 #[j] a fun k l=>
 vIdx e b 1 fun o=>
 vStore1 l o k fun p=>
 ag1 J n (zw (b+1)) p
 else
 R e a):CallsH P 14 #[v0] h R:=zv ⟨[(3,[(4,.i .i64)])],[],[]⟩ Tryz.func14 r
theorem ZzQ {i j:Int} {k:Value} (hv:
 vNew h (.cells #[zi i,zi j,k] 24) fun p1 v=>
 vNew v (.cells #[zi 0,zi 0,.slice none 0 0] 28) fun p2 w=>
 vNew w (.cells #[zi 0,zi 0,.slice none 0 0] 28) fun c r=>
 ldI .i64 r p1 fun x5=>
 vStore1 r c (zi x5) fun s=>
 ldI .i64 s (p1.add 1) fun x8=>
 vStore1 s (c.add 1) (zi x8) fun t=>
 ldV t (p1.add 2) fun x=>
 zV 14 #[x] t fun y a0=>
 vStore1 a0 (c.add 2) y fun b=>
 ldI .i64 b c fun l=>
 ldI .i64 b (c.add 1) fun o=>
 ldV b (c.add 2) fun p=>
 vStore1 b p2 (zi l) fun a1=>
 vStore1 a1 (p2.add 1) (zi o) fun u=>
 vStore1 u (p2.add 2) p fun a=>
 ldI .i64 a p2 fun e=>
 ldI .i64 a (p2.add 1) fun f=>
 ldV a (p2.add 2) fun g=>
 R (.agg #[zi e,zi f,g]) a):CallsH P 6 #[.agg #[zi i,zi j,k]] h R:=zv ⟨[],[],[]⟩ Tryz.func6 hv
theorem ZBM {v0:Value} (a:
 vLen v0 fun b=>
 R (zi (b:Int)) h):CallsH P 36 #[v0] h R:=zv ⟨[],[],[]⟩ Tryz.func36 a
theorem Zwh {a b c:Int} (e:
 bif decide (a>=b) then
 R (.bool (decide (a<=c))) h
 else
 R (.bool false) h):CallsH P 48 #[zi a,zi b,zi c] h R:=zv ⟨[],[],[]⟩ Tryz.func48 e
theorem ZDE {v0:Value} {g:Nat} {a:List Value} (l:
 vLen v0 fun o=>
 lq1 (0:Int) h fun J n c b=>
 bif decide (c<(o:Int)) then
 vIdx v0 c 1 fun i=>
 ldV b i fun j=>
 vOkf ctx g fun _=>
 CallsH P g (([j]:List Value)++a).toArray b fun k e=>∃ (f:Bool),k=.bool f /\
 bif f then
 R (zi c) e
 else
 ag1 J n (zw (c+1)) e
 else
 R (zi (-1)) b):CallsH P 138 #[v0,.func (.func g) #[] a.toArray] h R:=zv ⟨[(2,[(8,.i .i64)])],[],[]⟩ Tryz.func138 l
theorem ZFQ {v0:Value} {b:Nat} {a:List Value} (e:
 zI 138 #[v0,.func (.func b) #[] a.toArray] h fun f c=>
 R (.bool (decide (f>=0))) c):CallsH P 125 #[v0,.func (.func b) #[] a.toArray] h R:=zv ⟨[],[],[]⟩ Tryz.func125 e
theorem ZEs {v0:Value} (c:
 vNilS false v0 fun e=>
 bif e then
 R (.slice none 0 0) h
 else
 vNewS h (.cells #[] 2) 0 fun f a=>
 vAppend 1 8 [zi 0] 2 f v0 a fun g b=>
 R g b):CallsH P 127 #[v0] h R:=zv ⟨[],[],[]⟩ Tryz.func127 c
theorem ZDw {v0:Value} (l:
 zV 127 #[v0] h fun c e=>
 CallsH P 128 #[c] e fun o f=>o=.tuple #[] /\
 vLen c fun g=>
 lq1 (0:Int) f fun J n a b=>
 bif decide (a<(g:Int)) then
 vIdx c a 1 fun i=>
 ldI .i64 b i fun j=>
 bif j !=a then
 R (.bool false) b
 else
 ag1 J n (zw (a+1)) b
 else
 vLen v0 fun k=>
 R (.bool (decide ((k:Int)<=32))) b):CallsH P 78 #[v0] h R:=zv ⟨[(4,[(12,.i .i64)])],[],[]⟩ Tryz.func78 l
theorem ZAx {v0:Value} (a:
 vLen v0 fun b=>
 R (zi (b:Int)) h):CallsH P 83 #[v0] h R:=zv ⟨[],[],[]⟩ Tryz.func83 a
theorem ZxX {v0:Value} {p1:Addr} (e:
 ∃ B:Nat->Prop,
 zI 83 #[v0] h fun f a=>
 ExtBut B h a /\
 ldI .i64 (hmask B h) p1 fun g=>
 bif f !=g then
 R (.bool true) a
 else
 zB 78 #[v0] a fun b c=>
 R (.bool (!b)) c):CallsH P 126 #[v0,.pointer (some p1)] h R:=zv ⟨[],[],[]⟩ Tryz.func126 e
theorem ZAc {a:Int} {v1:Value} (e:
 vNew h (.cells #[zi a] 2) fun p2 b=>
 zB 125 #[v1,.func (.func 126) #[] #[.pointer (some p2)]] b fun f c=>
 R (.bool (!f)) c):CallsH P 77 #[zi a,v1] h R:=zv ⟨[],[],[]⟩ Tryz.func77 e
theorem ZzN {v0:Value} (hv:
 zI 36 #[v0] h fun k l=>
 ∃ J:Heap->Prop,(
 zB 48 #[zi k,zi 1,zi 10] l fun o f=>
 bif !o then
 R (.bool false) f
 else
 zB 77 #[zi k,v0] f fun p g=>
 bif !p then
 R (.bool false) g
 else
 J g
 )/\∀ (_:Env) (i:Heap),J i ->
 vLen v0 fun r=>
 lq1 (0:Int) i fun s n b j=>
 bif decide (b<(r:Int)) then
 vLen v0 fun t=>
 lq2 ((.slice none 0 0):Value) (0:Int) j fun u v w c a=>
 bif decide (c<(t:Int)) then
 vIdx v0 c 1 fun x=>
 ldV a x fun y=>
 vIdx y b 1 fun a0=>
 ldI .i64 a a0 fun a1=>
 vNewS a (.cells #[zi a1] 2) 1 fun a2 a3=>
 vAppend 1 8 [zi 0] 2 w a2 a3 fun a4 a5=>
 ag2 u v a4 (zw (c+1)) a5
 else
 zB 78 #[w] a fun a6 e=>
 bif !a6 then
 R (.bool false) e
 else
 ag1 s n (zw (b+1)) e
 else
 R (.bool true) j):CallsH P 37 #[v0] h R:=zv ⟨[(5,[(20,.i .i64)]),(9,[(5,.v),(25,.i .i64)])],[(4,[])],[]⟩ Tryz.func37 hv
theorem ZBF {v0:Value} {e:Int} (j:
 vLen v0 fun k=>
 lq2 ((-1):Int) (0:Int) h fun J n l b a=>
 bif decide (b<(k:Int)) then
 vIdx v0 b 1 fun f=>
 ldI .i64 a f fun c=>
 bif decide (c<=l) then
 R (.bool false) a
 else
 bif decide (c>=e) then
 R (.bool false) a
 else
 ag2 J n c (zw (b+1)) a
 else
 zB 48 #[zi e,zi 0,zi 32] a fun g i=>
 R (.bool g) i):CallsH P 180 #[v0,zi e] h R:=zv ⟨[(3,[(5,.i .i64),(10,.i .i64)])],[],[]⟩ Tryz.func180 j
theorem ZwT {v0:Value} {a:Int} (e:
 vLen v0 fun f=>
 bif decide ((f:Int)>0) then
 zB 180 #[v0,zi a] h fun b c=>
 R (.bool b) c
 else
 R (.bool false) h):CallsH P 130 #[v0,zi a] h R:=zv ⟨[],[],[]⟩ Tryz.func130 e
theorem ZzX {v0:Value} {p1:Addr} (b:
 ldI .i64 h p1 fun c=>
 zB 130 #[v0,zi c] h fun e a=>
 R (.bool (!e)) a):CallsH P 129 #[v0,.pointer (some p1)] h R:=zv ⟨[],[],[]⟩ Tryz.func129 b
theorem Zyi {v0:Value} {c:Int} (i:
 vNew h (.cells #[zi c] 2) fun e a=>
 ldI .i64 a e fun j=>
 zB 48 #[zi j,zi 1,zi 32] a fun k b=>
 bif k then
 zB 125 #[v0,.func (.func 129) #[] #[.pointer (some e)]] b fun f g=>
 R (.bool (!f)) g
 else
 R (.bool false) b):CallsH P 79 #[v0,zi c] h R:=zv ⟨[],[],[]⟩ Tryz.func79 i
theorem ZCW {v0:Value} {g:Nat} {b:List Value} (p:
 vLen v0 fun r=>
 lq1 (zw ((r:Int)-1)) h fun J n c a=>
 bif decide (c>0) then
 vIdx v0 c 1 fun i=>
 ldV a i fun j=>
 vIdx v0 (zw (c-1)) 1 fun k=>
 ldV a k fun l=>
 vOkf ctx g fun _=>
 CallsH P g (([j,l]:List Value)++b).toArray a fun o e=>∃ f,o=zi f /\
 bif decide (f<0) then
 R (.bool false) e
 else
 ag1 J n (zw (c-1)) e
 else
 R (.bool true) a):CallsH P 80 #[v0,.func (.func g) #[] b.toArray] h R:=zv ⟨[(2,[(5,.i .i64)])],[],[]⟩ Tryz.func80 p
theorem ZGc {a:Int} (b:
 R (.bool (a !=a)) h):CallsH P 181 #[zi a] h R:=zv ⟨[],[],[]⟩ Tryz.func181 b
theorem Zxe {b c:Int} (g:
 zB 181 #[zi b] h fun i f=>
 zB 181 #[zi c] f fun e a=>
 bif i then
 bif e then
 R (zi 0) a
 else
 R (zi (-1)) a
 else
 bif e then
 R (zi 1) a
 else
 bif decide (b<c) then
 R (zi (-1)) a
 else
 bif decide (b>c) then
 R (zi 1) a
 else
 R (zi 0) a):CallsH P 131 #[zi b,zi c] h R:=zv ⟨[],[],[]⟩ Tryz.func131 g
theorem ZAG {v0 v1:Value} (r:
 vLen v0 fun f=>
 lq1 (0:Int) h fun J n b a=>
 bif decide (b<(f:Int)) then
 vIdx v0 b 1 fun g=>
 ldI .i64 a g fun i=>
 vLen v1 fun j=>
 bif decide (b>=(j:Int)) then
 R (zi 1) a
 else
 vIdx v1 b 1 fun k=>
 ldI .i64 a k fun l=>
 zI 131 #[zi i,zi l] a fun c e=>
 bif c !=0 then
 R (zi c) e
 else
 ag1 J n (zw (b+1)) e
 else
 vLen v0 fun o=>
 vLen v1 fun p=>
 bif decide ((o:Int)<(p:Int)) then
 R (zi (-1)) a
 else
 R (zi 0) a):CallsH P 81 #[v0,v1] h R:=zv ⟨[(2,[(11,.i .i64)])],[],[]⟩ Tryz.func81 r
theorem ZDi {b:Int} {c:Value} (l:
 vNew h (.cells #[zi b,c] 53) fun p1 e=>
 ldV e (p1.add 1) fun o=>
 ldI .i64 e p1 fun p=>
 zB 79 #[o,zi p] e fun r a=>
 bif r then
 ldV a (p1.add 1) fun f=>
 vLen f fun g=>
 bif decide ((g:Int)<=128) then
 ldV a (p1.add 1) fun i=>
 zB 80 #[i,.func (.func 81) #[] #[]] a fun j k=>
 R (.bool j) k
 else
 R (.bool false) a
 else
 R (.bool false) a):CallsH P 38 #[.agg #[zi b,c]] h R:=zv ⟨[],[],[]⟩ Tryz.func38 l
theorem ZFw {v0:Value} (p:
 vLen v0 fun r=>
 lq2 ((.slice none 0 0):Value) (0:Int) h fun J n e c a=>
 bif decide (c<(r:Int)) then
 vIdx v0 c 1 fun f=>
 ldV a f fun g=>
 zV 127 #[g] a fun b i=>
 vOne b fun _=>
 vNewS i (.cells #[b] 36) 1 fun j k=>
 vAppend 1 24 [.slice none 0 0] 36 e j k fun l o=>
 ag2 J n l (zw (c+1)) o
 else
 R e a):CallsH P 82 #[v0] h R:=zv ⟨[(3,[(3,.v),(8,.i .i64)])],[],[]⟩ Tryz.func82 p
theorem ZBC {e f:Int} {g:Value} (p:
 vNew h (.cells #[zi e,zi f,g] 28) fun p1 k=>
 vNew k (.cells #[zi 0,.slice none 0 0] 53) fun p2 a=>
 ∃ B:Nat->Prop,
 ldV a (p1.add 2) fun r=>
 zV 82 #[r] a fun l j=>
 ExtBut B a j /\
 ldI .i64 (hmask B a) (p1.add 1) fun s=>
 vOne l fun _=>
 vStore1 j p2 (zi s) fun o=>
 vStore1 o (p2.add 1) l fun i=>
 ldI .i64 i p2 fun b=>
 ldV i (p2.add 1) fun c=>
 R (.agg #[zi b,c]) i):CallsH P 39 #[.agg #[zi e,zi f,g]] h R:=zv ⟨[],[],[]⟩ Tryz.func39 p
theorem ZxJ {v0:Value} {g:Nat} {a:List Value} (l:
 vLen v0 fun o=>
 lq1 (0:Int) h fun J n c b=>
 bif decide (c<(o:Int)) then
 vIdx v0 c 1 fun i=>
 ldI .i64 b i fun j=>
 vOkf ctx g fun _=>
 CallsH P g (([zi j]:List Value)++a).toArray b fun k e=>∃ (f:Bool),k=.bool f /\
 bif f then
 R (zi c) e
 else
 ag1 J n (zw (c+1)) e
 else
 R (zi (-1)) b):CallsH P 132 #[v0,.func (.func g) #[] a.toArray] h R:=zv ⟨[(2,[(8,.i .i64)])],[],[]⟩ Tryz.func132 l
theorem Zw1 {v0:Value} {b:Nat} {a:List Value} (e:
 zI 132 #[v0,.func (.func b) #[] a.toArray] h fun f c=>
 R (.bool (decide (f>=0))) c):CallsH P 84 #[v0,.func (.func b) #[] a.toArray] h R:=zv ⟨[],[],[]⟩ Tryz.func84 e
theorem ZBf {a:Int} (b:
 bif a !=1 then
 R (.bool (a !=(-1))) h
 else
 R (.bool false) h):CallsH P 85 #[zi a] h R:=zv ⟨[],[],[]⟩ Tryz.func85 b
theorem Zy5 {v0:Value} (hv:
 zI 36 #[v0] h fun j s=>
 vLen v0 fun t=>
 lq1 (0:Int) s fun J n b f=>
 bif decide (b<(t:Int)) then
 vIdx v0 b 1 fun u=>
 ldV f u fun c=>
 ∃ k:Heap->Prop,(
 zI 83 #[c] f fun v l=>
 bif v !=j then
 R (.bool false) l
 else
 zB 84 #[c,.func (.func 85) #[] #[]] l fun w o=>
 bif w then
 R (.bool false) o
 else
 k o
 )/\∀ (_:Env) (p:Heap),k p ->
 vSliceS v0 1 none (some (zi b)) none fun r=>
 vLen r fun x=>
 lq1 (0:Int) p fun y a0 g i=>
 bif decide (g<(x:Int)) then
 vIdx r g 1 fun a1=>
 ldV i a1 fun a2=>
 vLen c fun a3=>
 lq2 (0:Int) (0:Int) i fun a4 a5 x8 e a=>
 bif decide (e<(a3:Int)) then
 vIdx c e 1 fun a7=>
 ldI .i64 a a7 fun a8=>
 vIdx a2 e 1 fun a9=>
 ldI .i64 a a9 fun aa=>
 ag2 a4 a5 (zw (x8+(zw (a8*aa)))) (zw (e+1)) a
 else
 bif x8 !=0 then
 R (.bool false) a
 else
 ag1 y a0 (zw (g+1)) a
 else
 ag1 J n (zw (b+1)) i
 else
 zB 48 #[zi j,zi 1,zi 32] f fun ab ac=>
 R (.bool ab) ac):CallsH P 40 #[v0] h R:=zv ⟨[(3,[(14,.i .i64)]),(8,[(31,.i .i64)]),(12,[(8,.i .i64),(37,.i .i64)])],[(7,[])],[]⟩ Tryz.func40 hv
theorem ZwK {b c:Int} (f:
 zB 48 #[zi b,zi 2,zi 16] h fun g a=>
 bif g then
 zB 48 #[zi c,zi 1,zi 8] a fun i e=>
 R (.bool i) e
 else
 R (.bool false) a):CallsH P 86 #[zi b,zi c] h R:=zv ⟨[],[],[]⟩ Tryz.func86 f
theorem Zwl {a:Int} {p1:Addr} (c:
 ldI .i64 h p1 fun e=>
 zB 48 #[zi a,zi 0,zi (zw (e-1))] h fun f b=>
 R (.bool (!f)) b):CallsH P 87 #[zi a,.pointer (some p1)] h R:=zv ⟨[],[],[]⟩ Tryz.func87 c
theorem ZEu {c e:Int} {f:Value} (hv:
 vNew h (.cells #[zi c,zi e,f] 55) fun p1 g=>
 ∃ J:Heap->Prop,(
 ldI .i64 g p1 fun x6=>
 ldI .i64 g (p1.add 1) fun x8=>
 zB 86 #[zi x6,zi x8] g fun b9 b=>
 bif !b9 then
 R (.bool false) b
 else
 ldV b (p1.add 2) fun r=>
 vLen r fun s=>
 bif decide ((s:Int)>256) then
 R (.bool false) b
 else
 J b
 )/\∀ (_:Env) (i:Heap),J i ->
 ldV i (p1.add 2) fun l=>
 vLen l fun t=>
 lq1 (0:Int) i fun u n j a=>
 bif decide (j<(t:Int)) then
 vIdx l j 1 fun v=>
 ldV a v fun o=>
 ∃ B:Nat->Prop,
 zI 83 #[o] a fun w k=>
 ExtBut B a k /\
 ldI .i64 (hmask B a) (p1.add 1) fun x=>
 bif w !=x then
 R (.bool false) k
 else
 zB 84 #[o,.func (.func 87) #[] #[.pointer (some p1)]] k fun y p=>
 bif y then
 R (.bool false) p
 else
 ag1 u n (zw (j+1)) p
 else
 R (.bool true) a):CallsH P 41 #[.agg #[zi c,zi e,f]] h R:=zv ⟨[(4,[(20,.i .i64)])],[(3,[])],[]⟩ Tryz.func41 hv
theorem ZBd {ac ad:Int} {ae:Value} (hv:
 vNew h (.cells #[zi ac,zi ad,ae] 28) fun p1 b8=>
 vNew b8 (.cells #[zi 0,zi 0,.slice none 0 0] 55) fun p2 c=>
 ∃ B:Nat->Prop,
 (
 ldV (hmask B c) (p1.add 2) fun v7=>
 zV 82 #[v7] c fun v8 ar=>
 ExtBut B c ar /\
 vNew ar (.cells #[zi 0,zi 0,.slice none 0 0] 55) fun f au=>
 ExtBut B c au /\
 ldI .i64 (hmask B c) (p1.add 1) fun x5=>
 vOne v8 fun _=>
 vStore1 au f (zi x5) fun ba=>
 vStore1 ba (f.add 1) (zi 0) fun bb=>
 vStore1 bb (f.add 2) v8 fun e=>
 ldV e (p1.add 2) fun bc=>
 vLen bc fun bd=>
 bif decide ((bd:Int)>0) then
 ldV e (p1.add 2) fun be=>
 vIdx be 0 1 fun bf=>
 ldV e bf fun bg=>
 zI 83 #[bg] e fun bh bi=>
 vStore1 bi (f.add 1) (zi bh) fun g=>
 ldI .i64 g f fun ai=>
 ldI .i64 g (f.add 1) fun aj=>
 ldV g (f.add 2) fun ak=>
 vStore1 g p2 (zi ai) fun av=>
 vStore1 av (p2.add 1) (zi aj) fun aw=>
 vStore1 aw (p2.add 2) ak fun i=>
 ldI .i64 i p2 fun a0=>
 ldI .i64 i (p2.add 1) fun a1=>
 ldV i (p2.add 2) fun a2=>
 R (.agg #[zi a0,zi a1,a2]) i
 else
 ldI .i64 e f fun a3=>
 ldI .i64 e (f.add 1) fun a4=>
 ldV e (f.add 2) fun a5=>
 vStore1 e p2 (zi a3) fun ax=>
 vStore1 ax (p2.add 1) (zi a4) fun ay=>
 vStore1 ay (p2.add 2) a5 fun j=>
 ldI .i64 j p2 fun p=>
 ldI .i64 j (p2.add 1) fun r=>
 ldV j (p2.add 2) fun s=>
 R (.agg #[zi p,zi r,s]) j
 ) /\
 (
 vNew c (.cells #[zi 0,zi 0,.slice none 0 0] 55) fun a af=>
 ExtBut B c af /\
 ldV (hmask B c) (p1.add 2) fun az=>
 zV 82 #[az] af fun ag ah=>
 ExtBut B c ah /\
 ldI .i64 (hmask B c) (p1.add 1) fun b0=>
 vOne ag fun _=>
 vStore1 ah a (zi b0) fun b1=>
 vStore1 b1 (a.add 1) (zi 0) fun b2=>
 vStore1 b2 (a.add 2) ag fun b=>
 ldV b (p1.add 2) fun al=>
 vLen al fun am=>
 bif decide ((am:Int)>0) then
 ldV b (p1.add 2) fun an=>
 vIdx an 0 1 fun ao=>
 ldV b ao fun ap=>
 zI 83 #[ap] b fun aq b3=>
 vStore1 b3 (a.add 1) (zi aq) fun k=>
 ldI .i64 k a fun a6=>
 ldI .i64 k (a.add 1) fun a7=>
 ldV k (a.add 2) fun a8=>
 vStore1 k p2 (zi a6) fun b4=>
 vStore1 b4 (p2.add 1) (zi a7) fun b5=>
 vStore1 b5 (p2.add 2) a8 fun l=>
 ldI .i64 l p2 fun t=>
 ldI .i64 l (p2.add 1) fun u=>
 ldV l (p2.add 2) fun v=>
 R (.agg #[zi t,zi u,v]) l
 else
 ldI .i64 b a fun a9=>
 ldI .i64 b (a.add 1) fun aa=>
 ldV b (a.add 2) fun ab=>
 vStore1 b p2 (zi a9) fun b6=>
 vStore1 b6 (p2.add 1) (zi aa) fun b7=>
 vStore1 b7 (p2.add 2) ab fun o=>
 ldI .i64 o p2 fun w=>
 ldI .i64 o (p2.add 1) fun x=>
 ldV o (p2.add 2) fun y=>
 R (.agg #[zi w,zi x,y]) o
 )):CallsH P 42 #[.agg #[zi ac,zi ad,ae]] h R:=zv ⟨[],[],[]⟩ Tryz.func42 hv
theorem Zym {g i j:Int} (k:
 lq2 i (1:Int) h fun J n a c b=>
 ∃ e:Heap->Prop,(
 bif decide (a>0) then
 bif decide (c<=j) then
 e b
 else
 R (zi c) b
 else
 R (zi c) b
 )/\∀ (_:Env) (f:Heap),e f ->
 ag2 J n (zw (a-1)) (zw (c*g)) f):CallsH P 89 #[zi g,zi i,zi j] h R:=zv ⟨[(2,[(1,.i .i64),(7,.i .i64)])],[(4,[])],[]⟩ Tryz.func89 k
theorem ZEI {a b:Int} {c:Value} (g:
 vNew h (.cells #[zi a,zi b,c] 60) fun p1 e=>
 ldI .i64 e p1 fun i=>
 ldI .i64 e (p1.add 1) fun j=>
 zI 89 #[zi i,zi j,zi 64] e fun k f=>
 R (zi k) f):CallsH P 90 #[.agg #[zi a,zi b,c]] h R:=zv ⟨[],[],[]⟩ Tryz.func90 g
end Go.Proofs.YtccncimchmimdaaGreatDoor
