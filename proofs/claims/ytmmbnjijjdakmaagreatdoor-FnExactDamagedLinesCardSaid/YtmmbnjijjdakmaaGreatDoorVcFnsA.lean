import Derived.Test.YtmmbnjijjdakmaaGreatDoorVcSoundE
import Derived.Test.YtmmbnjijjdakmaaGreatDoorVcDn
import Derived.Test.YtmmbnjijjdakmaaGreatDoorPuBase
import Derived.Test.YtmmbnjijjdakmaaGreatDoorProg
import Derived.KernelRfl
namespace Go.Proofs.YtmmbnjijjdakmaaGreatDoor
set_option linter.unusedSimpArgs false
open Go Go.Vc Go.Proofs
set_option linter.unusedVariables false
set_option maxRecDepth 100000
noncomputable abbrev P:Program:=Tryz.prog
abbrev zw (x:Int):Int:=IntKind.i64.wrap x
abbrev zi (x:Int):Value:=.int .i64 x
abbrev zB (f:FuncId) (a:Array Value) (h:Heap) (K:Bool→Heap→Prop):Prop:=CallsH P f a h fun r h'=>∃ b,r=.bool b∧K b h'
abbrev zI (f:FuncId) (a:Array Value) (h:Heap) (K:Int→Heap→Prop):Prop:=CallsH P f a h fun r h'=>∃ x,r=.int .i64 x∧K x h'
abbrev zV (f:FuncId) (a:Array Value) (h:Heap) (K:Value→Heap→Prop):Prop:=CallsH P f a h fun r h'=>∃ v,r=v∧K v h'
abbrev zS (f:FuncId) (a:Array Value) (h:Heap) (K:ByteArray→Heap→Prop):Prop:=CallsH P f a h fun r h'=>∃ s,r=.string s∧K s h'
abbrev Zdk:Nat:=26
abbrev Zj7:Nat:=65
abbrev ZdZ:Nat:=66
abbrev ZgA:Nat:=28
abbrev Zab:Nat:=53
abbrev Zk7:Nat:=59
abbrev Zku:Nat:=125
abbrev Zk1:Nat:=60
abbrev ZjM:Nat:=64
abbrev ZkP:Nat:=27
abbrev Zmt:Nat:=29
abbrev ZnO:Nat:=195
abbrev ZhE:Nat:=134
abbrev ZmM:Nat:=67
abbrev ZnZ:Nat:=209
abbrev Zna:Nat:=135
abbrev ZgU:Nat:=136
abbrev ZnI:Nat:=68
abbrev Zmj:Nat:=137
abbrev Zky:Nat:=69
abbrev Znd:Nat:=70
abbrev ZkU:Nat:=138
abbrev Znb:Nat:=71
abbrev Zht:Nat:=139
abbrev Zcx:Nat:=210
abbrev ZhR:Nat:=214
abbrev Zgf:Nat:=221
abbrev Ziv:Nat:=291
abbrev ZgL:Nat:=292
abbrev Ziz:Nat:=211
abbrev Zmd:Nat:=140
abbrev Zlv:Nat:=72
abbrev Zlo:Nat:=212
abbrev Zj6:Nat:=143
abbrev Znn:Nat:=213
abbrev Zk4:Nat:=141
abbrev Zl2:Nat:=142
abbrev ZlF:Nat:=215
abbrev Zj0:Nat:=144
abbrev Zgx:Nat:=343
abbrev Zk6:Nat:=281
abbrev ZnP:Nat:=293
abbrev Zmz:Nat:=294
abbrev ZnN:Nat:=344
abbrev Zkn:Nat:=295
abbrev ZkM:Nat:=216
abbrev Zkf:Nat:=145
abbrev ZkH:Nat:=73
abbrev ZmC:Nat:=217
abbrev ZlV:Nat:=218
abbrev Zlp:Nat:=146
abbrev Znx:Nat:=74
abbrev ZiM:Nat:=220
abbrev Zk5:Nat:=296
abbrev Zkk:Nat:=297
abbrev Zmn:Nat:=298
abbrev ZiZ:Nat:=219
abbrev ZlJ:Nat:=147
abbrev ZnX:Nat:=75
abbrev Zkg:Nat:=30
abbrev Zj3:Nat:=76
abbrev ZlR:Nat:=31
abbrev ZmO:Nat:=7
abbrev ZiG:Nat:=204
abbrev ZlB:Nat:=126
abbrev Zk9:Nat:=61
abbrev Znv:Nat:=21
abbrev Zhs:Nat:=32
abbrev Zkv:Nat:=226
abbrev ZlX:Nat:=151
abbrev ZjI:Nat:=80
abbrev ZuE:Nat:=81
abbrev Zpy:Nat:=154
abbrev ZdW:Nat:=82
abbrev Zg1:Nat:=34
abbrev Z9:Nat:=118
abbrev Zjj:Nat:=205
abbrev ZlN:Nat:=127
abbrev ZmK:Nat:=206
abbrev Zln:Nat:=128
abbrev ZiO:Nat:=129
abbrev Zks:Nat:=62
abbrev Znp:Nat:=78
abbrev Zip:Nat:=79
abbrev ZlD:Nat:=33
abbrev Zoh:Nat:=94
abbrev Zla:Nat:=233
abbrev ZcB:Nat:=155
abbrev Zmk:Nat:=156
abbrev ZiW:Nat:=83
abbrev Zmm:Nat:=35
abbrev ZcJ:Nat:=44
abbrev ZhS:Nat:=188
abbrev Zcy:Nat:=107
abbrev ZaJ:Nat:=108
abbrev Zn3:Nat:=49
abbrev ZjQ:Nat:=245
abbrev ZgY:Nat:=234
abbrev ZpR:Nat:=236
abbrev Zjw:Nat:=158
abbrev Zme:Nat:=235
abbrev Zjc:Nat:=157
abbrev Zng:Nat:=84
abbrev ZmV:Nat:=278
abbrev ZkI:Nat:=238
abbrev Zl0:Nat:=237
abbrev Zl3:Nat:=159
abbrev Zke:Nat:=160
abbrev Zcs:Nat:=315
abbrev ZcQ:Nat:=239
abbrev ZcC:Nat:=161
abbrev Znt:Nat:=85
abbrev Zn9:Nat:=86
abbrev Zlk:Nat:=162
abbrev Zl6:Nat:=87
abbrev Zld:Nat:=163
abbrev Zmq:Nat:=164
abbrev ZlS:Nat:=88
abbrev ZeG:Nat:=166
abbrev ZgJ:Nat:=167
abbrev Zcc:Nat:=252
abbrev ZiU:Nat:=319
abbrev Zmf:Nat:=376
abbrev Zmg:Nat:=321
abbrev Zjf:Nat:=251
abbrev Zjo:Nat:=320
abbrev ZnD:Nat:=316
abbrev ZlE:Nat:=240
abbrev Zn6:Nat:=317
abbrev ZkR:Nat:=242
abbrev Zne:Nat:=241
abbrev Znk:Nat:=165
abbrev Zib:Nat:=318
abbrev Zia:Nat:=243
abbrev ZkS:Nat:=244
abbrev ZkZ:Nat:=168
abbrev Zmx:Nat:=246
abbrev Zmp:Nat:=247
abbrev Zlj:Nat:=169
abbrev Zlg:Nat:=248
abbrev ZmS:Nat:=249
abbrev Zkd:Nat:=170
abbrev Zkx:Nat:=89
abbrev ZmN:Nat:=250
abbrev Zm3:Nat:=171
abbrev ZmD:Nat:=90
abbrev Zlr:Nat:=322
abbrev ZkT:Nat:=253
abbrev ZlM:Nat:=324
abbrev Zmr:Nat:=323
abbrev Zmi:Nat:=254
abbrev ZnA:Nat:=172
abbrev Zms:Nat:=91
abbrev Zk3:Nat:=189
abbrev Zjp:Nat:=325
abbrev Zm6:Nat:=326
abbrev Zrk:Nat:=327
abbrev Zjv:Nat:=255
abbrev Zk0:Nat:=256
abbrev Zmw:Nat:=173
abbrev ZnT:Nat:=92
abbrev ZkA:Nat:=93
abbrev ZjG:Nat:=36
abbrev Znh:Nat:=177
abbrev Zns:Nat:=95
abbrev ZkJ:Nat:=37
abbrev ZkX:Nat:=8
abbrev ZnY:Nat:=207
abbrev ZmA:Nat:=130
abbrev ZmJ:Nat:=131
abbrev ZrO:Nat:=132
abbrev Znu:Nat:=133
abbrev Zlw:Nat:=63
abbrev Zka:Nat:=22
abbrev Zii:Nat:=23
abbrev Zlz:Nat:=24
abbrev ZjP:Nat:=25
abbrev ZmP:Nat:=6
abbrev Zh:Nat:=2
abbrev t_int:Nat:=3
abbrev Zjb:Nat:=5
abbrev ZaT:Nat:=9
abbrev ZtG:Nat:=22
abbrev Zas:Nat:=24
abbrev Zg:Nat:=42
abbrev Zc3:Nat:=68
abbrev Zco:Nat:=75
abbrev ZuH:Nat:=85
abbrev Zmu:Nat:=97
abbrev ZbO:Nat:=102
abbrev Zi1:Nat:=104
abbrev ZnF:Nat:=113
abbrev Zbi:Nat:=177
abbrev Zj1:Nat:=195
def tab:List (Nat×TE):=[(2,⟨.int .i64,[.i .i64],[.int .i64 0],8⟩),
 (3,⟨.int .i64,[.i .i64],[.int .i64 0],8⟩),
 (4,⟨.bool,[.b],[.bool false],1⟩),
 (5,⟨.int .u8,[.i .u8],[.int .u8 0],1⟩),
 (9,⟨.str,[.s],[.string ⟨#[]⟩],16⟩),
 (22,⟨.slice 42,[.v],[.slice none 0 0],24⟩),
 (24,⟨.struct [(0,1,false),(1,1,false),(2,1,false)],[.i .i64,.i .i64,.v],[.int .i64 0,.int .i64 0,.slice none 0 0],40⟩),
 (32,⟨.slice 9,[.v],[.slice none 0 0],24⟩),
 (42,⟨.slice 2,[.v],[.slice none 0 0],24⟩),
 (68,⟨.struct [(0,1,false),(1,1,false),(2,1,false)],[.i .i64,.i .i64,.v],[.int .i64 0,.int .i64 0,.slice none 0 0],40⟩),
 (73,⟨.slice 177,[.v],[.slice none 0 0],24⟩),
 (75,⟨.struct [(0,1,false),(1,1,false)],[.v,.v],[.slice none 0 0,.slice none 0 0],48⟩),
 (85,⟨.struct [(0,1,false),(1,3,true),(4,1,false)],[.s,.i .i64,.i .i64,.v,.s],[.string ⟨#[]⟩,.int .i64 0,.int .i64 0,.slice none 0 0,.string ⟨#[]⟩],72⟩),
 (97,⟨.struct [(0,1,false),(1,1,false)],[.i .i64,.v],[.int .i64 0,.slice none 0 0],32⟩),
 (102,⟨.struct [(0,1,false),(1,1,false),(2,1,false)],[.i .i64,.i .i64,.v],[.int .i64 0,.int .i64 0,.slice none 0 0],40⟩),
 (104,⟨.struct [(0,3,true),(3,1,false)],[.i .i64,.i .i64,.v,.v],[.int .i64 0,.int .i64 0,.slice none 0 0,.slice none 0 0],64⟩),
 (113,⟨.struct [(0,1,false),(1,1,false)],[.i .i64,.v],[.int .i64 0,.slice none 0 0],32⟩),
 (119,⟨.iface,[.v],[.nilIface],16⟩),
 (145,⟨.slice 5,[.v],[.slice none 0 0],24⟩),
 (177,⟨.struct [(0,1,false),(1,1,false)],[.i .i64,.i .i64],[.int .i64 0,.int .i64 0],16⟩),
 (195,⟨.struct [(0,1,false),(1,1,false),(2,1,false),(3,1,false),(4,1,false)],[.i .i64,.v,.v,.v,.v],[.int .i64 0,.slice none 0 0,.slice none 0 0,.slice none 0 0,.slice none 0 0],104⟩),
 (232,⟨.int .u64,[.i .u64],[.int .u64 0],8⟩),
 (298,⟨.map 9 4,[.v],[.map none],8⟩),
 (337,⟨.slice 3,[.v],[.slice none 0 0],24⟩)]
def rst:List (Nat×RS):=[(0,⟨true,[]⟩),
 (2,⟨false,[(false,[.i .i64])]⟩),
 (3,⟨false,[(false,[.i .i64])]⟩),
 (4,⟨false,[(false,[.b])]⟩),
 (9,⟨false,[(false,[.s])]⟩),
 (22,⟨false,[(false,[.v])]⟩),
 (25,⟨true,[(true,[.i .i64,.i .i64,.v]),(false,[.b])]⟩),
 (32,⟨false,[(false,[.v])]⟩),
 (33,⟨true,[(false,[.v]),(false,[.i .i64])]⟩),
 (42,⟨false,[(false,[.v])]⟩),
 (43,⟨true,[(false,[.v]),(false,[.i .i64])]⟩),
 (48,⟨true,[(false,[.i .i64]),(false,[.b])]⟩),
 (50,⟨true,[(false,[.v]),(false,[.b])]⟩),
 (64,⟨true,[(false,[.i .i64]),(false,[.i .i64])]⟩),
 (68,⟨false,[(true,[.i .i64,.i .i64,.v])]⟩),
 (82,⟨true,[(false,[.s]),(false,[.b])]⟩),
 (86,⟨true,[(true,[.s,.i .i64,.i .i64,.v,.s]),(false,[.b])]⟩),
 (88,⟨true,[(false,[.s]),(true,[.i .i64,.i .i64,.v]),(false,[.i .i64])]⟩),
 (97,⟨false,[(true,[.i .i64,.v])]⟩),
 (102,⟨false,[(true,[.i .i64,.i .i64,.v])]⟩),
 (104,⟨false,[(true,[.i .i64,.i .i64,.v,.v])]⟩),
 (108,⟨true,[(true,[.v,.v]),(false,[.b])]⟩),
 (113,⟨false,[(true,[.i .i64,.v])]⟩),
 (120,⟨true,[(false,[.i .i64]),(false,[.v])]⟩),
 (163,⟨true,[(false,[.s]),(false,[.s]),(false,[.b])]⟩),
 (179,⟨true,[(false,[.v]),(false,[.b])]⟩),
 (193,⟨true,[(false,[.v]),(false,[.v]),(false,[.i .i64])]⟩),
 (195,⟨false,[(true,[.i .i64,.v,.v,.v,.v])]⟩),
 (198,⟨true,[(true,[.i .i64,.i .i64,.v]),(false,[.i .i64])]⟩),
 (200,⟨true,[(false,[.v]),(false,[.v]),(false,[.b])]⟩),
 (237,⟨true,[(false,[.v]),(false,[.v])]⟩),
 (241,⟨true,[(false,[.i .i64]),(false,[.b])]⟩)]
def exs:List Nat:=[224,301,328,329,358,423,424,425,426,427,428,429,430,431,432,433,434,435,436,437,438,439,440,441,442,443,444,445,446,447,448,449,450,451]
noncomputable def ctx:Ctx:=⟨Tryz.prog,tab,rst,3,453,exs,[],False⟩
theorem te2:TeOk P 2 ⟨.int .i64,[.i .i64],[.int .i64 0],8⟩:=⟨by kernel_rfl,by kernel_rfl,by kernel_rfl,by kernel_rfl⟩
theorem te3:TeOk P 3 ⟨.int .i64,[.i .i64],[.int .i64 0],8⟩:=⟨by kernel_rfl,by kernel_rfl,by kernel_rfl,by kernel_rfl⟩
theorem te4:TeOk P 4 ⟨.bool,[.b],[.bool false],1⟩:=⟨by kernel_rfl,by kernel_rfl,by kernel_rfl,by kernel_rfl⟩
theorem te5:TeOk P 5 ⟨.int .u8,[.i .u8],[.int .u8 0],1⟩:=⟨by kernel_rfl,by kernel_rfl,by kernel_rfl,by kernel_rfl⟩
theorem te9:TeOk P 9 ⟨.str,[.s],[.string ⟨#[]⟩],16⟩:=⟨by kernel_rfl,by kernel_rfl,by kernel_rfl,by kernel_rfl⟩
theorem te22:TeOk P 22 ⟨.slice 42,[.v],[.slice none 0 0],24⟩:=⟨by kernel_rfl,by kernel_rfl,by kernel_rfl,by kernel_rfl⟩
theorem te24:TeOk P 24 ⟨.struct [(0,1,false),(1,1,false),(2,1,false)],[.i .i64,.i .i64,.v],[.int .i64 0,.int .i64 0,.slice none 0 0],40⟩:=⟨by kernel_rfl,by kernel_rfl,by kernel_rfl,by kernel_rfl⟩
theorem te32:TeOk P 32 ⟨.slice 9,[.v],[.slice none 0 0],24⟩:=⟨by kernel_rfl,by kernel_rfl,by kernel_rfl,by kernel_rfl⟩
theorem te42:TeOk P 42 ⟨.slice 2,[.v],[.slice none 0 0],24⟩:=⟨by kernel_rfl,by kernel_rfl,by kernel_rfl,by kernel_rfl⟩
theorem te68:TeOk P 68 ⟨.struct [(0,1,false),(1,1,false),(2,1,false)],[.i .i64,.i .i64,.v],[.int .i64 0,.int .i64 0,.slice none 0 0],40⟩:=⟨by kernel_rfl,by kernel_rfl,by kernel_rfl,by kernel_rfl⟩
theorem te73:TeOk P 73 ⟨.slice 177,[.v],[.slice none 0 0],24⟩:=⟨by kernel_rfl,by kernel_rfl,by kernel_rfl,by kernel_rfl⟩
theorem te75:TeOk P 75 ⟨.struct [(0,1,false),(1,1,false)],[.v,.v],[.slice none 0 0,.slice none 0 0],48⟩:=⟨by kernel_rfl,by kernel_rfl,by kernel_rfl,by kernel_rfl⟩
theorem te85:TeOk P 85 ⟨.struct [(0,1,false),(1,3,true),(4,1,false)],[.s,.i .i64,.i .i64,.v,.s],[.string ⟨#[]⟩,.int .i64 0,.int .i64 0,.slice none 0 0,.string ⟨#[]⟩],72⟩:=⟨by kernel_rfl,by kernel_rfl,by kernel_rfl,by kernel_rfl⟩
theorem te97:TeOk P 97 ⟨.struct [(0,1,false),(1,1,false)],[.i .i64,.v],[.int .i64 0,.slice none 0 0],32⟩:=⟨by kernel_rfl,by kernel_rfl,by kernel_rfl,by kernel_rfl⟩
theorem te102:TeOk P 102 ⟨.struct [(0,1,false),(1,1,false),(2,1,false)],[.i .i64,.i .i64,.v],[.int .i64 0,.int .i64 0,.slice none 0 0],40⟩:=⟨by kernel_rfl,by kernel_rfl,by kernel_rfl,by kernel_rfl⟩
theorem te104:TeOk P 104 ⟨.struct [(0,3,true),(3,1,false)],[.i .i64,.i .i64,.v,.v],[.int .i64 0,.int .i64 0,.slice none 0 0,.slice none 0 0],64⟩:=⟨by kernel_rfl,by kernel_rfl,by kernel_rfl,by kernel_rfl⟩
theorem te113:TeOk P 113 ⟨.struct [(0,1,false),(1,1,false)],[.i .i64,.v],[.int .i64 0,.slice none 0 0],32⟩:=⟨by kernel_rfl,by kernel_rfl,by kernel_rfl,by kernel_rfl⟩
theorem te119:TeOk P 119 ⟨.iface,[.v],[.nilIface],16⟩:=⟨by kernel_rfl,by kernel_rfl,by kernel_rfl,by kernel_rfl⟩
theorem te145:TeOk P 145 ⟨.slice 5,[.v],[.slice none 0 0],24⟩:=⟨by kernel_rfl,by kernel_rfl,by kernel_rfl,by kernel_rfl⟩
theorem te177:TeOk P 177 ⟨.struct [(0,1,false),(1,1,false)],[.i .i64,.i .i64],[.int .i64 0,.int .i64 0],16⟩:=⟨by kernel_rfl,by kernel_rfl,by kernel_rfl,by kernel_rfl⟩
theorem te195:TeOk P 195 ⟨.struct [(0,1,false),(1,1,false),(2,1,false),(3,1,false),(4,1,false)],[.i .i64,.v,.v,.v,.v],[.int .i64 0,.slice none 0 0,.slice none 0 0,.slice none 0 0,.slice none 0 0],104⟩:=⟨by kernel_rfl,by kernel_rfl,by kernel_rfl,by kernel_rfl⟩
theorem te232:TeOk P 232 ⟨.int .u64,[.i .u64],[.int .u64 0],8⟩:=⟨by kernel_rfl,by kernel_rfl,by kernel_rfl,by kernel_rfl⟩
theorem te298:TeOk P 298 ⟨.map 9 4,[.v],[.map none],8⟩:=⟨by kernel_rfl,by kernel_rfl,by kernel_rfl,by kernel_rfl⟩
theorem te337:TeOk P 337 ⟨.slice 3,[.v],[.slice none 0 0],24⟩:=⟨by kernel_rfl,by kernel_rfl,by kernel_rfl,by kernel_rfl⟩
theorem tabOk_all:∀ p∈tab,TeOk P p.1 p.2:=by
 unfold tab
 simp only [List.forall_mem_cons]
 exact ⟨te2,te3,te4,te5,te9,te22,te24,te32,te42,te68,te73,te75,te85,te97,te102,te104,te113,te119,te145,te177,te195,te232,te298,te337,fun p hp=>by cases hp⟩
theorem tab_mem:∀ (l:List (Nat×TE)) (t:Nat) (te:TE),tabGet l t=some te→(t,te)∈l
 | [],t,te,h=>by cases h
 | (k,x)::r,t,te,h=>by
  unfold tabGet at h
  cases hb:Nat.beq k t with
  | true=>rw [hb] at h;have:=Nat.eq_of_beq_eq_true hb;subst this;cases h;exact List.mem_cons_self ..
  | false=>rw [hb] at h;exact List.mem_cons_of_mem _ (tab_mem r t te h)
noncomputable def fnB (f:Nat):Bool:=match P.funcs[f]? with|some fn=>fn.body.isSome&&!(fn.name== "runtime.NumGoroutine")|none=>false
theorem fns_all:(List.range' 3 450).all (fun f=>inL exs f||fnB f)=true:=by kernel_rfl
theorem ctxOk:CtxOk ctx where
 tab:=fun t te h=>tabOk_all (t,te) (tab_mem _ t te h)
 fns:=fun f hf=>by
  simp only [Ctx.okf,Bool.and_eq_true,Bool.not_eq_true'] at hf
  have h1:3≤f:=Nat.le_of_ble_eq_true hf.1.1
  have h2:f<453:=Nat.blt_eq.mp hf.1.2
  have h:=List.all_eq_true.1 fns_all f (List.mem_range'_1.2 ⟨h1,by omega⟩)
  have h3:inL exs f=false:=hf.2
  simp only [h3,Bool.false_or] at h
  unfold fnB at h
  split at h
  ·rename_i fn hfn;simp only [Bool.and_eq_true,Bool.not_eq_true'] at h;exact ⟨fn,hfn,h.1,h.2⟩
  ·cases h
 mixed:=by kernel_rfl
 ovs:=fun f hf=>by cases hf
theorem zv {F:Prop} {f:FuncId} {fn:Func} {args:List Value} {h:Heap} {R:Value→Heap→Prop} (A:Ann) (hf:P.funcs[f]?=some fn) (hv:F)
  (hn:((match fn.body with|some c=>cOk fn.ntmps c|none=>false)&&Nat.ble args.length fn.ntmps)=true:=by kernel_rfl) (e:vcFn ctx A fn args h R=F:=by kernel_rfl):CallsH P f args.toArray h R:=
 Zju ctxOk A hf args h R hn (e▸hv)
variable {R:Value→Heap→Prop} {h:Heap}
theorem ZyH {s0:ByteArray} {x1:Int} (hv:
 vNewS h (.cells #[] ZaT) 0 fun v8 h_2=>
 lq3 v8 (0:Int) (0:Int) h_2 fun J n v5 x6 x7 h_3=>
 bif decide (x7<(s0.size:Int)) then
 vStrIdx s0 x7 fun c17=>
 bif ((c17.toNat:Int):Int)==x1 then
 vSliceStr s0 (some (zi x6)) (some (zi x7)) fun s24=>
 vNewS h_3 (.cells #[.string s24] ZaT) 1 fun v25 h_4=>
 vAppend 1 16 [.string ⟨#[]⟩] ZaT v5 v25 h_4 fun v26 h_5=>
 ag3 J n v26 (zw (x7+1)) (zw (x7+1)) h_5
 else
 ag3 J n v5 x6 (zw (x7+1)) h_3
 else
 vSliceStr s0 (some (zi x6)) none fun s32=>
 vNewS h_3 (.cells #[.string s32] ZaT) 1 fun v33 h_6=>
 vAppend 1 16 [.string ⟨#[]⟩] ZaT v5 v33 h_6 fun v34 h_7=>
 R v34 h_7):CallsH P Zdk #[.string s0,.int .u8 x1] h R:=zv ⟨[(4,[(5,.v),(6,.i .i64),(7,.i .i64)])],[],[]⟩ Tryz.func26 hv
theorem ZvL {x0:Int} (hv:
 bif decide (x0≥48) then
 R (.bool (decide (x0≤57))) h
 else
 R (.bool false) h):CallsH P Zj7 #[.int .u8 x0] h R:=zv ⟨[],[],[]⟩ Tryz.func65 hv
theorem Zvw {x0:Int} (hv:
 vNewS h (.cells #[] Zjb) 0 fun v6 h_2=>
 lq2 v6 x0 h_2 fun J n v3 x4 h_3=>
 bif x4 !=0 then
 (10:Int)≠0 ∧
 ∃ J_2:Int→Heap→Prop,(
 bif decide ((Int.tmod x4 10:Int)<0) then
 J_2 (zw (0-(Int.tmod x4 10))) h_3
 else
 J_2 (Int.tmod x4 10) h_3
 )∧∀ (_:Env) x5 (h_4:Heap),J_2 x5 h_4 →
 vNewS h_4 (.cells #[.int .u8 (IntKind.u8.wrap (zw (48+x5)))] Zjb) 1 fun v21 h_5=>
 vAppend 1 1 [.int .u8 0] Zjb v21 v3 h_5 fun v23 h_6=>
 (10:Int)≠0 ∧
 ag2 J n v23 (zw (Int.tdiv x4 10)) h_6
 else
 vLen v3 fun n25=>
 bif (n25:Int)==0 then
 R (.string ⟨#[48]⟩) h_3
 else
 bif decide (x0<0) then
 vB2S v3 h_3 fun s30=>
 (((⟨#[45]⟩:ByteArray).size+(s30:ByteArray).size:Nat):Int)≤IntKind.i64.max ∧
 R (.string ((⟨#[45]⟩:ByteArray)++(s30:ByteArray))) h_3
 else
 vB2S v3 h_3 fun s33=>
 R (.string s33) h_3):CallsH P ZdZ #[zi x0] h R:=zv ⟨[(3,[(3,.v),(4,.i .i64)])],[(8,[(5,.i .i64)])],[]⟩ Tryz.func66 hv
theorem ZAp {s0:ByteArray} (hv:
 ∃ J:ByteArray→Heap→Prop,(
 bif !(s0.toList==(⟨#[]⟩:ByteArray).toList) then
 vStrIdx s0 0 fun c12=>
 bif ((c12.toNat:Int):Int)==45 then
 vSliceStr s0 (some (zi 1)) none fun s16=>
 J s16 h
 else
 J s0 h
 else
 J s0 h
 )∧∀ (_:Env) (s4:ByteArray) (h_2:Heap),J s4 h_2 →
 ∃ J_2:Heap→Prop,(
 bif decide (((s4.size:Int):Int)<1) then
 R (.tuple #[zi 0,.bool false]) h_2
 else
 bif decide (((s4.size:Int):Int)>18) then
 R (.tuple #[zi 0,.bool false]) h_2
 else
 J_2 h_2
 )∧∀ (_:Env) (h_3:Heap),J_2 h_3 →
 lq2 (0:Int) (0:Int) h_3 fun J_3 n x5 x6 h_4=>
 bif decide (x6<(s4.size:Int)) then
 vStrIdx s4 x6 fun c33=>
 zB Zj7 #[.int .u8 (c33.toNat:Int)] h_4 fun b34 h_5=>
 bif !b34 then
 R (.tuple #[zi 0,.bool false]) h_5
 else
 vStrIdx s4 x6 fun c40=>
 ag2 J_3 n (zw ((zw (10*x5))+(zw (IntKind.u8.wrap ((c40.toNat:Int)-48))))) (zw (x6+1)) h_5
 else
 ∃ J_4:Int→Heap→Prop,(
 bif decide (((s4.size:Int):Int)<(s0.size:Int)) then
 J_4 (zw (0-x5)) h_4
 else
 J_4 x5 h_4
 )∧∀ (_:Env) x5_2 (h_6:Heap),J_4 x5_2 h_6 →
 zS ZdZ #[zi x5_2] h_6 fun s52 h_7=>
 bif !(s52.toList==s0.toList) then
 R (.tuple #[zi 0,.bool false]) h_7
 else
 R (.tuple #[zi x5_2,.bool true]) h_7):CallsH P ZgA #[.string s0] h R:=zv ⟨[(8,[(5,.i .i64),(6,.i .i64)])],[(4,[(4,.s)]),(6,[]),(15,[(5,.i .i64)])],[]⟩ Tryz.func28 hv
theorem ZyA {x0 x1 x2:Int} (hv:
 bif decide (x0≥x1) then
 R (.bool (decide (x0≤x2))) h
 else
 R (.bool false) h):CallsH P Zab #[zi x0,zi x1,zi x2] h R:=zv ⟨[],[],[]⟩ Tryz.func53 hv
theorem ZvA {s0:ByteArray} (hv:
 zV Zdk #[.string s0,.int .u8 10] h fun v10 h_2=>
 vLen v10 fun n12=>
 ∃ J:Heap→Prop,(
 bif decide ((n12:Int)<2) then
 R (.tuple #[(.slice none 0 0),zi 11]) h_2
 else
 vIdx v10 (zw ((n12:Int)-1)) 1 fun p19=>
 ldS h_2 p19 fun s20=>
 bif !(s20.toList==(⟨#[]⟩:ByteArray).toList) then
 R (.tuple #[(.slice none 0 0),zi 11]) h_2
 else
 J h_2
 )∧∀ (_:Env) (h_3:Heap),J h_3 →
 vIdx v10 0 1 fun p24=>
 ldS h_3 p24 fun s25=>
 zV Zdk #[.string s25,.int .u8 32] h_3 fun v26 h_4=>
 ∃ J_2:Heap→Prop,(
 vLen v26 fun n28=>
 bif (n28:Int) !=2 then
 R (.tuple #[(.slice none 0 0),zi 9]) h_4
 else
 vIdx v26 0 1 fun p32=>
 ldS h_4 p32 fun s33=>
 bif !(s33.toList==(⟨#[99,97,116,97,108,111,103]⟩:ByteArray).toList) then
 R (.tuple #[(.slice none 0 0),zi 9]) h_4
 else
 J_2 h_4
 )∧∀ (_:Env) (h_5:Heap),J_2 h_5 →
 vIdx v26 1 1 fun p38=>
 ldS h_5 p38 fun s39=>
 CallsH P ZgA #[.string s39] h_5 fun r40 h_6=>∃ x40_0,∃ (b40_1:Bool),r40=.tuple #[zi x40_0,.bool b40_1] ∧
 ∃ J_3:Heap→Prop,(
 bif !b40_1 then
 R (.tuple #[(.slice none 0 0),zi 9]) h_6
 else
 zB Zab #[zi x40_0,zi 0,zi 24] h_6 fun b47 h_7=>
 bif !b47 then
 R (.tuple #[(.slice none 0 0),zi 9]) h_7
 else
 J_3 h_7
 )∧∀ (_:Env) (h_8:Heap),J_3 h_8 →
 bif decide ((zw ((n12:Int)-2):Int)<x40_0) then
 R (.tuple #[(.slice none 0 0),zi 11]) h_8
 else
 bif decide ((zw ((n12:Int)-2):Int)>x40_0) then
 R (.tuple #[(.slice none 0 0),zi 9]) h_8
 else
 vSliceS v10 1 (some (zi 1)) (some (zi (zw ((n12:Int)-1)))) none fun v61=>
 R (.tuple #[v61,zi 0]) h_8):CallsH P Zk7 #[.string s0] h R:=zv ⟨[],[(5,[]),(8,[]),(11,[])],[]⟩ Tryz.func59 hv
theorem Zua {s0:ByteArray} {x1:Int} (hv:
 lq2 x1 (0:Int) h fun J n x1_2 x5 h_2=>
 bif decide (x5<(s0.size:Int)) then
 vStrIdx s0 x5 fun c17=>
 (0:Int)≤8 ∧
 lq2 (zw ((BitVec.ofInt IntKind.i64.bits x1_2^^^BitVec.ofInt IntKind.i64.bits (zw ((zw (c17.toNat:Int))*2^min (8:Int).toNat IntKind.i64.bits))).toNat:Int)) (0:Int) h_2 fun J_2 n_3 x1_3 x6 h_3=>
 bif decide (x6<8) then
 (0:Int)≤1 ∧
 bif decide (x1_3≥32768) then
 ag2 J_2 n_3 (zw ((BitVec.ofInt IntKind.i64.bits (zw ((BitVec.ofInt IntKind.i64.bits (zw (x1_3*2^min (1:Int).toNat IntKind.i64.bits))&&&BitVec.ofInt IntKind.i64.bits 65535).toNat:Int))^^^BitVec.ofInt IntKind.i64.bits 4129).toNat:Int)) (zw (x6+1)) h_3
 else
 ag2 J_2 n_3 (zw ((BitVec.ofInt IntKind.i64.bits (zw (x1_3*2^min (1:Int).toNat IntKind.i64.bits))&&&BitVec.ofInt IntKind.i64.bits 65535).toNat:Int)) (zw (x6+1)) h_3
 else
 ag2 J n x1_3 (zw (x5+1)) h_3
 else
 R (zi x1_2) h_2):CallsH P Zku #[.string s0,zi x1] h R:=zv ⟨[(2,[(1,.i .i64),(5,.i .i64)]),(6,[(1,.i .i64),(6,.i .i64)])],[],[]⟩ Tryz.func125 hv
theorem Zv0 {s0:ByteArray} (hv:
 ∃ J:Int→Heap→Prop,(
 lq1 (zw ((s0.size:Int)-1)) h fun J_2 n x4 h_2=>
 bif decide (x4≥0) then
 vStrIdx s0 x4 fun c13=>
 bif ((c13.toNat:Int):Int) !=32 then
 ag1 J_2 n (zw (x4-1)) h_2
 else
 J x4 h_2
 else
 J x4 h_2
 )∧∀ (_:Env) x4_2 (h_3:Heap),J x4_2 h_3 →
 bif decide (x4_2<0) then
 R (.tuple #[.string ⟨#[]⟩,.bool false]) h_3
 else
 vSliceStr s0 none (some (zi x4_2)) fun s29=>
 zI Zku #[.string s29,zi 65535] h_3 fun x30 h_4=>
 zS ZdZ #[zi x30] h_4 fun s31 h_5=>
 vSliceStr s0 none (some (zi x4_2)) fun s22=>
 vSliceStr s0 (some (zi (zw (x4_2+1)))) none fun s26=>
 R (.tuple #[.string s22,.bool (s26.toList==s31.toList)]) h_5):CallsH P Zk1 #[.string s0] h R:=zv ⟨[(2,[(4,.i .i64)])],[(4,[(4,.i .i64)])],[]⟩ Tryz.func60 hv
theorem Zvu (hv:
 vNewS h (.cells #[.string ⟨#[]⟩,.string ⟨#[115,113,117,97,114,101]⟩,.string ⟨#[100,101,115,105,103,110]⟩,.string ⟨#[104,97,100,97,109,97,114,100]⟩,.string ⟨#[97,114,114,97,121]⟩,.string ⟨#[99,111,100,101]⟩,.string ⟨#[103,114,97,112,104]⟩,.string ⟨#[103,114,111,117,112]⟩] ZaT) 8 fun v1 h_2=>
 R v1 h_2):CallsH P ZjM #[] h R:=zv ⟨[],[],[]⟩ Tryz.func64 hv
theorem ZBj {s0:ByteArray} (hv:
 zV ZjM #[] h fun v6 h_2=>
 lq1 (1:Int) h_2 fun J n x5 h_3=>
 vLen v6 fun n9=>
 bif decide (x5<(n9:Int)) then
 vIdx v6 x5 1 fun p15=>
 ldS h_3 p15 fun s16=>
 bif s16.toList==s0.toList then
 R (.tuple #[zi x5,.bool true]) h_3
 else
 ag1 J n (zw (x5+1)) h_3
 else
 R (.tuple #[zi 0,.bool false]) h_3):CallsH P ZkP #[.string s0] h R:=zv ⟨[(3,[(5,.i .i64)])],[],[]⟩ Tryz.func27 hv
theorem Zsn {s0:ByteArray} (hv:
 bif s0.toList==(⟨#[45]⟩:ByteArray).toList then
 vNewS h (.cells #[] Zh) 0 fun v11 h_2=>
 R (.tuple #[v11,.bool true]) h_2
 else
 zV Zdk #[.string s0,.int .u8 44] h fun v13 h_3=>
 vLen v13 fun n15=>
 bif decide ((n15:Int)>100) then
 R (.tuple #[(.slice none 0 0),.bool false]) h_3
 else
 vNewS h_3 (.cells #[] Zh) 0 fun v17 h_4=>
 lq2 v17 (0:Int) h_4 fun J n v5 x6 h_5=>
 vLen v13 fun n20=>
 bif decide (x6<(n20:Int)) then
 vIdx v13 x6 1 fun p27=>
 ldS h_5 p27 fun s28=>
 CallsH P ZgA #[.string s28] h_5 fun r29 h_6=>∃ x29_0,∃ (b29_1:Bool),r29=.tuple #[zi x29_0,.bool b29_1] ∧
 ∃ J_2:Heap→Prop,(
 bif !b29_1 then
 R (.tuple #[(.slice none 0 0),.bool false]) h_6
 else
 zB Zab #[zi x29_0,zi (-999999999),zi 999999999] h_6 fun b36 h_7=>
 bif !b36 then
 R (.tuple #[(.slice none 0 0),.bool false]) h_7
 else
 J_2 h_7
 )∧∀ (_:Env) (h_8:Heap),J_2 h_8 →
 vNewS h_8 (.cells #[zi x29_0] Zh) 1 fun v41 h_9=>
 vAppend 1 8 [zi 0] Zh v5 v41 h_9 fun v42 h_10=>
 ag2 J n v42 (zw (x6+1)) h_10
 else
 R (.tuple #[v5,.bool true]) h_5):CallsH P Zmt #[.string s0] h R:=zv ⟨[(8,[(5,.v),(6,.i .i64)])],[(13,[])],[]⟩ Tryz.func29 hv
theorem ZA9 {v0:Value} {x1:Int} (hv:
 lq1 (0:Int) h fun J n x5 h_2=>
 vLen v0 fun n8=>
 bif decide (x5<(n8:Int)) then
 vIdx v0 x5 1 fun p14=>
 ldI .i64 h_2 p14 fun x15=>
 bif x15==x1 then
 R (.bool true) h_2
 else
 ag1 J n (zw (x5+1)) h_2
 else
 R (.bool false) h_2):CallsH P ZnO #[v0,zi x1] h R:=zv ⟨[(2,[(5,.i .i64)])],[],[]⟩ Tryz.func195 hv
theorem ZyZ {v0:Value} (hv:
 vLen v0 fun n5=>
 bif decide ((n5:Int)>32) then
 R (.bool false) h
 else
 lq1 (0:Int) h fun J n x3 h_2=>
 vLen v0 fun n9=>
 bif decide (x3<(n9:Int)) then
 vIdx v0 x3 1 fun p15=>
 ldI .i64 h_2 p15 fun x16=>
 vLen v0 fun n18=>
 zB Zab #[zi x16,zi 0,zi (zw ((n18:Int)-1))] h_2 fun b20 h_3=>
 bif !b20 then
 R (.bool false) h_3
 else
 vSliceS v0 1 none (some (zi x3)) none fun v25=>
 vIdx v0 x3 1 fun p28=>
 ldI .i64 h_3 p28 fun x29=>
 zB ZnO #[v25,zi x29] h_3 fun b30 h_4=>
 bif b30 then
 R (.bool false) h_4
 else
 ag1 J n (zw (x3+1)) h_4
 else
 R (.bool true) h_2):CallsH P ZhE #[v0] h R:=zv ⟨[(4,[(3,.i .i64)])],[],[]⟩ Tryz.func134 hv
theorem ZzT {v0:Value} (hv:
 vLen v0 fun n9=>
 ∃ J:Heap→Prop,(
 bif decide ((n9:Int)<1) then
 R (.bool false) h
 else
 bif decide ((n9:Int)>10) then
 R (.bool false) h
 else
 J h
 )∧∀ (_:Env) (h_2:Heap),J h_2 →
 lq1 (0:Int) h_2 fun J_2 n x4 h_3=>
 bif decide (x4<(n9:Int)) then
 vIdx v0 x4 1 fun p23=>
 ldV h_3 p23 fun v24=>
 vLen v24 fun n25=>
 bif (n25:Int) !=(n9:Int) then
 R (.bool false) h_3
 else
 vIdx v0 x4 1 fun p31=>
 ldV h_3 p31 fun v32=>
 zB ZhE #[v32] h_3 fun b33 h_4=>
 bif !b33 then
 R (.bool false) h_4
 else
 ag1 J_2 n (zw (x4+1)) h_4
 else
 lq1 (0:Int) h_3 fun J_3 n_3 x5 h_5=>
 bif decide (x5<(n9:Int)) then
 vNewS h_5 (.cells #[] Zh) 0 fun v41 h_6=>
 lq2 v41 (0:Int) h_6 fun J_4 n_5 v6 x7 h_7=>
 bif decide (x7<(n9:Int)) then
 vIdx v0 x7 1 fun p50=>
 ldV h_7 p50 fun v51=>
 vIdx v51 x5 1 fun p53=>
 ldI .i64 h_7 p53 fun x54=>
 vNewS h_7 (.cells #[zi x54] Zh) 1 fun v55 h_8=>
 vAppend 1 8 [zi 0] Zh v6 v55 h_8 fun v56 h_9=>
 ag2 J_4 n_5 v56 (zw (x7+1)) h_9
 else
 zB ZhE #[v6] h_7 fun b58 h_10=>
 bif !b58 then
 R (.bool false) h_10
 else
 ag1 J_3 n_3 (zw (x5+1)) h_10
 else
 R (.bool true) h_5):CallsH P ZmM #[v0] h R:=zv ⟨[(5,[(4,.i .i64)]),(10,[(5,.i .i64)]),(14,[(6,.v),(7,.i .i64)])],[(4,[])],[]⟩ Tryz.func67 hv
theorem ZyR {v0:Value} {x1 x2:Int} (hv:
 lq1 (0:Int) h fun J n x7 h_2=>
 vLen v0 fun n10=>
 bif decide (x7<(n10:Int)) then
 vIdx v0 x7 1 fun p16=>
 ldI .i64 h_2 p16 fun x17=>
 zB Zab #[zi x17,zi x1,zi x2] h_2 fun b20 h_3=>
 bif !b20 then
 R (.bool false) h_3
 else
 bif decide (x7>0) then
 vIdx v0 (zw (x7-1)) 1 fun p29=>
 ldI .i64 h_3 p29 fun x30=>
 vIdx v0 x7 1 fun p33=>
 ldI .i64 h_3 p33 fun x34=>
 bif decide (x30≥x34) then
 R (.bool false) h_3
 else
 ag1 J n (zw (x7+1)) h_3
 else
 ag1 J n (zw (x7+1)) h_3
 else
 R (.bool true) h_2):CallsH P ZnZ #[v0,zi x1,zi x2] h R:=zv ⟨[(2,[(7,.i .i64)])],[],[]⟩ Tryz.func209 hv
theorem Zxz {v0:Value} {x1:Int} (hv:
 vLen v0 fun n6=>
 bif decide ((n6:Int)>0) then
 zB ZnZ #[v0,zi 0,zi (zw (x1-1))] h fun b12 h_2=>
 R (.bool b12) h_2
 else
 R (.bool false) h):CallsH P Zna #[v0,zi x1] h R:=zv ⟨[],[],[]⟩ Tryz.func135 hv
theorem ZxB {v0 v1:Value} (hv:
 ∃ J:Heap→Prop,(
 lq1 (0:Int) h fun J_2 n x5 h_2=>
 ∃ J_3:Heap→Prop,(
 vLen v0 fun n8=>
 bif decide (x5<(n8:Int)) then
 vLen v1 fun n13=>
 bif decide (x5<(n13:Int)) then
 J_3 h_2
 else
 J h_2
 else
 J h_2
 )∧∀ (_:Env) (h_3:Heap),J_3 h_3 →
 vIdx v0 x5 1 fun p20=>
 ldI .i64 h_3 p20 fun x21=>
 vIdx v1 x5 1 fun p24=>
 ldI .i64 h_3 p24 fun x25=>
 bif decide (x21<x25) then
 R (zi (-1)) h_3
 else
 vIdx v0 x5 1 fun p29=>
 ldI .i64 h_3 p29 fun x30=>
 vIdx v1 x5 1 fun p33=>
 ldI .i64 h_3 p33 fun x34=>
 bif decide (x30>x34) then
 R (zi 1) h_3
 else
 ag1 J_2 n (zw (x5+1)) h_3
 )∧∀ (_:Env) (h_4:Heap),J h_4 →
 vLen v0 fun n37=>
 vLen v1 fun n39=>
 bif decide ((n37:Int)<(n39:Int)) then
 R (zi (-1)) h_4
 else
 vLen v0 fun n42=>
 vLen v1 fun n44=>
 bif decide ((n42:Int)>(n44:Int)) then
 R (zi 1) h_4
 else
 R (zi 0) h_4):CallsH P ZgU #[v0,v1] h R:=zv ⟨[(2,[(5,.i .i64)])],[(4,[]),(8,[])],[]⟩ Tryz.func136 hv
theorem ZuF {p0:Addr} (hv:
 ∃ J:Heap→Prop,(
 ldI .i64 h p0 fun x7=>
 zB Zab #[zi x7,zi 1,zi 32] h fun b8 h_2=>
 bif !b8 then
 R (.bool false) h_2
 else
 ldV h_2 (p0.add 1) fun v14=>
 vLen v14 fun n15=>
 bif decide ((n15:Int)>128) then
 R (.bool false) h_2
 else
 J h_2
 )∧∀ (_:Env) (h_3:Heap),J h_3 →
 lq1 (0:Int) h_3 fun J_2 n x3 h_4=>
 ldV h_4 (p0.add 1) fun v22=>
 vLen v22 fun n23=>
 bif decide (x3<(n23:Int)) then
 ldV h_4 (p0.add 1) fun v30=>
 vIdx v30 x3 1 fun p32=>
 ldV h_4 p32 fun v33=>
 ldI .i64 h_4 p0 fun x37=>
 zB Zna #[v33,zi x37] h_4 fun b38 h_5=>
 bif !b38 then
 R (.bool false) h_5
 else
 bif decide (x3>0) then
 ldV h_5 (p0.add 1) fun v47=>
 vIdx v47 (zw (x3-1)) 1 fun p50=>
 ldV h_5 p50 fun v51=>
 ldV h_5 (p0.add 1) fun v55=>
 vIdx v55 x3 1 fun p57=>
 ldV h_5 p57 fun v58=>
 zI ZgU #[v51,v58] h_5 fun x59 h_6=>
 bif decide (x59>0) then
 R (.bool false) h_6
 else
 ag1 J_2 n (zw (x3+1)) h_6
 else
 ag1 J_2 n (zw (x3+1)) h_5
 else
 R (.bool true) h_4):CallsH P ZnI #[.pointer (some p0)] h R:=zv ⟨[(4,[(3,.i .i64)])],[(3,[])],[]⟩ Tryz.func68 hv
theorem Zui {v0 v1:Value} (hv:
 lq2 (0:Int) (0:Int) h fun J n x5 x6 h_2=>
 vLen v0 fun n9=>
 bif decide (x6<(n9:Int)) then
 vIdx v0 x6 1 fun p16=>
 ldI .i64 h_2 p16 fun x17=>
 vIdx v1 x6 1 fun p20=>
 ldI .i64 h_2 p20 fun x21=>
 ag2 J n (zw (x5+(zw (x17*x21)))) (zw (x6+1)) h_2
 else
 R (zi x5) h_2):CallsH P Zmj #[v0,v1] h R:=zv ⟨[(3,[(5,.i .i64),(6,.i .i64)])],[],[]⟩ Tryz.func137 hv
theorem Ztd {v0:Value} (hv:
 vLen v0 fun n9=>
 ∃ J:Heap→Prop,(
 bif decide ((n9:Int)<1) then
 R (.bool false) h
 else
 bif decide ((n9:Int)>32) then
 R (.bool false) h
 else
 J h
 )∧∀ (_:Env) (h_2:Heap),J h_2 →
 lq1 (0:Int) h_2 fun J_2 n x4 h_3=>
 bif decide (x4<(n9:Int)) then
 vIdx v0 x4 1 fun p23=>
 ldV h_3 p23 fun v24=>
 vLen v24 fun n25=>
 bif (n25:Int) !=(n9:Int) then
 R (.bool false) h_3
 else
 lq1 (0:Int) h_3 fun J_3 n_3 x5 h_4=>
 bif decide (x5<(n9:Int)) then
 vIdx v0 x4 1 fun p35=>
 ldV h_4 p35 fun v36=>
 vIdx v36 x5 1 fun p38=>
 ldI .i64 h_4 p38 fun x39=>
 bif x39 !=1 then
 vIdx v0 x4 1 fun p44=>
 ldV h_4 p44 fun v45=>
 vIdx v45 x5 1 fun p47=>
 ldI .i64 h_4 p47 fun x48=>
 bif x48 !=(-1) then
 R (.bool false) h_4
 else
 ag1 J_3 n_3 (zw (x5+1)) h_4
 else
 ag1 J_3 n_3 (zw (x5+1)) h_4
 else
 ag1 J_2 n (zw (x4+1)) h_4
 else
 lq1 (0:Int) h_3 fun J_4 n_5 x6 h_5=>
 bif decide (x6<(n9:Int)) then
 lq1 (0:Int) h_5 fun J_5 n_7 x7 h_6=>
 bif decide (x7<x6) then
 vIdx v0 x6 1 fun p63=>
 ldV h_6 p63 fun v64=>
 vIdx v0 x7 1 fun p67=>
 ldV h_6 p67 fun v68=>
 zI Zmj #[v64,v68] h_6 fun x69 h_7=>
 bif x69 !=0 then
 R (.bool false) h_7
 else
 ag1 J_5 n_7 (zw (x7+1)) h_7
 else
 ag1 J_4 n_5 (zw (x6+1)) h_6
 else
 R (.bool true) h_5):CallsH P Zky #[v0] h R:=zv ⟨[(5,[(4,.i .i64)]),(10,[(5,.i .i64)]),(15,[(6,.i .i64)]),(18,[(7,.i .i64)])],[(4,[])],[]⟩ Tryz.func69 hv
theorem ZzL {p0:Addr} (hv:
 vNew h (.cells #[zi 0,zi 0,.slice none 0 0] Zc3) fun p2 h_2=>
 ∃ B:Nat→Prop,
 vNew h_2 (.cells #[zi 0,zi 0,.slice none 0 0] Zc3) fun p3 h_3=>
 ExtBut B h_2 h_3 ∧
 ldI .i64 (hmask B h_2) (p0.add 1) fun x7=>
 ldV (hmask B h_2) (p0.add 2) fun v11=>
 vOne v11 fun _=>
 vStore1 h_3 p3 (zi x7) fun h_4=>
 vStore1 h_4 (p3.add 1) (zi 0) fun h_5=>
 vStore1 h_5 (p3.add 2) v11 fun h_6=>
 ldV h_6 (p0.add 2) fun v16=>
 vLen v16 fun n17=>
 bif decide ((n17:Int)>0) then
 ldV h_6 (p0.add 2) fun v22=>
 vIdx v22 0 1 fun p23=>
 ldV h_6 p23 fun v24=>
 vLen v24 fun n25=>
 vStore1 h_6 (p3.add 1) (zi (n25:Int)) fun h_7=>
 ldI .i64 h_7 p3 fun x27_0=>
 ldI .i64 h_7 (p3.add 1) fun x27_1=>
 ldV h_7 (p3.add 2) fun v27_2=>
 vStore1 h_7 p2 (zi x27_0) fun h_8=>
 vStore1 h_8 (p2.add 1) (zi x27_1) fun h_9=>
 vStore1 h_9 (p2.add 2) v27_2 fun h_10=>
 ldI .i64 h_10 p2 fun xres0_0=>
 ldI .i64 h_10 (p2.add 1) fun xres0_1=>
 ldV h_10 (p2.add 2) fun vres0_2=>
 R (.agg #[zi xres0_0,zi xres0_1,vres0_2]) h_10
 else
 ldI .i64 h_6 p3 fun x27_0_2=>
 ldI .i64 h_6 (p3.add 1) fun x27_1_2=>
 ldV h_6 (p3.add 2) fun v27_2_2=>
 vStore1 h_6 p2 (zi x27_0_2) fun h_11=>
 vStore1 h_11 (p2.add 1) (zi x27_1_2) fun h_12=>
 vStore1 h_12 (p2.add 2) v27_2_2 fun h_13=>
 ldI .i64 h_13 p2 fun xres0_0_2=>
 ldI .i64 h_13 (p2.add 1) fun xres0_1_2=>
 ldV h_13 (p2.add 2) fun vres0_2_2=>
 R (.agg #[zi xres0_0_2,zi xres0_1_2,vres0_2_2]) h_13):CallsH P Znd #[.pointer (some p0)] h R:=zv ⟨[],[],[]⟩ Tryz.func70 hv
theorem Zvq {x0 x1:Int} (hv:
 zB Zab #[zi x0,zi 2,zi 16] h fun b6 h_2=>
 bif b6 then
 zB Zab #[zi x1,zi 1,zi 8] h_2 fun b9 h_3=>
 R (.bool b9) h_3
 else
 R (.bool false) h_2):CallsH P ZkU #[zi x0,zi x1] h R:=zv ⟨[],[],[]⟩ Tryz.func138 hv
theorem ZAn {p0:Addr} (hv:
 ∃ J:Heap→Prop,(
 ldI .i64 h p0 fun x8=>
 ldI .i64 h (p0.add 1) fun x12=>
 zB ZkU #[zi x8,zi x12] h fun b13 h_2=>
 bif !b13 then
 R (.bool false) h_2
 else
 ldV h_2 (p0.add 2) fun v19=>
 vLen v19 fun n20=>
 bif decide ((n20:Int)>256) then
 R (.bool false) h_2
 else
 J h_2
 )∧∀ (_:Env) (h_3:Heap),J h_3 →
 lq1 (0:Int) h_3 fun J_2 n x3 h_4=>
 ldV h_4 (p0.add 2) fun v27=>
 vLen v27 fun n28=>
 bif decide (x3<(n28:Int)) then
 ldV h_4 (p0.add 2) fun v35=>
 vIdx v35 x3 1 fun p37=>
 ldV h_4 p37 fun v38=>
 vLen v38 fun n39=>
 ldI .i64 h_4 (p0.add 1) fun x43=>
 bif (n39:Int) !=x43 then
 R (.bool false) h_4
 else
 lq1 (0:Int) h_4 fun J_3 n_3 x4 h_5=>
 ldV h_5 (p0.add 2) fun v49=>
 vIdx v49 x3 1 fun p51=>
 ldV h_5 p51 fun v52=>
 vLen v52 fun n53=>
 bif decide (x4<(n53:Int)) then
 ldV h_5 (p0.add 2) fun v60=>
 vIdx v60 x3 1 fun p62=>
 ldV h_5 p62 fun v63=>
 vIdx v63 x4 1 fun p65=>
 ldI .i64 h_5 p65 fun x66=>
 ldI .i64 h_5 p0 fun x70=>
 zB Zab #[zi x66,zi 0,zi (zw (x70-1))] h_5 fun b72 h_6=>
 bif !b72 then
 R (.bool false) h_6
 else
 ag1 J_3 n_3 (zw (x4+1)) h_6
 else
 ag1 J_2 n (zw (x3+1)) h_5
 else
 R (.bool true) h_4):CallsH P Znb #[.pointer (some p0)] h R:=zv ⟨[(4,[(3,.i .i64)]),(9,[(4,.i .i64)])],[(3,[])],[]⟩ Tryz.func71 hv
theorem ZvQ {x0:Int} (hv:
 zB Zab #[zi x0,zi 2,zi 64] h fun b8 h_2=>
 bif !b8 then
 R (.tuple #[zi 0,zi 0]) h_2
 else
 lq1 (2:Int) h_2 fun J n x4 h_3=>
 x4≠0 ∧
 bif (Int.tmod x0 x4:Int) !=0 then
 ag1 J n (zw (x4+1)) h_3
 else
 lq2 (0:Int) x0 h_3 fun J_2 n_3 x5 x6 h_4=>
 bif decide (x6>1) then
 x4≠0 ∧
 bif (Int.tmod x6 x4:Int) !=0 then
 R (.tuple #[zi 0,zi 0]) h_4
 else
 x4≠0 ∧
 ag2 J_2 n_3 (zw (x5+1)) (zw (Int.tdiv x6 x4)) h_4
 else
 R (.tuple #[zi x4,zi x5]) h_4):CallsH P Zht #[zi x0] h R:=zv ⟨[(4,[(4,.i .i64)]),(8,[(5,.i .i64),(6,.i .i64)])],[],[]⟩ Tryz.func139 hv
theorem ZvY {x0 x1 x2:Int} (hv:
 vNewS h (.cells #[] Zh) 0 fun v8 h_2=>
 lq3 x0 x2 v8 h_2 fun J n x0_2 x2_2 v7 h_3=>
 bif decide (x2_2>0) then
 x1≠0 ∧
 vNewS h_3 (.cells #[zi (Int.tmod x0_2 x1)] Zh) 1 fun v17 h_4=>
 vAppend 1 8 [zi 0] Zh v7 v17 h_4 fun v18 h_5=>
 x1≠0 ∧
 ag3 J n (zw (Int.tdiv x0_2 x1)) (zw (x2_2-1)) v18 h_5
 else
 R v7 h_3):CallsH P Zcx #[zi x0,zi x1,zi x2] h R:=zv ⟨[(2,[(0,.i .i64),(2,.i .i64),(7,.v)])],[],[]⟩ Tryz.func210 hv
theorem Zv6 {x0 x1:Int} (hv:
 lq2 x1 (1:Int) h fun J n x1_2 x5 h_2=>
 bif decide (x1_2>0) then
 ag2 J n (zw (x1_2-1)) (zw (x5*x0)) h_2
 else
 R (zi x5) h_2):CallsH P ZhR #[zi x0,zi x1] h R:=zv ⟨[(2,[(1,.i .i64),(5,.i .i64)])],[],[]⟩ Tryz.func214 hv
theorem Zyq {v0:Value} (hv:
 vNewS h (.cells #[] Zh) 0 fun v3 h_2=>
 vAppend 1 8 [zi 0] Zh v3 v0 h_2 fun v5 h_3=>
 R v5 h_3):CallsH P Zgf #[v0] h R:=zv ⟨[],[],[]⟩ Tryz.func221 hv
theorem ZA8 {v0 v1:Value} {x2:Int} (hv:
 zV Zgf #[v0] h fun v14 h_2=>
 vLen v1 fun n16=>
 vLen v14 fun n18=>
 lq1 (zw ((n18:Int)-1)) h_2 fun J n x9 h_3=>
 bif decide (x9≥(zw ((n16:Int)-1))) then
 vIdx v14 x9 1 fun p28=>
 ldI .i64 h_3 p28 fun x29=>
 lq1 (0:Int) h_3 fun J_2 n_3 x11 h_4=>
 bif decide (x11<(n16:Int)) then
 vIdx v14 (zw ((zw ((zw (x9-(n16:Int)))+1))+x11)) 1 fun p45=>
 ldI .i64 h_4 p45 fun x46=>
 vIdx v1 x11 1 fun p52=>
 ldI .i64 h_4 p52 fun x53=>
 x2≠0 ∧
 vIdx v14 (zw ((zw ((zw (x9-(n16:Int)))+1))+x11)) 1 fun p58=>
 vStore1 h_4 p58 (zi (Int.tmod (zw (x46+(zw ((zw (x2-x29))*x53)))) x2)) fun h_5=>
 ag1 J_2 n_3 (zw (x11+1)) h_5
 else
 ag1 J n (zw (x9-1)) h_4
 else
 lq1 v14 h_3 fun J_3 n_5 v7 h_6=>
 vLen v7 fun n60=>
 bif decide ((n60:Int)≥(n16:Int)) then
 vLen v7 fun n65=>
 vSliceS v7 1 none (some (zi (zw ((n65:Int)-1)))) none fun v67=>
 ag1 J_3 n_5 v67 h_6
 else
 R v7 h_6):CallsH P Ziv #[v0,v1,zi x2] h R:=zv ⟨[(4,[(9,.i .i64)]),(8,[(11,.i .i64)]),(12,[(7,.v)])],[],[]⟩ Tryz.func291 hv
theorem Zwp {v0:Value} {x1:Int} (hv:
 vLen v0 fun n8=>
 lq2 (0:Int) (zw ((n8:Int)-1)) h fun J n x5 x6 h_2=>
 bif decide (x6≥0) then
 vIdx v0 x6 1 fun p19=>
 ldI .i64 h_2 p19 fun x20=>
 ag2 J n (zw ((zw (x5*x1))+x20)) (zw (x6-1)) h_2
 else
 R (zi x5) h_2):CallsH P ZgL #[v0,zi x1] h R:=zv ⟨[(3,[(5,.i .i64),(6,.i .i64)])],[],[]⟩ Tryz.func292 hv
theorem Zs6 {v0:Value} {x1:Int} (hv:
 vLen v0 fun n11=>
 lq1 (1:Int) h fun J n x6 h_2=>
 bif decide ((zw (2*x6):Int)≤(zw ((n11:Int)-1))) then
 lq1 (0:Int) h_2 fun J_2 n_3 x7 h_3=>
 zI ZhR #[zi x1,zi x6] h_3 fun x22 h_4=>
 bif decide (x7<x22) then
 zV Zcx #[zi x7,zi x1,zi x6] h_4 fun v29 h_5=>
 vNewS h_5 (.cells #[zi 1] Zh) 1 fun v30 h_6=>
 vAppend 1 8 [zi 0] Zh v29 v30 h_6 fun v31 h_7=>
 zV Ziv #[v0,v31,zi x1] h_7 fun v35 h_8=>
 zI ZgL #[v35,zi x1] h_8 fun x38 h_9=>
 bif x38==0 then
 R (.bool false) h_9
 else
 ag1 J_2 n_3 (zw (x7+1)) h_9
 else
 ag1 J n (zw (x6+1)) h_4
 else
 R (.bool true) h_2):CallsH P Ziz #[v0,zi x1] h R:=zv ⟨[(3,[(6,.i .i64)]),(6,[(7,.i .i64)])],[],[]⟩ Tryz.func211 hv
theorem Zuv {x0:Int} (hv:
 vNew h (.cells #[zi 0,zi 0,.slice none 0 0] ZbO) fun p2 h_2=>
 CallsH P Zht #[zi x0] h_2 fun r9 h_3=>∃ x9_0,∃ x9_1,r9=.tuple #[zi x9_0,zi x9_1] ∧
 lq1 (0:Int) h_3 fun J n x5 h_4=>
 zV Zcx #[zi x5,zi x9_0,zi x9_1] h_4 fun v17 h_5=>
 vNewS h_5 (.cells #[zi 1] Zh) 1 fun v18 h_6=>
 vAppend 1 8 [zi 0] Zh v17 v18 h_6 fun v19 h_7=>
 zB Ziz #[v19,zi x9_0] h_7 fun b22 h_8=>
 bif b22 then
 vOne v19 fun _=>
 vStore1 h_8 p2 (zi x9_0) fun h_9=>
 vStore1 h_9 (p2.add 1) (zi x9_1) fun h_10=>
 vStore1 h_10 (p2.add 2) v19 fun h_11=>
 ldI .i64 h_11 p2 fun xres0_0=>
 ldI .i64 h_11 (p2.add 1) fun xres0_1=>
 ldV h_11 (p2.add 2) fun vres0_2=>
 R (.agg #[zi xres0_0,zi xres0_1,vres0_2]) h_11
 else
 ag1 J n (zw (x5+1)) h_8):CallsH P Zmd #[zi x0] h R:=zv ⟨[(4,[(5,.i .i64)])],[],[]⟩ Tryz.func140 hv
theorem ZAs {p0:Addr} (hv:
 vNew h (.cells #[zi 0,zi 0,.slice none 0 0,.slice none 0 0] Zi1) fun p2 h_2=>
 ldI .i64 h_2 (p0.add 1) fun x9=>
 CallsH P Zht #[zi x9] h_2 fun r10 h_3=>∃ x10_0,∃ x10_1,r10=.tuple #[zi x10_0,zi x10_1] ∧
 bif x10_0==0 then
 vStore1 h_3 p2 (zi 0) fun h_4=>
 vStore1 h_4 (p2.add 1) (zi 0) fun h_5=>
 vStore1 h_5 (p2.add 2) (.slice none 0 0) fun h_6=>
 vStore1 h_6 (p2.add 3) (.slice none 0 0) fun h_7=>
 ldI .i64 h_7 p2 fun xres0_0=>
 ldI .i64 h_7 (p2.add 1) fun xres0_1=>
 ldV h_7 (p2.add 2) fun vres0_2=>
 ldV h_7 (p2.add 3) fun vres0_3=>
 R (.agg #[zi xres0_0,zi xres0_1,vres0_2,vres0_3]) h_7
 else
 ∃ B:Nat→Prop,
 ldI .i64 h_3 (p0.add 1) fun x19=>
 CallsH P Zmd #[zi x19] h_3 fun r20 h_8=>∃ x20_0_0,∃ x20_0_1,∃ (v20_0_2:Value),r20=.agg #[zi x20_0_0,zi x20_0_1,v20_0_2] ∧
 ExtBut B h_3 h_8 ∧
 ldV (hmask B h_3) (p0.add 2) fun v24=>
 vOne v24 fun _=>
 vStore1 h_8 p2 (zi x20_0_0) fun h_9=>
 vStore1 h_9 (p2.add 1) (zi x20_0_1) fun h_10=>
 vStore1 h_10 (p2.add 2) v20_0_2 fun h_11=>
 vStore1 h_11 (p2.add 3) v24 fun h_12=>
 ldI .i64 h_12 p2 fun xres0_0_2=>
 ldI .i64 h_12 (p2.add 1) fun xres0_1_2=>
 ldV h_12 (p2.add 2) fun vres0_2_2=>
 ldV h_12 (p2.add 3) fun vres0_3_2=>
 R (.agg #[zi xres0_0_2,zi xres0_1_2,vres0_2_2,vres0_3_2]) h_12):CallsH P Zlv #[.pointer (some p0)] h R:=zv ⟨[],[],[]⟩ Tryz.func72 hv
theorem ZzQ {p0:Addr} (hv:
 ∃ J:Heap→Prop,(
 ldI .i64 h p0 fun x10=>
 zB Zab #[zi x10,zi 2,zi 64] h fun b11 h_2=>
 bif !b11 then
 R (.bool false) h_2
 else
 ldI .i64 h_2 (p0.add 1) fun x17=>
 zB Zab #[zi x17,zi 1,zi 6] h_2 fun b18 h_3=>
 bif !b18 then
 R (.bool false) h_3
 else
 ldV h_3 (p0.add 2) fun v25=>
 vLen v25 fun n26=>
 ldI .i64 h_3 (p0.add 1) fun x30=>
 bif (n26:Int) !=(zw (x30+1)) then
 R (.bool false) h_3
 else
 ldV h_3 (p0.add 2) fun v38=>
 ldI .i64 h_3 (p0.add 1) fun x42=>
 vIdx v38 x42 1 fun p43=>
 ldI .i64 h_3 p43 fun x44=>
 bif x44 !=1 then
 R (.bool false) h_3
 else
 J h_3
 )∧∀ (_:Env) (h_4:Heap),J h_4 →
 ldI .i64 h_4 p0 fun x50=>
 ldI .i64 h_4 (p0.add 1) fun x54=>
 zI ZhR #[zi x50,zi x54] h_4 fun x55 h_5=>
 CallsH P Zht #[zi x55] h_5 fun r58 h_6=>∃ x58_0,∃ x58_1,r58=.tuple #[zi x58_0,zi x58_1] ∧
 ldI .i64 h_6 p0 fun x65=>
 bif x58_0 !=x65 then
 R (.bool false) h_6
 else
 lq1 (0:Int) h_6 fun J_2 n x6 h_7=>
 ldV h_7 (p0.add 2) fun v71=>
 vLen v71 fun n72=>
 bif decide (x6<(n72:Int)) then
 ldV h_7 (p0.add 2) fun v79=>
 vIdx v79 x6 1 fun p81=>
 ldI .i64 h_7 p81 fun x82=>
 zB Zab #[zi x82,zi 0,zi (zw (x58_0-1))] h_7 fun b85 h_8=>
 bif !b85 then
 R (.bool false) h_8
 else
 ag1 J_2 n (zw (x6+1)) h_8
 else
 ldV h_7 (p0.add 2) fun v90=>
 zB Ziz #[v90,zi x58_0] h_7 fun b92 h_9=>
 R (.bool b92) h_9):CallsH P Zlo #[.pointer (some p0)] h R:=zv ⟨[(8,[(6,.i .i64)])],[(3,[])],[]⟩ Tryz.func212 hv
theorem Zuc {p0:Addr} (hv:
 ldI .i64 h p0 fun x6=>
 ldI .i64 h (p0.add 1) fun x10=>
 zI ZhR #[zi x6,zi x10] h fun x11 h_2=>
 R (zi x11) h_2):CallsH P Zj6 #[.pointer (some p0)] h R:=zv ⟨[],[],[]⟩ Tryz.func143 hv
theorem ZsE {p0:Addr} {v1:Value} (hv:
 zI Zj6 #[.pointer (some p0)] h fun x8 h_2=>
 lq1 (0:Int) h_2 fun J n x6 h_3=>
 vLen v1 fun n11=>
 bif decide (x6<(n11:Int)) then
 vIdx v1 x6 1 fun p17=>
 ldI .i64 h_3 p17 fun x18=>
 zB Zab #[zi x18,zi 0,zi (zw (x8-1))] h_3 fun b21 h_4=>
 bif !b21 then
 R (.bool false) h_4
 else
 ag1 J n (zw (x6+1)) h_4
 else
 R (.bool true) h_3):CallsH P Znn #[.pointer (some p0),v1] h R:=zv ⟨[(3,[(6,.i .i64)])],[],[]⟩ Tryz.func213 hv
theorem Zyt {p0:Addr} {v1:Value} (hv:
 ∃ J:Heap→Prop,(
 zB Zlo #[.pointer (some p0)] h fun b7 h_2=>
 bif !b7 then
 R (.bool false) h_2
 else
 vLen v1 fun n11=>
 bif (n11:Int)==0 then
 R (.bool false) h_2
 else
 vLen v1 fun n16=>
 bif decide ((n16:Int)>32) then
 R (.bool false) h_2
 else
 vIdx v1 0 1 fun p21=>
 ldV h_2 p21 fun v22=>
 vLen v22 fun n23=>
 bif (n23:Int)==0 then
 R (.bool false) h_2
 else
 vIdx v1 0 1 fun p28=>
 ldV h_2 p28 fun v29=>
 vLen v29 fun n30=>
 bif decide ((n30:Int)>32) then
 R (.bool false) h_2
 else
 J h_2
 )∧∀ (_:Env) (h_3:Heap),J h_3 →
 lq1 (0:Int) h_3 fun J_2 n x5 h_4=>
 vLen v1 fun n35=>
 bif decide (x5<(n35:Int)) then
 vIdx v1 x5 1 fun p41=>
 ldV h_4 p41 fun v42=>
 vLen v42 fun n43=>
 vIdx v1 0 1 fun p45=>
 ldV h_4 p45 fun v46=>
 vLen v46 fun n47=>
 bif (n43:Int) !=(n47:Int) then
 R (.bool false) h_4
 else
 vIdx v1 x5 1 fun p53=>
 ldV h_4 p53 fun v54=>
 zB Znn #[.pointer (some p0),v54] h_4 fun b55 h_5=>
 bif !b55 then
 R (.bool false) h_5
 else
 ag1 J_2 n (zw (x5+1)) h_5
 else
 R (.bool true) h_4):CallsH P Zk4 #[.pointer (some p0),v1] h R:=zv ⟨[(4,[(5,.i .i64)])],[(3,[])],[]⟩ Tryz.func141 hv
theorem Zxr {x0 x1:Int} (hv:
 lq2 x1 (1:Int) h fun J n x1_2 x5 h_2=>
 bif decide (x1_2>0) then
 bif decide ((zw (x5*x0):Int)>4096) then
 R (zi 0) h_2
 else
 ag2 J n (zw (x1_2-1)) (zw (x5*x0)) h_2
 else
 R (zi x5) h_2):CallsH P Zl2 #[zi x0,zi x1] h R:=zv ⟨[(2,[(1,.i .i64),(5,.i .i64)])],[],[]⟩ Tryz.func142 hv
theorem Zxs {v0 v1:Value} (hv:
 vLen v0 fun n7=>
 vLen v1 fun n9=>
 bif (n7:Int) !=(n9:Int) then
 R (.bool false) h
 else
 lq1 (0:Int) h fun J n x5 h_2=>
 vLen v0 fun n13=>
 bif decide (x5<(n13:Int)) then
 vIdx v0 x5 1 fun p19=>
 ldI .i64 h_2 p19 fun x20=>
 vIdx v1 x5 1 fun p23=>
 ldI .i64 h_2 p23 fun x24=>
 bif x20 !=x24 then
 R (.bool false) h_2
 else
 ag1 J n (zw (x5+1)) h_2
 else
 R (.bool true) h_2):CallsH P ZlF #[v0,v1] h R:=zv ⟨[(4,[(5,.i .i64)])],[],[]⟩ Tryz.func215 hv
theorem Zts {v0 v1:Value} (hv:
 vLen v0 fun n7=>
 vLen v1 fun n9=>
 bif (n7:Int) !=(n9:Int) then
 R (.bool false) h
 else
 lq1 (0:Int) h fun J n x5 h_2=>
 vLen v0 fun n13=>
 bif decide (x5<(n13:Int)) then
 vIdx v0 x5 1 fun p19=>
 ldV h_2 p19 fun v20=>
 vIdx v1 x5 1 fun p23=>
 ldV h_2 p23 fun v24=>
 zB ZlF #[v20,v24] h_2 fun b25 h_3=>
 bif !b25 then
 R (.bool false) h_3
 else
 ag1 J n (zw (x5+1)) h_3
 else
 R (.bool true) h_2):CallsH P Zj0 #[v0,v1] h R:=zv ⟨[(4,[(5,.i .i64)])],[],[]⟩ Tryz.func144 hv
theorem ZtN {p0:Addr} {x1 x2:Int} (hv:
 ldI .i64 h p0 fun x16=>
 ldI .i64 h (p0.add 1) fun x20=>
 zV Zcx #[zi x1,zi x16,zi x20] h fun v21 h_2=>
 ldI .i64 h_2 p0 fun x26=>
 ldI .i64 h_2 (p0.add 1) fun x30=>
 zV Zcx #[zi x2,zi x26,zi x30] h_2 fun v31 h_3=>
 ldI .i64 h_3 (p0.add 1) fun x35=>
 vMake 8 [zi 0] Zh (zw ((zw (2*x35))-1)) (zw ((zw (2*x35))-1)) h_3 fun v38 h_4=>
 lq1 (0:Int) h_4 fun J n x10 h_5=>
 vLen v21 fun n41=>
 bif decide (x10<(n41:Int)) then
 lq1 (0:Int) h_5 fun J_2 n_3 x11 h_6=>
 vLen v31 fun n47=>
 bif decide (x11<(n47:Int)) then
 vIdx v38 (zw (x10+x11)) 1 fun p59=>
 ldI .i64 h_6 p59 fun x60=>
 vIdx v21 x10 1 fun p63=>
 ldI .i64 h_6 p63 fun x64=>
 vIdx v31 x11 1 fun p67=>
 ldI .i64 h_6 p67 fun x68=>
 ldI .i64 h_6 p0 fun x74=>
 x74≠0 ∧
 vIdx v38 (zw (x10+x11)) 1 fun p76=>
 vStore1 h_6 p76 (zi (Int.tmod (zw (x60+(zw (x64*x68)))) x74)) fun h_7=>
 ag1 J_2 n_3 (zw (x11+1)) h_7
 else
 ag1 J n (zw (x10+1)) h_6
 else
 ∃ B:Nat→Prop,
 ldV h_5 (p0.add 2) fun v81=>
 ldI .i64 h_5 p0 fun x85=>
 zV Ziv #[v38,v81,zi x85] h_5 fun v86 h_8=>
 ExtBut B h_5 h_8 ∧
 ldI .i64 (hmask B h_5) p0 fun x90=>
 zI ZgL #[v86,zi x90] h_8 fun x91 h_9=>
 R (zi x91) h_9):CallsH P Zgx #[.pointer (some p0),zi x1,zi x2] h R:=zv ⟨[(5,[(10,.i .i64)]),(8,[(11,.i .i64)])],[],[]⟩ Tryz.func343 hv
theorem ZvN {p0:Addr} {v1:Value} {x2:Int} (hv:
 vNewS h (.cells #[] Zh) 0 fun v9 h_2=>
 lq2 v9 (0:Int) h_2 fun J n v7 x8 h_3=>
 vLen v1 fun n12=>
 bif decide (x8<(n12:Int)) then
 vIdx v1 x8 1 fun p20=>
 ldI .i64 h_3 p20 fun x21=>
 zI Zgx #[.pointer (some p0),zi x21,zi x2] h_3 fun x23 h_4=>
 vNewS h_4 (.cells #[zi x23] Zh) 1 fun v24 h_5=>
 vAppend 1 8 [zi 0] Zh v7 v24 h_5 fun v25 h_6=>
 ag2 J n v25 (zw (x8+1)) h_6
 else
 R v7 h_3):CallsH P Zk6 #[.pointer (some p0),v1,zi x2] h R:=zv ⟨[(3,[(7,.v),(8,.i .i64)])],[],[]⟩ Tryz.func281 hv
theorem Zy7 {v0:Value} (hv:
 vNewS h (.cells #[] Zg) 0 fun v5 h_2=>
 lq2 v5 (0:Int) h_2 fun J n v3 x4 h_3=>
 vLen v0 fun n8=>
 bif decide (x4<(n8:Int)) then
 vIdx v0 x4 1 fun p15=>
 ldV h_3 p15 fun v16=>
 zV Zgf #[v16] h_3 fun v17 h_4=>
 vOne v17 fun _=>
 vNewS h_4 (.cells #[v17] Zg) 1 fun v18 h_5=>
 vAppend 1 24 [.slice none 0 0] Zg v3 v18 h_5 fun v19 h_6=>
 ag2 J n v19 (zw (x4+1)) h_6
 else
 R v3 h_3):CallsH P ZnP #[v0] h R:=zv ⟨[(3,[(3,.v),(4,.i .i64)])],[],[]⟩ Tryz.func293 hv
theorem Zvi {p0:Addr} {x1:Int} (hv:
 lq1 (1:Int) h fun J n x5 h_2=>
 zI Zgx #[.pointer (some p0),zi x1,zi x5] h_2 fun x9 h_3=>
 bif x9 !=1 then
 ag1 J n (zw (x5+1)) h_3
 else
 R (zi x5) h_3):CallsH P Zmz #[.pointer (some p0),zi x1] h R:=zv ⟨[(2,[(5,.i .i64)])],[],[]⟩ Tryz.func294 hv
theorem ZvD {p0:Addr} {x1 x2 x3:Int} (hv:
 ldI .i64 h p0 fun x16=>
 ldI .i64 h (p0.add 1) fun x20=>
 zV Zcx #[zi x1,zi x16,zi x20] h fun v21 h_2=>
 ldI .i64 h_2 p0 fun x26=>
 ldI .i64 h_2 (p0.add 1) fun x30=>
 zV Zcx #[zi x2,zi x26,zi x30] h_2 fun v31 h_3=>
 lq1 (0:Int) h_3 fun J n x11 h_4=>
 vLen v21 fun n34=>
 bif decide (x11<(n34:Int)) then
 vIdx v21 x11 1 fun p42=>
 ldI .i64 h_4 p42 fun x43=>
 vIdx v31 x11 1 fun p47=>
 ldI .i64 h_4 p47 fun x48=>
 ldI .i64 h_4 p0 fun x54=>
 x54≠0 ∧
 vIdx v21 x11 1 fun p56=>
 vStore1 h_4 p56 (zi (Int.tmod (zw (x43+(zw (x3*x48)))) x54)) fun h_5=>
 ag1 J n (zw (x11+1)) h_5
 else
 ldI .i64 h_4 p0 fun x61=>
 zI ZgL #[v21,zi x61] h_4 fun x62 h_6=>
 R (zi x62) h_6):CallsH P ZnN #[.pointer (some p0),zi x1,zi x2,zi x3] h R:=zv ⟨[(4,[(11,.i .i64)])],[],[]⟩ Tryz.func344 hv
theorem ZyT {p0:Addr} {v1 v2:Value} {x3:Int} (hv:
 vNewS h (.cells #[] Zh) 0 fun v11 h_2=>
 lq2 v11 (0:Int) h_2 fun J n v9 x10 h_3=>
 vLen v1 fun n14=>
 bif decide (x10<(n14:Int)) then
 ∃ B:Nat→Prop,
 vIdx v2 x10 1 fun p27=>
 ldI .i64 h_3 p27 fun x28=>
 zI Zgx #[.pointer (some p0),zi x28,zi x3] h_3 fun x30 h_4=>
 ExtBut B h_3 h_4 ∧
 vIdx v1 x10 1 fun p22=>
 ldI .i64 (hmask B h_3) p22 fun x23=>
 ldI .i64 (hmask B h_3) p0 fun x34=>
 zI ZnN #[.pointer (some p0),zi x23,zi x30,zi (zw (x34-1))] h_4 fun x36 h_5=>
 vNewS h_5 (.cells #[zi x36] Zh) 1 fun v37 h_6=>
 vAppend 1 8 [zi 0] Zh v9 v37 h_6 fun v38 h_7=>
 ag2 J n v38 (zw (x10+1)) h_7
 else
 R v9 h_3):CallsH P Zkn #[.pointer (some p0),v1,v2,zi x3] h R:=zv ⟨[(3,[(9,.v),(10,.i .i64)])],[],[]⟩ Tryz.func295 hv
theorem ZAL {p0:Addr} {v1:Value} {x2:Int} (hv:
 zV ZnP #[v1] h fun v16 h_2=>
 vNewS h_2 (.cells #[] Zh) 0 fun v17 h_3=>
 lq2 v17 (0:Int) h_3 fun J n v9 x10 h_4=>
 ∃ J_2:Heap→Prop,(
 bif decide (x10<x2) then
 vLen v9 fun n23=>
 vLen v16 fun n25=>
 bif decide ((n23:Int)<(n25:Int)) then
 J_2 h_4
 else
 R (.tuple #[v16,v9]) h_4
 else
 R (.tuple #[v16,v9]) h_4
 )∧∀ (_:Env) (h_5:Heap),J_2 h_5 →
 vLen v9 fun n31=>
 ∃ J_3:Int→Heap→Prop,(
 lq1 (n31:Int) h_5 fun J_4 n_3 x12 h_6=>
 vLen v16 fun n35=>
 bif decide (x12<(n35:Int)) then
 vIdx v16 x12 1 fun p40=>
 ldV h_6 p40 fun v41=>
 vIdx v41 x10 1 fun p43=>
 ldI .i64 h_6 p43 fun x44=>
 bif x44==0 then
 ag1 J_4 n_3 (zw (x12+1)) h_6
 else
 J_3 x12 h_6
 else
 J_3 x12 h_6
 )∧∀ (_:Env) x12_2 (h_7:Heap),J_3 x12_2 h_7 →
 vLen v16 fun n51=>
 bif x12_2==(n51:Int) then
 ag2 J n v9 (zw (x10+1)) h_7
 else
 ∃ B:Nat→Prop,
 vIdx v16 x12_2 1 fun p61=>
 ldV h_7 p61 fun v62=>
 vIdx v62 x10 1 fun p64=>
 ldI .i64 h_7 p64 fun x65=>
 zI Zmz #[.pointer (some p0),zi x65] h_7 fun x66 h_8=>
 ExtBut B h_7 h_8 ∧
 vIdx v16 x12_2 1 fun p56=>
 ldV (hmask B h_7) p56 fun v57=>
 zV Zk6 #[.pointer (some p0),v57,zi x66] h_8 fun v67 h_9=>
 vIdx v16 (n31:Int) 1 fun p72=>
 ldV h_9 p72 fun v73=>
 vIdx v16 x12_2 1 fun p74=>
 vStore1 h_9 p74 v73 fun h_10=>
 vIdx v16 (n31:Int) 1 fun p78=>
 vStore1 h_10 p78 v67 fun h_11=>
 lq1 (0:Int) h_11 fun J_5 n_5 x14 h_12=>
 vLen v16 fun n81=>
 bif decide (x14<(n81:Int)) then
 bif x14 !=(n31:Int) then
 vIdx v16 x14 1 fun p93=>
 ldV h_12 p93 fun v94=>
 vIdx v16 x14 1 fun p98=>
 ldV h_12 p98 fun v99=>
 vIdx v99 x10 1 fun p101=>
 ldI .i64 h_12 p101 fun x102=>
 zV Zkn #[.pointer (some p0),v94,v67,zi x102] h_12 fun v103 h_13=>
 vIdx v16 x14 1 fun p104=>
 vStore1 h_13 p104 v103 fun h_14=>
 ag1 J_5 n_5 (zw (x14+1)) h_14
 else
 ag1 J_5 n_5 (zw (x14+1)) h_12
 else
 vNewS h_12 (.cells #[zi x10] Zh) 1 fun v107 h_15=>
 vAppend 1 8 [zi 0] Zh v9 v107 h_15 fun v108 h_16=>
 ag2 J n v108 (zw (x10+1)) h_16):CallsH P ZkM #[.pointer (some p0),v1,zi x2] h R:=zv ⟨[(4,[(9,.v),(10,.i .i64)]),(8,[(12,.i .i64)]),(15,[(14,.i .i64)])],[(6,[]),(10,[(12,.i .i64)])],[]⟩ Tryz.func216 hv
theorem Zxm {p0:Addr} {v1:Value} (hv:
 vIdx v1 0 1 fun p11=>
 ldV h p11 fun v12=>
 vLen v12 fun n13=>
 CallsH P ZkM #[.pointer (some p0),v1,zi (n13:Int)] h fun r14 h_2=>∃ (v14_0:Value),∃ (v14_1:Value),r14=.tuple #[v14_0,v14_1] ∧
 vLen v14_1 fun n19=>
 vSliceS v14_0 1 none (some (zi (n19:Int))) none fun v20=>
 R v20 h_2):CallsH P Zkf #[.pointer (some p0),v1] h R:=zv ⟨[],[],[]⟩ Tryz.func145 hv
theorem Zuo {p0:Addr} (hv:
 ∃ J:Heap→Prop,(
 ldV h (p0.add 3) fun v9=>
 zB Zk4 #[.pointer (some p0),v9] h fun b10 h_2=>
 bif !b10 then
 R (.bool false) h_2
 else
 ldV h_2 (p0.add 3) fun v16=>
 vIdx v16 0 1 fun p17=>
 ldV h_2 p17 fun v18=>
 vLen v18 fun n19=>
 bif decide ((n19:Int)>32) then
 R (.bool false) h_2
 else
 ldV h_2 (p0.add 3) fun v26=>
 vLen v26 fun n27=>
 bif decide ((n27:Int)>8) then
 R (.bool false) h_2
 else
 J h_2
 )∧∀ (_:Env) (h_3:Heap),J h_3 →
 ∃ B:Nat→Prop,
 zI Zj6 #[.pointer (some p0)] h_3 fun x33 h_4=>
 ExtBut B h_3 h_4 ∧
 ldV (hmask B h_3) (p0.add 3) fun v37=>
 vLen v37 fun n38=>
 zI Zl2 #[zi x33,zi (n38:Int)] h_4 fun x39 h_5=>
 bif x39==0 then
 R (.bool false) h_5
 else
 ∃ B_2:Nat→Prop,
 ldV h_5 (p0.add 3) fun v47=>
 zV Zkf #[.pointer (some p0),v47] h_5 fun v48 h_6=>
 ExtBut B_2 h_5 h_6 ∧
 ldV (hmask B_2 h_5) (p0.add 3) fun v52=>
 zB Zj0 #[v48,v52] h_6 fun b53 h_7=>
 R (.bool b53) h_7):CallsH P ZkH #[.pointer (some p0)] h R:=zv ⟨[],[(3,[])],[]⟩ Tryz.func73 hv
theorem ZAm {v0:Value} (hv:
 vLen v0 fun n5=>
 bif decide ((n5:Int)>64) then
 R (.bool false) h
 else
 lq1 (0:Int) h fun J n x3 h_2=>
 vLen v0 fun n9=>
 bif decide (x3<(n9:Int)) then
 vIdx v0 x3 1 fun p15=>
 ldI .i64 h_2 p15 fun x16=>
 zB Zab #[zi x16,zi 0,zi 63] h_2 fun b17 h_3=>
 bif !b17 then
 R (.bool false) h_3
 else
 ag1 J n (zw (x3+1)) h_3
 else
 R (.bool true) h_2):CallsH P ZmC #[v0] h R:=zv ⟨[(4,[(3,.i .i64)])],[],[]⟩ Tryz.func217 hv
theorem Zxp {x0_0 x0_1 x1_0 x1_1:Int} (hv:
 vNew h (.cells #[zi x0_0,zi x0_1] Zbi) fun p2 h_2=>
 vNew h_2 (.cells #[zi x1_0,zi x1_1] Zbi) fun p3 h_3=>
 ldI .i64 h_3 p2 fun x6=>
 ldI .i64 h_3 p3 fun x8=>
 bif decide (x6<x8) then
 R (.bool true) h_3
 else
 ldI .i64 h_3 p2 fun x12=>
 ldI .i64 h_3 p3 fun x14=>
 bif x12==x14 then
 ldI .i64 h_3 (p2.add 1) fun x18=>
 ldI .i64 h_3 (p3.add 1) fun x20=>
 R (.bool (decide (x18<x20))) h_3
 else
 R (.bool false) h_3):CallsH P ZlV #[.agg #[zi x0_0,zi x0_1],.agg #[zi x1_0,zi x1_1]] h R:=zv ⟨[],[],[]⟩ Tryz.func218 hv
theorem ZzV {v0_0 v0_1:Value} (hv:
 vNew h (.cells #[v0_0,v0_1] Zco) fun p1 h_2=>
 ∃ J:Heap→Prop,(
 ldV h_2 p1 fun v7=>
 zB ZmC #[v7] h_2 fun b8 h_3=>
 bif !b8 then
 R (.bool false) h_3
 else
 ldV h_3 (p1.add 1) fun v12=>
 vLen v12 fun n13=>
 bif decide ((n13:Int)>512) then
 R (.bool false) h_3
 else
 J h_3
 )∧∀ (_:Env) (h_4:Heap),J h_4 →
 ldV h_4 p1 fun v17=>
 vLen v17 fun n18=>
 lq1 (0:Int) h_4 fun J_2 n x4 h_5=>
 ldV h_5 (p1.add 1) fun v21=>
 vLen v21 fun n22=>
 bif decide (x4<(n22:Int)) then
 ldV h_5 (p1.add 1) fun v27=>
 vIdx v27 x4 2 fun p29=>
 ldI .i64 h_5 p29 fun x30_0=>
 ldI .i64 h_5 (p29.add 1) fun x30_1=>
 vNew h_5 (.cells #[zi 0,zi 0] Zbi) fun p5 h_6=>
 vStore1 h_6 p5 (zi x30_0) fun h_7=>
 vStore1 h_7 (p5.add 1) (zi x30_1) fun h_8=>
 ldI .i64 h_8 p5 fun x32=>
 zB Zab #[zi x32,zi 0,zi (zw ((n18:Int)-1))] h_8 fun b35 h_9=>
 bif !b35 then
 R (.bool false) h_9
 else
 ldI .i64 h_9 (p5.add 1) fun x39=>
 ldI .i64 h_9 p5 fun x41=>
 zB Zab #[zi x39,zi (zw (x41+1)),zi (zw ((n18:Int)-1))] h_9 fun b45 h_10=>
 bif !b45 then
 R (.bool false) h_10
 else
 bif decide (x4>0) then
 ldV h_10 (p1.add 1) fun v53=>
 vIdx v53 (zw (x4-1)) 2 fun p56=>
 ldI .i64 h_10 p56 fun x57_0=>
 ldI .i64 h_10 (p56.add 1) fun x57_1=>
 ldI .i64 h_10 p5 fun x58_0=>
 ldI .i64 h_10 (p5.add 1) fun x58_1=>
 zB ZlV #[.agg #[zi x57_0,zi x57_1],.agg #[zi x58_0,zi x58_1]] h_10 fun b59 h_11=>
 bif !b59 then
 R (.bool false) h_11
 else
 ag1 J_2 n (zw (x4+1)) h_11
 else
 ag1 J_2 n (zw (x4+1)) h_10
 else
 R (.bool true) h_5):CallsH P Zlp #[.agg #[v0_0,v0_1]] h R:=zv ⟨[(5,[(4,.i .i64)])],[(3,[])],[]⟩ Tryz.func146 hv
theorem Zsg {p0:Addr} (hv:
 vNew h (.cells #[.slice none 0 0,.slice none 0 0] Zco) fun p2 h_2=>
 ldI .i64 h_2 (p0.add 1) fun x9=>
 zB Zab #[zi x9,zi 0,zi 64] h_2 fun b10 h_3=>
 bif !b10 then
 vStore1 h_3 p2 (.slice none 0 0) fun h_4=>
 vStore1 h_4 (p2.add 1) (.slice none 0 0) fun h_5=>
 ldV h_5 p2 fun vres0_0=>
 ldV h_5 (p2.add 1) fun vres0_1=>
 R (.tuple #[.agg #[vres0_0,vres0_1],.bool false]) h_5
 else
 ldI .i64 h_3 (p0.add 1) fun x16=>
 vMake 8 [zi 0] Zh x16 x16 h_3 fun v17 h_6=>
 vOne v17 fun _=>
 vNew h_6 (.cells #[.slice none 0 0,.slice none 0 0] Zco) fun p4 h_7=>
 vStore1 h_7 p4 v17 fun h_8=>
 vStore1 h_8 (p4.add 1) (.slice none 0 0) fun h_9=>
 lq1 (0:Int) h_9 fun J n x5 h_10=>
 ldV h_10 (p0.add 2) fun v23=>
 vLen v23 fun n24=>
 bif decide (x5<(n24:Int)) then
 ldV h_10 (p0.add 2) fun v31=>
 vIdx v31 x5 1 fun p33=>
 ldV h_10 p33 fun v34=>
 vLen v34 fun n35=>
 bif (n35:Int) !=2 then
 vStore1 h_10 p2 (.slice none 0 0) fun h_11=>
 vStore1 h_11 (p2.add 1) (.slice none 0 0) fun h_12=>
 ldV h_12 p2 fun vres0_0_2=>
 ldV h_12 (p2.add 1) fun vres0_1_2=>
 R (.tuple #[.agg #[vres0_0_2,vres0_1_2],.bool false]) h_12
 else
 ∃ B:Nat→Prop,
 ldV h_10 (p0.add 2) fun v43=>
 vIdx v43 x5 1 fun p45=>
 ldV h_10 p45 fun v46=>
 vIdx v46 0 1 fun p47=>
 ldI .i64 h_10 p47 fun x48=>
 ldV h_10 (p0.add 2) fun v52=>
 vIdx v52 x5 1 fun p54=>
 ldV h_10 p54 fun v55=>
 vIdx v55 1 1 fun p56=>
 ldI .i64 h_10 p56 fun x57=>
 vNewS h_10 (.cells #[zi x48,zi x57] Zbi) 1 fun v59 h_13=>
 ExtBut B h_10 h_13 ∧
 ldV (hmask B h_10) (p4.add 1) fun v39=>
 vAppend 2 16 [zi 0,zi 0] Zbi v39 v59 h_13 fun v60 h_14=>
 vStore1 h_14 (p4.add 1) v60 fun h_15=>
 ag1 J n (zw (x5+1)) h_15
 else
 ∃ B_2:Nat→Prop,
 ldV h_10 p4 fun v63_0=>
 ldV h_10 (p4.add 1) fun v63_1=>
 zB Zlp #[.agg #[v63_0,v63_1]] h_10 fun b64 h_16=>
 ExtBut B_2 h_10 h_16 ∧
 ldV (hmask B_2 h_10) p4 fun v62_0=>
 ldV (hmask B_2 h_10) (p4.add 1) fun v62_1=>
 vStore1 h_16 p2 v62_0 fun h_17=>
 vStore1 h_17 (p2.add 1) v62_1 fun h_18=>
 ldV h_18 p2 fun vres0_0_3=>
 ldV h_18 (p2.add 1) fun vres0_1_3=>
 R (.tuple #[.agg #[vres0_0_3,vres0_1_3],.bool b64]) h_18):CallsH P Znx #[.pointer (some p0)] h R:=zv ⟨[(5,[(5,.i .i64)])],[],[]⟩ Tryz.func74 hv
theorem Ztx {v0 v1:Value} (hv:
 vLen v0 fun n11=>
 lq2 (0:Int) (n11:Int) h fun J n x6 x7 h_2=>
 bif decide (x6<x7) then
 (2:Int)≠0 ∧
 vIdx v0 (zw (Int.tdiv (zw (x6+x7)) 2)) 1 fun p21=>
 ldV h_2 p21 fun v22=>
 zI ZgU #[v22,v1] h_2 fun x24 h_3=>
 bif x24==0 then
 R (.tuple #[zi (zw (Int.tdiv (zw (x6+x7)) 2)),.bool true]) h_3
 else
 bif decide (x24<0) then
 ag2 J n (zw ((zw (Int.tdiv (zw (x6+x7)) 2))+1)) x7 h_3
 else
 ag2 J n x6 (zw (Int.tdiv (zw (x6+x7)) 2)) h_3
 else
 R (.tuple #[zi x6,.bool false]) h_2):CallsH P ZiM #[v0,v1] h R:=zv ⟨[(3,[(6,.i .i64),(7,.i .i64)])],[],[]⟩ Tryz.func220 hv
theorem Zt9 {x0:Int} (hv:
 vNewS h (.cells #[] Zh) 0 fun v5 h_2=>
 lq2 v5 (0:Int) h_2 fun J n v3 x4 h_3=>
 bif decide (x4<x0) then
 vNewS h_3 (.cells #[zi x4] Zh) 1 fun v13 h_4=>
 vAppend 1 8 [zi 0] Zh v3 v13 h_4 fun v14 h_5=>
 ag2 J n v14 (zw (x4+1)) h_5
 else
 R v3 h_3):CallsH P Zk5 #[zi x0] h R:=zv ⟨[(3,[(3,.v),(4,.i .i64)])],[],[]⟩ Tryz.func296 hv
theorem Zwk {v0 v1:Value} (hv:
 vNewS h (.cells #[] Zh) 0 fun v7 h_2=>
 lq2 v7 (0:Int) h_2 fun J n v5 x6 h_3=>
 vLen v0 fun n10=>
 bif decide (x6<(n10:Int)) then
 vIdx v0 x6 1 fun p18=>
 ldI .i64 h_3 p18 fun x19=>
 vIdx v1 x19 1 fun p20=>
 ldI .i64 h_3 p20 fun x21=>
 vNewS h_3 (.cells #[zi x21] Zh) 1 fun v22 h_4=>
 vAppend 1 8 [zi 0] Zh v5 v22 h_4 fun v23 h_5=>
 ag2 J n v23 (zw (x6+1)) h_5
 else
 R v5 h_3):CallsH P Zkk #[v0,v1] h R:=zv ⟨[(3,[(5,.v),(6,.i .i64)])],[],[]⟩ Tryz.func297 hv
theorem ZuL {v0:Value} {x1:Int} {v2:Value} (hv:
 vNewS h (.cells #[] Zg) 0 fun v8 h_2=>
 vSliceS v0 1 none (some (zi x1)) none fun v11=>
 vAppend 1 24 [.slice none 0 0] Zg v8 v11 h_2 fun v12 h_3=>
 vOne v2 fun _=>
 vNewS h_3 (.cells #[v2] Zg) 1 fun v15 h_4=>
 vAppend 1 24 [.slice none 0 0] Zg v12 v15 h_4 fun v16 h_5=>
 vSliceS v0 1 (some (zi x1)) none none fun v20=>
 vAppend 1 24 [.slice none 0 0] Zg v16 v20 h_5 fun v21 h_6=>
 R v21 h_6):CallsH P Zmn #[v0,zi x1,v2] h R:=zv ⟨[],[],[]⟩ Tryz.func298 hv
theorem Zug {x0:Int} {v1:Value} {x2:Int} (hv:
 zV Zk5 #[zi x0] h fun v17 h_2=>
 vOne v17 fun _=>
 vNewS h_2 (.cells #[v17] Zg) 1 fun v19 h_3=>
 vOne v17 fun _=>
 vNewS h_3 (.cells #[v17] Zg) 1 fun v21 h_4=>
 lq3 v19 v21 (0:Int) h_4 fun J n v9 v10 x11 h_5=>
 vLen v10 fun n24=>
 bif decide (x11<(n24:Int)) then
 lq3 v9 v10 (0:Int) h_5 fun J_2 n_3 v9_2 v10_2 x12 h_6=>
 vLen v1 fun n30=>
 bif decide (x12<(n30:Int)) then
 vIdx v10_2 x11 1 fun p36=>
 ldV h_6 p36 fun v37=>
 vIdx v1 x12 1 fun p40=>
 ldV h_6 p40 fun v41=>
 zV Zkk #[v37,v41] h_6 fun v42 h_7=>
 CallsH P ZiM #[v9_2,v42] h_7 fun r46 h_8=>∃ x46_0,∃ (b46_1:Bool),r46=.tuple #[zi x46_0,.bool b46_1] ∧
 bif b46_1 then
 ag3 J_2 n_3 v9_2 v10_2 (zw (x12+1)) h_8
 else
 vLen v9_2 fun n51=>
 bif (n51:Int)==x2 then
 R (.tuple #[(.slice none 0 0),.bool false]) h_8
 else
 zV Zmn #[v9_2,zi x46_0,v42] h_8 fun v57 h_9=>
 vOne v42 fun _=>
 vNewS h_9 (.cells #[v42] Zg) 1 fun v60 h_10=>
 vAppend 1 24 [.slice none 0 0] Zg v10_2 v60 h_10 fun v61 h_11=>
 ag3 J_2 n_3 v57 v61 (zw (x12+1)) h_11
 else
 ag3 J n v9_2 v10_2 (zw (x11+1)) h_6
 else
 R (.tuple #[v9,.bool true]) h_5):CallsH P ZiZ #[zi x0,v1,zi x2] h R:=zv ⟨[(5,[(9,.v),(10,.v),(11,.i .i64)]),(8,[(9,.v),(10,.v),(12,.i .i64)])],[],[]⟩ Tryz.func219 hv
theorem ZxR {x0:Int} {v1:Value} (hv:
 vNewS h (.cells #[] Zg) 0 fun v14 h_2=>
 CallsH P ZiZ #[zi x0,v14,zi 1] h_2 fun r18 h_3=>∃ (v18_0:Value),∃ (b18_1:Bool),r18=.tuple #[v18_0,.bool b18_1] ∧
 lq3 v14 v18_0 (0:Int) h_3 fun J n v6 v7 x9 h_4=>
 vLen v1 fun n23=>
 bif decide (x9<(n23:Int)) then
 vIdx v1 x9 1 fun p31=>
 ldV h_4 p31 fun v32=>
 CallsH P ZiM #[v7,v32] h_4 fun r33 h_5=>∃ x33_0,∃ (b33_1:Bool),r33=.tuple #[zi x33_0,.bool b33_1] ∧
 bif b33_1 then
 ag3 J n v6 v7 (zw (x9+1)) h_5
 else
 vIdx v1 x9 1 fun p40=>
 ldV h_5 p40 fun v41=>
 zV Zgf #[v41] h_5 fun v42 h_6=>
 vOne v42 fun _=>
 vNewS h_6 (.cells #[v42] Zg) 1 fun v43 h_7=>
 vAppend 1 24 [.slice none 0 0] Zg v6 v43 h_7 fun v44 h_8=>
 vLen v1 fun n49=>
 CallsH P ZiZ #[zi x0,v44,zi (n49:Int)] h_8 fun r50 h_9=>∃ (v50_0:Value),∃ (b50_1:Bool),r50=.tuple #[v50_0,.bool b50_1] ∧
 bif !b50_1 then
 R (.tuple #[(.slice none 0 0),.bool false]) h_9
 else
 ag3 J n v44 v50_0 (zw (x9+1)) h_9
 else
 zB Zj0 #[v7,v1] h_4 fun b59 h_10=>
 R (.tuple #[v6,.bool b59]) h_10):CallsH P ZlJ #[zi x0,v1] h R:=zv ⟨[(4,[(6,.v),(7,.v),(9,.i .i64)])],[],[]⟩ Tryz.func147 hv
theorem Zsh {p0:Addr} (hv:
 ∃ J:Heap→Prop,(
 ldI .i64 h p0 fun x9=>
 zB Zab #[zi x9,zi 1,zi 32] h fun b10 h_2=>
 bif !b10 then
 R (.bool false) h_2
 else
 ldV h_2 (p0.add 1) fun v16=>
 vLen v16 fun n17=>
 bif (n17:Int)==0 then
 R (.bool false) h_2
 else
 ldV h_2 (p0.add 1) fun v24=>
 vLen v24 fun n25=>
 bif decide ((n25:Int)>720) then
 R (.bool false) h_2
 else
 J h_2
 )∧∀ (_:Env) (h_3:Heap),J h_3 →
 lq1 (0:Int) h_3 fun J_2 n x3 h_4=>
 ldV h_4 (p0.add 1) fun v32=>
 vLen v32 fun n33=>
 bif decide (x3<(n33:Int)) then
 ldV h_4 (p0.add 1) fun v40=>
 vIdx v40 x3 1 fun p42=>
 ldV h_4 p42 fun v43=>
 zB ZhE #[v43] h_4 fun b44 h_5=>
 bif !b44 then
 R (.bool false) h_5
 else
 ldV h_5 (p0.add 1) fun v50=>
 vIdx v50 x3 1 fun p52=>
 ldV h_5 p52 fun v53=>
 vLen v53 fun n54=>
 ldI .i64 h_5 p0 fun x58=>
 bif (n54:Int) !=x58 then
 R (.bool false) h_5
 else
 bif decide (x3>0) then
 ldV h_5 (p0.add 1) fun v68=>
 vIdx v68 (zw (x3-1)) 1 fun p71=>
 ldV h_5 p71 fun v72=>
 ldV h_5 (p0.add 1) fun v76=>
 vIdx v76 x3 1 fun p78=>
 ldV h_5 p78 fun v79=>
 zI ZgU #[v72,v79] h_5 fun x80 h_6=>
 bif decide (x80≥0) then
 R (.bool false) h_6
 else
 ag1 J_2 n (zw (x3+1)) h_6
 else
 ag1 J_2 n (zw (x3+1)) h_5
 else
 ldI .i64 h_4 p0 fun x88=>
 ldV h_4 (p0.add 1) fun v92=>
 CallsH P ZlJ #[zi x88,v92] h_4 fun r93 h_7=>∃ (v93_0:Value),∃ (b93_1:Bool),r93=.tuple #[v93_0,.bool b93_1] ∧
 R (.bool b93_1) h_7):CallsH P ZnX #[.pointer (some p0)] h R:=zv ⟨[(4,[(3,.i .i64)])],[(3,[])],[]⟩ Tryz.func75 hv
theorem Zz5 {p0:Addr} (hv:
 ldI .i64 h p0 fun x10=>
 bif x10==1 then
 ldV h (p0.add 2) fun v16=>
 zB ZmM #[v16] h fun b17 h_2=>
 bif b17 then
 ldV h_2 (p0.add 2) fun v22=>
 vLen v22 fun n23=>
 ldI .i64 h_2 (p0.add 1) fun x27=>
 R (.bool ((n23:Int)==x27)) h_2
 else
 R (.bool false) h_2
 else
 bif x10==2 then
 ldI .i64 h (p0.add 1) fun x35=>
 ldV h (p0.add 2) fun v39=>
 vOne v39 fun _=>
 vNew h (.cells #[zi x35,v39] Zmu) fun p41 h_3=>
 zB ZnI #[.pointer (some p41)] h_3 fun b42 h_4=>
 R (.bool b42) h_4
 else
 bif x10==3 then
 ldV h (p0.add 2) fun v48=>
 zB Zky #[v48] h fun b49 h_5=>
 bif b49 then
 ldV h_5 (p0.add 2) fun v54=>
 vLen v54 fun n55=>
 ldI .i64 h_5 (p0.add 1) fun x59=>
 R (.bool ((n55:Int)==x59)) h_5
 else
 R (.bool false) h_5
 else
 bif x10==4 then
 CallsH P Znd #[.pointer (some p0)] h fun r65 h_6=>∃ x65_0_0,∃ x65_0_1,∃ (v65_0_2:Value),r65=.agg #[zi x65_0_0,zi x65_0_1,v65_0_2] ∧
 vNew h_6 (.cells #[zi 0,zi 0,.slice none 0 0] Zc3) fun p3 h_7=>
 vStore1 h_7 p3 (zi x65_0_0) fun h_8=>
 vStore1 h_8 (p3.add 1) (zi x65_0_1) fun h_9=>
 vStore1 h_9 (p3.add 2) v65_0_2 fun h_10=>
 ldV h_10 (p0.add 2) fun v69=>
 vLen v69 fun n70=>
 bif decide ((n70:Int)>0) then
 zB Znb #[.pointer (some p3)] h_10 fun b73 h_11=>
 R (.bool b73) h_11
 else
 R (.bool false) h_10
 else
 bif x10==5 then
 CallsH P Zlv #[.pointer (some p0)] h fun r78 h_12=>∃ x78_0_0,∃ x78_0_1,∃ (v78_0_2:Value),∃ (v78_0_3:Value),r78=.agg #[zi x78_0_0,zi x78_0_1,v78_0_2,v78_0_3] ∧
 vNew h_12 (.cells #[zi 0,zi 0,.slice none 0 0,.slice none 0 0] Zi1) fun p4 h_13=>
 vStore1 h_13 p4 (zi x78_0_0) fun h_14=>
 vStore1 h_14 (p4.add 1) (zi x78_0_1) fun h_15=>
 vStore1 h_15 (p4.add 2) v78_0_2 fun h_16=>
 vStore1 h_16 (p4.add 3) v78_0_3 fun h_17=>
 zB ZkH #[.pointer (some p4)] h_17 fun b79 h_18=>
 R (.bool b79) h_18
 else
 bif x10==6 then
 CallsH P Znx #[.pointer (some p0)] h fun r84 h_19=>∃ (v84_0_0:Value),∃ (v84_0_1:Value),∃ (b84_1:Bool),r84=.tuple #[.agg #[v84_0_0,v84_0_1],.bool b84_1] ∧
 vNew h_19 (.cells #[.slice none 0 0,.slice none 0 0] Zco) fun p5 h_20=>
 vStore1 h_20 p5 v84_0_0 fun h_21=>
 vStore1 h_21 (p5.add 1) v84_0_1 fun h_22=>
 R (.bool b84_1) h_22
 else
 bif x10==7 then
 ldI .i64 h (p0.add 1) fun x93=>
 ldV h (p0.add 2) fun v97=>
 vOne v97 fun _=>
 vNew h (.cells #[zi x93,v97] ZnF) fun p99 h_23=>
 zB ZnX #[.pointer (some p99)] h_23 fun b100 h_24=>
 R (.bool b100) h_24
 else
 R (.bool false) h):CallsH P Zkg #[.pointer (some p0)] h R:=zv ⟨[],[],[]⟩ Tryz.func30 hv
theorem Zxv {v0:Value} (hv:
 vLen v0 fun n6=>
 bif decide ((n6:Int)>100) then
 R (.string ⟨#[]⟩) h
 else
 vLen v0 fun n9=>
 bif (n9:Int)==0 then
 R (.string ⟨#[45]⟩) h
 else
 lq2 (⟨#[]⟩:ByteArray) (0:Int) h fun J n s3 x4 h_2=>
 vLen v0 fun n13=>
 bif decide (x4<(n13:Int)) then
 vIdx v0 x4 1 fun p19=>
 ldI .i64 h_2 p19 fun x20=>
 zB Zab #[zi x20,zi (-999999999),zi 999999999] h_2 fun b21 h_3=>
 bif !b21 then
 R (.string ⟨#[]⟩) h_3
 else
 ∃ J_2:ByteArray→Heap→Prop,(
 bif decide (x4>0) then
 (((s3:ByteArray).size+(⟨#[44]⟩:ByteArray).size:Nat):Int)≤IntKind.i64.max ∧
 J_2 ((s3:ByteArray)++(⟨#[44]⟩:ByteArray)) h_3
 else
 J_2 s3 h_3
 )∧∀ (_:Env) (s3_2:ByteArray) (h_4:Heap),J_2 s3_2 h_4 →
 vIdx v0 x4 1 fun p30=>
 ldI .i64 h_4 p30 fun x31=>
 zS ZdZ #[zi x31] h_4 fun s32 h_5=>
 (((s3_2:ByteArray).size+(s32:ByteArray).size:Nat):Int)≤IntKind.i64.max ∧
 ag2 J n ((s3_2:ByteArray)++(s32:ByteArray)) (zw (x4+1)) h_5
 else
 R (.string s3) h_2):CallsH P Zj3 #[v0] h R:=zv ⟨[(7,[(3,.s),(4,.i .i64)])],[(13,[(3,.s)])],[]⟩ Tryz.func76 hv
theorem ZvM {p0:Addr} (hv:
 ∃ B:Nat→Prop,
 zV ZjM #[] h fun v5 h_2=>
 ExtBut B h h_2 ∧
 (
 ldI .i64 (hmask B h) p0 fun x9=>
 vIdx v5 x9 1 fun p10=>
 ldS h_2 p10 fun s11=>
 ExtBut B h h_2 ∧
 ldI .i64 (hmask B h) (p0.add 1) fun x16=>
 zS ZdZ #[zi x16] h_2 fun s17 h_3=>
 ExtBut B h h_3 ∧
 (((s11:ByteArray).size+(⟨#[32]⟩:ByteArray).size:Nat):Int)≤IntKind.i64.max ∧
 ((((s11:ByteArray)++(⟨#[32]⟩:ByteArray):ByteArray).size+(s17:ByteArray).size:Nat):Int)≤IntKind.i64.max ∧
 (((((s11:ByteArray)++(⟨#[32]⟩:ByteArray):ByteArray)++(s17:ByteArray):ByteArray).size+(⟨#[32]⟩:ByteArray).size:Nat):Int)≤IntKind.i64.max ∧
 ldV h_3 (p0.add 2) fun v23=>
 vLen v23 fun n24=>
 bif (n24:Int)==0 then
 ((((((s11:ByteArray)++(⟨#[32]⟩:ByteArray):ByteArray)++(s17:ByteArray):ByteArray)++(⟨#[32]⟩:ByteArray):ByteArray).size+(⟨#[110,111,110,101]⟩:ByteArray).size:Nat):Int)≤IntKind.i64.max ∧
 R (.string (((((s11:ByteArray)++(⟨#[32]⟩:ByteArray):ByteArray)++(s17:ByteArray):ByteArray)++(⟨#[32]⟩:ByteArray):ByteArray)++(⟨#[110,111,110,101]⟩:ByteArray))) h_3
 else
 lq2 (((((s11:ByteArray)++(⟨#[32]⟩:ByteArray):ByteArray)++(s17:ByteArray):ByteArray)++(⟨#[32]⟩:ByteArray)):ByteArray) (0:Int) h_3 fun J n s3 x4 h_4=>
 ldV h_4 (p0.add 2) fun v32=>
 vLen v32 fun n33=>
 bif decide (x4<(n33:Int)) then
 ∃ J_2:ByteArray→Heap→Prop,(
 bif decide (x4>0) then
 (((s3:ByteArray).size+(⟨#[47]⟩:ByteArray).size:Nat):Int)≤IntKind.i64.max ∧
 J_2 ((s3:ByteArray)++(⟨#[47]⟩:ByteArray)) h_4
 else
 J_2 s3 h_4
 )∧∀ (_:Env) (s3_2:ByteArray) (h_5:Heap),J_2 s3_2 h_5 →
 ldV h_5 (p0.add 2) fun v45=>
 vIdx v45 x4 1 fun p47=>
 ldV h_5 p47 fun v48=>
 zS Zj3 #[v48] h_5 fun s49 h_6=>
 (((s3_2:ByteArray).size+(s49:ByteArray).size:Nat):Int)≤IntKind.i64.max ∧
 ag2 J n ((s3_2:ByteArray)++(s49:ByteArray)) (zw (x4+1)) h_6
 else
 R (.string s3) h_4
 ) ∧
 (
 ldI .i64 (hmask B h) (p0.add 1) fun x16_2=>
 zS ZdZ #[zi x16_2] h_2 fun s17_2 h_7=>
 ExtBut B h h_7 ∧
 ldI .i64 (hmask B h) p0 fun x9_2=>
 vIdx v5 x9_2 1 fun p10_2=>
 ldS h_7 p10_2 fun s11_2=>
 ExtBut B h h_7 ∧
 (((s11_2:ByteArray).size+(⟨#[32]⟩:ByteArray).size:Nat):Int)≤IntKind.i64.max ∧
 ((((s11_2:ByteArray)++(⟨#[32]⟩:ByteArray):ByteArray).size+(s17_2:ByteArray).size:Nat):Int)≤IntKind.i64.max ∧
 (((((s11_2:ByteArray)++(⟨#[32]⟩:ByteArray):ByteArray)++(s17_2:ByteArray):ByteArray).size+(⟨#[32]⟩:ByteArray).size:Nat):Int)≤IntKind.i64.max ∧
 ldV h_7 (p0.add 2) fun v23_2=>
 vLen v23_2 fun n24_2=>
 bif (n24_2:Int)==0 then
 ((((((s11_2:ByteArray)++(⟨#[32]⟩:ByteArray):ByteArray)++(s17_2:ByteArray):ByteArray)++(⟨#[32]⟩:ByteArray):ByteArray).size+(⟨#[110,111,110,101]⟩:ByteArray).size:Nat):Int)≤IntKind.i64.max ∧
 R (.string (((((s11_2:ByteArray)++(⟨#[32]⟩:ByteArray):ByteArray)++(s17_2:ByteArray):ByteArray)++(⟨#[32]⟩:ByteArray):ByteArray)++(⟨#[110,111,110,101]⟩:ByteArray))) h_7
 else
 lq2 (((((s11_2:ByteArray)++(⟨#[32]⟩:ByteArray):ByteArray)++(s17_2:ByteArray):ByteArray)++(⟨#[32]⟩:ByteArray)):ByteArray) (0:Int) h_7 fun J_3 n_3 s3_3 x4_2 h_8=>
 ldV h_8 (p0.add 2) fun v32_2=>
 vLen v32_2 fun n33_2=>
 bif decide (x4_2<(n33_2:Int)) then
 ∃ J_4:ByteArray→Heap→Prop,(
 bif decide (x4_2>0) then
 (((s3_3:ByteArray).size+(⟨#[47]⟩:ByteArray).size:Nat):Int)≤IntKind.i64.max ∧
 J_4 ((s3_3:ByteArray)++(⟨#[47]⟩:ByteArray)) h_8
 else
 J_4 s3_3 h_8
 )∧∀ (_:Env) (s3_4:ByteArray) (h_9:Heap),J_4 s3_4 h_9 →
 ldV h_9 (p0.add 2) fun v45_2=>
 vIdx v45_2 x4_2 1 fun p47_2=>
 ldV h_9 p47_2 fun v48_2=>
 zS Zj3 #[v48_2] h_9 fun s49_2 h_10=>
 (((s3_4:ByteArray).size+(s49_2:ByteArray).size:Nat):Int)≤IntKind.i64.max ∧
 ag2 J_3 n_3 ((s3_4:ByteArray)++(s49_2:ByteArray)) (zw (x4_2+1)) h_10
 else
 R (.string s3_3) h_8
 )):CallsH P ZlR #[.pointer (some p0)] h R:=zv ⟨[(5,[(3,.s),(4,.i .i64)])],[(9,[(3,.s)])],[(1,[6])]⟩ Tryz.func31 hv
theorem ZsP {s0:ByteArray} (hv:
 vNew h (.cells #[zi 0,zi 0,.slice none 0 0] Zas) fun p2 h_2=>
 zV Zdk #[.string s0,.int .u8 32] h_2 fun v15 h_3=>
 vLen v15 fun n17=>
 bif (n17:Int) !=3 then
 vStore1 h_3 p2 (zi 0) fun h_4=>
 vStore1 h_4 (p2.add 1) (zi 0) fun h_5=>
 vStore1 h_5 (p2.add 2) (.slice none 0 0) fun h_6=>
 ldI .i64 h_6 p2 fun xres0_0=>
 ldI .i64 h_6 (p2.add 1) fun xres0_1=>
 ldV h_6 (p2.add 2) fun vres0_2=>
 R (.tuple #[.agg #[zi xres0_0,zi xres0_1,vres0_2],.bool false]) h_6
 else
 vIdx v15 0 1 fun p22=>
 ldS h_3 p22 fun s23=>
 CallsH P ZkP #[.string s23] h_3 fun r24 h_7=>∃ x24_0,∃ (b24_1:Bool),r24=.tuple #[zi x24_0,.bool b24_1] ∧
 vIdx v15 1 1 fun p29=>
 ldS h_7 p29 fun s30=>
 CallsH P ZgA #[.string s30] h_7 fun r31 h_8=>∃ x31_0,∃ (b31_1:Bool),r31=.tuple #[zi x31_0,.bool b31_1] ∧
 ∃ J:Heap→Prop,(
 bif !b24_1 then
 vStore1 h_8 p2 (zi 0) fun h_9=>
 vStore1 h_9 (p2.add 1) (zi 0) fun h_10=>
 vStore1 h_10 (p2.add 2) (.slice none 0 0) fun h_11=>
 ldI .i64 h_11 p2 fun xres0_0_2=>
 ldI .i64 h_11 (p2.add 1) fun xres0_1_2=>
 ldV h_11 (p2.add 2) fun vres0_2_2=>
 R (.tuple #[.agg #[zi xres0_0_2,zi xres0_1_2,vres0_2_2],.bool false]) h_11
 else
 bif !b31_1 then
 vStore1 h_8 p2 (zi 0) fun h_12=>
 vStore1 h_12 (p2.add 1) (zi 0) fun h_13=>
 vStore1 h_13 (p2.add 2) (.slice none 0 0) fun h_14=>
 ldI .i64 h_14 p2 fun xres0_0_3=>
 ldI .i64 h_14 (p2.add 1) fun xres0_1_3=>
 ldV h_14 (p2.add 2) fun vres0_2_3=>
 R (.tuple #[.agg #[zi xres0_0_3,zi xres0_1_3,vres0_2_3],.bool false]) h_14
 else
 J h_8
 )∧∀ (_:Env) (h_15:Heap),J h_15 →
 vNew h_15 (.cells #[zi 0,zi 0,.slice none 0 0] Zas) fun p9 h_16=>
 vStore1 h_16 p9 (zi x24_0) fun h_17=>
 vStore1 h_17 (p9.add 1) (zi x31_0) fun h_18=>
 vStore1 h_18 (p9.add 2) (.slice none 0 0) fun h_19=>
 ∃ J_2:Heap→Prop,(
 vIdx v15 2 1 fun p45=>
 ldS h_19 p45 fun s46=>
 bif !(s46.toList==(⟨#[110,111,110,101]⟩:ByteArray).toList) then
 vIdx v15 2 1 fun p49=>
 ldS h_19 p49 fun s50=>
 zV Zdk #[.string s50,.int .u8 47] h_19 fun v51 h_20=>
 vLen v51 fun n53=>
 bif decide ((n53:Int)>720) then
 vStore1 h_20 p2 (zi 0) fun h_21=>
 vStore1 h_21 (p2.add 1) (zi 0) fun h_22=>
 vStore1 h_22 (p2.add 2) (.slice none 0 0) fun h_23=>
 ldI .i64 h_23 p2 fun xres0_0_4=>
 ldI .i64 h_23 (p2.add 1) fun xres0_1_4=>
 ldV h_23 (p2.add 2) fun vres0_2_4=>
 R (.tuple #[.agg #[zi xres0_0_4,zi xres0_1_4,vres0_2_4],.bool false]) h_23
 else
 lq1 (0:Int) h_20 fun J_3 n x11 h_24=>
 vLen v51 fun n58=>
 bif decide (x11<(n58:Int)) then
 vIdx v51 x11 1 fun p65=>
 ldS h_24 p65 fun s66=>
 CallsH P Zmt #[.string s66] h_24 fun r67 h_25=>∃ (v67_0:Value),∃ (b67_1:Bool),r67=.tuple #[v67_0,.bool b67_1] ∧
 bif !b67_1 then
 vStore1 h_25 p2 (zi 0) fun h_26=>
 vStore1 h_26 (p2.add 1) (zi 0) fun h_27=>
 vStore1 h_27 (p2.add 2) (.slice none 0 0) fun h_28=>
 ldI .i64 h_28 p2 fun xres0_0_5=>
 ldI .i64 h_28 (p2.add 1) fun xres0_1_5=>
 ldV h_28 (p2.add 2) fun vres0_2_5=>
 R (.tuple #[.agg #[zi xres0_0_5,zi xres0_1_5,vres0_2_5],.bool false]) h_28
 else
 ldV h_25 (p9.add 2) fun v74=>
 vOne v67_0 fun _=>
 vNewS h_25 (.cells #[v67_0] Zg) 1 fun v76 h_29=>
 vAppend 1 24 [.slice none 0 0] Zg v74 v76 h_29 fun v77 h_30=>
 vStore1 h_30 (p9.add 2) v77 fun h_31=>
 ag1 J_3 n (zw (x11+1)) h_31
 else
 J_2 h_24
 else
 J_2 h_19
 )∧∀ (_:Env) (h_32:Heap),J_2 h_32 →
 zB Zkg #[.pointer (some p9)] h_32 fun b79 h_33=>
 bif !b79 then
 vStore1 h_33 p2 (zi 0) fun h_34=>
 vStore1 h_34 (p2.add 1) (zi 0) fun h_35=>
 vStore1 h_35 (p2.add 2) (.slice none 0 0) fun h_36=>
 ldI .i64 h_36 p2 fun xres0_0_6=>
 ldI .i64 h_36 (p2.add 1) fun xres0_1_6=>
 ldV h_36 (p2.add 2) fun vres0_2_6=>
 R (.tuple #[.agg #[zi xres0_0_6,zi xres0_1_6,vres0_2_6],.bool false]) h_36
 else
 zS ZlR #[.pointer (some p9)] h_33 fun s82 h_37=>
 bif !(s82.toList==s0.toList) then
 vStore1 h_37 p2 (zi 0) fun h_38=>
 vStore1 h_38 (p2.add 1) (zi 0) fun h_39=>
 vStore1 h_39 (p2.add 2) (.slice none 0 0) fun h_40=>
 ldI .i64 h_40 p2 fun xres0_0_7=>
 ldI .i64 h_40 (p2.add 1) fun xres0_1_7=>
 ldV h_40 (p2.add 2) fun vres0_2_7=>
 R (.tuple #[.agg #[zi xres0_0_7,zi xres0_1_7,vres0_2_7],.bool false]) h_40
 else
 ldI .i64 h_37 p9 fun x87_0=>
 ldI .i64 h_37 (p9.add 1) fun x87_1=>
 ldV h_37 (p9.add 2) fun v87_2=>
 vStore1 h_37 p2 (zi x87_0) fun h_41=>
 vStore1 h_41 (p2.add 1) (zi x87_1) fun h_42=>
 vStore1 h_42 (p2.add 2) v87_2 fun h_43=>
 ldI .i64 h_43 p2 fun xres0_0_8=>
 ldI .i64 h_43 (p2.add 1) fun xres0_1_8=>
 ldV h_43 (p2.add 2) fun vres0_2_8=>
 R (.tuple #[.agg #[zi xres0_0_8,zi xres0_1_8,vres0_2_8],.bool true]) h_43):CallsH P ZmO #[.string s0] h R:=zv ⟨[(14,[(11,.i .i64)])],[(8,[]),(20,[])],[]⟩ Tryz.func7 hv
theorem ZuN {x0:Int} (hv:
 bif decide (x0≥97) then
 R (.bool (decide (x0≤122))) h
 else
 R (.bool false) h):CallsH P ZiG #[.int .u8 x0] h R:=zv ⟨[],[],[]⟩ Tryz.func204 hv
theorem Zxd {s0:ByteArray} (hv:
 ∃ J:Heap→Prop,(
 bif s0.toList==(⟨#[]⟩:ByteArray).toList then
 R (.bool false) h
 else
 bif decide (((s0.size:Int):Int)>10) then
 R (.bool false) h
 else
 vStrIdx s0 0 fun c13=>
 zB ZiG #[.int .u8 (c13.toNat:Int)] h fun b14 h_2=>
 bif !b14 then
 R (.bool false) h_2
 else
 J h_2
 )∧∀ (_:Env) (h_3:Heap),J h_3 →
 lq1 (0:Int) h_3 fun J_2 n x3 h_4=>
 bif decide (x3<(s0.size:Int)) then
 vStrIdx s0 x3 fun c25=>
 zB ZiG #[.int .u8 (c25.toNat:Int)] h_4 fun b26 h_5=>
 bif !b26 then
 vStrIdx s0 x3 fun c31=>
 zB Zj7 #[.int .u8 (c31.toNat:Int)] h_5 fun b32 h_6=>
 bif !b32 then
 R (.bool false) h_6
 else
 ag1 J_2 n (zw (x3+1)) h_6
 else
 ag1 J_2 n (zw (x3+1)) h_5
 else
 R (.bool true) h_4):CallsH P ZlB #[.string s0] h R:=zv ⟨[(4,[(3,.i .i64)])],[(3,[])],[]⟩ Tryz.func126 hv
theorem Zr1 {s0:ByteArray} (hv:
 vNew h (.cells #[.string ⟨#[]⟩,zi 0,zi 0,.slice none 0 0,.string ⟨#[]⟩] ZuH) fun p2 h_2=>
 ∃ J:Int→Heap→Prop,(
 lq1 (0:Int) h_2 fun J_2 n x4 h_3=>
 bif decide (x4<(s0.size:Int)) then
 vStrIdx s0 x4 fun c14=>
 bif ((c14.toNat:Int):Int) !=32 then
 ag1 J_2 n (zw (x4+1)) h_3
 else
 J x4 h_3
 else
 J x4 h_3
 )∧∀ (_:Env) x4_2 (h_4:Heap),J x4_2 h_4 →
 ∃ J_3:Heap→Prop,(
 bif x4_2==(s0.size:Int) then
 vStore1 h_4 p2 (.string ⟨#[]⟩) fun h_5=>
 vStore1 h_5 (p2.add 1) (zi 0) fun h_6=>
 vStore1 h_6 (p2.add 2) (zi 0) fun h_7=>
 vStore1 h_7 (p2.add 3) (.slice none 0 0) fun h_8=>
 vStore1 h_8 (p2.add 4) (.string ⟨#[]⟩) fun h_9=>
 ldS h_9 p2 fun sres0_0=>
 ldI .i64 h_9 (p2.add 1) fun xres0_1=>
 ldI .i64 h_9 (p2.add 2) fun xres0_2=>
 ldV h_9 (p2.add 3) fun vres0_3=>
 ldS h_9 (p2.add 4) fun sres0_4=>
 R (.tuple #[.agg #[.string sres0_0,zi xres0_1,zi xres0_2,vres0_3,.string sres0_4],.bool false]) h_9
 else
 vSliceStr s0 none (some (zi x4_2)) fun s26=>
 zB ZlB #[.string s26] h_4 fun b27 h_10=>
 bif !b27 then
 vStore1 h_10 p2 (.string ⟨#[]⟩) fun h_11=>
 vStore1 h_11 (p2.add 1) (zi 0) fun h_12=>
 vStore1 h_12 (p2.add 2) (zi 0) fun h_13=>
 vStore1 h_13 (p2.add 3) (.slice none 0 0) fun h_14=>
 vStore1 h_14 (p2.add 4) (.string ⟨#[]⟩) fun h_15=>
 ldS h_15 p2 fun sres0_0_2=>
 ldI .i64 h_15 (p2.add 1) fun xres0_1_2=>
 ldI .i64 h_15 (p2.add 2) fun xres0_2_2=>
 ldV h_15 (p2.add 3) fun vres0_3_2=>
 ldS h_15 (p2.add 4) fun sres0_4_2=>
 R (.tuple #[.agg #[.string sres0_0_2,zi xres0_1_2,zi xres0_2_2,vres0_3_2,.string sres0_4_2],.bool false]) h_15
 else
 J_3 h_10
 )∧∀ (_:Env) (h_16:Heap),J_3 h_16 →
 vSliceStr s0 (some (zi (zw (x4_2+1)))) none fun s35=>
 CallsH P ZmO #[.string s35] h_16 fun r36 h_17=>∃ x36_0_0,∃ x36_0_1,∃ (v36_0_2:Value),∃ (b36_1:Bool),r36=.tuple #[.agg #[zi x36_0_0,zi x36_0_1,v36_0_2],.bool b36_1] ∧
 vNew h_17 (.cells #[zi 0,zi 0,.slice none 0 0] Zas) fun p5 h_18=>
 vStore1 h_18 p5 (zi x36_0_0) fun h_19=>
 vStore1 h_19 (p5.add 1) (zi x36_0_1) fun h_20=>
 vStore1 h_20 (p5.add 2) v36_0_2 fun h_21=>
 vSliceStr s0 none (some (zi x4_2)) fun s41=>
 ldI .i64 h_21 p5 fun x42_0=>
 ldI .i64 h_21 (p5.add 1) fun x42_1=>
 ldV h_21 (p5.add 2) fun v42_2=>
 vStore1 h_21 p2 (.string s41) fun h_22=>
 vStore1 h_22 (p2.add 1) (zi x42_0) fun h_23=>
 vStore1 h_23 (p2.add 2) (zi x42_1) fun h_24=>
 vStore1 h_24 (p2.add 3) v42_2 fun h_25=>
 vStore1 h_25 (p2.add 4) (.string ⟨#[]⟩) fun h_26=>
 ldS h_26 p2 fun sres0_0_3=>
 ldI .i64 h_26 (p2.add 1) fun xres0_1_3=>
 ldI .i64 h_26 (p2.add 2) fun xres0_2_3=>
 ldV h_26 (p2.add 3) fun vres0_3_3=>
 ldS h_26 (p2.add 4) fun sres0_4_3=>
 R (.tuple #[.agg #[.string sres0_0_3,zi xres0_1_3,zi xres0_2_3,vres0_3_3,.string sres0_4_3],.bool b36_1]) h_26):CallsH P Zk9 #[.string s0] h R:=zv ⟨[(2,[(4,.i .i64)])],[(4,[(4,.i .i64)]),(6,[])],[]⟩ Tryz.func61 hv
theorem Zy9 {s0:ByteArray} (hv:
 CallsH P Zk7 #[.string s0] h fun r12 h_2=>∃ (v12_0:Value),∃ x12_1,r12=.tuple #[v12_0,zi x12_1] ∧
 bif x12_1 !=0 then
 R (.tuple #[(.slice none 0 0),zi x12_1]) h_2
 else
 vNewS h_2 (.cells #[] Zh) 0 fun v18 h_3=>
 lq2 v18 (0:Int) h_3 fun J n v6 x7 h_4=>
 vLen v12_0 fun n21=>
 bif decide (x7<(n21:Int)) then
 vIdx v12_0 x7 1 fun p28=>
 ldS h_4 p28 fun s29=>
 CallsH P Zk1 #[.string s29] h_4 fun r30 h_5=>∃ (s30_0:ByteArray),∃ (b30_1:Bool),r30=.tuple #[.string s30_0,.bool b30_1] ∧
 ∃ J_2:Bool→Heap→Prop,(
 bif b30_1 then
 CallsH P Zk9 #[.string s30_0] h_5 fun r36 h_6=>∃ (s36_0_0:ByteArray),∃ x36_0_1,∃ x36_0_2,∃ (v36_0_3:Value),∃ (s36_0_4:ByteArray),∃ (b36_1:Bool),r36=.tuple #[.agg #[.string s36_0_0,zi x36_0_1,zi x36_0_2,v36_0_3,.string s36_0_4],.bool b36_1] ∧
 J_2 b36_1 h_6
 else
 J_2 b30_1 h_5
 )∧∀ (_:Env) (b9:Bool) (h_7:Heap),J_2 b9 h_7 →
 bif !b9 then
 vNewS h_7 (.cells #[zi (zw (x7+1))] Zh) 1 fun v44 h_8=>
 vAppend 1 8 [zi 0] Zh v6 v44 h_8 fun v45 h_9=>
 ag2 J n v45 (zw (x7+1)) h_9
 else
 ag2 J n v6 (zw (x7+1)) h_7
 else
 R (.tuple #[v6,zi 0]) h_4):CallsH P Znv #[.string s0] h R:=zv ⟨[(6,[(6,.v),(7,.i .i64)])],[(11,[(9,.b)])],[]⟩ Tryz.func21 hv
theorem Zuj {s0 s1:ByteArray} (hv:
 bif decide (((s0.size:Int):Int)≥(s1.size:Int)) then
 vSliceStr s0 none (some (zi (s1.size:Int))) fun s14=>
 R (.bool (s14.toList==s1.toList)) h
 else
 R (.bool false) h):CallsH P Zkv #[.string s0,.string s1] h R:=zv ⟨[],[],[]⟩ Tryz.func226 hv
theorem Zux {s0 s1:ByteArray} (hv:
 zB Zkv #[.string s0,.string s1] h fun b7 h_2=>
 bif b7 then
 vSliceStr s0 (some (zi (s1.size:Int))) none fun s11=>
 R (.string s11) h_2
 else
 R (.string s0) h_2):CallsH P ZlX #[.string s0,.string s1] h R:=zv ⟨[],[],[]⟩ Tryz.func151 hv
theorem Zyk {s0 s1:ByteArray} (hv:
 zS ZlX #[.string s0,.string s1] h fun s7 h_2=>
 R (.string s7) h_2):CallsH P ZjI #[.string s0,.string s1] h R:=zv ⟨[],[],[]⟩ Tryz.func80 hv
theorem ZxL {x0:Int} (hv:
 zS Zpy #[zi x0,zi 10] h fun s4 h_2=>
 R (.string s4) h_2):CallsH P ZdW #[zi x0] h R:=zv ⟨[],[],[]⟩ Tryz.func82 hv
theorem ZxZ {s0:ByteArray} (hv:
 zS ZjI #[.string s0,.string ⟨#[45]⟩] h fun s8 h_2=>
 ∃ J:Heap→Prop,(
 bif decide (((s8.size:Int):Int)<1) then
 R (.tuple #[zi 0,.bool false]) h_2
 else
 bif decide (((s8.size:Int):Int)>18) then
 R (.tuple #[zi 0,.bool false]) h_2
 else
 J h_2
 )∧∀ (_:Env) (h_3:Heap),J h_3 →
 CallsH P ZuE #[.string s0,zi 10,zi 64] h_3 fun r19 h_4=>∃ x19_0,∃ (v19_1:Value),r19=.tuple #[zi x19_0,v19_1] ∧
 vNilI true v19_1 fun b23=>
 bif b23 then
 R (.tuple #[zi 0,.bool false]) h_4
 else
 zS ZdW #[zi x19_0] h_4 fun s26 h_5=>
 bif !(s26.toList==s0.toList) then
 R (.tuple #[zi 0,.bool false]) h_5
 else
 R (.tuple #[zi x19_0,.bool true]) h_5):CallsH P Zg1 #[.string s0] h R:=zv ⟨[],[(4,[])],[]⟩ Tryz.func34 hv
theorem ZtD {x0 x1 x2:Int} (hv:
 bif decide (x0≥x1) then
 R (.bool (decide (x0≤x2))) h
 else
 R (.bool false) h):CallsH P Z9 #[zi x0,zi x1,zi x2] h R:=zv ⟨[],[],[]⟩ Tryz.func118 hv
theorem ZtS {s0 s1:ByteArray} (hv:
 bif decide (((s0.size:Int):Int)≥(s1.size:Int)) then
 vSliceStr s0 (some (zi (zw ((s0.size:Int)-(s1.size:Int))))) none fun s17=>
 R (.bool (s17.toList==s1.toList)) h
 else
 R (.bool false) h):CallsH P Zjj #[.string s0,.string s1] h R:=zv ⟨[],[],[]⟩ Tryz.func205 hv
theorem Zsl {s0 s1:ByteArray} (hv:
 zB Zjj #[.string s0,.string s1] h fun b7 h_2=>
 R (.bool b7) h_2):CallsH P ZlN #[.string s0,.string s1] h R:=zv ⟨[],[],[]⟩ Tryz.func127 hv
theorem ZyN {s0 s1:ByteArray} (hv:
 zB Zjj #[.string s0,.string s1] h fun b7 h_2=>
 bif b7 then
 vSliceStr s0 none (some (zi (zw ((s0.size:Int)-(s1.size:Int))))) fun s14=>
 R (.string s14) h_2
 else
 R (.string s0) h_2):CallsH P ZmK #[.string s0,.string s1] h R:=zv ⟨[],[],[]⟩ Tryz.func206 hv
theorem Zu5 {s0 s1:ByteArray} (hv:
 zS ZmK #[.string s0,.string s1] h fun s7 h_2=>
 R (.string s7) h_2):CallsH P Zln #[.string s0,.string s1] h R:=zv ⟨[],[],[]⟩ Tryz.func128 hv
theorem ZrZ {v0:Value} (hv:
 vLen v0 fun n4=>
 R (zi (n4:Int)) h):CallsH P ZiO #[v0] h R:=zv ⟨[],[],[]⟩ Tryz.func129 hv
theorem ZA4 {s0:ByteArray} (hv:
 zB ZlN #[.string s0,.string ⟨#[10]⟩] h fun b8 h_2=>
 bif !b8 then
 R (.tuple #[(.slice none 0 0),zi 11]) h_2
 else
 zS Zln #[.string s0,.string ⟨#[10]⟩] h_2 fun s11 h_3=>
 zV Zhs #[.string s11,.string ⟨#[10]⟩] h_3 fun v12 h_4=>
 vIdx v12 0 1 fun p15=>
 ldS h_4 p15 fun s16=>
 zS ZjI #[.string s16,.string ⟨#[99,97,116,97,108,111,103,32]⟩] h_4 fun s17 h_5=>
 CallsH P Zg1 #[.string s17] h_5 fun r18 h_6=>∃ x18_0,∃ (b18_1:Bool),r18=.tuple #[zi x18_0,.bool b18_1] ∧
 ∃ J:Bool→Heap→Prop,(
 ∃ B:Nat→Prop,
 bif !b18_1 then
 J true h_6
 else
 zB Z9 #[zi x18_0,zi 0,zi 24] h_6 fun b26 h_7=>
 ExtBut B h_6 h_7 ∧
 bif !b26 then
 J true h_7
 else
 zS ZdW #[zi x18_0] h_7 fun s34 h_8=>
 ExtBut B h_6 h_8 ∧
 vIdx v12 0 1 fun p31=>
 ldS (hmask B h_6) p31 fun s32=>
 (((⟨#[99,97,116,97,108,111,103,32]⟩:ByteArray).size+(s34:ByteArray).size:Nat):Int)≤IntKind.i64.max ∧
 J (!(s32.toList==((⟨#[99,97,116,97,108,111,103,32]⟩:ByteArray)++(s34:ByteArray)).toList)) h_8
 )∧∀ (_:Env) (b21:Bool) (h_9:Heap),J b21 h_9 →
 bif b21 then
 R (.tuple #[(.slice none 0 0),zi 9]) h_9
 else
 zI ZiO #[v12] h_9 fun x40 h_10=>
 bif decide ((zw (x40-1):Int)<x18_0) then
 R (.tuple #[(.slice none 0 0),zi 11]) h_10
 else
 zI ZiO #[v12] h_10 fun x46 h_11=>
 bif decide ((zw (x46-1):Int)>x18_0) then
 R (.tuple #[(.slice none 0 0),zi 9]) h_11
 else
 vSliceS v12 1 (some (zi 1)) none none fun v51=>
 R (.tuple #[v51,zi 0]) h_11):CallsH P Zks #[.string s0] h R:=zv ⟨[],[(6,[(21,.b)])],[]⟩ Tryz.func62 hv
theorem Zt2 {v0:Value} {s1:ByteArray} (hv:
 vLen v0 fun n7=>
 lq1 (0:Int) h fun J n x8 h_2=>
 bif decide (x8<(n7:Int)) then
 vIdx v0 x8 1 fun p14=>
 ldS h_2 p14 fun s15=>
 bif s1.toList==s15.toList then
 R (zi x8) h_2
 else
 ag1 J n (zw (x8+1)) h_2
 else
 R (zi (-1)) h_2):CallsH P Znp #[v0,.string s1] h R:=zv ⟨[(2,[(8,.i .i64)])],[],[]⟩ Tryz.func78 hv
theorem ZzY (hv:
 vNewS h (.cells #[.string ⟨#[115,113,117,97,114,101]⟩,.string ⟨#[100,101,115,105,103,110]⟩,.string ⟨#[104,97,100,97,109,97,114,100]⟩,.string ⟨#[97,114,114,97,121]⟩,.string ⟨#[99,111,100,101]⟩,.string ⟨#[103,114,97,112,104]⟩,.string ⟨#[103,114,111,117,112]⟩] ZaT) 7 fun v1 h_2=>
 R v1 h_2):CallsH P Zip #[] h R:=zv ⟨[],[],[]⟩ Tryz.func79 hv
theorem ZxK {s0:ByteArray} (hv:
 zV Zip #[] h fun v5 h_2=>
 zI Znp #[v5,.string s0] h_2 fun x7 h_3=>
 R (.tuple #[zi (zw (x7+1)),.bool (decide (x7≥0))]) h_3):CallsH P ZlD #[.string s0] h R:=zv ⟨[],[],[]⟩ Tryz.func33 hv
theorem ZwM {v0:Value} {g1:Nat} {cap1:List Value} (hv:
 vLen v0 fun n7=>
 lq1 (0:Int) h fun J n x8 h_2=>
 bif decide (x8<(n7:Int)) then
 vIdx v0 x8 1 fun p14=>
 ldI .i64 h_2 p14 fun x15=>
 vOkf ctx g1 fun _=>
 CallsH P g1 (([zi x15]:List Value)++cap1).toArray h_2 fun r16 h_3=>∃ (b16:Bool),r16=.bool b16 ∧
 bif b16 then
 R (zi x8) h_3
 else
 ag1 J n (zw (x8+1)) h_3
 else
 R (zi (-1)) h_2):CallsH P Zla #[v0,.func (.func g1) #[] cap1.toArray] h R:=zv ⟨[(2,[(8,.i .i64)])],[],[]⟩ Tryz.func233 hv
theorem Zws {v0:Value} {g1:Nat} {cap1:List Value} (hv:
 zI Zla #[v0,.func (.func g1) #[] cap1.toArray] h fun x7 h_2=>
 R (.bool (decide (x7≥0))) h_2):CallsH P ZcB #[v0,.func (.func g1) #[] cap1.toArray] h R:=zv ⟨[],[],[]⟩ Tryz.func155 hv
theorem Zw5 {x0:Int} (hv:
 zB Z9 #[zi x0,zi (-999999999),zi 999999999] h fun b4 h_2=>
 R (.bool (!b4)) h_2):CallsH P Zmk #[zi x0] h R:=zv ⟨[],[],[]⟩ Tryz.func156 hv
theorem Zyo {v0:Value} (hv:
 ∃ J:Heap→Prop,(
 vLen v0 fun n7=>
 bif decide ((n7:Int)>100) then
 R (.string ⟨#[]⟩) h
 else
 zB ZcB #[v0,.func (.func Zmk) #[] #[]] h fun b11 h_2=>
 bif b11 then
 R (.string ⟨#[]⟩) h_2
 else
 J h_2
 )∧∀ (_:Env) (h_3:Heap),J h_3 →
 vLen v0 fun n14=>
 bif (n14:Int)==0 then
 R (.string ⟨#[45]⟩) h_3
 else
 vLen v0 fun n17=>
 lq2 ((.slice none 0 0):Value) (0:Int) h_3 fun J_2 n v3 x18 h_4=>
 bif decide (x18<(n17:Int)) then
 vIdx v0 x18 1 fun p20=>
 ldI .i64 h_4 p20 fun x21=>
 zS ZdW #[zi x21] h_4 fun s24 h_5=>
 vNewS h_5 (.cells #[.string s24] ZaT) 1 fun v25 h_6=>
 vAppend 1 16 [.string ⟨#[]⟩] ZaT v3 v25 h_6 fun v26 h_7=>
 ag2 J_2 n v26 (zw (x18+1)) h_7
 else
 zS Zoh #[v3,.string ⟨#[44]⟩] h_4 fun s29 h_8=>
 R (.string s29) h_8):CallsH P ZiW #[v0] h R:=zv ⟨[(7,[(3,.v),(18,.i .i64)])],[(3,[])],[]⟩ Tryz.func83 hv
theorem Zss {s0:ByteArray} (hv:
 bif s0.toList==(⟨#[45]⟩:ByteArray).toList then
 R (.tuple #[(.slice none 0 0),.bool true]) h
 else
 zV Zhs #[.string s0,.string ⟨#[44]⟩] h fun v12 h_2=>
 vLen v12 fun n13=>
 lq2 ((.slice none 0 0):Value) (0:Int) h_2 fun J n v4 x14 h_3=>
 bif decide (x14<(n13:Int)) then
 vIdx v12 x14 1 fun p16=>
 ldS h_3 p16 fun s17=>
 CallsH P Zg1 #[.string s17] h_3 fun r20 h_4=>∃ x20_0,∃ (b20_1:Bool),r20=.tuple #[zi x20_0,.bool b20_1] ∧
 vNewS h_4 (.cells #[zi x20_0] Zh) 1 fun v25 h_5=>
 vAppend 1 8 [zi 0] Zh v4 v25 h_5 fun v26 h_6=>
 ag2 J n v26 (zw (x14+1)) h_6
 else
 zS ZiW #[v4] h_3 fun s29 h_7=>
 bif !(s29.toList==s0.toList) then
 R (.tuple #[(.slice none 0 0),.bool false]) h_7
 else
 R (.tuple #[v4,.bool true]) h_7):CallsH P Zmm #[.string s0] h R:=zv ⟨[(5,[(4,.v),(14,.i .i64)])],[],[]⟩ Tryz.func35 hv
theorem Zwz {v0:Value} (hv:
 vLen v0 fun n4=>
 R (zi (n4:Int)) h):CallsH P ZcJ #[v0] h R:=zv ⟨[],[],[]⟩ Tryz.func44 hv
theorem Zzk {v0:Value} (hv:
 vNilS false v0 fun b4=>
 bif b4 then
 R (.slice none 0 0) h
 else
 vNewS h (.cells #[] Zh) 0 fun v5 h_2=>
 vAppend 1 8 [zi 0] Zh v5 v0 h_2 fun v7 h_3=>
 R v7 h_3):CallsH P ZhS #[v0] h R:=zv ⟨[],[],[]⟩ Tryz.func188 hv
theorem Ztp {v0:Value} (hv:
 vLen v0 fun n7=>
 lq2 ((.slice none 0 0):Value) (0:Int) h fun J n v3 x8 h_2=>
 bif decide (x8<(n7:Int)) then
 vIdx v0 x8 1 fun p10=>
 ldV h_2 p10 fun v11=>
 zV ZhS #[v11] h_2 fun v14 h_3=>
 vOne v14 fun _=>
 vNewS h_3 (.cells #[v14] Zg) 1 fun v15 h_4=>
 vAppend 1 24 [.slice none 0 0] Zg v3 v15 h_4 fun v16 h_5=>
 ag2 J n v16 (zw (x8+1)) h_5
 else
 R v3 h_2):CallsH P Zcy #[v0] h R:=zv ⟨[(3,[(3,.v),(8,.i .i64)])],[],[]⟩ Tryz.func107 hv
theorem Zwi {v0:Value} (hv:
 vLen v0 fun n4=>
 R (zi (n4:Int)) h):CallsH P ZaJ #[v0] h R:=zv ⟨[],[],[]⟩ Tryz.func108 hv
theorem ZAR {x0_0 x0_1:Int} {v0_2:Value} (hv:
 vNew h (.cells #[zi x0_0,zi x0_1,v0_2] Zas) fun p1 h_2=>
 vNew h_2 (.cells #[zi 0,zi 0,.slice none 0 0] Zc3) fun p2 h_3=>
 ∃ B:Nat→Prop,
 (
 ldV (hmask B h_3) (p1.add 2) fun v7=>
 zV Zcy #[v7] h_3 fun v8 h_4=>
 ExtBut B h_3 h_4 ∧
 vNew h_4 (.cells #[zi 0,zi 0,.slice none 0 0] Zc3) fun p3 h_5=>
 ExtBut B h_3 h_5 ∧
 ldI .i64 (hmask B h_3) (p1.add 1) fun x5=>
 vOne v8 fun _=>
 vStore1 h_5 p3 (zi x5) fun h_6=>
 vStore1 h_6 (p3.add 1) (zi 0) fun h_7=>
 vStore1 h_7 (p3.add 2) v8 fun h_8=>
 ldV h_8 (p1.add 2) fun v11=>
 vLen v11 fun n12=>
 bif decide ((n12:Int)>0) then
 ldV h_8 (p1.add 2) fun v15=>
 vIdx v15 0 1 fun p16=>
 ldV h_8 p16 fun v17=>
 zI ZaJ #[v17] h_8 fun x18 h_9=>
 vStore1 h_9 (p3.add 1) (zi x18) fun h_10=>
 ldI .i64 h_10 p3 fun x20_0=>
 ldI .i64 h_10 (p3.add 1) fun x20_1=>
 ldV h_10 (p3.add 2) fun v20_2=>
 vStore1 h_10 p2 (zi x20_0) fun h_11=>
 vStore1 h_11 (p2.add 1) (zi x20_1) fun h_12=>
 vStore1 h_12 (p2.add 2) v20_2 fun h_13=>
 ldI .i64 h_13 p2 fun xres0_0=>
 ldI .i64 h_13 (p2.add 1) fun xres0_1=>
 ldV h_13 (p2.add 2) fun vres0_2=>
 R (.agg #[zi xres0_0,zi xres0_1,vres0_2]) h_13
 else
 ldI .i64 h_8 p3 fun x20_0_2=>
 ldI .i64 h_8 (p3.add 1) fun x20_1_2=>
 ldV h_8 (p3.add 2) fun v20_2_2=>
 vStore1 h_8 p2 (zi x20_0_2) fun h_14=>
 vStore1 h_14 (p2.add 1) (zi x20_1_2) fun h_15=>
 vStore1 h_15 (p2.add 2) v20_2_2 fun h_16=>
 ldI .i64 h_16 p2 fun xres0_0_2=>
 ldI .i64 h_16 (p2.add 1) fun xres0_1_2=>
 ldV h_16 (p2.add 2) fun vres0_2_2=>
 R (.agg #[zi xres0_0_2,zi xres0_1_2,vres0_2_2]) h_16
 ) ∧
 (
 vNew h_3 (.cells #[zi 0,zi 0,.slice none 0 0] Zc3) fun p3_2 h_17=>
 ExtBut B h_3 h_17 ∧
 ldV (hmask B h_3) (p1.add 2) fun v7_2=>
 zV Zcy #[v7_2] h_17 fun v8_2 h_18=>
 ExtBut B h_3 h_18 ∧
 ldI .i64 (hmask B h_3) (p1.add 1) fun x5_2=>
 vOne v8_2 fun _=>
 vStore1 h_18 p3_2 (zi x5_2) fun h_19=>
 vStore1 h_19 (p3_2.add 1) (zi 0) fun h_20=>
 vStore1 h_20 (p3_2.add 2) v8_2 fun h_21=>
 ldV h_21 (p1.add 2) fun v11_2=>
 vLen v11_2 fun n12_2=>
 bif decide ((n12_2:Int)>0) then
 ldV h_21 (p1.add 2) fun v15_2=>
 vIdx v15_2 0 1 fun p16_2=>
 ldV h_21 p16_2 fun v17_2=>
 zI ZaJ #[v17_2] h_21 fun x18_2 h_22=>
 vStore1 h_22 (p3_2.add 1) (zi x18_2) fun h_23=>
 ldI .i64 h_23 p3_2 fun x20_0_3=>
 ldI .i64 h_23 (p3_2.add 1) fun x20_1_3=>
 ldV h_23 (p3_2.add 2) fun v20_2_3=>
 vStore1 h_23 p2 (zi x20_0_3) fun h_24=>
 vStore1 h_24 (p2.add 1) (zi x20_1_3) fun h_25=>
 vStore1 h_25 (p2.add 2) v20_2_3 fun h_26=>
 ldI .i64 h_26 p2 fun xres0_0_3=>
 ldI .i64 h_26 (p2.add 1) fun xres0_1_3=>
 ldV h_26 (p2.add 2) fun vres0_2_3=>
 R (.agg #[zi xres0_0_3,zi xres0_1_3,vres0_2_3]) h_26
 else
 ldI .i64 h_21 p3_2 fun x20_0_4=>
 ldI .i64 h_21 (p3_2.add 1) fun x20_1_4=>
 ldV h_21 (p3_2.add 2) fun v20_2_4=>
 vStore1 h_21 p2 (zi x20_0_4) fun h_27=>
 vStore1 h_27 (p2.add 1) (zi x20_1_4) fun h_28=>
 vStore1 h_28 (p2.add 2) v20_2_4 fun h_29=>
 ldI .i64 h_29 p2 fun xres0_0_4=>
 ldI .i64 h_29 (p2.add 1) fun xres0_1_4=>
 ldV h_29 (p2.add 2) fun vres0_2_4=>
 R (.agg #[zi xres0_0_4,zi xres0_1_4,vres0_2_4]) h_29
 )):CallsH P Zn3 #[.agg #[zi x0_0,zi x0_1,v0_2]] h R:=zv ⟨[],[],[]⟩ Tryz.func49 hv
theorem ZtK {v0:Value} {g1:Nat} {cap1:List Value} (hv:
 vLen v0 fun n7=>
 lq1 (0:Int) h fun J n x8 h_2=>
 bif decide (x8<(n7:Int)) then
 vIdx v0 x8 1 fun p14=>
 ldV h_2 p14 fun v15=>
 vOkf ctx g1 fun _=>
 CallsH P g1 (([v15]:List Value)++cap1).toArray h_2 fun r16 h_3=>∃ (b16:Bool),r16=.bool b16 ∧
 bif b16 then
 R (zi x8) h_3
 else
 ag1 J n (zw (x8+1)) h_3
 else
 R (zi (-1)) h_2):CallsH P ZjQ #[v0,.func (.func g1) #[] cap1.toArray] h R:=zv ⟨[(2,[(8,.i .i64)])],[],[]⟩ Tryz.func245 hv
theorem ZsL {v0:Value} {g1:Nat} {cap1:List Value} (hv:
 zI ZjQ #[v0,.func (.func g1) #[] cap1.toArray] h fun x7 h_2=>
 R (.bool (decide (x7≥0))) h_2):CallsH P ZgY #[v0,.func (.func g1) #[] cap1.toArray] h R:=zv ⟨[],[],[]⟩ Tryz.func234 hv
theorem Zz4 {v0:Value} (hv:
 zV ZhS #[v0] h fun v7 h_2=>
 CallsH P ZpR #[v7] h_2 fun r9 h_3=>r9=.tuple #[] ∧
 vLen v7 fun n11=>
 lq1 (0:Int) h_3 fun J n x12 h_4=>
 bif decide (x12<(n11:Int)) then
 vIdx v7 x12 1 fun p15=>
 ldI .i64 h_4 p15 fun x16=>
 bif x16 !=x12 then
 R (.bool false) h_4
 else
 ag1 J n (zw (x12+1)) h_4
 else
 vLen v0 fun n22=>
 R (.bool (decide ((n22:Int)≤32))) h_4):CallsH P Zjw #[v0] h R:=zv ⟨[(4,[(12,.i .i64)])],[],[]⟩ Tryz.func158 hv
theorem Zt4 {v0:Value} {p1:Addr} (hv:
 ∃ B:Nat→Prop,
 zI ZaJ #[v0] h fun x5 h_2=>
 ExtBut B h h_2 ∧
 ldI .i64 (hmask B h) p1 fun x6=>
 bif x5 !=x6 then
 R (.bool true) h_2
 else
 zB Zjw #[v0] h_2 fun b10 h_3=>
 R (.bool (!b10)) h_3):CallsH P Zme #[v0,.pointer (some p1)] h R:=zv ⟨[],[],[]⟩ Tryz.func235 hv
theorem ZAH {x0:Int} {v1:Value} (hv:
 vNew h (.cells #[zi x0] Zh) fun p2 h_2=>
 zB ZgY #[v1,.func (.func Zme) #[] #[.pointer (some p2)]] h_2 fun b7 h_3=>
 R (.bool (!b7)) h_3):CallsH P Zjc #[zi x0,v1] h R:=zv ⟨[],[],[]⟩ Tryz.func157 hv
end Go.Proofs.YtmmbnjijjdakmaaGreatDoor
