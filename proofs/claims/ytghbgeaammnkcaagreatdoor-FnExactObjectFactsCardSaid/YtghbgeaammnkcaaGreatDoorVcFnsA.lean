import Derived.Test.YtghbgeaammnkcaaGreatDoorVcSoundE
import Derived.Test.YtghbgeaammnkcaaGreatDoorVcDn
import Derived.Test.YtghbgeaammnkcaaGreatDoorPuBase
import Derived.Test.YtghbgeaammnkcaaGreatDoorProg
import Derived.KernelRfl
namespace Go.Proofs.YtghbgeaammnkcaaGreatDoor
set_option linter.unusedSimpArgs false
open Go Go.Vc Go.Proofs
set_option linter.unusedVariables false
set_option maxRecDepth 100000
noncomputable abbrev P:Program:=Tryz.prog
abbrev zw (x:Int):Int:=IntKind.i64.wrap x
abbrev zi (x:Int):Value:=.int .i64 x
abbrev zB (f:FuncId) (a:Array Value) (h:Heap) (K:Bool→Heap→Prop):Prop:=CallsH P f a h fun r h'=>∃ b,r=.bool b∧K b h'
abbrev zI (f:FuncId) (a:Array Value) (h:Heap) (K:Int→Heap→Prop):Prop:=CallsH P f a h fun r h'=>∃ x,r=.int .i64 x∧K x h'
abbrev zV (f:FuncId) (a:Array Value) (h:Heap) (K:Value→Heap→Prop):Prop:=CallsH P f a h fun r h'=>∃ v,r=v∧K v h'
abbrev zS (f:FuncId) (a:Array Value) (h:Heap) (K:ByteArray→Heap→Prop):Prop:=CallsH P f a h fun r h'=>∃ s,r=.string s∧K s h'
abbrev ZnZ:Nat:=38
abbrev Znz:Nat:=16
abbrev Zod:Nat:=5
abbrev Zai:Nat:=32
abbrev Zhr:Nat:=144
abbrev ZiE:Nat:=91
abbrev ZhB:Nat:=39
abbrev ZjB:Nat:=153
abbrev Znb:Nat:=92
abbrev Zjt:Nat:=93
abbrev ZpD:Nat:=40
abbrev Zns:Nat:=94
abbrev ZlT:Nat:=41
abbrev ZlF:Nat:=42
abbrev Zmu:Nat:=95
abbrev Zln:Nat:=43
abbrev Zh1:Nat:=96
abbrev Zc2:Nat:=154
abbrev Zit:Nat:=158
abbrev Zh4:Nat:=165
abbrev ZjY:Nat:=226
abbrev Ziv:Nat:=227
abbrev Zk3:Nat:=155
abbrev ZnN:Nat:=97
abbrev ZjU:Nat:=44
abbrev Zot:Nat:=156
abbrev ZhE:Nat:=100
abbrev ZmN:Nat:=157
abbrev Zp1:Nat:=98
abbrev Zqj:Nat:=99
abbrev ZnQ:Nat:=159
abbrev Zkk:Nat:=101
abbrev Zi8:Nat:=268
abbrev Zkr:Nat:=216
abbrev Zml:Nat:=228
abbrev ZnV:Nat:=229
abbrev ZkI:Nat:=269
abbrev Zp2:Nat:=230
abbrev Zon:Nat:=160
abbrev Zoh:Nat:=102
abbrev Zj0:Nat:=45
abbrev Znx:Nat:=161
abbrev Zo2:Nat:=162
abbrev Zm8:Nat:=103
abbrev Zmr:Nat:=46
abbrev Zlx:Nat:=164
abbrev ZpJ:Nat:=231
abbrev Zpc:Nat:=232
abbrev ZmQ:Nat:=233
abbrev ZkV:Nat:=163
abbrev Zm3:Nat:=104
abbrev ZmU:Nat:=47
abbrev Zn6:Nat:=17
abbrev Zah:Nat:=51
abbrev ZnW:Nat:=234
abbrev Zpm:Nat:=283
abbrev Zkc:Nat:=235
abbrev Zn9:Nat:=236
abbrev ZgZ:Nat:=237
abbrev Zmg:Nat:=166
abbrev Zn5:Nat:=105
abbrev Zqo:Nat:=167
abbrev Zqd:Nat:=106
abbrev ZpE:Nat:=168
abbrev ZqI:Nat:=107
abbrev ZnT:Nat:=48
abbrev ZmR:Nat:=169
abbrev Zp3:Nat:=170
abbrev Zos:Nat:=108
abbrev ZoJ:Nat:=49
abbrev Znc:Nat:=50
abbrev ZnK:Nat:=171
abbrev ZkD:Nat:=172
abbrev Zmm:Nat:=173
abbrev Zqs:Nat:=109
abbrev ZoQ:Nat:=52
abbrev Zpt:Nat:=217
abbrev ZpL:Nat:=145
abbrev ZmJ:Nat:=174
abbrev ZjX:Nat:=112
abbrev Znh:Nat:=110
abbrev Zmz:Nat:=111
abbrev Zmo:Nat:=53
abbrev ZnX:Nat:=18
abbrev Zmc:Nat:=6
abbrev ZmD:Nat:=54
abbrev ZnE:Nat:=19
abbrev Zgb:Nat:=7
abbrev Zaz:Nat:=21
abbrev Zfp:Nat:=135
abbrev ZcR:Nat:=70
abbrev ZaA:Nat:=71
abbrev Zk9:Nat:=26
abbrev Zap:Nat:=84
abbrev Zg5:Nat:=187
abbrev ZgP:Nat:=175
abbrev Zse:Nat:=177
abbrev Zlk:Nat:=114
abbrev Zoy:Nat:=176
abbrev ZkA:Nat:=113
abbrev Zlz:Nat:=55
abbrev ZlZ:Nat:=210
abbrev Zp7:Nat:=179
abbrev ZqE:Nat:=178
abbrev Zoi:Nat:=115
abbrev ZpV:Nat:=116
abbrev ZcY:Nat:=240
abbrev ZcS:Nat:=180
abbrev ZcQ:Nat:=117
abbrev Zop:Nat:=56
abbrev Zkn:Nat:=57
abbrev Zpq:Nat:=181
abbrev Zc7:Nat:=118
abbrev Zoc:Nat:=119
abbrev Zj7:Nat:=58
abbrev Zqk:Nat:=120
abbrev ZmF:Nat:=121
abbrev Zlh:Nat:=59
abbrev Zb9:Nat:=123
abbrev Zhc:Nat:=124
abbrev ZbI:Nat:=194
abbrev ZkM:Nat:=244
abbrev Zm9:Nat:=295
abbrev Zpb:Nat:=246
abbrev ZlE:Nat:=193
abbrev ZkX:Nat:=245
abbrev Zo4:Nat:=241
abbrev Znf:Nat:=182
abbrev Zpl:Nat:=242
abbrev Zp4:Nat:=184
abbrev Znk:Nat:=183
abbrev Zmb:Nat:=122
abbrev Zlg:Nat:=243
abbrev Zlv:Nat:=185
abbrev Zm6:Nat:=186
abbrev Zk6:Nat:=125
abbrev Zps:Nat:=188
abbrev Ziu:Nat:=189
abbrev Zqf:Nat:=126
abbrev Zne:Nat:=190
abbrev Zki:Nat:=191
abbrev Zo3:Nat:=127
abbrev Zku:Nat:=60
abbrev ZpN:Nat:=192
abbrev ZpK:Nat:=128
abbrev Zj1:Nat:=61
abbrev ZqF:Nat:=247
abbrev ZnA:Nat:=195
abbrev Zph:Nat:=249
abbrev Zmt:Nat:=248
abbrev Zp6:Nat:=196
abbrev Zn8:Nat:=129
abbrev Znq:Nat:=62
abbrev ZgT:Nat:=136
abbrev ZjS:Nat:=250
abbrev Zl7:Nat:=251
abbrev Zt5:Nat:=252
abbrev Zla:Nat:=197
abbrev Znd:Nat:=198
abbrev ZpO:Nat:=130
abbrev ZoI:Nat:=63
abbrev Zp0:Nat:=64
abbrev Zmj:Nat:=20
abbrev Zsz:Nat:=134
abbrev Zj8:Nat:=69
abbrev Zak:Nat:=25
abbrev ZcT:Nat:=199
abbrev ZqM:Nat:=200
abbrev Zmi:Nat:=201
abbrev ZoN:Nat:=254
abbrev ZmP:Nat:=253
abbrev Zhe:Nat:=202
abbrev ZpP:Nat:=203
abbrev ZqA:Nat:=255
abbrev Zoa:Nat:=204
abbrev Zmn:Nat:=256
abbrev Zpd:Nat:=205
abbrev Zm2:Nat:=258
abbrev Zo0:Nat:=257
abbrev Zpw:Nat:=206
abbrev Zn0:Nat:=207
abbrev ZcF:Nat:=131
abbrev ZoC:Nat:=65
abbrev Zqb:Nat:=66
abbrev Zpp:Nat:=67
abbrev Zqp:Nat:=22
abbrev Zn4:Nat:=259
abbrev ZoL:Nat:=260
abbrev Zp8:Nat:=208
abbrev Zom:Nat:=132
abbrev Zmf:Nat:=133
abbrev ZpC:Nat:=68
abbrev Zpr:Nat:=23
abbrev ZqO:Nat:=24
abbrev ZkZ:Nat:=137
abbrev Znj:Nat:=138
abbrev Znw:Nat:=72
abbrev Zqy:Nat:=27
abbrev ZlH:Nat:=74
abbrev ZoW:Nat:=214
abbrev ZqP:Nat:=267
abbrev ZpM:Nat:=215
abbrev ZnC:Nat:=141
abbrev Zm4:Nat:=142
abbrev ZkL:Nat:=76
abbrev ZqG:Nat:=73
abbrev ZoZ:Nat:=139
abbrev Zth:Nat:=140
abbrev Zmy:Nat:=75
abbrev Zok:Nat:=28
abbrev ZlA:Nat:=8
abbrev Zii:Nat:=9
abbrev Zpx:Nat:=77
abbrev ZmB:Nat:=29
abbrev ZnY:Nat:=10
abbrev ZnL:Nat:=78
abbrev ZqJ:Nat:=30
abbrev Zqr:Nat:=11
abbrev Zke:Nat:=31
abbrev Zpn:Nat:=12
abbrev ZkR:Nat:=13
abbrev Zpv:Nat:=3
abbrev Zg:Nat:=2
abbrev t_int:Nat:=3
abbrev Zjc:Nat:=5
abbrev ZV:Nat:=9
abbrev ZfG:Nat:=22
abbrev Zow:Nat:=24
abbrev ZaC:Nat:=29
abbrev Zf:Nat:=46
abbrev ZaW:Nat:=52
abbrev Zdl:Nat:=60
abbrev Zed:Nat:=71
abbrev Zcn:Nat:=76
abbrev Zbz:Nat:=78
abbrev Zpf:Nat:=87
abbrev ZjZ:Nat:=104
abbrev ZAo:Nat:=131
abbrev ZbE:Nat:=140
abbrev Zgc:Nat:=159
def tab:List (Nat×TE):=[(2,⟨.int .i64,[.i .i64],[.int .i64 0],8⟩),
 (3,⟨.int .i64,[.i .i64],[.int .i64 0],8⟩),
 (4,⟨.bool,[.b],[.bool false],1⟩),
 (5,⟨.int .u8,[.i .u8],[.int .u8 0],1⟩),
 (9,⟨.str,[.s],[.string ⟨#[]⟩],16⟩),
 (22,⟨.slice 46,[.v],[.slice none 0 0],24⟩),
 (24,⟨.struct [(0,1,false),(1,1,false),(2,1,false)],[.i .i64,.i .i64,.v],[.int .i64 0,.int .i64 0,.slice none 0 0],40⟩),
 (26,⟨.slice 9,[.v],[.slice none 0 0],24⟩),
 (29,⟨.struct [(0,1,false),(1,1,false),(2,1,false)],[.i .i64,.i .i64,.v],[.int .i64 0,.int .i64 0,.slice none 0 0],40⟩),
 (46,⟨.slice 2,[.v],[.slice none 0 0],24⟩),
 (52,⟨.struct [(0,1,false),(1,1,false),(2,1,false)],[.i .i64,.i .i64,.v],[.int .i64 0,.int .i64 0,.slice none 0 0],40⟩),
 (58,⟨.slice 140,[.v],[.slice none 0 0],24⟩),
 (60,⟨.struct [(0,1,false),(1,1,false)],[.v,.v],[.slice none 0 0,.slice none 0 0],48⟩),
 (71,⟨.struct [(0,1,false),(1,1,false)],[.i .i64,.v],[.int .i64 0,.slice none 0 0],32⟩),
 (76,⟨.struct [(0,1,false),(1,1,false),(2,1,false)],[.i .i64,.i .i64,.v],[.int .i64 0,.int .i64 0,.slice none 0 0],40⟩),
 (78,⟨.struct [(0,3,true),(3,1,false)],[.i .i64,.i .i64,.v,.v],[.int .i64 0,.int .i64 0,.slice none 0 0,.slice none 0 0],64⟩),
 (87,⟨.struct [(0,1,false),(1,1,false)],[.i .i64,.v],[.int .i64 0,.slice none 0 0],32⟩),
 (104,⟨.struct [(0,1,false),(1,1,false),(2,1,false),(3,1,false),(4,1,false)],[.i .i64,.i .i64,.i .i64,.i .i64,.i .i64],[.int .i64 0,.int .i64 0,.int .i64 0,.int .i64 0,.int .i64 0],40⟩),
 (114,⟨.slice 5,[.v],[.slice none 0 0],24⟩),
 (131,⟨.oth,[.v],[.nilFunc],8⟩),
 (140,⟨.struct [(0,1,false),(1,1,false)],[.i .i64,.i .i64],[.int .i64 0,.int .i64 0],16⟩),
 (159,⟨.struct [(0,1,false),(1,1,false),(2,1,false),(3,1,false),(4,1,false)],[.i .i64,.v,.v,.v,.v],[.int .i64 0,.slice none 0 0,.slice none 0 0,.slice none 0 0,.slice none 0 0],104⟩),
 (240,⟨.int .u64,[.i .u64],[.int .u64 0],8⟩),
 (242,⟨.map 9 4,[.v],[.map none],8⟩),
 (272,⟨.slice 3,[.v],[.slice none 0 0],24⟩)]
def rst:List (Nat×RS):=[(0,⟨true,[]⟩),
 (2,⟨false,[(false,[.i .i64])]⟩),
 (3,⟨false,[(false,[.i .i64])]⟩),
 (4,⟨false,[(false,[.b])]⟩),
 (9,⟨false,[(false,[.s])]⟩),
 (22,⟨false,[(false,[.v])]⟩),
 (26,⟨false,[(false,[.v])]⟩),
 (27,⟨true,[(false,[.v]),(false,[.i .i64])]⟩),
 (29,⟨false,[(true,[.i .i64,.i .i64,.v])]⟩),
 (46,⟨false,[(false,[.v])]⟩),
 (48,⟨true,[(false,[.i .i64]),(false,[.i .i64])]⟩),
 (52,⟨false,[(true,[.i .i64,.i .i64,.v])]⟩),
 (71,⟨false,[(true,[.i .i64,.v])]⟩),
 (76,⟨false,[(true,[.i .i64,.i .i64,.v])]⟩),
 (78,⟨false,[(true,[.i .i64,.i .i64,.v,.v])]⟩),
 (82,⟨true,[(true,[.v,.v]),(false,[.b])]⟩),
 (87,⟨false,[(true,[.i .i64,.v])]⟩),
 (101,⟨true,[(false,[.v]),(false,[.i .i64])]⟩),
 (105,⟨true,[(true,[.i .i64,.i .i64,.i .i64,.i .i64,.i .i64]),(false,[.b])]⟩),
 (142,⟨true,[(false,[.v]),(false,[.b])]⟩),
 (144,⟨true,[(false,[.v]),(false,[.i .i64])]⟩),
 (157,⟨true,[(false,[.v]),(false,[.v]),(false,[.i .i64])]⟩),
 (159,⟨false,[(true,[.i .i64,.v,.v,.v,.v])]⟩),
 (162,⟨true,[(true,[.i .i64,.i .i64,.v]),(false,[.i .i64])]⟩),
 (164,⟨true,[(false,[.v]),(false,[.v]),(false,[.b])]⟩),
 (170,⟨true,[(false,[.v]),(false,[.b])]⟩),
 (191,⟨true,[(false,[.v]),(false,[.v])]⟩),
 (195,⟨true,[(false,[.i .i64]),(false,[.b])]⟩)]
def exs:List Nat:=[301,302,347,348,349,350,351,352,353,354,355,356,357,358,359,360,361,362,363,364,365,366,367,368]
noncomputable def ctx:Ctx:=⟨Tryz.prog,tab,rst,3,370,exs,[],False⟩
theorem te2:TeOk P 2 ⟨.int .i64,[.i .i64],[.int .i64 0],8⟩:=⟨by kernel_rfl,by kernel_rfl,by kernel_rfl,by kernel_rfl⟩
theorem te3:TeOk P 3 ⟨.int .i64,[.i .i64],[.int .i64 0],8⟩:=⟨by kernel_rfl,by kernel_rfl,by kernel_rfl,by kernel_rfl⟩
theorem te4:TeOk P 4 ⟨.bool,[.b],[.bool false],1⟩:=⟨by kernel_rfl,by kernel_rfl,by kernel_rfl,by kernel_rfl⟩
theorem te5:TeOk P 5 ⟨.int .u8,[.i .u8],[.int .u8 0],1⟩:=⟨by kernel_rfl,by kernel_rfl,by kernel_rfl,by kernel_rfl⟩
theorem te9:TeOk P 9 ⟨.str,[.s],[.string ⟨#[]⟩],16⟩:=⟨by kernel_rfl,by kernel_rfl,by kernel_rfl,by kernel_rfl⟩
theorem te22:TeOk P 22 ⟨.slice 46,[.v],[.slice none 0 0],24⟩:=⟨by kernel_rfl,by kernel_rfl,by kernel_rfl,by kernel_rfl⟩
theorem te24:TeOk P 24 ⟨.struct [(0,1,false),(1,1,false),(2,1,false)],[.i .i64,.i .i64,.v],[.int .i64 0,.int .i64 0,.slice none 0 0],40⟩:=⟨by kernel_rfl,by kernel_rfl,by kernel_rfl,by kernel_rfl⟩
theorem te26:TeOk P 26 ⟨.slice 9,[.v],[.slice none 0 0],24⟩:=⟨by kernel_rfl,by kernel_rfl,by kernel_rfl,by kernel_rfl⟩
theorem te29:TeOk P 29 ⟨.struct [(0,1,false),(1,1,false),(2,1,false)],[.i .i64,.i .i64,.v],[.int .i64 0,.int .i64 0,.slice none 0 0],40⟩:=⟨by kernel_rfl,by kernel_rfl,by kernel_rfl,by kernel_rfl⟩
theorem te46:TeOk P 46 ⟨.slice 2,[.v],[.slice none 0 0],24⟩:=⟨by kernel_rfl,by kernel_rfl,by kernel_rfl,by kernel_rfl⟩
theorem te52:TeOk P 52 ⟨.struct [(0,1,false),(1,1,false),(2,1,false)],[.i .i64,.i .i64,.v],[.int .i64 0,.int .i64 0,.slice none 0 0],40⟩:=⟨by kernel_rfl,by kernel_rfl,by kernel_rfl,by kernel_rfl⟩
theorem te58:TeOk P 58 ⟨.slice 140,[.v],[.slice none 0 0],24⟩:=⟨by kernel_rfl,by kernel_rfl,by kernel_rfl,by kernel_rfl⟩
theorem te60:TeOk P 60 ⟨.struct [(0,1,false),(1,1,false)],[.v,.v],[.slice none 0 0,.slice none 0 0],48⟩:=⟨by kernel_rfl,by kernel_rfl,by kernel_rfl,by kernel_rfl⟩
theorem te71:TeOk P 71 ⟨.struct [(0,1,false),(1,1,false)],[.i .i64,.v],[.int .i64 0,.slice none 0 0],32⟩:=⟨by kernel_rfl,by kernel_rfl,by kernel_rfl,by kernel_rfl⟩
theorem te76:TeOk P 76 ⟨.struct [(0,1,false),(1,1,false),(2,1,false)],[.i .i64,.i .i64,.v],[.int .i64 0,.int .i64 0,.slice none 0 0],40⟩:=⟨by kernel_rfl,by kernel_rfl,by kernel_rfl,by kernel_rfl⟩
theorem te78:TeOk P 78 ⟨.struct [(0,3,true),(3,1,false)],[.i .i64,.i .i64,.v,.v],[.int .i64 0,.int .i64 0,.slice none 0 0,.slice none 0 0],64⟩:=⟨by kernel_rfl,by kernel_rfl,by kernel_rfl,by kernel_rfl⟩
theorem te87:TeOk P 87 ⟨.struct [(0,1,false),(1,1,false)],[.i .i64,.v],[.int .i64 0,.slice none 0 0],32⟩:=⟨by kernel_rfl,by kernel_rfl,by kernel_rfl,by kernel_rfl⟩
theorem te104:TeOk P 104 ⟨.struct [(0,1,false),(1,1,false),(2,1,false),(3,1,false),(4,1,false)],[.i .i64,.i .i64,.i .i64,.i .i64,.i .i64],[.int .i64 0,.int .i64 0,.int .i64 0,.int .i64 0,.int .i64 0],40⟩:=⟨by kernel_rfl,by kernel_rfl,by kernel_rfl,by kernel_rfl⟩
theorem te114:TeOk P 114 ⟨.slice 5,[.v],[.slice none 0 0],24⟩:=⟨by kernel_rfl,by kernel_rfl,by kernel_rfl,by kernel_rfl⟩
theorem te131:TeOk P 131 ⟨.oth,[.v],[.nilFunc],8⟩:=⟨by kernel_rfl,by kernel_rfl,by kernel_rfl,by kernel_rfl⟩
theorem te140:TeOk P 140 ⟨.struct [(0,1,false),(1,1,false)],[.i .i64,.i .i64],[.int .i64 0,.int .i64 0],16⟩:=⟨by kernel_rfl,by kernel_rfl,by kernel_rfl,by kernel_rfl⟩
theorem te159:TeOk P 159 ⟨.struct [(0,1,false),(1,1,false),(2,1,false),(3,1,false),(4,1,false)],[.i .i64,.v,.v,.v,.v],[.int .i64 0,.slice none 0 0,.slice none 0 0,.slice none 0 0,.slice none 0 0],104⟩:=⟨by kernel_rfl,by kernel_rfl,by kernel_rfl,by kernel_rfl⟩
theorem te240:TeOk P 240 ⟨.int .u64,[.i .u64],[.int .u64 0],8⟩:=⟨by kernel_rfl,by kernel_rfl,by kernel_rfl,by kernel_rfl⟩
theorem te242:TeOk P 242 ⟨.map 9 4,[.v],[.map none],8⟩:=⟨by kernel_rfl,by kernel_rfl,by kernel_rfl,by kernel_rfl⟩
theorem te272:TeOk P 272 ⟨.slice 3,[.v],[.slice none 0 0],24⟩:=⟨by kernel_rfl,by kernel_rfl,by kernel_rfl,by kernel_rfl⟩
theorem tabOk_all:∀ p∈tab,TeOk P p.1 p.2:=by
 unfold tab
 simp only [List.forall_mem_cons]
 exact ⟨te2,te3,te4,te5,te9,te22,te24,te26,te29,te46,te52,te58,te60,te71,te76,te78,te87,te104,te114,te131,te140,te159,te240,te242,te272,fun p hp=>by cases hp⟩
theorem tab_mem:∀ (l:List (Nat×TE)) (t:Nat) (te:TE),tabGet l t=some te→(t,te)∈l
 | [],t,te,h=>by cases h
 | (k,x)::r,t,te,h=>by
  unfold tabGet at h
  cases a:Nat.beq k t with
  | true=>rw [a] at h;have:=Nat.eq_of_beq_eq_true a;subst this;cases h;exact List.mem_cons_self ..
  | false=>rw [a] at h;exact List.mem_cons_of_mem _ (tab_mem r t te h)
noncomputable def fnB (f:Nat):Bool:=match P.funcs[f]? with|some fn=>fn.body.isSome&&!(fn.name== "runtime.NumGoroutine")|none=>false
theorem fns_all:(List.range' 3 367).all (fun f=>inL exs f||fnB f)=true:=by kernel_rfl
theorem ctxOk:CtxOk ctx where
 tab:=fun t te h=>tabOk_all (t,te) (tab_mem _ t te h)
 fns:=fun f hf=>by
  simp only [Ctx.okf,Bool.and_eq_true,Bool.not_eq_true'] at hf
  have a:3≤f:=Nat.le_of_ble_eq_true hf.1.1
  have c:f<370:=Nat.blt_eq.mp hf.1.2
  have h:=List.all_eq_true.1 fns_all f (List.mem_range'_1.2 ⟨a,by omega⟩)
  have b:inL exs f=false:=hf.2
  simp only [b,Bool.false_or] at h
  unfold fnB at h
  split at h
  ·rename_i fn hfn;simp only [Bool.and_eq_true,Bool.not_eq_true'] at h;exact ⟨fn,hfn,h.1,h.2⟩
  ·cases h
 mixed:=by kernel_rfl
 ovs:=fun f hf=>by cases hf
theorem zv {F:Prop} {f:FuncId} {fn:Func} {args:List Value} {h:Heap} {R:Value→Heap→Prop} (A:Ann) (hf:P.funcs[f]?=some fn) (a:F)
  (b:((match fn.body with|some c=>cOk fn.ntmps c|none=>false)&&Nat.ble args.length fn.ntmps)=true:=by kernel_rfl) (e:vcFn ctx A fn args h R=F:=by kernel_rfl):CallsH P f args.toArray h R:=
 Zj9 ctxOk A hf args h R b (e▸a)
variable {R:Value→Heap→Prop} {h:Heap}
theorem ZA8 {b:Value} {a:Int} (e:
 vLen b fun c=>
 bif decide ((zw (a-(c:Int)):Int)<0) then
 R (zi (-1)) h
 else
 R (zi (zw (a-(c:Int)))) h):CallsH P ZnZ #[b,zi a] h R:=zv ⟨[],[],[]⟩ Tryz.func38 e
theorem ZA2 {c:Value} {g:Int} (o:
 vLen c fun j=>
 bif decide ((zw (g-(j:Int)):Int)<0) then
 R (zi (-1)) h
 else
 lq2 (zw (g-(j:Int))) (0:Int) h fun J n a i b=>
 vLen c fun k=>
 bif decide (i<(k:Int)) then
 vIdx c i 1 fun l=>
 ldV b l fun m=>
 zI ZnZ #[m,zi a] b fun e f=>
 bif decide (e<0) then
 R (zi (-1)) f
 else
 ag2 J n e (zw (i+1)) f
 else
 R (zi a) b):CallsH P Znz #[c,zi g] h R:=zv ⟨[(5,[(1,.i .i64),(5,.i .i64)])],[],[]⟩ Tryz.func16 o
theorem ZzI {a b:Int} {c:Value} {g:Int} (j:
 vNew h (.cells #[zi a,zi b,c] Zow) fun p2 e=>
 ldV e (p2.add 2) fun k=>
 zI Znz #[k,zi g] e fun i f=>
 bif decide (i<0) then
 R (zi (-1)) f
 else
 R (zi i) f):CallsH P Zod #[.agg #[zi a,zi b,c],zi g] h R:=zv ⟨[],[],[]⟩ Tryz.func5 j
theorem Zx7 {a b c:Int} (e:
 bif decide (a≥b) then
 R (.bool (decide (a≤c))) h
 else
 R (.bool false) h):CallsH P Zai #[zi a,zi b,zi c] h R:=zv ⟨[],[],[]⟩ Tryz.func32 e
theorem ZBO {b:Value} {e:Int} (i:
 lq1 (0:Int) h fun J n c a=>
 vLen b fun j=>
 bif decide (c<(j:Int)) then
 vIdx b c 1 fun f=>
 ldI .i64 a f fun g=>
 bif g==e then
 R (.bool true) a
 else
 ag1 J n (zw (c+1)) a
 else
 R (.bool false) a):CallsH P Zhr #[b,zi e] h R:=zv ⟨[(2,[(5,.i .i64)])],[],[]⟩ Tryz.func144 i
theorem ZCP {a:Value} (r:
 vLen a fun s=>
 bif decide ((s:Int)>32) then
 R (.bool false) h
 else
 lq1 (0:Int) h fun J n b c=>
 vLen a fun t=>
 bif decide (b<(t:Int)) then
 vIdx a b 1 fun g=>
 ldI .i64 c g fun i=>
 vLen a fun j=>
 zB Zai #[zi i,zi 0,zi (zw ((j:Int)-1))] c fun k e=>
 bif !k then
 R (.bool false) e
 else
 vSliceS a 1 none (some (zi b)) none fun l=>
 vIdx a b 1 fun m=>
 ldI .i64 e m fun o=>
 zB Zhr #[l,zi o] e fun p f=>
 bif p then
 R (.bool false) f
 else
 ag1 J n (zw (b+1)) f
 else
 R (.bool true) c):CallsH P ZiE #[a] h R:=zv ⟨[(4,[(3,.i .i64)])],[],[]⟩ Tryz.func91 r
theorem ZFO {e:Value} (hv:
 vLen e fun c=>
 ∃ J:Heap→Prop,(
 bif decide ((c:Int)<1) then
 R (.bool false) h
 else
 bif decide ((c:Int)>10) then
 R (.bool false) h
 else
 J h
 )∧∀ (_:Env) (i:Heap),J i →
 lq1 (0:Int) i fun o n g a=>
 bif decide (g<(c:Int)) then
 vIdx e g 1 fun p=>
 ldV a p fun r=>
 vLen r fun s=>
 bif (s:Int) !=(c:Int) then
 R (.bool false) a
 else
 vIdx e g 1 fun t=>
 ldV a t fun u=>
 zB ZiE #[u] a fun v j=>
 bif !v then
 R (.bool false) j
 else
 ag1 o n (zw (g+1)) j
 else
 lq1 (0:Int) a fun w x l k=>
 bif decide (l<(c:Int)) then
 vNewS k (.cells #[] Zg) 0 fun y a0=>
 lq2 y (0:Int) a0 fun a1 a2 v6 m b=>
 bif decide (m<(c:Int)) then
 vIdx e m 1 fun a4=>
 ldV b a4 fun a5=>
 vIdx a5 l 1 fun a6=>
 ldI .i64 b a6 fun a7=>
 vNewS b (.cells #[zi a7] Zg) 1 fun a8 a9=>
 vAppend 1 8 [zi 0] Zg v6 a8 a9 fun aa ab=>
 ag2 a1 a2 aa (zw (m+1)) ab
 else
 zB ZiE #[v6] b fun ac f=>
 bif !ac then
 R (.bool false) f
 else
 ag1 w x (zw (l+1)) f
 else
 R (.bool true) k):CallsH P ZhB #[e] h R:=zv ⟨[(5,[(4,.i .i64)]),(10,[(5,.i .i64)]),(14,[(6,.v),(7,.i .i64)])],[(4,[])],[]⟩ Tryz.func39 hv
theorem ZvN {c:Value} {f g:Int} (s:
 lq1 (0:Int) h fun J n b e=>
 vLen c fun i=>
 bif decide (b<(i:Int)) then
 vIdx c b 1 fun j=>
 ldI .i64 e j fun k=>
 zB Zai #[zi k,zi f,zi g] e fun l a=>
 bif !l then
 R (.bool false) a
 else
 bif decide (b>0) then
 vIdx c (zw (b-1)) 1 fun m=>
 ldI .i64 a m fun o=>
 vIdx c b 1 fun p=>
 ldI .i64 a p fun r=>
 bif decide (o≥r) then
 R (.bool false) a
 else
 ag1 J n (zw (b+1)) a
 else
 ag1 J n (zw (b+1)) a
 else
 R (.bool true) e):CallsH P ZjB #[c,zi f,zi g] h R:=zv ⟨[(2,[(7,.i .i64)])],[],[]⟩ Tryz.func153 s
theorem ZzB {a:Value} {b:Int} (f:
 vLen a fun g=>
 bif decide ((g:Int)>0) then
 zB ZjB #[a,zi 0,zi (zw (b-1))] h fun c e=>
 R (.bool c) e
 else
 R (.bool false) h):CallsH P Znb #[a,zi b] h R:=zv ⟨[],[],[]⟩ Tryz.func92 f
theorem ZA1 {e f:Value} (hv:
 ∃ J:Heap→Prop,(
 lq1 (0:Int) h fun j n b g=>
 ∃ i:Heap→Prop,(
 vLen e fun n8=>
 bif decide (b<(n8:Int)) then
 vLen f fun k=>
 bif decide (b<(k:Int)) then
 i g
 else
 J g
 else
 J g
 )∧∀ (_:Env) (a:Heap),i a →
 vIdx e b 1 fun l=>
 ldI .i64 a l fun m=>
 vIdx f b 1 fun o=>
 ldI .i64 a o fun p=>
 bif decide (m<p) then
 R (zi (-1)) a
 else
 vIdx e b 1 fun r=>
 ldI .i64 a r fun s=>
 vIdx f b 1 fun t=>
 ldI .i64 a t fun u=>
 bif decide (s>u) then
 R (zi 1) a
 else
 ag1 j n (zw (b+1)) a
 )∧∀ (_:Env) (c:Heap),J c →
 vLen e fun v=>
 vLen f fun w=>
 bif decide ((v:Int)<(w:Int)) then
 R (zi (-1)) c
 else
 vLen e fun x=>
 vLen f fun y=>
 bif decide ((x:Int)>(y:Int)) then
 R (zi 1) c
 else
 R (zi 0) c):CallsH P Zjt #[e,f] h R:=zv ⟨[(2,[(5,.i .i64)])],[(4,[]),(8,[])],[]⟩ Tryz.func93 hv
theorem ZAc {c:Addr} (hv:
 ∃ J:Heap→Prop,(
 ldI .i64 h c fun x7=>
 zB Zai #[zi x7,zi 1,zi 32] h fun b8 f=>
 bif !b8 then
 R (.bool false) f
 else
 ldV f (c.add 1) fun k=>
 vLen k fun l=>
 bif decide ((l:Int)>128) then
 R (.bool false) f
 else
 J f
 )∧∀ (_:Env) (g:Heap),J g →
 lq1 (0:Int) g fun i n e b=>
 ldV b (c.add 1) fun m=>
 vLen m fun o=>
 bif decide (e<(o:Int)) then
 ldV b (c.add 1) fun p=>
 vIdx p e 1 fun r=>
 ldV b r fun s=>
 ldI .i64 b c fun t=>
 zB Znb #[s,zi t] b fun u a=>
 bif !u then
 R (.bool false) a
 else
 bif decide (e>0) then
 ldV a (c.add 1) fun v=>
 vIdx v (zw (e-1)) 1 fun w=>
 ldV a w fun x=>
 ldV a (c.add 1) fun y=>
 vIdx y e 1 fun a0=>
 ldV a a0 fun a1=>
 zI Zjt #[x,a1] a fun a2 j=>
 bif decide (a2>0) then
 R (.bool false) j
 else
 ag1 i n (zw (e+1)) j
 else
 ag1 i n (zw (e+1)) a
 else
 R (.bool true) b):CallsH P ZpD #[.pointer (some c)] h R:=zv ⟨[(4,[(3,.i .i64)])],[(3,[])],[]⟩ Tryz.func40 hv
theorem ZBK {c e:Value} (l:
 lq2 (0:Int) (0:Int) h fun J n f b a=>
 vLen c fun m=>
 bif decide (b<(m:Int)) then
 vIdx c b 1 fun g=>
 ldI .i64 a g fun i=>
 vIdx e b 1 fun j=>
 ldI .i64 a j fun k=>
 ag2 J n (zw (f+(zw (i*k)))) (zw (b+1)) a
 else
 R (zi f) a):CallsH P Zns #[c,e] h R:=zv ⟨[(3,[(5,.i .i64),(6,.i .i64)])],[],[]⟩ Tryz.func94 l
theorem Zzq {b:Value} (hv:
 vLen b fun f=>
 ∃ J:Heap→Prop,(
 bif decide ((f:Int)<1) then
 R (.bool false) h
 else
 bif decide ((f:Int)>32) then
 R (.bool false) h
 else
 J h
 )∧∀ (_:Env) (k:Heap),J k →
 lq1 (0:Int) k fun s n g c=>
 bif decide (g<(f:Int)) then
 vIdx b g 1 fun t=>
 ldV c t fun u=>
 vLen u fun v=>
 bif (v:Int) !=(f:Int) then
 R (.bool false) c
 else
 lq1 (0:Int) c fun l m i a=>
 bif decide (i<(f:Int)) then
 vIdx b g 1 fun w=>
 ldV a w fun x=>
 vIdx x i 1 fun y=>
 ldI .i64 a y fun a0=>
 bif a0 !=1 then
 vIdx b g 1 fun a1=>
 ldV a a1 fun a2=>
 vIdx a2 i 1 fun a3=>
 ldI .i64 a a3 fun a4=>
 bif a4 !=(-1) then
 R (.bool false) a
 else
 ag1 l m (zw (i+1)) a
 else
 ag1 l m (zw (i+1)) a
 else
 ag1 s n (zw (g+1)) a
 else
 lq1 (0:Int) c fun a5 a6 j o=>
 bif decide (j<(f:Int)) then
 lq1 (0:Int) o fun a7 a8 r e=>
 bif decide (r<j) then
 vIdx b j 1 fun a9=>
 ldV e a9 fun aa=>
 vIdx b r 1 fun ab=>
 ldV e ab fun ac=>
 zI Zns #[aa,ac] e fun ad p=>
 bif ad !=0 then
 R (.bool false) p
 else
 ag1 a7 a8 (zw (r+1)) p
 else
 ag1 a5 a6 (zw (j+1)) e
 else
 R (.bool true) o):CallsH P ZlT #[b] h R:=zv ⟨[(5,[(4,.i .i64)]),(10,[(5,.i .i64)]),(15,[(6,.i .i64)]),(18,[(7,.i .i64)])],[(4,[])],[]⟩ Tryz.func41 hv
theorem Zvk {t:Addr} (hv:
 vNew h (.cells #[zi 0,zi 0,.slice none 0 0] ZaW) fun p2 j=>
 ∃ B:Nat→Prop,
 vNew j (.cells #[zi 0,zi 0,.slice none 0 0] ZaW) fun b x=>
 ExtBut B j x ∧
 ldI .i64 (hmask B j) (t.add 1) fun x7=>
 ldV (hmask B j) (t.add 2) fun y=>
 vOne y fun _=>
 vStore1 x b (zi x7) fun a2=>
 vStore1 a2 (b.add 1) (zi 0) fun a3=>
 vStore1 a3 (b.add 2) y fun a=>
 ldV a (t.add 2) fun a4=>
 vLen a4 fun a5=>
 bif decide ((a5:Int)>0) then
 ldV a (t.add 2) fun a6=>
 vIdx a6 0 1 fun a7=>
 ldV a a7 fun a8=>
 vLen a8 fun a9=>
 vStore1 a (b.add 1) (zi (a9:Int)) fun k=>
 ldI .i64 k b fun u=>
 ldI .i64 k (b.add 1) fun v=>
 ldV k (b.add 2) fun w=>
 vStore1 k p2 (zi u) fun aa=>
 vStore1 aa (p2.add 1) (zi v) fun ab=>
 vStore1 ab (p2.add 2) w fun c=>
 ldI .i64 c p2 fun l=>
 ldI .i64 c (p2.add 1) fun m=>
 ldV c (p2.add 2) fun o=>
 R (.agg #[zi l,zi m,o]) c
 else
 ldI .i64 a b fun p=>
 ldI .i64 a (b.add 1) fun r=>
 ldV a (b.add 2) fun s=>
 vStore1 a p2 (zi p) fun a0=>
 vStore1 a0 (p2.add 1) (zi r) fun a1=>
 vStore1 a1 (p2.add 2) s fun e=>
 ldI .i64 e p2 fun f=>
 ldI .i64 e (p2.add 1) fun g=>
 ldV e (p2.add 2) fun i=>
 R (.agg #[zi f,zi g,i]) e):CallsH P ZlF #[.pointer (some t)] h R:=zv ⟨[],[],[]⟩ Tryz.func42 hv
theorem ZzN {b c:Int} (f:
 zB Zai #[zi b,zi 2,zi 16] h fun g a=>
 bif g then
 zB Zai #[zi c,zi 1,zi 8] a fun i e=>
 R (.bool i) e
 else
 R (.bool false) a):CallsH P Zmu #[zi b,zi c] h R:=zv ⟨[],[],[]⟩ Tryz.func95 f
theorem Zww {c:Addr} (hv:
 ∃ J:Heap→Prop,(
 ldI .i64 h c fun x8=>
 ldI .i64 h (c.add 1) fun k=>
 zB Zmu #[zi x8,zi k] h fun l e=>
 bif !l then
 R (.bool false) e
 else
 ldV e (c.add 2) fun m=>
 vLen m fun o=>
 bif decide ((o:Int)>256) then
 R (.bool false) e
 else
 J e
 )∧∀ (_:Env) (g:Heap),J g →
 lq1 (0:Int) g fun p n f b=>
 ldV b (c.add 2) fun r=>
 vLen r fun s=>
 bif decide (f<(s:Int)) then
 ldV b (c.add 2) fun t=>
 vIdx t f 1 fun u=>
 ldV b u fun v=>
 vLen v fun w=>
 ldI .i64 b (c.add 1) fun x=>
 bif (w:Int) !=x then
 R (.bool false) b
 else
 lq1 (0:Int) b fun y a0 j a=>
 ldV a (c.add 2) fun a1=>
 vIdx a1 f 1 fun a2=>
 ldV a a2 fun a3=>
 vLen a3 fun a4=>
 bif decide (j<(a4:Int)) then
 ldV a (c.add 2) fun a5=>
 vIdx a5 f 1 fun a6=>
 ldV a a6 fun a7=>
 vIdx a7 j 1 fun a8=>
 ldI .i64 a a8 fun a9=>
 ldI .i64 a c fun aa=>
 zB Zai #[zi a9,zi 0,zi (zw (aa-1))] a fun ab i=>
 bif !ab then
 R (.bool false) i
 else
 ag1 y a0 (zw (j+1)) i
 else
 ag1 p n (zw (f+1)) a
 else
 R (.bool true) b):CallsH P Zln #[.pointer (some c)] h R:=zv ⟨[(4,[(3,.i .i64)]),(9,[(4,.i .i64)])],[(3,[])],[]⟩ Tryz.func43 hv
theorem ZxB {c:Int} (l:
 zB Zai #[zi c,zi 2,zi 64] h fun m e=>
 bif !m then
 R (.tuple #[zi 0,zi 0]) e
 else
 lq1 (2:Int) e fun J n a f=>
 a≠0 ∧
 bif (Int.tmod c a:Int) !=0 then
 ag1 J n (zw (a+1)) f
 else
 lq2 (0:Int) c f fun i j k g b=>
 bif decide (g>1) then
 a≠0 ∧
 bif (Int.tmod g a:Int) !=0 then
 R (.tuple #[zi 0,zi 0]) b
 else
 a≠0 ∧
 ag2 i j (zw (k+1)) (zw (Int.tdiv g a)) b
 else
 R (.tuple #[zi a,zi k]) b):CallsH P Zh1 #[zi c] h R:=zv ⟨[(4,[(4,.i .i64)]),(8,[(5,.i .i64),(6,.i .i64)])],[],[]⟩ Tryz.func96 l
theorem ZDD {f a g:Int} (p:
 vNewS h (.cells #[] Zg) 0 fun r i=>
 lq3 f g r i fun J n b c j e=>
 bif decide (c>0) then
 a≠0 ∧
 vNewS e (.cells #[zi (Int.tmod b a)] Zg) 1 fun k l=>
 vAppend 1 8 [zi 0] Zg j k l fun m o=>
 a≠0 ∧
 ag3 J n (zw (Int.tdiv b a)) (zw (c-1)) m o
 else
 R j e):CallsH P Zc2 #[zi f,zi a,zi g] h R:=zv ⟨[(2,[(0,.i .i64),(2,.i .i64),(7,.v)])],[],[]⟩ Tryz.func154 p
theorem Zu5 {c e:Int} (g:
 lq2 e (1:Int) h fun J n a f b=>
 bif decide (a>0) then
 ag2 J n (zw (a-1)) (zw (f*c)) b
 else
 R (zi f) b):CallsH P Zit #[zi c,zi e] h R:=zv ⟨[(2,[(1,.i .i64),(5,.i .i64)])],[],[]⟩ Tryz.func158 g
theorem ZDr {a:Value} (e:
 vNewS h (.cells #[] Zg) 0 fun f b=>
 vAppend 1 8 [zi 0] Zg f a b fun g c=>
 R g c):CallsH P Zh4 #[a] h R:=zv ⟨[],[],[]⟩ Tryz.func165 e
theorem Zv3 {m l:Value} {i:Int} (hv:
 zV Zh4 #[m] h fun a o=>
 vLen l fun b=>
 vLen a fun p=>
 lq1 (zw ((p:Int)-1)) o fun J n f g=>
 bif decide (f≥(zw ((b:Int)-1))) then
 vIdx a f 1 fun r=>
 ldI .i64 g r fun s=>
 lq1 (0:Int) g fun t u c e=>
 bif decide (c<(b:Int)) then
 vIdx a (zw ((zw ((zw (f-(b:Int)))+1))+c)) 1 fun v=>
 ldI .i64 e v fun w=>
 vIdx l c 1 fun x=>
 ldI .i64 e x fun y=>
 i≠0 ∧
 vIdx a (zw ((zw ((zw (f-(b:Int)))+1))+c)) 1 fun a0=>
 vStore1 e a0 (zi (Int.tmod (zw (w+(zw ((zw (i-s))*y)))) i)) fun a1=>
 ag1 t u (zw (c+1)) a1
 else
 ag1 J n (zw (f-1)) e
 else
 lq1 a g fun a2 a3 j k=>
 vLen j fun a4=>
 bif decide ((a4:Int)≥(b:Int)) then
 vLen j fun a5=>
 vSliceS j 1 none (some (zi (zw ((a5:Int)-1)))) none fun a6=>
 ag1 a2 a3 a6 k
 else
 R j k):CallsH P ZjY #[m,l,zi i] h R:=zv ⟨[(4,[(9,.i .i64)]),(8,[(11,.i .i64)]),(12,[(7,.v)])],[],[]⟩ Tryz.func226 hv
theorem Zz0 {b:Value} {e:Int} (j:
 vLen b fun k=>
 lq2 (0:Int) (zw ((k:Int)-1)) h fun J n f c a=>
 bif decide (c≥0) then
 vIdx b c 1 fun g=>
 ldI .i64 a g fun i=>
 ag2 J n (zw ((zw (f*e))+i)) (zw (c-1)) a
 else
 R (zi f) a):CallsH P Ziv #[b,zi e] h R:=zv ⟨[(3,[(5,.i .i64),(6,.i .i64)])],[],[]⟩ Tryz.func227 j
theorem ZDh {g:Value} {a:Int} (hv:
 vLen g fun j=>
 lq1 (1:Int) h fun J n b c=>
 bif decide ((zw (2*b):Int)≤(zw ((j:Int)-1))) then
 lq1 (0:Int) c fun k l i m=>
 zI Zit #[zi a,zi b] m fun o e=>
 bif decide (i<o) then
 zV Zc2 #[zi i,zi a,zi b] e fun p r=>
 vNewS r (.cells #[zi 1] Zg) 1 fun s t=>
 vAppend 1 8 [zi 0] Zg p s t fun u v=>
 zV ZjY #[g,u,zi a] v fun w x=>
 zI Ziv #[w,zi a] x fun y f=>
 bif y==0 then
 R (.bool false) f
 else
 ag1 k l (zw (i+1)) f
 else
 ag1 J n (zw (b+1)) e
 else
 R (.bool true) c):CallsH P Zk3 #[g,zi a] h R:=zv ⟨[(3,[(6,.i .i64)]),(6,[(7,.i .i64)])],[],[]⟩ Tryz.func155 hv
theorem ZC2 {l:Int} (hv:
 vNew h (.cells #[zi 0,zi 0,.slice none 0 0] Zcn) fun p2 m=>
 CallsH P Zh1 #[zi l] m fun r9 o=>∃ a,∃ c,r9=.tuple #[zi a,zi c] ∧
 lq1 (0:Int) o fun J n p r=>
 zV Zc2 #[zi p,zi a,zi c] r fun s t=>
 vNewS t (.cells #[zi 1] Zg) 1 fun u v=>
 vAppend 1 8 [zi 0] Zg s u v fun i w=>
 zB Zk3 #[i,zi a] w fun x j=>
 bif x then
 vOne i fun _=>
 vStore1 j p2 (zi a) fun y=>
 vStore1 y (p2.add 1) (zi c) fun k=>
 vStore1 k (p2.add 2) i fun b=>
 ldI .i64 b p2 fun e=>
 ldI .i64 b (p2.add 1) fun f=>
 ldV b (p2.add 2) fun g=>
 R (.agg #[zi e,zi f,g]) b
 else
 ag1 J n (zw (p+1)) j):CallsH P ZnN #[zi l] h R:=zv ⟨[(4,[(5,.i .i64)])],[],[]⟩ Tryz.func97 hv
theorem ZCe {t:Addr} (hv:
 vNew h (.cells #[zi 0,zi 0,.slice none 0 0,.slice none 0 0] Zbz) fun p2 v=>
 ldI .i64 v (t.add 1) fun x9=>
 CallsH P Zh1 #[zi x9] v fun a1 f=>∃ m,∃ u,a1=.tuple #[zi m,zi u] ∧
 bif m==0 then
 vStore1 f p2 (zi 0) fun a2=>
 vStore1 a2 (p2.add 1) (zi 0) fun a3=>
 vStore1 a3 (p2.add 2) (.slice none 0 0) fun a4=>
 vStore1 a4 (p2.add 3) (.slice none 0 0) fun g=>
 ldI .i64 g p2 fun o=>
 ldI .i64 g (p2.add 1) fun p=>
 ldV g (p2.add 2) fun r=>
 ldV g (p2.add 3) fun s=>
 R (.agg #[zi o,zi p,r,s]) g
 else
 ∃ B:Nat→Prop,
 ldI .i64 f (t.add 1) fun a5=>
 CallsH P ZnN #[zi a5] f fun a6 w=>∃ b,∃ c,∃ (e:Value),a6=.agg #[zi b,zi c,e] ∧
 ExtBut B f w ∧
 ldV (hmask B f) (t.add 2) fun x=>
 vOne x fun _=>
 vStore1 w p2 (zi b) fun a7=>
 vStore1 a7 (p2.add 1) (zi c) fun y=>
 vStore1 y (p2.add 2) e fun a0=>
 vStore1 a0 (p2.add 3) x fun a=>
 ldI .i64 a p2 fun i=>
 ldI .i64 a (p2.add 1) fun j=>
 ldV a (p2.add 2) fun k=>
 ldV a (p2.add 3) fun l=>
 R (.agg #[zi i,zi j,k,l]) a):CallsH P ZjU #[.pointer (some t)] h R:=zv ⟨[],[],[]⟩ Tryz.func44 hv
theorem ZxI {b:Addr} (hv:
 ∃ J:Heap→Prop,(
 ldI .i64 h b fun m=>
 zB Zai #[zi m,zi 2,zi 64] h fun o g=>
 bif !o then
 R (.bool false) g
 else
 ldI .i64 g (b.add 1) fun p=>
 zB Zai #[zi p,zi 1,zi 6] g fun r a=>
 bif !r then
 R (.bool false) a
 else
 ldV a (b.add 2) fun s=>
 vLen s fun t=>
 ldI .i64 a (b.add 1) fun u=>
 bif (t:Int) !=(zw (u+1)) then
 R (.bool false) a
 else
 ldV a (b.add 2) fun v=>
 ldI .i64 a (b.add 1) fun w=>
 vIdx v w 1 fun x=>
 ldI .i64 a x fun y=>
 bif y !=1 then
 R (.bool false) a
 else
 J a
 )∧∀ (_:Env) (f:Heap),J f →
 ldI .i64 f b fun a0=>
 ldI .i64 f (b.add 1) fun a1=>
 zI Zit #[zi a0,zi a1] f fun a2 a3=>
 CallsH P Zh1 #[zi a2] a3 fun a4 i=>∃ c,∃ j,a4=.tuple #[zi c,zi j] ∧
 ldI .i64 i b fun a5=>
 bif c !=a5 then
 R (.bool false) i
 else
 lq1 (0:Int) i fun a6 n l e=>
 ldV e (b.add 2) fun a7=>
 vLen a7 fun a8=>
 bif decide (l<(a8:Int)) then
 ldV e (b.add 2) fun a9=>
 vIdx a9 l 1 fun aa=>
 ldI .i64 e aa fun ab=>
 zB Zai #[zi ab,zi 0,zi (zw (c-1))] e fun ac k=>
 bif !ac then
 R (.bool false) k
 else
 ag1 a6 n (zw (l+1)) k
 else
 ldV e (b.add 2) fun ad=>
 zB Zk3 #[ad,zi c] e fun ae af=>
 R (.bool ae) af):CallsH P Zot #[.pointer (some b)] h R:=zv ⟨[(8,[(6,.i .i64)])],[(3,[])],[]⟩ Tryz.func156 hv
theorem ZwW {a:Addr} (f:
 ldI .i64 h a fun g=>
 ldI .i64 h (a.add 1) fun b=>
 zI Zit #[zi g,zi b] h fun c e=>
 R (zi c) e):CallsH P ZhE #[.pointer (some a)] h R:=zv ⟨[],[],[]⟩ Tryz.func100 f
theorem ZzS {f:Addr} {c:Value} (m:
 zI ZhE #[.pointer (some f)] h fun o g=>
 lq1 (0:Int) g fun J n e a=>
 vLen c fun i=>
 bif decide (e<(i:Int)) then
 vIdx c e 1 fun j=>
 ldI .i64 a j fun k=>
 zB Zai #[zi k,zi 0,zi (zw (o-1))] a fun l b=>
 bif !l then
 R (.bool false) b
 else
 ag1 J n (zw (e+1)) b
 else
 R (.bool true) a):CallsH P ZmN #[.pointer (some f),c] h R:=zv ⟨[(3,[(6,.i .i64)])],[],[]⟩ Tryz.func157 m
theorem Zzk {i:Addr} {c:Value} (hv:
 ∃ J:Heap→Prop,(
 zB Zot #[.pointer (some i)] h fun b7 a=>
 bif !b7 then
 R (.bool false) a
 else
 vLen c fun j=>
 bif (j:Int)==0 then
 R (.bool false) a
 else
 vLen c fun k=>
 bif decide ((k:Int)>32) then
 R (.bool false) a
 else
 vIdx c 0 1 fun l=>
 ldV a l fun m=>
 vLen m fun o=>
 bif (o:Int)==0 then
 R (.bool false) a
 else
 vIdx c 0 1 fun p=>
 ldV a p fun r=>
 vLen r fun s=>
 bif decide ((s:Int)>32) then
 R (.bool false) a
 else
 J a
 )∧∀ (_:Env) (f:Heap),J f →
 lq1 (0:Int) f fun t n e b=>
 vLen c fun u=>
 bif decide (e<(u:Int)) then
 vIdx c e 1 fun v=>
 ldV b v fun w=>
 vLen w fun x=>
 vIdx c 0 1 fun y=>
 ldV b y fun a0=>
 vLen a0 fun a1=>
 bif (x:Int) !=(a1:Int) then
 R (.bool false) b
 else
 vIdx c e 1 fun a2=>
 ldV b a2 fun a3=>
 zB ZmN #[.pointer (some i),a3] b fun a4 g=>
 bif !a4 then
 R (.bool false) g
 else
 ag1 t n (zw (e+1)) g
 else
 R (.bool true) b):CallsH P Zp1 #[.pointer (some i),c] h R:=zv ⟨[(4,[(5,.i .i64)])],[(3,[])],[]⟩ Tryz.func98 hv
theorem ZCp {c f:Int} (g:
 lq2 f (1:Int) h fun J n a e b=>
 bif decide (a>0) then
 bif decide ((zw (e*c):Int)>4096) then
 R (zi 0) b
 else
 ag2 J n (zw (a-1)) (zw (e*c)) b
 else
 R (zi e) b):CallsH P Zqj #[zi c,zi f] h R:=zv ⟨[(2,[(1,.i .i64),(5,.i .i64)])],[],[]⟩ Tryz.func99 g
theorem ZzW {b e:Value} (l:
 vLen b fun m=>
 vLen e fun o=>
 bif (m:Int) !=(o:Int) then
 R (.bool false) h
 else
 lq1 (0:Int) h fun J n c a=>
 vLen b fun f=>
 bif decide (c<(f:Int)) then
 vIdx b c 1 fun g=>
 ldI .i64 a g fun i=>
 vIdx e c 1 fun j=>
 ldI .i64 a j fun k=>
 bif i !=k then
 R (.bool false) a
 else
 ag1 J n (zw (c+1)) a
 else
 R (.bool true) a):CallsH P ZnQ #[b,e] h R:=zv ⟨[(4,[(5,.i .i64)])],[],[]⟩ Tryz.func159 l
theorem Zzs {b f:Value} (o:
 vLen b fun p=>
 vLen f fun r=>
 bif (p:Int) !=(r:Int) then
 R (.bool false) h
 else
 lq1 (0:Int) h fun J n c a=>
 vLen b fun g=>
 bif decide (c<(g:Int)) then
 vIdx b c 1 fun i=>
 ldV a i fun j=>
 vIdx f c 1 fun k=>
 ldV a k fun l=>
 zB ZnQ #[j,l] a fun m e=>
 bif !m then
 R (.bool false) e
 else
 ag1 J n (zw (c+1)) e
 else
 R (.bool true) a):CallsH P Zkk #[b,f] h R:=zv ⟨[(4,[(5,.i .i64)])],[],[]⟩ Tryz.func101 o
theorem ZBm {a:Addr} {r s:Int} (hv:
 ldI .i64 h a fun t=>
 ldI .i64 h (a.add 1) fun u=>
 zV Zc2 #[zi r,zi t,zi u] h fun j g=>
 ldI .i64 g a fun v=>
 ldI .i64 g (a.add 1) fun w=>
 zV Zc2 #[zi s,zi v,zi w] g fun k l=>
 ldI .i64 l (a.add 1) fun m=>
 vMake 8 [zi 0] Zg (zw ((zw (2*m))-1)) (zw ((zw (2*m))-1)) l fun i x=>
 lq1 (0:Int) x fun J n e b=>
 vLen j fun y=>
 bif decide (e<(y:Int)) then
 lq1 (0:Int) b fun a0 a1 f c=>
 vLen k fun a2=>
 bif decide (f<(a2:Int)) then
 vIdx i (zw (e+f)) 1 fun a3=>
 ldI .i64 c a3 fun a4=>
 vIdx j e 1 fun a5=>
 ldI .i64 c a5 fun a6=>
 vIdx k f 1 fun a7=>
 ldI .i64 c a7 fun a8=>
 ldI .i64 c a fun o=>
 o≠0 ∧
 vIdx i (zw (e+f)) 1 fun a9=>
 vStore1 c a9 (zi (Int.tmod (zw (a4+(zw (a6*a8)))) o)) fun aa=>
 ag1 a0 a1 (zw (f+1)) aa
 else
 ag1 J n (zw (e+1)) c
 else
 ∃ B:Nat→Prop,
 ldV b (a.add 2) fun ab=>
 ldI .i64 b a fun ac=>
 zV ZjY #[i,ab,zi ac] b fun ad p=>
 ExtBut B b p ∧
 ldI .i64 (hmask B b) a fun ae=>
 zI Ziv #[ad,zi ae] p fun af ag=>
 R (zi af) ag):CallsH P Zi8 #[.pointer (some a),zi r,zi s] h R:=zv ⟨[(5,[(10,.i .i64)]),(8,[(11,.i .i64)])],[],[]⟩ Tryz.func268 hv
theorem ZyK {e:Addr} {b:Value} {f:Int} (u:
 vNewS h (.cells #[] Zg) 0 fun v g=>
 lq2 v (0:Int) g fun J n i c a=>
 vLen b fun j=>
 bif decide (c<(j:Int)) then
 vIdx b c 1 fun k=>
 ldI .i64 a k fun l=>
 zI Zi8 #[.pointer (some e),zi l,zi f] a fun m o=>
 vNewS o (.cells #[zi m] Zg) 1 fun p r=>
 vAppend 1 8 [zi 0] Zg i p r fun s t=>
 ag2 J n s (zw (c+1)) t
 else
 R i a):CallsH P Zkr #[.pointer (some e),b,zi f] h R:=zv ⟨[(3,[(7,.v),(8,.i .i64)])],[],[]⟩ Tryz.func216 u
theorem ZDF {c:Value} (r:
 vNewS h (.cells #[] Zf) 0 fun s f=>
 lq2 s (0:Int) f fun J n g e a=>
 vLen c fun t=>
 bif decide (e<(t:Int)) then
 vIdx c e 1 fun i=>
 ldV a i fun j=>
 zV Zh4 #[j] a fun b k=>
 vOne b fun _=>
 vNewS k (.cells #[b] Zf) 1 fun l m=>
 vAppend 1 24 [.slice none 0 0] Zf g l m fun o p=>
 ag2 J n o (zw (e+1)) p
 else
 R g a):CallsH P Zml #[c] h R:=zv ⟨[(3,[(3,.v),(4,.i .i64)])],[],[]⟩ Tryz.func228 r
theorem Zxa {c:Addr} {e:Int} (g:
 lq1 (1:Int) h fun J n b f=>
 zI Zi8 #[.pointer (some c),zi e,zi b] f fun i a=>
 bif i !=1 then
 ag1 J n (zw (b+1)) a
 else
 R (zi b) a):CallsH P ZnV #[.pointer (some c),zi e] h R:=zv ⟨[(2,[(5,.i .i64)])],[],[]⟩ Tryz.func229 g
theorem ZCf {c:Addr} {i j k:Int} (hv:
 ldI .i64 h c fun l=>
 ldI .i64 h (c.add 1) fun m=>
 zV Zc2 #[zi i,zi l,zi m] h fun e f=>
 ldI .i64 f c fun o=>
 ldI .i64 f (c.add 1) fun p=>
 zV Zc2 #[zi j,zi o,zi p] f fun r s=>
 lq1 (0:Int) s fun J n b a=>
 vLen e fun t=>
 bif decide (b<(t:Int)) then
 vIdx e b 1 fun u=>
 ldI .i64 a u fun v=>
 vIdx r b 1 fun w=>
 ldI .i64 a w fun x=>
 ldI .i64 a c fun g=>
 g≠0 ∧
 vIdx e b 1 fun y=>
 vStore1 a y (zi (Int.tmod (zw (v+(zw (k*x)))) g)) fun a0=>
 ag1 J n (zw (b+1)) a0
 else
 ldI .i64 a c fun a1=>
 zI Ziv #[e,zi a1] a fun a2 a3=>
 R (zi a2) a3):CallsH P ZkI #[.pointer (some c),zi i,zi j,zi k] h R:=zv ⟨[(4,[(11,.i .i64)])],[],[]⟩ Tryz.func269 hv
theorem ZvP {c:Addr} {f g:Value} {i:Int} (hv:
 vNewS h (.cells #[] Zg) 0 fun j k=>
 lq2 j (0:Int) k fun J n l b a=>
 vLen f fun m=>
 bif decide (b<(m:Int)) then
 ∃ B:Nat→Prop,
 vIdx g b 1 fun o=>
 ldI .i64 a o fun p=>
 zI Zi8 #[.pointer (some c),zi p,zi i] a fun r e=>
 ExtBut B a e ∧
 vIdx f b 1 fun s=>
 ldI .i64 (hmask B a) s fun t=>
 ldI .i64 (hmask B a) c fun u=>
 zI ZkI #[.pointer (some c),zi t,zi r,zi (zw (u-1))] e fun v w=>
 vNewS w (.cells #[zi v] Zg) 1 fun x y=>
 vAppend 1 8 [zi 0] Zg l x y fun a0 a1=>
 ag2 J n a0 (zw (b+1)) a1
 else
 R l a):CallsH P Zp2 #[.pointer (some c),f,g,zi i] h R:=zv ⟨[(3,[(9,.v),(10,.i .i64)])],[],[]⟩ Tryz.func230 hv
theorem ZAZ {p:Addr} {v1:Value} {x2:Int} (hv:
 zV Zml #[v1] h fun a ad=>
 vNewS ad (.cells #[] Zg) 0 fun ae af=>
 lq2 ae (0:Int) af fun J n l e m=>
 ∃ r:Heap→Prop,(
 bif decide (e<x2) then
 vLen l fun ag=>
 vLen a fun ah=>
 bif decide ((ag:Int)<(ah:Int)) then
 r m
 else
 R (.tuple #[a,l]) m
 else
 R (.tuple #[a,l]) m
 )∧∀ (_:Env) (s:Heap),r s →
 vLen l fun k=>
 ∃ o:Int→Heap→Prop,(
 lq1 (k:Int) s fun ai aj i j=>
 vLen a fun ak=>
 bif decide (i<(ak:Int)) then
 vIdx a i 1 fun al=>
 ldV j al fun am=>
 vIdx am e 1 fun an=>
 ldI .i64 j an fun ao=>
 bif ao==0 then
 ag1 ai aj (zw (i+1)) j
 else
 o i j
 else
 o i j
 )∧∀ (_:Env) b (f:Heap),o b f →
 vLen a fun ap=>
 bif b==(ap:Int) then
 ag2 J n l (zw (e+1)) f
 else
 ∃ B:Nat→Prop,
 vIdx a b 1 fun aq=>
 ldV f aq fun ar=>
 vIdx ar e 1 fun p64=>
 ldI .i64 f p64 fun au=>
 zI ZnV #[.pointer (some p),zi au] f fun av t=>
 ExtBut B f t ∧
 vIdx a b 1 fun aw=>
 ldV (hmask B f) aw fun ax=>
 zV Zkr #[.pointer (some p),ax,zi av] t fun u v=>
 vIdx a (k:Int) 1 fun ay=>
 ldV v ay fun az=>
 vIdx a b 1 fun b0=>
 vStore1 v b0 az fun y=>
 vIdx a (k:Int) 1 fun b1=>
 vStore1 y b1 u fun a0=>
 lq1 (0:Int) a0 fun w x g c=>
 vLen a fun b2=>
 bif decide (g<(b2:Int)) then
 bif g !=(k:Int) then
 vIdx a g 1 fun b3=>
 ldV c b3 fun b4=>
 vIdx a g 1 fun b5=>
 ldV c b5 fun b6=>
 vIdx b6 e 1 fun a1=>
 ldI .i64 c a1 fun a2=>
 zV Zp2 #[.pointer (some p),b4,u,zi a2] c fun a3 a4=>
 vIdx a g 1 fun a5=>
 vStore1 a4 a5 a3 fun a6=>
 ag1 w x (zw (g+1)) a6
 else
 ag1 w x (zw (g+1)) c
 else
 vNewS c (.cells #[zi e] Zg) 1 fun a7 a8=>
 vAppend 1 8 [zi 0] Zg l a7 a8 fun a9 aa=>
 ag2 J n a9 (zw (e+1)) aa):CallsH P Zon #[.pointer (some p),v1,zi x2] h R:=zv ⟨[(4,[(9,.v),(10,.i .i64)]),(8,[(12,.i .i64)]),(15,[(14,.i .i64)])],[(6,[]),(10,[(12,.i .i64)])],[]⟩ Tryz.func160 hv
theorem Zy4 {e:Addr} {c:Value} (o:
 vIdx c 0 1 fun f=>
 ldV h f fun g=>
 vLen g fun i=>
 CallsH P Zon #[.pointer (some e),c,zi (i:Int)] h fun j k=>∃ (a:Value),∃ (b:Value),j=.tuple #[a,b] ∧
 vLen b fun l=>
 vSliceS a 1 none (some (zi (l:Int))) none fun m=>
 R m k):CallsH P Zoh #[.pointer (some e),c] h R:=zv ⟨[],[],[]⟩ Tryz.func102 o
theorem ZyE {b:Addr} (hv:
 ∃ J:Heap→Prop,(
 ldV h (b.add 3) fun v9=>
 zB Zp1 #[.pointer (some b),v9] h fun j a=>
 bif !j then
 R (.bool false) a
 else
 ldV a (b.add 3) fun k=>
 vIdx k 0 1 fun l=>
 ldV a l fun m=>
 vLen m fun o=>
 bif decide ((o:Int)>32) then
 R (.bool false) a
 else
 ldV a (b.add 3) fun p=>
 vLen p fun r=>
 bif decide ((r:Int)>8) then
 R (.bool false) a
 else
 J a
 )∧∀ (_:Env) (e:Heap),J e →
 ∃ B:Nat→Prop,
 zI ZhE #[.pointer (some b)] e fun s f=>
 ExtBut B e f ∧
 ldV (hmask B e) (b.add 3) fun t=>
 vLen t fun u=>
 zI Zqj #[zi s,zi (u:Int)] f fun v c=>
 bif v==0 then
 R (.bool false) c
 else
 ∃ g:Nat→Prop,
 ldV c (b.add 3) fun w=>
 zV Zoh #[.pointer (some b),w] c fun x i=>
 ExtBut g c i ∧
 ldV (hmask g c) (b.add 3) fun y=>
 zB Zkk #[x,y] i fun a0 a1=>
 R (.bool a0) a1):CallsH P Zj0 #[.pointer (some b)] h R:=zv ⟨[],[(3,[])],[]⟩ Tryz.func45 hv
theorem Zzd {b:Value} (j:
 vLen b fun k=>
 bif decide ((k:Int)>64) then
 R (.bool false) h
 else
 lq1 (0:Int) h fun J n e a=>
 vLen b fun l=>
 bif decide (e<(l:Int)) then
 vIdx b e 1 fun f=>
 ldI .i64 a f fun g=>
 zB Zai #[zi g,zi 0,zi 63] a fun i c=>
 bif !i then
 R (.bool false) c
 else
 ag1 J n (zw (e+1)) c
 else
 R (.bool true) a):CallsH P Znx #[b] h R:=zv ⟨[(4,[(3,.i .i64)])],[],[]⟩ Tryz.func161 j
theorem Zxq {b c e f:Int} (o:
 vNew h (.cells #[zi b,zi c] ZbE) fun p2 i=>
 vNew i (.cells #[zi e,zi f] ZbE) fun g a=>
 ldI .i64 a p2 fun p=>
 ldI .i64 a g fun r=>
 bif decide (p<r) then
 R (.bool true) a
 else
 ldI .i64 a p2 fun j=>
 ldI .i64 a g fun k=>
 bif j==k then
 ldI .i64 a (p2.add 1) fun l=>
 ldI .i64 a (g.add 1) fun m=>
 R (.bool (decide (l<m))) a
 else
 R (.bool false) a):CallsH P Zo2 #[.agg #[zi b,zi c],.agg #[zi e,zi f]] h R:=zv ⟨[],[],[]⟩ Tryz.func162 o
theorem ZCV {i j:Value} (hv:
 vNew h (.cells #[i,j] Zdl) fun p1 u=>
 ∃ J:Heap→Prop,(
 ldV u p1 fun v7=>
 zB Znx #[v7] u fun b8 e=>
 bif !b8 then
 R (.bool false) e
 else
 ldV e (p1.add 1) fun a1=>
 vLen a1 fun a2=>
 bif decide ((a2:Int)>512) then
 R (.bool false) e
 else
 J e
 )∧∀ (_:Env) (k:Heap),J k →
 ldV k p1 fun a3=>
 vLen a3 fun v=>
 lq1 (0:Int) k fun w n g b=>
 ldV b (p1.add 1) fun a4=>
 vLen a4 fun a5=>
 bif decide (g<(a5:Int)) then
 ldV b (p1.add 1) fun a6=>
 vIdx a6 g 2 fun x=>
 ldI .i64 b x fun m=>
 ldI .i64 b (x.add 1) fun o=>
 vNew b (.cells #[zi 0,zi 0] ZbE) fun c a7=>
 vStore1 a7 c (zi m) fun a8=>
 vStore1 a8 (c.add 1) (zi o) fun y=>
 ldI .i64 y c fun a9=>
 zB Zai #[zi a9,zi 0,zi (zw ((v:Int)-1))] y fun aa f=>
 bif !aa then
 R (.bool false) f
 else
 ldI .i64 f (c.add 1) fun ab=>
 ldI .i64 f c fun ac=>
 zB Zai #[zi ab,zi (zw (ac+1)),zi (zw ((v:Int)-1))] f fun ad a=>
 bif !ad then
 R (.bool false) a
 else
 bif decide (g>0) then
 ldV a (p1.add 1) fun ae=>
 vIdx ae (zw (g-1)) 2 fun a0=>
 ldI .i64 a a0 fun p=>
 ldI .i64 a (a0.add 1) fun r=>
 ldI .i64 a c fun s=>
 ldI .i64 a (c.add 1) fun t=>
 zB Zo2 #[.agg #[zi p,zi r],.agg #[zi s,zi t]] a fun af l=>
 bif !af then
 R (.bool false) l
 else
 ag1 w n (zw (g+1)) l
 else
 ag1 w n (zw (g+1)) a
 else
 R (.bool true) b):CallsH P Zm8 #[.agg #[i,j]] h R:=zv ⟨[(5,[(4,.i .i64)])],[(3,[])],[]⟩ Tryz.func103 hv
theorem ZF3 {i:Addr} (hv:
 vNew h (.cells #[.slice none 0 0,.slice none 0 0] Zdl) fun p2 a0=>
 ldI .i64 a0 (i.add 1) fun x9=>
 zB Zai #[zi x9,zi 0,zi 64] a0 fun a7 o=>
 bif !a7 then
 vStore1 o p2 (.slice none 0 0) fun a8=>
 vStore1 a8 (p2.add 1) (.slice none 0 0) fun p=>
 ldV p p2 fun l=>
 ldV p (p2.add 1) fun m=>
 R (.tuple #[.agg #[l,m],.bool false]) p
 else
 ldI .i64 o (i.add 1) fun a1=>
 vMake 8 [zi 0] Zg a1 a1 o fun a2 a9=>
 vOne a2 fun _=>
 vNew a9 (.cells #[.slice none 0 0,.slice none 0 0] Zdl) fun b aa=>
 vStore1 aa b a2 fun ab=>
 vStore1 ab (b.add 1) (.slice none 0 0) fun ac=>
 lq1 (0:Int) ac fun J n r a=>
 ldV a (i.add 2) fun ad=>
 vLen ad fun ae=>
 bif decide (r<(ae:Int)) then
 ldV a (i.add 2) fun af=>
 vIdx af r 1 fun ag=>
 ldV a ag fun ah=>
 vLen ah fun ai=>
 bif (ai:Int) !=2 then
 vStore1 a p2 (.slice none 0 0) fun a3=>
 vStore1 a3 (p2.add 1) (.slice none 0 0) fun j=>
 ldV j p2 fun c=>
 ldV j (p2.add 1) fun e=>
 R (.tuple #[.agg #[c,e],.bool false]) j
 else
 ∃ B:Nat→Prop,
 ldV a (i.add 2) fun aj=>
 vIdx aj r 1 fun ak=>
 ldV a ak fun al=>
 vIdx al 0 1 fun am=>
 ldI .i64 a am fun an=>
 ldV a (i.add 2) fun ao=>
 vIdx ao r 1 fun ap=>
 ldV a ap fun aq=>
 vIdx aq 1 1 fun ar=>
 ldI .i64 a ar fun au=>
 vNewS a (.cells #[zi an,zi au] ZbE) 1 fun av s=>
 ExtBut B a s ∧
 ldV (hmask B a) (b.add 1) fun aw=>
 vAppend 2 16 [zi 0,zi 0] ZbE aw av s fun ax a4=>
 vStore1 a4 (b.add 1) ax fun a5=>
 ag1 J n (zw (r+1)) a5
 else
 ∃ t:Nat→Prop,
 ldV a b fun v=>
 ldV a (b.add 1) fun w=>
 zB Zm8 #[.agg #[v,w]] a fun ay u=>
 ExtBut t a u ∧
 ldV (hmask t a) b fun x=>
 ldV (hmask t a) (b.add 1) fun y=>
 vStore1 u p2 x fun a6=>
 vStore1 a6 (p2.add 1) y fun k=>
 ldV k p2 fun f=>
 ldV k (p2.add 1) fun g=>
 R (.tuple #[.agg #[f,g],.bool ay]) k):CallsH P Zmr #[.pointer (some i)] h R:=zv ⟨[(5,[(5,.i .i64)])],[],[]⟩ Tryz.func46 hv
theorem Zvx {g i:Value} (m:
 vLen g fun j=>
 lq2 (0:Int) (j:Int) h fun J n a b c=>
 bif decide (a<b) then
 (2:Int)≠0 ∧
 vIdx g (zw (Int.tdiv (zw (a+b)) 2)) 1 fun k=>
 ldV c k fun l=>
 zI Zjt #[l,i] c fun f e=>
 bif f==0 then
 R (.tuple #[zi (zw (Int.tdiv (zw (a+b)) 2)),.bool true]) e
 else
 bif decide (f<0) then
 ag2 J n (zw ((zw (Int.tdiv (zw (a+b)) 2))+1)) b e
 else
 ag2 J n a (zw (Int.tdiv (zw (a+b)) 2)) e
 else
 R (.tuple #[zi a,.bool false]) c):CallsH P Zlx #[g,i] h R:=zv ⟨[(3,[(6,.i .i64),(7,.i .i64)])],[],[]⟩ Tryz.func164 m
theorem ZCB {c:Int} (l:
 vNewS h (.cells #[] Zg) 0 fun m e=>
 lq2 m (0:Int) e fun J n f b a=>
 bif decide (b<c) then
 vNewS a (.cells #[zi b] Zg) 1 fun g i=>
 vAppend 1 8 [zi 0] Zg f g i fun j k=>
 ag2 J n j (zw (b+1)) k
 else
 R f a):CallsH P ZpJ #[zi c] h R:=zv ⟨[(3,[(3,.v),(4,.i .i64)])],[],[]⟩ Tryz.func231 l
theorem Zyw {b e:Value} (t:
 vNewS h (.cells #[] Zg) 0 fun u f=>
 lq2 u (0:Int) f fun J n g c a=>
 vLen b fun i=>
 bif decide (c<(i:Int)) then
 vIdx b c 1 fun j=>
 ldI .i64 a j fun k=>
 vIdx e k 1 fun l=>
 ldI .i64 a l fun m=>
 vNewS a (.cells #[zi m] Zg) 1 fun o p=>
 vAppend 1 8 [zi 0] Zg g o p fun r s=>
 ag2 J n r (zw (c+1)) s
 else
 R g a):CallsH P Zpc #[b,e] h R:=zv ⟨[(3,[(5,.v),(6,.i .i64)])],[],[]⟩ Tryz.func232 t
theorem ZxC {a:Value} {b:Int} {c:Value} (s:
 vNewS h (.cells #[] Zf) 0 fun t e=>
 vSliceS a 1 none (some (zi b)) none fun f=>
 vAppend 1 24 [.slice none 0 0] Zf t f e fun g i=>
 vOne c fun _=>
 vNewS i (.cells #[c] Zf) 1 fun j k=>
 vAppend 1 24 [.slice none 0 0] Zf g j k fun l m=>
 vSliceS a 1 (some (zi b)) none none fun o=>
 vAppend 1 24 [.slice none 0 0] Zf l o m fun p r=>
 R p r):CallsH P ZmQ #[a,zi b,c] h R:=zv ⟨[],[],[]⟩ Tryz.func233 s
theorem ZAr {v:Int} {s:Value} {w:Int} (hv:
 zV ZpJ #[zi v] h fun c x=>
 vOne c fun _=>
 vNewS x (.cells #[c] Zf) 1 fun y a0=>
 vOne c fun _=>
 vNewS a0 (.cells #[c] Zf) 1 fun a1 a2=>
 lq3 y a1 (0:Int) a2 fun J n v9 m k o=>
 vLen m fun a4=>
 bif decide (k<(a4:Int)) then
 lq3 v9 m (0:Int) o fun p r b a e f=>
 vLen s fun a5=>
 bif decide (e<(a5:Int)) then
 vIdx a k 1 fun a6=>
 ldV f a6 fun a7=>
 vIdx s e 1 fun a8=>
 ldV f a8 fun a9=>
 zV Zpc #[a7,a9] f fun g aa=>
 CallsH P Zlx #[b,g] aa fun ab l=>∃ i,∃ (j:Bool),ab=.tuple #[zi i,.bool j] ∧
 bif j then
 ag3 p r b a (zw (e+1)) l
 else
 vLen b fun ac=>
 bif (ac:Int)==w then
 R (.tuple #[(.slice none 0 0),.bool false]) l
 else
 zV ZmQ #[b,zi i,g] l fun ad ae=>
 vOne g fun _=>
 vNewS ae (.cells #[g] Zf) 1 fun af t=>
 vAppend 1 24 [.slice none 0 0] Zf a af t fun ag u=>
 ag3 p r ad ag (zw (e+1)) u
 else
 ag3 J n b a (zw (k+1)) f
 else
 R (.tuple #[v9,.bool true]) o):CallsH P ZkV #[zi v,s,zi w] h R:=zv ⟨[(5,[(9,.v),(10,.v),(11,.i .i64)]),(8,[(9,.v),(10,.v),(12,.i .i64)])],[],[]⟩ Tryz.func163 hv
theorem ZCj {s:Int} {f:Value} (hv:
 vNewS h (.cells #[] Zf) 0 fun m w=>
 CallsH P ZkV #[zi s,m,zi 1] w fun x y=>∃ (a:Value),∃ (k:Bool),x=.tuple #[a,.bool k] ∧
 lq3 m a (0:Int) y fun J n t u g i=>
 vLen f fun a0=>
 bif decide (g<(a0:Int)) then
 vIdx f g 1 fun a1=>
 ldV i a1 fun a2=>
 CallsH P Zlx #[u,a2] i fun a3 j=>∃ l,∃ (b:Bool),a3=.tuple #[zi l,.bool b] ∧
 bif b then
 ag3 J n t u (zw (g+1)) j
 else
 vIdx f g 1 fun a4=>
 ldV j a4 fun a5=>
 zV Zh4 #[a5] j fun o a6=>
 vOne o fun _=>
 vNewS a6 (.cells #[o] Zf) 1 fun a7 a8=>
 vAppend 1 24 [.slice none 0 0] Zf t a7 a8 fun p a9=>
 vLen f fun aa=>
 CallsH P ZkV #[zi s,p,zi (aa:Int)] a9 fun ab r=>∃ (c:Value),∃ (e:Bool),ab=.tuple #[c,.bool e] ∧
 bif !e then
 R (.tuple #[(.slice none 0 0),.bool false]) r
 else
 ag3 J n p c (zw (g+1)) r
 else
 zB Zkk #[u,f] i fun ac v=>
 R (.tuple #[t,.bool ac]) v):CallsH P Zm3 #[zi s,f] h R:=zv ⟨[(4,[(6,.v),(7,.v),(9,.i .i64)])],[],[]⟩ Tryz.func104 hv
theorem ZvT {b:Addr} (hv:
 ∃ J:Heap→Prop,(
 ldI .i64 h b fun x9=>
 zB Zai #[zi x9,zi 1,zi 32] h fun m e=>
 bif !m then
 R (.bool false) e
 else
 ldV e (b.add 1) fun o=>
 vLen o fun p=>
 bif (p:Int)==0 then
 R (.bool false) e
 else
 ldV e (b.add 1) fun r=>
 vLen r fun s=>
 bif decide ((s:Int)>720) then
 R (.bool false) e
 else
 J e
 )∧∀ (_:Env) (j:Heap),J j →
 lq1 (0:Int) j fun k n f c=>
 ldV c (b.add 1) fun t=>
 vLen t fun u=>
 bif decide (f<(u:Int)) then
 ldV c (b.add 1) fun v=>
 vIdx v f 1 fun w=>
 ldV c w fun x=>
 zB ZiE #[x] c fun y a=>
 bif !y then
 R (.bool false) a
 else
 ldV a (b.add 1) fun a0=>
 vIdx a0 f 1 fun a1=>
 ldV a a1 fun a2=>
 vLen a2 fun a3=>
 ldI .i64 a b fun a4=>
 bif (a3:Int) !=a4 then
 R (.bool false) a
 else
 bif decide (f>0) then
 ldV a (b.add 1) fun a5=>
 vIdx a5 (zw (f-1)) 1 fun a6=>
 ldV a a6 fun a7=>
 ldV a (b.add 1) fun a8=>
 vIdx a8 f 1 fun a9=>
 ldV a a9 fun aa=>
 zI Zjt #[a7,aa] a fun ab l=>
 bif decide (ab≥0) then
 R (.bool false) l
 else
 ag1 k n (zw (f+1)) l
 else
 ag1 k n (zw (f+1)) a
 else
 ldI .i64 c b fun ac=>
 ldV c (b.add 1) fun ad=>
 CallsH P Zm3 #[zi ac,ad] c fun ae af=>∃ (i:Value),∃ (g:Bool),ae=.tuple #[i,.bool g] ∧
 R (.bool g) af):CallsH P ZmU #[.pointer (some b)] h R:=zv ⟨[(4,[(3,.i .i64)])],[(3,[])],[]⟩ Tryz.func47 hv
theorem ZBA {a:Addr} (hv:
 ldI .i64 h a fun b=>
 bif b==1 then
 ldV h (a.add 2) fun ad=>
 zB ZhB #[ad] h fun ae p=>
 bif ae then
 ldV p (a.add 2) fun af=>
 vLen af fun ag=>
 ldI .i64 p (a.add 1) fun ah=>
 R (.bool ((ag:Int)==ah)) p
 else
 R (.bool false) p
 else
 bif b==2 then
 ldI .i64 h (a.add 1) fun ai=>
 ldV h (a.add 2) fun v=>
 vOne v fun _=>
 vNew h (.cells #[zi ai,v] Zed) fun aj ak=>
 zB ZpD #[.pointer (some aj)] ak fun al am=>
 R (.bool al) am
 else
 bif b==3 then
 ldV h (a.add 2) fun an=>
 zB ZlT #[an] h fun ao r=>
 bif ao then
 ldV r (a.add 2) fun ap=>
 vLen ap fun aq=>
 ldI .i64 r (a.add 1) fun ar=>
 R (.bool ((aq:Int)==ar)) r
 else
 R (.bool false) r
 else
 bif b==4 then
 CallsH P ZlF #[.pointer (some a)] h fun au av=>∃ c,∃ e,∃ (f:Value),au=.agg #[zi c,zi e,f] ∧
 vNew av (.cells #[zi 0,zi 0,.slice none 0 0] ZaW) fun u aw=>
 vStore1 aw u (zi c) fun ax=>
 vStore1 ax (u.add 1) (zi e) fun ay=>
 vStore1 ay (u.add 2) f fun o=>
 ldV o (a.add 2) fun az=>
 vLen az fun b0=>
 bif decide ((b0:Int)>0) then
 zB Zln #[.pointer (some u)] o fun b1 x=>
 R (.bool b1) x
 else
 R (.bool false) o
 else
 bif b==5 then
 CallsH P ZjU #[.pointer (some a)] h fun b2 y=>∃ g,∃ i,∃ (j:Value),∃ (k:Value),b2=.agg #[zi g,zi i,j,k] ∧
 vNew y (.cells #[zi 0,zi 0,.slice none 0 0,.slice none 0 0] Zbz) fun t a0=>
 vStore1 a0 t (zi g) fun a1=>
 vStore1 a1 (t.add 1) (zi i) fun a2=>
 vStore1 a2 (t.add 2) j fun a3=>
 vStore1 a3 (t.add 3) k fun a4=>
 zB Zj0 #[.pointer (some t)] a4 fun b3 a5=>
 R (.bool b3) a5
 else
 bif b==6 then
 CallsH P Zmr #[.pointer (some a)] h fun b4 a6=>∃ (l:Value),∃ (m:Value),∃ (s:Bool),b4=.tuple #[.agg #[l,m],.bool s] ∧
 vNew a6 (.cells #[.slice none 0 0,.slice none 0 0] Zdl) fun p5 a7=>
 vStore1 a7 p5 l fun a8=>
 vStore1 a8 (p5.add 1) m fun a9=>
 R (.bool s) a9
 else
 bif b==7 then
 ldI .i64 h (a.add 1) fun b6=>
 ldV h (a.add 2) fun w=>
 vOne w fun _=>
 vNew h (.cells #[zi b6,w] Zpf) fun b7 aa=>
 zB ZmU #[.pointer (some b7)] aa fun ab ac=>
 R (.bool ab) ac
 else
 R (.bool false) h):CallsH P Zn6 #[.pointer (some a)] h R:=zv ⟨[],[],[]⟩ Tryz.func17 hv
theorem ZFX {i:Int} (t:
 vNewS h (.cells #[] Zjc) 0 fun u j=>
 lq2 u i j fun J n e b a=>
 bif b !=0 then
 (10:Int)≠0 ∧
 ∃ c:Int→Heap→Prop,(
 bif decide ((Int.tmod b 10:Int)<0) then
 c (zw (0-(Int.tmod b 10))) a
 else
 c (Int.tmod b 10) a
 )∧∀ (_:Env) k (f:Heap),c k f →
 vNewS f (.cells #[.int .u8 (IntKind.u8.wrap (zw (48+k)))] Zjc) 1 fun l m=>
 vAppend 1 1 [.int .u8 0] Zjc l e m fun o p=>
 (10:Int)≠0 ∧
 ag2 J n o (zw (Int.tdiv b 10)) p
 else
 vLen e fun r=>
 bif (r:Int)==0 then
 R (.string ⟨#[48]⟩) a
 else
 bif decide (i<0) then
 vB2S e a fun g=>
 (((⟨#[45]⟩:ByteArray).size+(g:ByteArray).size:Nat):Int)≤IntKind.i64.max ∧
 R (.string ((⟨#[45]⟩:ByteArray)++(g:ByteArray))) a
 else
 vB2S e a fun s=>
 R (.string s) a):CallsH P Zah #[zi i] h R:=zv ⟨[(3,[(3,.v),(4,.i .i64)])],[(8,[(5,.i .i64)])],[]⟩ Tryz.func51 t
theorem ZCs {c:Value} {e:Int} (hv:
 lq1 (0:Int) h fun J n b a=>
 vLen c fun n8=>
 bif decide (b<(n8:Int)) then
 bif e==1 then
 vIdx c b 1 fun p=>
 ldV a p fun r=>
 vIdx r b 1 fun s=>
 ldI .i64 a s fun t=>
 bif t !=b then
 R (.bool false) a
 else
 bif e==2 then
 vIdx c b 1 fun u=>
 ldV a u fun v=>
 vIdx v b 1 fun w=>
 ldI .i64 a w fun x=>
 vIdx c 0 1 fun y=>
 ldV a y fun a0=>
 vIdx a0 0 1 fun a1=>
 ldI .i64 a a1 fun a2=>
 bif x !=a2 then
 R (.bool false) a
 else
 ag1 J n (zw (b+1)) a
 else
 ag1 J n (zw (b+1)) a
 else
 bif e==2 then
 vIdx c b 1 fun f=>
 ldV a f fun g=>
 vIdx g b 1 fun i=>
 ldI .i64 a i fun j=>
 vIdx c 0 1 fun k=>
 ldV a k fun l=>
 vIdx l 0 1 fun m=>
 ldI .i64 a m fun o=>
 bif j !=o then
 R (.bool false) a
 else
 ag1 J n (zw (b+1)) a
 else
 ag1 J n (zw (b+1)) a
 else
 R (.bool true) a):CallsH P ZnW #[c,zi e] h R:=zv ⟨[(2,[(5,.i .i64)])],[],[]⟩ Tryz.func234 hv
theorem Zya {c:Value} {e:Int} {f:Bool} (w:
 lq1 (0:Int) h fun J n b a=>
 vLen c fun l=>
 bif decide (b<(l:Int)) then
 bif f then
 vIdx c e 1 fun m=>
 ldV a m fun o=>
 vIdx o b 1 fun p=>
 ldI .i64 a p fun r=>
 bif r !=b then
 R (.bool false) a
 else
 bif !f then
 vIdx c b 1 fun s=>
 ldV a s fun t=>
 vIdx t e 1 fun u=>
 ldI .i64 a u fun v=>
 bif v !=b then
 R (.bool false) a
 else
 ag1 J n (zw (b+1)) a
 else
 ag1 J n (zw (b+1)) a
 else
 bif !f then
 vIdx c b 1 fun g=>
 ldV a g fun i=>
 vIdx i e 1 fun j=>
 ldI .i64 a j fun k=>
 bif k !=b then
 R (.bool false) a
 else
 ag1 J n (zw (b+1)) a
 else
 ag1 J n (zw (b+1)) a
 else
 R (.bool true) a):CallsH P Zpm #[c,zi e,.bool f] h R:=zv ⟨[(2,[(7,.i .i64)])],[],[]⟩ Tryz.func283 w
theorem ZxJ {c:Value} {f:Bool} (i:
 lq1 (0:Int) h fun J n e a=>
 vLen c fun j=>
 bif decide (e<(j:Int)) then
 zB Zpm #[c,zi e,.bool f] a fun g b=>
 bif g then
 R (.bool true) b
 else
 ag1 J n (zw (e+1)) b
 else
 R (.bool false) a):CallsH P Zkc #[c,.bool f] h R:=zv ⟨[(2,[(5,.i .i64)])],[],[]⟩ Tryz.func235 i
theorem ZCu {b:Value} (hv:
 vLen b fun j=>
 lq1 (0:Int) h fun J n c g=>
 bif decide (c<(j:Int)) then
 lq1 (0:Int) g fun k l e i=>
 bif decide (e<(j:Int)) then
 lq1 (0:Int) i fun m o f a=>
 bif decide (f<(j:Int)) then
 vIdx b c 1 fun p=>
 ldV a p fun r=>
 vIdx r e 1 fun s=>
 ldI .i64 a s fun t=>
 vIdx b t 1 fun u=>
 ldV a u fun v=>
 vIdx v f 1 fun w=>
 ldI .i64 a w fun x=>
 vIdx b c 1 fun y=>
 ldV a y fun a0=>
 vIdx b e 1 fun a1=>
 ldV a a1 fun a2=>
 vIdx a2 f 1 fun a3=>
 ldI .i64 a a3 fun a4=>
 vIdx a0 a4 1 fun a5=>
 ldI .i64 a a5 fun a6=>
 bif x !=a6 then
 R (.bool false) a
 else
 ag1 m o (zw (f+1)) a
 else
 ag1 k l (zw (e+1)) a
 else
 ag1 J n (zw (c+1)) i
 else
 R (.bool true) g):CallsH P Zn9 #[b] h R:=zv ⟨[(3,[(4,.i .i64)]),(6,[(5,.i .i64)]),(9,[(6,.i .i64)])],[],[]⟩ Tryz.func236 hv
theorem Zxe {c:Value} {i:Int} (hv:
 vLen c fun u=>
 lq1 (0:Int) h fun J n e t=>
 bif decide (e<(u:Int)) then
 lq1 (0:Int) t fun f g b a=>
 bif decide (b<(u:Int)) then
 bif i==3 then
 vIdx c e 1 fun v=>
 ldV a v fun w=>
 vIdx w b 1 fun x=>
 ldI .i64 a x fun y=>
 vIdx c b 1 fun a0=>
 ldV a a0 fun a1=>
 vIdx a1 e 1 fun a2=>
 ldI .i64 a a2 fun a3=>
 bif y !=a3 then
 R (.bool false) a
 else
 bif i==7 then
 vIdx c e 1 fun a4=>
 ldV a a4 fun a5=>
 vIdx c b 1 fun a6=>
 ldV a a6 fun a7=>
 vIdx a7 e 1 fun a8=>
 ldI .i64 a a8 fun a9=>
 vIdx a5 a9 1 fun aa=>
 ldI .i64 a aa fun ab=>
 bif ab !=b then
 R (.bool false) a
 else
 ag1 f g (zw (b+1)) a
 else
 ag1 f g (zw (b+1)) a
 else
 bif i==7 then
 vIdx c e 1 fun j=>
 ldV a j fun k=>
 vIdx c b 1 fun l=>
 ldV a l fun m=>
 vIdx m e 1 fun o=>
 ldI .i64 a o fun p=>
 vIdx k p 1 fun r=>
 ldI .i64 a r fun s=>
 bif s !=b then
 R (.bool false) a
 else
 ag1 f g (zw (b+1)) a
 else
 ag1 f g (zw (b+1)) a
 else
 ag1 J n (zw (e+1)) a
 else
 R (.bool true) t):CallsH P ZgZ #[c,zi i] h R:=zv ⟨[(3,[(6,.i .i64)]),(6,[(7,.i .i64)])],[],[]⟩ Tryz.func237 hv
theorem ZDA {c:Value} {b:Int} (w:
 ∃ J:Bool→Heap→Prop,(
 bif b==1 then
 J (b==1) h
 else
 J (b==2) h
 )∧∀ (_:Env) (f:Bool) (a:Heap),J f a →
 bif f then
 zB ZnW #[c,zi b] a fun g i=>
 R (.bool g) i
 else
 bif b==4 then
 zB Zkc #[c,.bool true] a fun j k=>
 R (.bool j) k
 else
 bif b==5 then
 zB Zkc #[c,.bool false] a fun l m=>
 R (.bool l) m
 else
 bif b==6 then
 zB Zn9 #[c] a fun o p=>
 R (.bool o) p
 else
 bif b==8 then
 zB ZgZ #[c,zi 3] a fun r e=>
 bif r then
 zB ZgZ #[c,zi 7] e fun s t=>
 R (.bool s) t
 else
 R (.bool false) e
 else
 zB ZgZ #[c,zi b] a fun u v=>
 R (.bool u) v):CallsH P Zmg #[c,zi b] h R:=zv ⟨[],[(4,[(6,.b)])],[]⟩ Tryz.func166 w
theorem ZF6 {f:Value} (p:
 zB ZhB #[f] h fun r b=>
 bif !r then
 R (.tuple #[(.slice none 0 0),zi 1]) b
 else
 vNewS b (.cells #[] Zg) 0 fun s i=>
 lq2 s (1:Int) i fun J n g a c=>
 bif decide (a≤8) then
 zB Zmg #[f,zi a] c fun j e=>
 bif j then
 vNewS e (.cells #[zi a] Zg) 1 fun k l=>
 vAppend 1 8 [zi 0] Zg g k l fun m o=>
 ag2 J n m (zw (a+1)) o
 else
 ag2 J n g (zw (a+1)) e
 else
 R (.tuple #[g,zi 0]) c):CallsH P Zn5 #[f] h R:=zv ⟨[(5,[(4,.v),(5,.i .i64)])],[],[]⟩ Tryz.func105 p
theorem ZvX (b:
 vNewS h (.cells #[.string ⟨#[]⟩,.string ⟨#[105,100,101,109,112,111,116,101,110,116]⟩,.string ⟨#[117,110,105,112,111,116,101,110,116]⟩,.string ⟨#[99,111,109,109,117,116,97,116,105,118,101]⟩,.string ⟨#[108,101,102,116,45,117,110,105,116]⟩,.string ⟨#[114,105,103,104,116,45,117,110,105,116]⟩,.string ⟨#[97,115,115,111,99,105,97,116,105,118,101]⟩,.string ⟨#[115,101,109,105,115,121,109,109,101,116,114,105,99]⟩,.string ⟨#[115,121,109,109,101,116,114,105,99]⟩] ZV) 9 fun c a=>
 R c a):CallsH P Zqo #[] h R:=zv ⟨[],[],[]⟩ Tryz.func167 b
theorem Zxd {c:Int} (e:
 zB Zai #[zi c,zi 1,zi 8] h fun f a=>
 bif !f then
 R (.string ⟨#[]⟩) a
 else
 zV Zqo #[] a fun g b=>
 vIdx g c 1 fun i=>
 ldS b i fun j=>
 R (.string j) b):CallsH P Zqd #[zi c] h R:=zv ⟨[],[],[]⟩ Tryz.func106 e
theorem ZEa {c b:Value} (hv:
 vLen c fun e=>
 ∃ J:Heap→Prop,(
 vLen b fun m=>
 bif (m:Int) !=4 then
 R (.bool false) h
 else
 vSliceS b 1 none (some (zi 2)) none fun o=>
 zB ZjB #[o,zi 0,zi (zw ((e:Int)-1))] h fun p f=>
 bif !p then
 R (.bool false) f
 else
 vSliceS b 1 (some (zi 2)) none none fun r=>
 zB ZjB #[r,zi 0,zi (zw ((e:Int)-1))] f fun s g=>
 bif !s then
 R (.bool false) g
 else
 J g
 )∧∀ (_:Env) (a:Heap),J a →
 vIdx b 0 1 fun t=>
 ldI .i64 a t fun i=>
 vIdx b 1 1 fun u=>
 ldI .i64 a u fun j=>
 vIdx b 2 1 fun v=>
 ldI .i64 a v fun k=>
 vIdx b 3 1 fun w=>
 ldI .i64 a w fun l=>
 vIdx c i 1 fun x=>
 ldV a x fun y=>
 vIdx y k 1 fun a0=>
 ldI .i64 a a0 fun a1=>
 vIdx c j 1 fun a2=>
 ldV a a2 fun a3=>
 vIdx a3 l 1 fun a4=>
 ldI .i64 a a4 fun a5=>
 bif a1==a5 then
 vIdx c i 1 fun a6=>
 ldV a a6 fun a7=>
 vIdx a7 l 1 fun p64=>
 ldI .i64 a p64 fun a8=>
 vIdx c j 1 fun a9=>
 ldV a a9 fun aa=>
 vIdx aa k 1 fun ab=>
 ldI .i64 a ab fun ac=>
 R (.bool (a8==ac)) a
 else
 R (.bool false) a):CallsH P ZpE #[c,b] h R:=zv ⟨[],[(4,[])],[]⟩ Tryz.func168 hv
theorem ZE0 {j:Value} (hv:
 zB ZhB #[j] h fun a0 l=>
 bif !a0 then
 R (.tuple #[(.slice none 0 0),zi 1]) l
 else
 vNewS l (.cells #[] Zf) 0 fun a1 a2=>
 vLen j fun b=>
 lq2 a1 (0:Int) a2 fun J n v4 c m=>
 bif decide (c<(b:Int)) then
 lq2 v4 (zw (c+1)) m fun a4 a5 e k o=>
 bif decide (k<(b:Int)) then
 lq2 e (0:Int) o fun a6 a7 f g p=>
 bif decide (g<(b:Int)) then
 lq2 f (zw (g+1)) p fun r s a i t=>
 bif decide (i<(b:Int)) then
 vNewS t (.cells #[zi c,zi k,zi g,zi i] Zg) 4 fun a8 a9=>
 zB ZpE #[j,a8] a9 fun aa u=>
 bif aa then
 vNewS u (.cells #[zi c,zi k,zi g,zi i] Zg) 4 fun v w=>
 vOne v fun _=>
 vNewS w (.cells #[v] Zf) 1 fun ab x=>
 vAppend 1 24 [.slice none 0 0] Zf a ab x fun ac y=>
 ag2 r s ac (zw (i+1)) y
 else
 ag2 r s a (zw (i+1)) u
 else
 ag2 a6 a7 a (zw (g+1)) t
 else
 ag2 a4 a5 f (zw (k+1)) p
 else
 ag2 J n e (zw (c+1)) o
 else
 R (.tuple #[v4,zi 0]) m):CallsH P ZqI #[j] h R:=zv ⟨[(6,[(4,.v),(6,.i .i64)]),(9,[(4,.v),(7,.i .i64)]),(12,[(4,.v),(8,.i .i64)]),(15,[(4,.v),(9,.i .i64)])],[],[]⟩ Tryz.func107 hv
theorem Zx3 {e:Value} (hv:
 vLen e fun p=>
 zS Zah #[zi (p:Int)] h fun i r=>
 (((⟨#[111,114,100,101,114,32]⟩:ByteArray).size+(i:ByteArray).size:Nat):Int)≤IntKind.i64.max ∧
 vNewS r (.cells #[.string ((⟨#[111,114,100,101,114,32]⟩:ByteArray)++(i:ByteArray))] ZV) 1 fun s t=>
 CallsH P Zn5 #[e] t fun u v=>∃ (a:Value),∃ f,u=.tuple #[a,zi f] ∧
 lq2 s (0:Int) v fun J n w k c=>
 vLen a fun x=>
 bif decide (k<(x:Int)) then
 vIdx a k 1 fun y=>
 ldI .i64 c y fun a0=>
 zS Zqd #[zi a0] c fun a1 a2=>
 vNewS a2 (.cells #[.string a1] ZV) 1 fun a3 a4=>
 vAppend 1 16 [.string ⟨#[]⟩] ZV w a3 a4 fun a5 a6=>
 ag2 J n a5 (zw (k+1)) a6
 else
 CallsH P ZqI #[e] c fun a7 a8=>∃ (b:Value),∃ g,a7=.tuple #[b,zi g] ∧
 vLen b fun a9=>
 zS Zah #[zi (a9:Int)] a8 fun j l=>
 (((⟨#[105,110,116,101,114,99,97,108,97,116,101,115,32]⟩:ByteArray).size+(j:ByteArray).size:Nat):Int)≤IntKind.i64.max ∧
 vNewS l (.cells #[.string ((⟨#[105,110,116,101,114,99,97,108,97,116,101,115,32]⟩:ByteArray)++(j:ByteArray))] ZV) 1 fun aa m=>
 vAppend 1 16 [.string ⟨#[]⟩] ZV w aa m fun ab o=>
 R ab o):CallsH P ZnT #[e] h R:=zv ⟨[(4,[(3,.v),(6,.i .i64)])],[],[]⟩ Tryz.func48 hv
theorem ZFc {c:Addr} (hv:
 vNewS h (.cells #[] Zg) 0 fun v8 r=>
 lq2 v8 (0:Int) r fun J n s l f=>
 ldI .i64 f c fun t=>
 bif decide (l<t) then
 lq2 s (zw (l+1)) f fun u v g p i=>
 ldI .i64 i c fun w=>
 bif decide (p<w) then
 lq2 (0:Int) (0:Int) i fun j k m e a=>
 ldV a (c.add 1) fun x=>
 vLen x fun y=>
 bif decide (e<(y:Int)) then
 ldV a (c.add 1) fun a0=>
 vIdx a0 e 1 fun a1=>
 ldV a a1 fun a2=>
 zB Zhr #[a2,zi l] a fun a3 b=>
 bif a3 then
 ldV b (c.add 1) fun a4=>
 vIdx a4 e 1 fun a5=>
 ldV b a5 fun a6=>
 zB Zhr #[a6,zi p] b fun a7 o=>
 bif a7 then
 ag2 j k (zw (m+1)) (zw (e+1)) o
 else
 ag2 j k m (zw (e+1)) o
 else
 ag2 j k m (zw (e+1)) b
 else
 vNewS a (.cells #[zi m] Zg) 1 fun a8 a9=>
 vAppend 1 8 [zi 0] Zg g a8 a9 fun aa ab=>
 ag2 u v aa (zw (p+1)) ab
 else
 ag2 J n g (zw (l+1)) i
 else
 R s f):CallsH P ZmR #[.pointer (some c)] h R:=zv ⟨[(3,[(3,.v),(4,.i .i64)]),(6,[(3,.v),(5,.i .i64)]),(10,[(6,.i .i64),(7,.i .i64)])],[],[]⟩ Tryz.func169 hv
theorem ZDk {b:Addr} (hv:
 ldI .i64 h b fun j=>
 vMake 8 [zi 0] Zg j j h fun c k=>
 lq1 (0:Int) k fun J n f e=>
 ldV e (b.add 1) fun l=>
 vLen l fun m=>
 bif decide (f<(m:Int)) then
 lq1 (0:Int) e fun o p i a=>
 ldV a (b.add 1) fun r=>
 vIdx r f 1 fun s=>
 ldV a s fun t=>
 vLen t fun u=>
 bif decide (i<(u:Int)) then
 ldV a (b.add 1) fun v=>
 vIdx v f 1 fun w=>
 ldV a w fun x=>
 vIdx x i 1 fun y=>
 ldI .i64 a y fun g=>
 vIdx c g 1 fun a0=>
 ldI .i64 a a0 fun a1=>
 vIdx c g 1 fun a2=>
 vStore1 a a2 (zi (zw (a1+1))) fun a3=>
 ag1 o p (zw (i+1)) a3
 else
 ag1 J n (zw (f+1)) a
 else
 R c e):CallsH P Zp3 #[.pointer (some b)] h R:=zv ⟨[(3,[(4,.i .i64)]),(6,[(5,.i .i64)])],[],[]⟩ Tryz.func170 hv
theorem ZFM {j:Addr} (hv:
 vNew h (.cells #[zi 0,zi 0,zi 0,zi 0,zi 0] ZjZ) fun p2 m=>
 ∃ J:Heap→Prop,(
 ldI .i64 m j fun ba=>
 bif decide (ba<2) then
 vStore1 m p2 (zi 0) fun bb=>
 vStore1 bb (p2.add 1) (zi 0) fun bc=>
 vStore1 bc (p2.add 2) (zi 0) fun bd=>
 vStore1 bd (p2.add 3) (zi 0) fun be=>
 vStore1 be (p2.add 4) (zi 0) fun k=>
 ldI .i64 k p2 fun ah=>
 ldI .i64 k (p2.add 1) fun ai=>
 ldI .i64 k (p2.add 2) fun aj=>
 ldI .i64 k (p2.add 3) fun ak=>
 ldI .i64 k (p2.add 4) fun al=>
 R (.tuple #[.agg #[zi ah,zi ai,zi aj,zi ak,zi al],.bool false]) k
 else
 ldV m (j.add 1) fun bf=>
 vLen bf fun bg=>
 bif (bg:Int)==0 then
 vStore1 m p2 (zi 0) fun bh=>
 vStore1 bh (p2.add 1) (zi 0) fun bi=>
 vStore1 bi (p2.add 2) (zi 0) fun an=>
 vStore1 an (p2.add 3) (zi 0) fun ao=>
 vStore1 ao (p2.add 4) (zi 0) fun c=>
 ldI .i64 c p2 fun o=>
 ldI .i64 c (p2.add 1) fun p=>
 ldI .i64 c (p2.add 2) fun r=>
 ldI .i64 c (p2.add 3) fun s=>
 ldI .i64 c (p2.add 4) fun t=>
 R (.tuple #[.agg #[zi o,zi p,zi r,zi s,zi t],.bool false]) c
 else
 J m
 )∧∀ (_:Env) (l:Heap),J l →
 ldV l (j.add 1) fun bj=>
 vIdx bj 0 1 fun bk=>
 ldV l bk fun bm=>
 vLen bm fun am=>
 lq1 (0:Int) l fun bn n x5 b=>
 ldV b (j.add 1) fun bo=>
 vLen bo fun bp=>
 bif decide (x5<(bp:Int)) then
 ldV b (j.add 1) fun bq=>
 vIdx bq x5 1 fun br=>
 ldV b br fun bs=>
 vLen bs fun bt=>
 bif (bt:Int) !=(am:Int) then
 vStore1 b p2 (zi 0) fun aq=>
 vStore1 aq (p2.add 1) (zi 0) fun ar=>
 vStore1 ar (p2.add 2) (zi 0) fun au=>
 vStore1 au (p2.add 3) (zi 0) fun av=>
 vStore1 av (p2.add 4) (zi 0) fun e=>
 ldI .i64 e p2 fun u=>
 ldI .i64 e (p2.add 1) fun v=>
 ldI .i64 e (p2.add 2) fun w=>
 ldI .i64 e (p2.add 3) fun x=>
 ldI .i64 e (p2.add 4) fun y=>
 R (.tuple #[.agg #[zi u,zi v,zi w,zi x,zi y],.bool false]) e
 else
 bif decide ((am:Int)<2) then
 vStore1 b p2 (zi 0) fun aw=>
 vStore1 aw (p2.add 1) (zi 0) fun ax=>
 vStore1 ax (p2.add 2) (zi 0) fun ay=>
 vStore1 ay (p2.add 3) (zi 0) fun az=>
 vStore1 az (p2.add 4) (zi 0) fun f=>
 ldI .i64 f p2 fun a0=>
 ldI .i64 f (p2.add 1) fun a1=>
 ldI .i64 f (p2.add 2) fun a2=>
 ldI .i64 f (p2.add 3) fun a3=>
 ldI .i64 f (p2.add 4) fun a4=>
 R (.tuple #[.agg #[zi a0,zi a1,zi a2,zi a3,zi a4],.bool false]) f
 else
 ag1 bn n (zw (x5+1)) b
 else
 zV ZmR #[.pointer (some j)] b fun ag b0=>
 lq1 (0:Int) b0 fun bu bv x7 a=>
 vLen ag fun bw=>
 bif decide (x7<(bw:Int)) then
 vIdx ag x7 1 fun bx=>
 ldI .i64 a bx fun bz=>
 vIdx ag 0 1 fun c0=>
 ldI .i64 a c0 fun c3=>
 bif bz !=c3 then
 vStore1 a p2 (zi 0) fun b2=>
 vStore1 b2 (p2.add 1) (zi 0) fun b3=>
 vStore1 b3 (p2.add 2) (zi 0) fun b4=>
 vStore1 b4 (p2.add 3) (zi 0) fun b5=>
 vStore1 b5 (p2.add 4) (zi 0) fun g=>
 ldI .i64 g p2 fun a5=>
 ldI .i64 g (p2.add 1) fun a6=>
 ldI .i64 g (p2.add 2) fun a7=>
 ldI .i64 g (p2.add 3) fun a8=>
 ldI .i64 g (p2.add 4) fun a9=>
 R (.tuple #[.agg #[zi a5,zi a6,zi a7,zi a8,zi a9],.bool false]) g
 else
 ag1 bu bv (zw (x7+1)) a
 else
 ∃ B:Nat→Prop,
 zV Zp3 #[.pointer (some j)] a fun c4 af=>
 ExtBut B a af ∧
 ldI .i64 (hmask B a) j fun c5=>
 ldV (hmask B a) (j.add 1) fun c6=>
 vLen c6 fun c7=>
 vIdx c4 0 1 fun c8=>
 ldI .i64 af c8 fun c9=>
 vIdx ag 0 1 fun ca=>
 ldI .i64 (hmask B a) ca fun cb=>
 vStore1 af p2 (zi c5) fun b6=>
 vStore1 b6 (p2.add 1) (zi (c7:Int)) fun b7=>
 vStore1 b7 (p2.add 2) (zi c9) fun b8=>
 vStore1 b8 (p2.add 3) (zi (am:Int)) fun b9=>
 vStore1 b9 (p2.add 4) (zi cb) fun i=>
 ldI .i64 i p2 fun aa=>
 ldI .i64 i (p2.add 1) fun ab=>
 ldI .i64 i (p2.add 2) fun ac=>
 ldI .i64 i (p2.add 3) fun ad=>
 ldI .i64 i (p2.add 4) fun ae=>
 R (.tuple #[.agg #[zi aa,zi ab,zi ac,zi ad,zi ae],.bool true]) i):CallsH P Zos #[.pointer (some j)] h R:=zv ⟨[(5,[(5,.i .i64)]),(11,[(7,.i .i64)])],[(3,[])],[]⟩ Tryz.func108 hv
theorem ZFd {o:Addr} (hv:
 ∃ B:Nat→Prop,
 ldI .i64 h o fun x9=>
 zS Zah #[zi x9] h fun p r=>
 ExtBut B h r ∧
 ldV (hmask B h) (o.add 1) fun a2=>
 vLen a2 fun a3=>
 zS Zah #[zi (a3:Int)] r fun s a4=>
 (((⟨#[112,111,105,110,116,115,32]⟩:ByteArray).size+(p:ByteArray).size:Nat):Int)≤IntKind.i64.max ∧
 (((⟨#[98,108,111,99,107,115,32]⟩:ByteArray).size+(s:ByteArray).size:Nat):Int)≤IntKind.i64.max ∧
 vNewS a4 (.cells #[.string ((⟨#[112,111,105,110,116,115,32]⟩:ByteArray)++(p:ByteArray)),.string ((⟨#[98,108,111,99,107,115,32]⟩:ByteArray)++(s:ByteArray))] ZV) 2 fun t a5=>
 CallsH P Zos #[.pointer (some o)] a5 fun a6 a7=>∃ b,∃ c,∃ e,∃ f,∃ g,∃ (j:Bool),a6=.tuple #[.agg #[zi b,zi c,zi e,zi f,zi g],.bool j] ∧
 vNew a7 (.cells #[zi 0,zi 0,zi 0,zi 0,zi 0] ZjZ) fun i a8=>
 vStore1 a8 i (zi b) fun a9=>
 vStore1 a9 (i.add 1) (zi c) fun aa=>
 vStore1 aa (i.add 2) (zi e) fun ab=>
 vStore1 ab (i.add 3) (zi f) fun x=>
 vStore1 x (i.add 4) (zi g) fun a=>
 bif j then
 ∃ k:Nat→Prop,
 ldI .i64 a (i.add 2) fun ac=>
 zS Zah #[zi ac] a fun u l=>
 ExtBut k a l ∧
 ldI .i64 (hmask k a) (i.add 3) fun ad=>
 zS Zah #[zi ad] l fun v m=>
 ExtBut k a m ∧
 ldI .i64 (hmask k a) (i.add 4) fun ae=>
 zS Zah #[zi ae] m fun w y=>
 (((⟨#[114,101,112,108,105,99,97,116,105,111,110,32]⟩:ByteArray).size+(u:ByteArray).size:Nat):Int)≤IntKind.i64.max ∧
 (((⟨#[98,108,111,99,107,32,115,105,122,101,32]⟩:ByteArray).size+(v:ByteArray).size:Nat):Int)≤IntKind.i64.max ∧
 (((⟨#[108,97,109,98,100,97,32]⟩:ByteArray).size+(w:ByteArray).size:Nat):Int)≤IntKind.i64.max ∧
 vNewS y (.cells #[.string ((⟨#[114,101,112,108,105,99,97,116,105,111,110,32]⟩:ByteArray)++(u:ByteArray)),.string ((⟨#[98,108,111,99,107,32,115,105,122,101,32]⟩:ByteArray)++(v:ByteArray)),.string ((⟨#[108,97,109,98,100,97,32]⟩:ByteArray)++(w:ByteArray))] ZV) 3 fun af a0=>
 vAppend 1 16 [.string ⟨#[]⟩] ZV t af a0 fun ag a1=>
 R ag a1
 else
 R t a):CallsH P ZoJ #[.pointer (some o)] h R:=zv ⟨[],[],[]⟩ Tryz.func49 hv
theorem Zv2 {b:Value} (u:
 zB ZlT #[b] h fun v e=>
 bif !v then
 R (.tuple #[zi 0,zi 1]) e
 else
 lq2 (0:Int) (0:Int) e fun J n j g f=>
 vLen b fun k=>
 bif decide (g<(k:Int)) then
 lq2 j (0:Int) f fun l m c i a=>
 vLen b fun o=>
 bif decide (i<(o:Int)) then
 vIdx b g 1 fun p=>
 ldV a p fun r=>
 vIdx r i 1 fun s=>
 ldI .i64 a s fun t=>
 ag2 l m (zw (c+t)) (zw (i+1)) a
 else
 ag2 J n c (zw (g+1)) a
 else
 R (.tuple #[zi j,zi 0]) f):CallsH P Znc #[b] h R:=zv ⟨[(5,[(4,.i .i64),(5,.i .i64)]),(8,[(4,.i .i64),(6,.i .i64)])],[],[]⟩ Tryz.func50 u
theorem Zye {b e:Int} (g:
 lq2 (1:Int) (0:Int) h fun J n c f a=>
 bif decide (f<e) then
 bif decide ((zw (c*b):Int)>256) then
 R (zi 257) a
 else
 ag2 J n (zw (c*b)) (zw (f+1)) a
 else
 R (zi c) a):CallsH P ZnK #[zi b,zi e] h R:=zv ⟨[(3,[(5,.i .i64),(6,.i .i64)])],[],[]⟩ Tryz.func171 g
theorem Zw5 {b c:Int} (m:
 ∃ J:Heap→Prop,(
 zB Zai #[zi b,zi 0,zi 32] h fun o e=>
 bif !o then
 R (zi 0) e
 else
 zB Zai #[zi c,zi 0,zi b] e fun j f=>
 bif !j then
 R (zi 0) f
 else
 J f
 )∧∀ (_:Env) (g:Heap),J g →
 lq2 (1:Int) (1:Int) g fun k n l a i=>
 bif decide (a≤c) then
 a≠0 ∧
 ag2 k n (zw (Int.tdiv (zw (l*(zw ((zw (b-c))+a)))) a)) (zw (a+1)) i
 else
 R (zi l) i):CallsH P ZkD #[zi b,zi c] h R:=zv ⟨[(5,[(5,.i .i64),(6,.i .i64)])],[(3,[])],[]⟩ Tryz.func172 m
theorem ZAj {k l m:Int} (x:
 vNewS h (.cells #[] Zg) 0 fun o p=>
 lq3 m o (0:Int) p fun J n a b c e=>
 ∃ f:Heap→Prop,(
 vLen b fun r=>
 bif decide ((r:Int)<l) then
 bif decide (c<k) then
 f e
 else
 R b e
 else
 R b e
 )∧∀ (_:Env) (g:Heap),f g →
 vLen b fun s=>
 zI ZkD #[zi (zw ((zw (k-1))-c)),zi (zw ((zw (l-1))-(s:Int)))] g fun i j=>
 bif decide (a<i) then
 vNewS j (.cells #[zi c] Zg) 1 fun t u=>
 vAppend 1 8 [zi 0] Zg b t u fun v w=>
 ag3 J n a v (zw (c+1)) w
 else
 ag3 J n (zw (a-i)) b (zw (c+1)) j):CallsH P Zmm #[zi k,zi l,zi m] h R:=zv ⟨[(3,[(2,.i .i64),(7,.v),(8,.i .i64)])],[(4,[])],[]⟩ Tryz.func173 x
theorem ZDE {c:Addr} {r:Int} (hv:
 ldI .i64 h c fun a3=>
 zI ZnK #[zi a3,zi r] h fun a e=>
 ∃ J:Heap→Prop,(
 bif decide (a>256) then
 R (zi 0) e
 else
 ldV e (c.add 2) fun a4=>
 vLen a4 fun a5=>
 bif (a5:Int)==0 then
 R (zi 0) e
 else
 ldV e (c.add 2) fun a6=>
 vLen a6 fun a7=>
 a≠0 ∧
 bif (Int.tmod (a7:Int) a:Int) !=0 then
 R (zi 0) e
 else
 J e
 )∧∀ (_:Env) (g:Heap),J g →
 ldV g (c.add 2) fun a8=>
 vLen a8 fun s=>
 a≠0 ∧
 lq1 (0:Int) g fun a9 n v t=>
 ldI .i64 t (c.add 1) fun aa=>
 zI ZkD #[zi aa,zi r] t fun ab i=>
 bif decide (v<ab) then
 ldI .i64 i (c.add 1) fun ac=>
 zV Zmm #[zi ac,zi r,zi v] i fun u ad=>
 vMake 8 [zi 0] Zg a a ad fun j ae=>
 lq1 (0:Int) ae fun af ag k l=>
 ldV l (c.add 2) fun ah=>
 vLen ah fun ai=>
 bif decide (k<(ai:Int)) then
 lq2 (0:Int) (0:Int) l fun aj ak m o b=>
 vLen u fun al=>
 bif decide (o<(al:Int)) then
 ldI .i64 b c fun am=>
 ldV b (c.add 2) fun an=>
 vIdx an k 1 fun ao=>
 ldV b ao fun ap=>
 vIdx u o 1 fun aq=>
 ldI .i64 b aq fun ar=>
 vIdx ap ar 1 fun au=>
 ldI .i64 b au fun av=>
 ag2 aj ak (zw ((zw (m*am))+av)) (zw (o+1)) b
 else
 vIdx j m 1 fun w=>
 ldI .i64 b w fun x=>
 vIdx j m 1 fun y=>
 vStore1 b y (zi (zw (x+1))) fun a0=>
 ag1 af ag (zw (k+1)) a0
 else
 lq1 (0:Int) l fun aw ax p f=>
 bif decide (p<a) then
 vIdx j p 1 fun a1=>
 ldI .i64 f a1 fun a2=>
 bif a2 !=(zw (Int.tdiv (s:Int) a)) then
 R (zi 0) f
 else
 ag1 aw ax (zw (p+1)) f
 else
 ag1 a9 n (zw (v+1)) f
 else
 R (zi (zw (Int.tdiv (s:Int) a))) i):CallsH P Zqs #[.pointer (some c),zi r] h R:=zv ⟨[(6,[(7,.i .i64)]),(11,[(10,.i .i64)]),(15,[(11,.i .i64),(12,.i .i64)]),(20,[(13,.i .i64)])],[(4,[])],[]⟩ Tryz.func109 hv
theorem ZyD {a b:Int} {c:Value} (l:
 vNew h (.cells #[zi a,zi b,c] ZaW) fun p1 j=>
 zB Zln #[.pointer (some p1)] j fun m e=>
 bif !m then
 R (zi 0) e
 else
 ldI .i64 e (p1.add 1) fun o=>
 lq1 o e fun J n f g=>
 bif decide (f>0) then
 zI Zqs #[.pointer (some p1),zi f] g fun k i=>
 bif decide (k>0) then
 R (zi f) i
 else
 ag1 J n (zw (f-1)) i
 else
 R (zi 0) g):CallsH P ZoQ #[.agg #[zi a,zi b,c]] h R:=zv ⟨[(4,[(3,.i .i64)])],[],[]⟩ Tryz.func52 l
theorem Zxl {i:Addr} {c g:Value} (hv:
 vLen c fun f=>
 vMake 8 [zi 0] Zg (f:Int) (f:Int) h fun e j=>
 lq1 (0:Int) j fun J n b a=>
 vLen c fun k=>
 bif decide (b<(k:Int)) then
 vIdx g b 1 fun l=>
 ldI .i64 a l fun m=>
 bif m==0 then
 vIdx c b 1 fun o=>
 ldI .i64 a o fun p=>
 vIdx e b 1 fun r=>
 vStore1 a r (zi p) fun s=>
 ag1 J n (zw (b+1)) s
 else
 vIdx c b 1 fun t=>
 ldI .i64 a t fun u=>
 vIdx g b 1 fun v=>
 ldI .i64 a v fun w=>
 zI ZkI #[.pointer (some i),zi u,zi w,zi 1] a fun x y=>
 vIdx e b 1 fun a0=>
 vStore1 y a0 (zi x) fun a1=>
 ag1 J n (zw (b+1)) a1
 else
 R e a):CallsH P Zpt #[.pointer (some i),c,g] h R:=zv ⟨[(3,[(8,.i .i64)])],[],[]⟩ Tryz.func217 hv
theorem ZzT {b:Addr} (hv:
 ldV h (b.add 3) fun a0=>
 vIdx a0 0 1 fun a1=>
 ldV h a1 fun a2=>
 vLen a2 fun j=>
 vMake 8 [zi 0] Zg (j:Int) (j:Int) h fun k a3=>
 vOne k fun _=>
 vNewS a3 (.cells #[k] Zf) 1 fun a4 a5=>
 zI ZhE #[.pointer (some b)] a5 fun l a6=>
 lq2 a4 (0:Int) a6 fun J n p r e=>
 ldV e (b.add 3) fun a7=>
 vLen a7 fun a8=>
 bif decide (r<(a8:Int)) then
 vNewS e (.cells #[] Zf) 0 fun a9 aa=>
 lq2 a9 (0:Int) aa fun ab ac v6 s c=>
 bif decide (s<l) then
 ldV c (b.add 3) fun ae=>
 vIdx ae r 1 fun af=>
 ldV c af fun ag=>
 zV Zkr #[.pointer (some b),ag,zi s] c fun m ah=>
 vOne m fun _=>
 vNewS ah (.cells #[m] Zf) 1 fun ai aj=>
 vAppend 1 24 [.slice none 0 0] Zf v6 ai aj fun ak t=>
 ag2 ab ac ak (zw (s+1)) t
 else
 vNewS c (.cells #[] Zf) 0 fun al u=>
 lq2 al (0:Int) u fun am an v8 v f=>
 vLen p fun ap=>
 bif decide (v<(ap:Int)) then
 lq2 v8 (0:Int) f fun aq ar g i a=>
 bif decide (i<l) then
 vIdx p v 1 fun au=>
 ldV a au fun av=>
 vIdx v6 i 1 fun aw=>
 ldV a aw fun ax=>
 zV Zpt #[.pointer (some b),av,ax] a fun o w=>
 vOne o fun _=>
 vNewS w (.cells #[o] Zf) 1 fun ay x=>
 vAppend 1 24 [.slice none 0 0] Zf g ay x fun az y=>
 ag2 aq ar az (zw (i+1)) y
 else
 ag2 am an g (zw (v+1)) a
 else
 ag2 J n v8 (zw (r+1)) f
 else
 R p e):CallsH P ZpL #[.pointer (some b)] h R:=zv ⟨[(4,[(3,.v),(5,.i .i64)]),(8,[(6,.v),(7,.i .i64)]),(13,[(8,.v),(9,.i .i64)]),(16,[(8,.v),(10,.i .i64)])],[],[]⟩ Tryz.func145 hv
theorem Zy8 {c:Value} (i:
 lq2 (0:Int) (0:Int) h fun J n e b a=>
 vLen c fun j=>
 bif decide (b<(j:Int)) then
 vIdx c b 1 fun f=>
 ldI .i64 a f fun g=>
 bif g !=0 then
 ag2 J n (zw (e+1)) (zw (b+1)) a
 else
 ag2 J n e (zw (b+1)) a
 else
 R (zi e) a):CallsH P ZmJ #[c] h R:=zv ⟨[(3,[(3,.i .i64),(4,.i .i64)])],[],[]⟩ Tryz.func174 i
theorem ZEq {i:Addr} (x:
 ldV h (i.add 3) fun y=>
 vIdx y 0 1 fun k=>
 ldV h k fun l=>
 vLen l fun c=>
 vMake 8 [zi 0] Zg (zw ((c:Int)+1)) (zw ((c:Int)+1)) h fun a m=>
 zV ZpL #[.pointer (some i)] m fun e o=>
 lq1 (0:Int) o fun J n j b=>
 vLen e fun p=>
 bif decide (j<(p:Int)) then
 vIdx e j 1 fun r=>
 ldV b r fun s=>
 zI ZmJ #[s] b fun f g=>
 vIdx a f 1 fun t=>
 ldI .i64 g t fun u=>
 vIdx a f 1 fun v=>
 vStore1 g v (zi (zw (u+1))) fun w=>
 ag1 J n (zw (j+1)) w
 else
 R a b):CallsH P ZjX #[.pointer (some i)] h R:=zv ⟨[(4,[(5,.i .i64)])],[],[]⟩ Tryz.func112 x
theorem Zy5 {a b:Int} {c e:Value} (o:
 vNew h (.cells #[zi a,zi b,c,e] Zbz) fun p1 j=>
 zB Zj0 #[.pointer (some p1)] j fun p g=>
 bif !p then
 R (.tuple #[zi 0,zi 1]) g
 else
 zV ZjX #[.pointer (some p1)] g fun r k=>
 lq1 (1:Int) k fun J n i f=>
 vIdx r i 1 fun l=>
 ldI .i64 f l fun m=>
 bif m==0 then
 ag1 J n (zw (i+1)) f
 else
 R (.tuple #[zi i,zi 0]) f):CallsH P Znh #[.agg #[zi a,zi b,c,e]] h R:=zv ⟨[(5,[(5,.i .i64)])],[],[]⟩ Tryz.func110 o
theorem Zve {b:Value} (u:
 vLen b fun v=>
 bif decide ((v:Int)>100) then
 R (.string ⟨#[]⟩) h
 else
 vLen b fun w=>
 bif (w:Int)==0 then
 R (.string ⟨#[45]⟩) h
 else
 lq2 (⟨#[]⟩:ByteArray) (0:Int) h fun J n j c e=>
 vLen b fun l=>
 bif decide (c<(l:Int)) then
 vIdx b c 1 fun m=>
 ldI .i64 e m fun o=>
 zB Zai #[zi o,zi (-999999999),zi 999999999] e fun p f=>
 bif !p then
 R (.string ⟨#[]⟩) f
 else
 ∃ g:ByteArray→Heap→Prop,(
 bif decide (c>0) then
 (((j:ByteArray).size+(⟨#[44]⟩:ByteArray).size:Nat):Int)≤IntKind.i64.max ∧
 g ((j:ByteArray)++(⟨#[44]⟩:ByteArray)) f
 else
 g j f
 )∧∀ (_:Env) (a:ByteArray) (i:Heap),g a i →
 vIdx b c 1 fun r=>
 ldI .i64 i r fun s=>
 zS Zah #[zi s] i fun k t=>
 (((a:ByteArray).size+(k:ByteArray).size:Nat):Int)≤IntKind.i64.max ∧
 ag2 J n ((a:ByteArray)++(k:ByteArray)) (zw (c+1)) t
 else
 R (.string j) e):CallsH P Zmz #[b] h R:=zv ⟨[(7,[(3,.s),(4,.i .i64)])],[(13,[(3,.s)])],[]⟩ Tryz.func111 u
theorem ZDp {a:Addr} (hv:
 ldI .i64 h a fun k=>
 ldI .i64 h (a.add 1) fun l=>
 ldV h (a.add 2) fun m=>
 ldV h (a.add 3) fun o=>
 CallsH P Znh #[.agg #[zi k,zi l,m,o]] h fun r9 b=>∃ c,∃ p,r9=.tuple #[zi c,zi p] ∧
 ∃ B:Nat→Prop,
 ldV b (a.add 3) fun r=>
 vIdx r 0 1 fun s=>
 ldV b s fun t=>
 vLen t fun u=>
 zS Zah #[zi (u:Int)] b fun e f=>
 ExtBut B b f ∧
 ldV (hmask B b) (a.add 3) fun v=>
 vLen v fun w=>
 zS Zah #[zi (w:Int)] f fun g x=>
 zS Zah #[zi c] x fun i y=>
 zV ZjX #[.pointer (some a)] y fun a0 a1=>
 zS Zmz #[a0] a1 fun j a2=>
 (((⟨#[108,101,110,103,116,104,32]⟩:ByteArray).size+(e:ByteArray).size:Nat):Int)≤IntKind.i64.max ∧
 (((⟨#[100,105,109,101,110,115,105,111,110,32]⟩:ByteArray).size+(g:ByteArray).size:Nat):Int)≤IntKind.i64.max ∧
 (((⟨#[100,105,115,116,97,110,99,101,32]⟩:ByteArray).size+(i:ByteArray).size:Nat):Int)≤IntKind.i64.max ∧
 (((⟨#[119,101,105,103,104,116,115,32]⟩:ByteArray).size+(j:ByteArray).size:Nat):Int)≤IntKind.i64.max ∧
 vNewS a2 (.cells #[.string ((⟨#[108,101,110,103,116,104,32]⟩:ByteArray)++(e:ByteArray)),.string ((⟨#[100,105,109,101,110,115,105,111,110,32]⟩:ByteArray)++(g:ByteArray)),.string ((⟨#[100,105,115,116,97,110,99,101,32]⟩:ByteArray)++(i:ByteArray)),.string ((⟨#[119,101,105,103,104,116,115,32]⟩:ByteArray)++(j:ByteArray))] ZV) 4 fun a3 a4=>
 R a3 a4):CallsH P Zmo #[.pointer (some a)] h R:=zv ⟨[],[],[]⟩ Tryz.func53 hv
theorem Zyl {b:Addr} (hv:
 ldI .i64 h b fun c=>
 bif c==1 then
 ldV h (b.add 2) fun b1=>
 zV ZnT #[b1] h fun b2 b3=>
 R b2 b3
 else
 bif c==2 then
 ldI .i64 h (b.add 1) fun b4=>
 ldV h (b.add 2) fun a3=>
 vOne a3 fun _=>
 vNew h (.cells #[zi b4,a3] Zed) fun b5 b6=>
 zV ZoJ #[.pointer (some b5)] b6 fun b7 b8=>
 R b7 b8
 else
 bif c==3 then
 ldV h (b.add 2) fun b9=>
 CallsH P Znc #[b9] h fun ba a4=>∃ o,∃ y,ba=.tuple #[zi o,zi y] ∧
 ldI .i64 a4 (b.add 1) fun bb=>
 zS Zah #[zi bb] a4 fun a5 bc=>
 (((⟨#[111,114,100,101,114,32]⟩:ByteArray).size+(a5:ByteArray).size:Nat):Int)≤IntKind.i64.max ∧
 zS Zah #[zi o] bc fun a6 bd=>
 (((⟨#[101,120,99,101,115,115,32]⟩:ByteArray).size+(a6:ByteArray).size:Nat):Int)≤IntKind.i64.max ∧
 vNewS bd (.cells #[.string ((⟨#[111,114,100,101,114,32]⟩:ByteArray)++(a5:ByteArray)),.string ((⟨#[101,120,99,101,115,115,32]⟩:ByteArray)++(a6:ByteArray))] ZV) 2 fun be bf=>
 R be bf
 else
 bif c==4 then
 CallsH P ZlF #[.pointer (some b)] h fun bg bh=>∃ e,∃ f,∃ (g:Value),bg=.agg #[zi e,zi f,g] ∧
 vNew bh (.cells #[zi 0,zi 0,.slice none 0 0] ZaW) fun m af=>
 vStore1 af m (zi e) fun ag=>
 vStore1 ag (m.add 1) (zi f) fun ah=>
 vStore1 ah (m.add 2) g fun a=>
 ∃ B:Nat→Prop,
 ldI .i64 a (b.add 1) fun bi=>
 zS Zah #[zi bi] a fun a7 p=>
 ExtBut B a p ∧
 ldI .i64 (hmask B a) (m.add 1) fun bj=>
 zS Zah #[zi bj] p fun a8 r=>
 ExtBut B a r ∧
 ldV (hmask B a) (m.add 2) fun bk=>
 vLen bk fun bm=>
 zS Zah #[zi (bm:Int)] r fun a9 s=>
 ExtBut B a s ∧
 ldI .i64 (hmask B a) m fun a0=>
 ldI .i64 (hmask B a) (m.add 1) fun a1=>
 ldV (hmask B a) (m.add 2) fun a2=>
 zI ZoQ #[.agg #[zi a0,zi a1,a2]] s fun bn ai=>
 zS Zah #[zi bn] ai fun aa aj=>
 (((⟨#[108,101,118,101,108,115,32]⟩:ByteArray).size+(a7:ByteArray).size:Nat):Int)≤IntKind.i64.max ∧
 (((⟨#[99,111,108,117,109,110,115,32]⟩:ByteArray).size+(a8:ByteArray).size:Nat):Int)≤IntKind.i64.max ∧
 (((⟨#[114,111,119,115,32]⟩:ByteArray).size+(a9:ByteArray).size:Nat):Int)≤IntKind.i64.max ∧
 (((⟨#[115,116,114,101,110,103,116,104,32]⟩:ByteArray).size+(aa:ByteArray).size:Nat):Int)≤IntKind.i64.max ∧
 vNewS aj (.cells #[.string ((⟨#[108,101,118,101,108,115,32]⟩:ByteArray)++(a7:ByteArray)),.string ((⟨#[99,111,108,117,109,110,115,32]⟩:ByteArray)++(a8:ByteArray)),.string ((⟨#[114,111,119,115,32]⟩:ByteArray)++(a9:ByteArray)),.string ((⟨#[115,116,114,101,110,103,116,104,32]⟩:ByteArray)++(aa:ByteArray))] ZV) 4 fun bo ak=>
 R bo ak
 else
 bif c==5 then
 CallsH P ZjU #[.pointer (some b)] h fun bp al=>∃ i,∃ j,∃ (k:Value),∃ (l:Value),bp=.agg #[zi i,zi j,k,l] ∧
 vNew al (.cells #[zi 0,zi 0,.slice none 0 0,.slice none 0 0] Zbz) fun t am=>
 vStore1 am t (zi i) fun an=>
 vStore1 an (t.add 1) (zi j) fun ao=>
 vStore1 ao (t.add 2) k fun ap=>
 vStore1 ap (t.add 3) l fun aq=>
 zV Zmo #[.pointer (some t)] aq fun bq ar=>
 R bq ar
 else
 bif c==6 then
 ∃ ab:Nat→Prop,
 ldI .i64 h (b.add 1) fun br=>
 zS Zah #[zi br] h fun ac u=>
 ExtBut ab h u ∧
 ldV (hmask ab h) (b.add 2) fun bs=>
 vLen bs fun bt=>
 zS Zah #[zi (bt:Int)] u fun ad au=>
 (((⟨#[118,101,114,116,105,99,101,115,32]⟩:ByteArray).size+(ac:ByteArray).size:Nat):Int)≤IntKind.i64.max ∧
 (((⟨#[101,100,103,101,115,32]⟩:ByteArray).size+(ad:ByteArray).size:Nat):Int)≤IntKind.i64.max ∧
 vNewS au (.cells #[.string ((⟨#[118,101,114,116,105,99,101,115,32]⟩:ByteArray)++(ac:ByteArray)),.string ((⟨#[101,100,103,101,115,32]⟩:ByteArray)++(ad:ByteArray))] ZV) 2 fun bu av=>
 R bu av
 else
 ∃ ae:Nat→Prop,
 ldI .i64 h (b.add 1) fun bv=>
 zS Zah #[zi bv] h fun v w=>
 ExtBut ae h w ∧
 ldV (hmask ae h) (b.add 2) fun aw=>
 vLen aw fun ax=>
 zS Zah #[zi (ax:Int)] w fun x ay=>
 (((⟨#[100,101,103,114,101,101,32]⟩:ByteArray).size+(v:ByteArray).size:Nat):Int)≤IntKind.i64.max ∧
 (((⟨#[101,108,101,109,101,110,116,115,32]⟩:ByteArray).size+(x:ByteArray).size:Nat):Int)≤IntKind.i64.max ∧
 vNewS ay (.cells #[.string ((⟨#[100,101,103,114,101,101,32]⟩:ByteArray)++(v:ByteArray)),.string ((⟨#[101,108,101,109,101,110,116,115,32]⟩:ByteArray)++(x:ByteArray))] ZV) 2 fun az b0=>
 R az b0):CallsH P ZnX #[.pointer (some b)] h R:=zv ⟨[],[],[]⟩ Tryz.func18 hv
theorem ZD3 {a b:Int} {c:Value} (i:
 vNew h (.cells #[zi a,zi b,c] ZaC) fun p1 f=>
 zB Zn6 #[.pointer (some p1)] f fun j e=>
 bif !j then
 R (.tuple #[(.slice none 0 0),zi 1]) e
 else
 zV ZnX #[.pointer (some p1)] e fun k g=>
 R (.tuple #[k,zi 0]) g):CallsH P Zmc #[.agg #[zi a,zi b,c]] h R:=zv ⟨[],[],[]⟩ Tryz.func6 i
theorem ZDI {b:Value} (o:
 vLen b fun e=>
 vMake 8 [zi 0] Zg (e:Int) (e:Int) h fun f g=>
 lq1 (0:Int) g fun J n c a=>
 vLen b fun i=>
 bif decide (c<(i:Int)) then
 vIdx b c 1 fun j=>
 ldI .i64 a j fun k=>
 vIdx f c 1 fun l=>
 vStore1 a l (zi k) fun m=>
 ag1 J n (zw (c+1)) m
 else
 R f a):CallsH P ZmD #[b] h R:=zv ⟨[(3,[(4,.i .i64)])],[],[]⟩ Tryz.func54 o
theorem ZF4 {b:Value} (r:
 vLen b fun e=>
 vMake 24 [.slice none 0 0] Zf (e:Int) (e:Int) h fun f g=>
 lq1 (0:Int) g fun J n c a=>
 vLen b fun i=>
 bif decide (c<(i:Int)) then
 vIdx b c 1 fun j=>
 ldV a j fun k=>
 zV ZmD #[k] a fun l m=>
 vIdx f c 1 fun o=>
 vStore1 m o l fun p=>
 ag1 J n (zw (c+1)) p
 else
 R f a):CallsH P ZnE #[b] h R:=zv ⟨[(3,[(4,.i .i64)])],[],[]⟩ Tryz.func19 r
theorem ZzJ {i j:Int} {k:Value} (hv:
 vNew h (.cells #[zi i,zi j,k] Zow) fun p1 u=>
 vNew u (.cells #[zi 0,zi 0,.slice none 0 0] ZaC) fun p2 v=>
 vNew v (.cells #[zi 0,zi 0,.slice none 0 0] ZaC) fun c p=>
 ldI .i64 p p1 fun x5=>
 vStore1 p c (zi x5) fun r=>
 ldI .i64 r (p1.add 1) fun x8=>
 vStore1 r (c.add 1) (zi x8) fun s=>
 ldV s (p1.add 2) fun w=>
 zV ZnE #[w] s fun x y=>
 vStore1 y (c.add 2) x fun b=>
 ldI .i64 b c fun l=>
 ldI .i64 b (c.add 1) fun m=>
 ldV b (c.add 2) fun o=>
 vStore1 b p2 (zi l) fun a0=>
 vStore1 a0 (p2.add 1) (zi m) fun t=>
 vStore1 t (p2.add 2) o fun a=>
 ldI .i64 a p2 fun e=>
 ldI .i64 a (p2.add 1) fun f=>
 ldV a (p2.add 2) fun g=>
 R (.agg #[zi e,zi f,g]) a):CallsH P Zgb #[.agg #[zi i,zi j,k]] h R:=zv ⟨[],[],[]⟩ Tryz.func7 hv
theorem Zxh {a:Value} (b:
 vLen a fun c=>
 R (zi (c:Int)) h):CallsH P Zaz #[a] h R:=zv ⟨[],[],[]⟩ Tryz.func21 b
theorem ZDB {a:Value} (e:
 vNilS false a fun f=>
 bif f then
 R (.slice none 0 0) h
 else
 vNewS h (.cells #[] Zg) 0 fun g b=>
 vAppend 1 8 [zi 0] Zg g a b fun i c=>
 R i c):CallsH P Zfp #[a] h R:=zv ⟨[],[],[]⟩ Tryz.func135 e
theorem Zw8 {c:Value} (p:
 vLen c fun r=>
 lq2 ((.slice none 0 0):Value) (0:Int) h fun J n f e a=>
 bif decide (e<(r:Int)) then
 vIdx c e 1 fun g=>
 ldV a g fun i=>
 zV Zfp #[i] a fun b j=>
 vOne b fun _=>
 vNewS j (.cells #[b] Zf) 1 fun k l=>
 vAppend 1 24 [.slice none 0 0] Zf f k l fun m o=>
 ag2 J n m (zw (e+1)) o
 else
 R f a):CallsH P ZcR #[c] h R:=zv ⟨[(3,[(3,.v),(8,.i .i64)])],[],[]⟩ Tryz.func70 p
theorem ZA0 {a:Value} (b:
 vLen a fun c=>
 R (zi (c:Int)) h):CallsH P ZaA #[a] h R:=zv ⟨[],[],[]⟩ Tryz.func71 b
theorem ZxV {ab ac:Int} {ad:Value} (hv:
 vNew h (.cells #[zi ab,zi ac,ad] ZaC) fun p1 b7=>
 vNew b7 (.cells #[zi 0,zi 0,.slice none 0 0] ZaW) fun p2 c=>
 ∃ B:Nat→Prop,
 (
 ldV (hmask B c) (p1.add 2) fun v7=>
 zV ZcR #[v7] c fun v8 aq=>
 ExtBut B c aq ∧
 vNew aq (.cells #[zi 0,zi 0,.slice none 0 0] ZaW) fun f ar=>
 ExtBut B c ar ∧
 ldI .i64 (hmask B c) (p1.add 1) fun x5=>
 vOne v8 fun _=>
 vStore1 ar f (zi x5) fun b9=>
 vStore1 b9 (f.add 1) (zi 0) fun ba=>
 vStore1 ba (f.add 2) v8 fun e=>
 ldV e (p1.add 2) fun bb=>
 vLen bb fun bc=>
 bif decide ((bc:Int)>0) then
 ldV e (p1.add 2) fun bd=>
 vIdx bd 0 1 fun be=>
 ldV e be fun bf=>
 zI ZaA #[bf] e fun bg bh=>
 vStore1 bh (f.add 1) (zi bg) fun g=>
 ldI .i64 g f fun ah=>
 ldI .i64 g (f.add 1) fun ai=>
 ldV g (f.add 2) fun aj=>
 vStore1 g p2 (zi ah) fun au=>
 vStore1 au (p2.add 1) (zi ai) fun av=>
 vStore1 av (p2.add 2) aj fun i=>
 ldI .i64 i p2 fun y=>
 ldI .i64 i (p2.add 1) fun a0=>
 ldV i (p2.add 2) fun a1=>
 R (.agg #[zi y,zi a0,a1]) i
 else
 ldI .i64 e f fun a2=>
 ldI .i64 e (f.add 1) fun a3=>
 ldV e (f.add 2) fun a4=>
 vStore1 e p2 (zi a2) fun aw=>
 vStore1 aw (p2.add 1) (zi a3) fun ax=>
 vStore1 ax (p2.add 2) a4 fun j=>
 ldI .i64 j p2 fun o=>
 ldI .i64 j (p2.add 1) fun p=>
 ldV j (p2.add 2) fun r=>
 R (.agg #[zi o,zi p,r]) j
 ) ∧
 (
 vNew c (.cells #[zi 0,zi 0,.slice none 0 0] ZaW) fun a ae=>
 ExtBut B c ae ∧
 ldV (hmask B c) (p1.add 2) fun ay=>
 zV ZcR #[ay] ae fun af ag=>
 ExtBut B c ag ∧
 ldI .i64 (hmask B c) (p1.add 1) fun az=>
 vOne af fun _=>
 vStore1 ag a (zi az) fun b0=>
 vStore1 b0 (a.add 1) (zi 0) fun b1=>
 vStore1 b1 (a.add 2) af fun b=>
 ldV b (p1.add 2) fun ak=>
 vLen ak fun al=>
 bif decide ((al:Int)>0) then
 ldV b (p1.add 2) fun am=>
 vIdx am 0 1 fun an=>
 ldV b an fun ao=>
 zI ZaA #[ao] b fun ap b2=>
 vStore1 b2 (a.add 1) (zi ap) fun k=>
 ldI .i64 k a fun a5=>
 ldI .i64 k (a.add 1) fun a6=>
 ldV k (a.add 2) fun a7=>
 vStore1 k p2 (zi a5) fun b3=>
 vStore1 b3 (p2.add 1) (zi a6) fun b4=>
 vStore1 b4 (p2.add 2) a7 fun l=>
 ldI .i64 l p2 fun s=>
 ldI .i64 l (p2.add 1) fun t=>
 ldV l (p2.add 2) fun u=>
 R (.agg #[zi s,zi t,u]) l
 else
 ldI .i64 b a fun a8=>
 ldI .i64 b (a.add 1) fun a9=>
 ldV b (a.add 2) fun aa=>
 vStore1 b p2 (zi a8) fun b5=>
 vStore1 b5 (p2.add 1) (zi a9) fun b6=>
 vStore1 b6 (p2.add 2) aa fun m=>
 ldI .i64 m p2 fun v=>
 ldI .i64 m (p2.add 1) fun w=>
 ldV m (p2.add 2) fun x=>
 R (.agg #[zi v,zi w,x]) m
 )):CallsH P Zk9 #[.agg #[zi ab,zi ac,ad]] h R:=zv ⟨[],[],[]⟩ Tryz.func26 hv
theorem ZDt {a b c:Int} (e:
 bif decide (a≥b) then
 R (.bool (decide (a≤c))) h
 else
 R (.bool false) h):CallsH P Zap #[zi a,zi b,zi c] h R:=zv ⟨[],[],[]⟩ Tryz.func84 e
theorem ZDw {g:Value} {i:Nat} {a:List Value} (m:
 vLen g fun o=>
 lq1 (0:Int) h fun J n c b=>
 bif decide (c<(o:Int)) then
 vIdx g c 1 fun j=>
 ldV b j fun k=>
 vOkf ctx i fun _=>
 CallsH P i (([k]:List Value)++a).toArray b fun l e=>∃ (f:Bool),l=.bool f ∧
 bif f then
 R (zi c) e
 else
 ag1 J n (zw (c+1)) e
 else
 R (zi (-1)) b):CallsH P Zg5 #[g,.func (.func i) #[] a.toArray] h R:=zv ⟨[(2,[(8,.i .i64)])],[],[]⟩ Tryz.func187 m
theorem ZAe {b:Value} {c:Nat} {a:List Value} (f:
 zI Zg5 #[b,.func (.func c) #[] a.toArray] h fun g e=>
 R (.bool (decide (g≥0))) e):CallsH P ZgP #[b,.func (.func c) #[] a.toArray] h R:=zv ⟨[],[],[]⟩ Tryz.func175 f
theorem Zxg {c:Value} (m:
 zV Zfp #[c] h fun e f=>
 CallsH P Zse #[e] f fun o g=>o=.tuple #[] ∧
 vLen e fun i=>
 lq1 (0:Int) g fun J n a b=>
 bif decide (a<(i:Int)) then
 vIdx e a 1 fun j=>
 ldI .i64 b j fun k=>
 bif k !=a then
 R (.bool false) b
 else
 ag1 J n (zw (a+1)) b
 else
 vLen c fun l=>
 R (.bool (decide ((l:Int)≤32))) b):CallsH P Zlk #[c] h R:=zv ⟨[(4,[(12,.i .i64)])],[],[]⟩ Tryz.func114 m
theorem ZFN {b:Value} {p1:Addr} (f:
 ∃ B:Nat→Prop,
 zI ZaA #[b] h fun g a=>
 ExtBut B h a ∧
 ldI .i64 (hmask B h) p1 fun i=>
 bif g !=i then
 R (.bool true) a
 else
 zB Zlk #[b] a fun c e=>
 R (.bool (!c)) e):CallsH P Zoy #[b,.pointer (some p1)] h R:=zv ⟨[],[],[]⟩ Tryz.func176 f
theorem Zxk {a:Int} {b:Value} (f:
 vNew h (.cells #[zi a] Zg) fun p2 c=>
 zB ZgP #[b,.func (.func Zoy) #[] #[.pointer (some p2)]] c fun g e=>
 R (.bool (!g)) e):CallsH P ZkA #[zi a,b] h R:=zv ⟨[],[],[]⟩ Tryz.func113 f
theorem ZBY {b:Value} (hv:
 zI Zaz #[b] h fun l m=>
 ∃ J:Heap→Prop,(
 zB Zap #[zi l,zi 1,zi 10] m fun o g=>
 bif !o then
 R (.bool false) g
 else
 zB ZkA #[zi l,b] g fun p i=>
 bif !p then
 R (.bool false) i
 else
 J i
 )∧∀ (_:Env) (j:Heap),J j →
 vLen b fun r=>
 lq1 (0:Int) j fun s n c k=>
 bif decide (c<(r:Int)) then
 vLen b fun t=>
 lq2 ((.slice none 0 0):Value) (0:Int) k fun u v w e a=>
 bif decide (e<(t:Int)) then
 vIdx b e 1 fun x=>
 ldV a x fun y=>
 vIdx y c 1 fun a0=>
 ldI .i64 a a0 fun a1=>
 vNewS a (.cells #[zi a1] Zg) 1 fun a2 a3=>
 vAppend 1 8 [zi 0] Zg w a2 a3 fun a4 a5=>
 ag2 u v a4 (zw (e+1)) a5
 else
 zB Zlk #[w] a fun a6 f=>
 bif !a6 then
 R (.bool false) f
 else
 ag1 s n (zw (c+1)) f
 else
 R (.bool true) k):CallsH P Zlz #[b] h R:=zv ⟨[(5,[(20,.i .i64)]),(9,[(5,.v),(25,.i .i64)])],[(4,[])],[]⟩ Tryz.func55 hv
theorem ZwA {e:Value} {f:Int} (k:
 vLen e fun l=>
 lq2 ((-1):Int) (0:Int) h fun J n m b a=>
 bif decide (b<(l:Int)) then
 vIdx e b 1 fun g=>
 ldI .i64 a g fun c=>
 bif decide (c≤m) then
 R (.bool false) a
 else
 bif decide (c≥f) then
 R (.bool false) a
 else
 ag2 J n c (zw (b+1)) a
 else
 zB Zap #[zi f,zi 0,zi 32] a fun i j=>
 R (.bool i) j):CallsH P ZlZ #[e,zi f] h R:=zv ⟨[(3,[(5,.i .i64),(10,.i .i64)])],[],[]⟩ Tryz.func210 k
theorem ZF2 {a:Value} {b:Int} (f:
 vLen a fun g=>
 bif decide ((g:Int)>0) then
 zB ZlZ #[a,zi b] h fun c e=>
 R (.bool c) e
 else
 R (.bool false) h):CallsH P Zp7 #[a,zi b] h R:=zv ⟨[],[],[]⟩ Tryz.func179 f
theorem ZB4 {a:Value} {p1:Addr} (c:
 ldI .i64 h p1 fun e=>
 zB Zp7 #[a,zi e] h fun f b=>
 R (.bool (!f)) b):CallsH P ZqE #[a,.pointer (some p1)] h R:=zv ⟨[],[],[]⟩ Tryz.func178 c
theorem Zz2 {c:Value} {e:Int} (j:
 vNew h (.cells #[zi e] Zg) fun f a=>
 ldI .i64 a f fun k=>
 zB Zap #[zi k,zi 1,zi 32] a fun l b=>
 bif l then
 zB ZgP #[c,.func (.func ZqE) #[] #[.pointer (some f)]] b fun g i=>
 R (.bool (!g)) i
 else
 R (.bool false) b):CallsH P Zoi #[c,zi e] h R:=zv ⟨[],[],[]⟩ Tryz.func115 j
theorem ZFY {c:Value} {i:Nat} {b:List Value} (p:
 vLen c fun r=>
 lq1 (zw ((r:Int)-1)) h fun J n e a=>
 bif decide (e>0) then
 vIdx c e 1 fun j=>
 ldV a j fun k=>
 vIdx c (zw (e-1)) 1 fun l=>
 ldV a l fun m=>
 vOkf ctx i fun _=>
 CallsH P i (([k,m]:List Value)++b).toArray a fun o f=>∃ g,o=zi g ∧
 bif decide (g<0) then
 R (.bool false) f
 else
 ag1 J n (zw (e-1)) f
 else
 R (.bool true) a):CallsH P ZpV #[c,.func (.func i) #[] b.toArray] h R:=zv ⟨[(2,[(5,.i .i64)])],[],[]⟩ Tryz.func116 p
theorem ZCX {a:Int} (b:
 R (.bool (a !=a)) h):CallsH P ZcY #[zi a] h R:=zv ⟨[],[],[]⟩ Tryz.func240 b
theorem ZEt {b c:Int} (g:
 zB ZcY #[zi b] h fun i f=>
 zB ZcY #[zi c] f fun e a=>
 bif i then
 bif e then
 R (zi 0) a
 else
 R (zi (-1)) a
 else
 bif e then
 R (zi 1) a
 else
 bif decide (b<c) then
 R (zi (-1)) a
 else
 bif decide (b>c) then
 R (zi 1) a
 else
 R (zi 0) a):CallsH P ZcS #[zi b,zi c] h R:=zv ⟨[],[],[]⟩ Tryz.func180 g
theorem ZEX {c e:Value} (s:
 vLen c fun i=>
 lq1 (0:Int) h fun J n b a=>
 bif decide (b<(i:Int)) then
 vIdx c b 1 fun j=>
 ldI .i64 a j fun k=>
 vLen e fun l=>
 bif decide (b≥(l:Int)) then
 R (zi 1) a
 else
 vIdx e b 1 fun m=>
 ldI .i64 a m fun o=>
 zI ZcS #[zi k,zi o] a fun f g=>
 bif f !=0 then
 R (zi f) g
 else
 ag1 J n (zw (b+1)) g
 else
 vLen c fun p=>
 vLen e fun r=>
 bif decide ((p:Int)<(r:Int)) then
 R (zi (-1)) a
 else
 R (zi 0) a):CallsH P ZcQ #[c,e] h R:=zv ⟨[(2,[(11,.i .i64)])],[],[]⟩ Tryz.func117 s
theorem Zwr {b:Int} {c:Value} (l:
 vNew h (.cells #[zi b,c] Zed) fun p1 e=>
 ldV e (p1.add 1) fun m=>
 ldI .i64 e p1 fun o=>
 zB Zoi #[m,zi o] e fun p a=>
 bif p then
 ldV a (p1.add 1) fun f=>
 vLen f fun g=>
 bif decide ((g:Int)≤128) then
 ldV a (p1.add 1) fun i=>
 zB ZpV #[i,.func (.func ZcQ) #[] #[]] a fun j k=>
 R (.bool j) k
 else
 R (.bool false) a
 else
 R (.bool false) a):CallsH P Zop #[.agg #[zi b,c]] h R:=zv ⟨[],[],[]⟩ Tryz.func56 l
theorem ZwB {e f:Int} {g:Value} (o:
 vNew h (.cells #[zi e,zi f,g] ZaC) fun p1 k=>
 vNew k (.cells #[zi 0,.slice none 0 0] Zed) fun p2 a=>
 ∃ B:Nat→Prop,
 ldV a (p1.add 2) fun p=>
 zV ZcR #[p] a fun l j=>
 ExtBut B a j ∧
 ldI .i64 (hmask B a) (p1.add 1) fun r=>
 vOne l fun _=>
 vStore1 j p2 (zi r) fun m=>
 vStore1 m (p2.add 1) l fun i=>
 ldI .i64 i p2 fun b=>
 ldV i (p2.add 1) fun c=>
 R (.agg #[zi b,c]) i):CallsH P Zkn #[.agg #[zi e,zi f,g]] h R:=zv ⟨[],[],[]⟩ Tryz.func57 o
theorem ZAs {g:Value} {i:Nat} {a:List Value} (m:
 vLen g fun o=>
 lq1 (0:Int) h fun J n c b=>
 bif decide (c<(o:Int)) then
 vIdx g c 1 fun j=>
 ldI .i64 b j fun k=>
 vOkf ctx i fun _=>
 CallsH P i (([zi k]:List Value)++a).toArray b fun l e=>∃ (f:Bool),l=.bool f ∧
 bif f then
 R (zi c) e
 else
 ag1 J n (zw (c+1)) e
 else
 R (zi (-1)) b):CallsH P Zpq #[g,.func (.func i) #[] a.toArray] h R:=zv ⟨[(2,[(8,.i .i64)])],[],[]⟩ Tryz.func181 m
theorem ZEK {b:Value} {c:Nat} {a:List Value} (f:
 zI Zpq #[b,.func (.func c) #[] a.toArray] h fun g e=>
 R (.bool (decide (g≥0))) e):CallsH P Zc7 #[b,.func (.func c) #[] a.toArray] h R:=zv ⟨[],[],[]⟩ Tryz.func118 f
theorem ZwL {a:Int} (b:
 bif a !=1 then
 R (.bool (a !=(-1))) h
 else
 R (.bool false) h):CallsH P Zoc #[zi a] h R:=zv ⟨[],[],[]⟩ Tryz.func119 b
theorem Zzj {f:Value} (hv:
 zI Zaz #[f] h fun k s=>
 vLen f fun t=>
 lq1 (0:Int) s fun J n b g=>
 bif decide (b<(t:Int)) then
 vIdx f b 1 fun u=>
 ldV g u fun c=>
 ∃ l:Heap→Prop,(
 zI ZaA #[c] g fun v m=>
 bif v !=k then
 R (.bool false) m
 else
 zB Zc7 #[c,.func (.func Zoc) #[] #[]] m fun w o=>
 bif w then
 R (.bool false) o
 else
 l o
 )∧∀ (_:Env) (p:Heap),l p →
 vSliceS f 1 none (some (zi b)) none fun r=>
 vLen r fun x=>
 lq1 (0:Int) p fun y a0 i j=>
 bif decide (i<(x:Int)) then
 vIdx r i 1 fun a1=>
 ldV j a1 fun a2=>
 vLen c fun a3=>
 lq2 (0:Int) (0:Int) j fun a4 a5 x8 e a=>
 bif decide (e<(a3:Int)) then
 vIdx c e 1 fun a7=>
 ldI .i64 a a7 fun a8=>
 vIdx a2 e 1 fun a9=>
 ldI .i64 a a9 fun aa=>
 ag2 a4 a5 (zw (x8+(zw (a8*aa)))) (zw (e+1)) a
 else
 bif x8 !=0 then
 R (.bool false) a
 else
 ag1 y a0 (zw (i+1)) a
 else
 ag1 J n (zw (b+1)) j
 else
 zB Zap #[zi k,zi 1,zi 32] g fun ab ac=>
 R (.bool ab) ac):CallsH P Zj7 #[f] h R:=zv ⟨[(3,[(14,.i .i64)]),(8,[(31,.i .i64)]),(12,[(8,.i .i64),(37,.i .i64)])],[(7,[])],[]⟩ Tryz.func58 hv
theorem ZAB {b c:Int} (f:
 zB Zap #[zi b,zi 2,zi 16] h fun g a=>
 bif g then
 zB Zap #[zi c,zi 1,zi 8] a fun i e=>
 R (.bool i) e
 else
 R (.bool false) a):CallsH P Zqk #[zi b,zi c] h R:=zv ⟨[],[],[]⟩ Tryz.func120 f
theorem Zz3 {a:Int} {p1:Addr} (c:
 ldI .i64 h p1 fun e=>
 zB Zap #[zi a,zi 0,zi (zw (e-1))] h fun f b=>
 R (.bool (!f)) b):CallsH P ZmF #[zi a,.pointer (some p1)] h R:=zv ⟨[],[],[]⟩ Tryz.func121 c
theorem ZzY {c e:Int} {f:Value} (y:
 vNew h (.cells #[zi c,zi e,f] ZaW) fun p1 g=>
 ∃ J:Heap→Prop,(
 ldI .i64 g p1 fun x6=>
 ldI .i64 g (p1.add 1) fun x8=>
 zB Zqk #[zi x6,zi x8] g fun b9 b=>
 bif !b9 then
 R (.bool false) b
 else
 ldV b (p1.add 2) fun p=>
 vLen p fun r=>
 bif decide ((r:Int)>256) then
 R (.bool false) b
 else
 J b
 )∧∀ (_:Env) (i:Heap),J i →
 ldV i (p1.add 2) fun l=>
 vLen l fun s=>
 lq1 (0:Int) i fun t n j a=>
 bif decide (j<(s:Int)) then
 vIdx l j 1 fun u=>
 ldV a u fun m=>
 ∃ B:Nat→Prop,
 zI ZaA #[m] a fun v k=>
 ExtBut B a k ∧
 ldI .i64 (hmask B a) (p1.add 1) fun w=>
 bif v !=w then
 R (.bool false) k
 else
 zB Zc7 #[m,.func (.func ZmF) #[] #[.pointer (some p1)]] k fun x o=>
 bif x then
 R (.bool false) o
 else
 ag1 t n (zw (j+1)) o
 else
 R (.bool true) a):CallsH P Zlh #[.agg #[zi c,zi e,f]] h R:=zv ⟨[(4,[(20,.i .i64)])],[(3,[])],[]⟩ Tryz.func59 y
theorem ZEF {g i j:Int} (k:
 lq2 i (1:Int) h fun J n a c b=>
 ∃ e:Heap→Prop,(
 bif decide (a>0) then
 bif decide (c≤j) then
 e b
 else
 R (zi c) b
 else
 R (zi c) b
 )∧∀ (_:Env) (f:Heap),e f →
 ag2 J n (zw (a-1)) (zw (c*g)) f):CallsH P Zb9 #[zi g,zi i,zi j] h R:=zv ⟨[(2,[(1,.i .i64),(7,.i .i64)])],[(4,[])],[]⟩ Tryz.func123 k
theorem ZAy {a b:Int} {c:Value} (g:
 vNew h (.cells #[zi a,zi b,c] Zcn) fun p1 e=>
 ldI .i64 e p1 fun i=>
 ldI .i64 e (p1.add 1) fun j=>
 zI Zb9 #[zi i,zi j,zi 64] e fun k f=>
 R (zi k) f):CallsH P Zhc #[.agg #[zi a,zi b,c]] h R:=zv ⟨[],[],[]⟩ Tryz.func124 g
theorem Zvf {i a g:Int} (o:
 vMake 8 [zi 0] Zg g g h fun b j=>
 vLen b fun k=>
 lq2 i (0:Int) j fun J n c e f=>
 bif decide (e<(k:Int)) then
 a≠0 ∧
 vIdx b e 1 fun l=>
 vStore1 f l (zi (Int.tmod c a)) fun m=>
 a≠0 ∧
 ag2 J n (zw (Int.tdiv c a)) (zw (e+1)) m
 else
 R b f):CallsH P ZbI #[zi i,zi a,zi g] h R:=zv ⟨[(3,[(0,.i .i64),(13,.i .i64)])],[],[]⟩ Tryz.func194 o
theorem ZFI {l j:Value} {f:Int} (hv:
 zV Zfp #[l] h fun a m=>
 vLen j fun b=>
 vLen a fun o=>
 lq1 (zw ((o:Int)-1)) m fun J n g i=>
 bif decide (g≥(zw ((b:Int)-1))) then
 vIdx a g 1 fun p=>
 ldI .i64 i p fun r=>
 vLen j fun s=>
 lq1 (0:Int) i fun t u c e=>
 bif decide (c<(s:Int)) then
 vIdx j c 1 fun v=>
 ldI .i64 e v fun w=>
 vIdx a (zw ((zw (g-(zw ((b:Int)-1))))+c)) 1 fun x=>
 ldI .i64 e x fun y=>
 f≠0 ∧
 f≠0 ∧
 vIdx a (zw ((zw (g-(zw ((b:Int)-1))))+c)) 1 fun a0=>
 vStore1 e a0 (zi (Int.tmod (zw ((Int.tmod (zw (y-(zw (r*w)))) f)+f)) f)) fun a1=>
 ag1 t u (zw (c+1)) a1
 else
 ag1 J n (zw (g-1)) e
 else
 vLen a fun k=>
 vSliceS a 1 none (some (zi (if (k:Int)<(zw ((b:Int)-1)) then (k:Int) else zw ((b:Int)-1)))) none fun a2=>
 R a2 i):CallsH P ZkM #[l,j,zi f] h R:=zv ⟨[(4,[(9,.i .i64)]),(8,[(33,.i .i64)])],[],[]⟩ Tryz.func244 hv
theorem ZAW {a:Int} (b:
 R (.bool (a !=0)) h):CallsH P Zm9 #[zi a] h R:=zv ⟨[],[],[]⟩ Tryz.func295 b
theorem Zvp {a:Value} (c:
 zB Zc7 #[a,.func (.func Zm9) #[] #[]] h fun e b=>
 R (.bool (!e)) b):CallsH P Zpb #[a] h R:=zv ⟨[],[],[]⟩ Tryz.func246 c
theorem Zvi {g:Value} {b:Int} (hv:
 zI ZaA #[g] h fun x9 j=>
 lq1 (1:Int) j fun J n c e=>
 bif decide ((zw (2*c):Int)≤(zw (x9-1))) then
 lq1 (0:Int) e fun k l i m=>
 zI Zb9 #[zi b,zi c,zi 64] m fun o f=>
 bif decide (i<o) then
 zV ZbI #[zi i,zi b,zi c] f fun p r=>
 vNewS r (.cells #[zi 1] Zg) 1 fun s t=>
 vAppend 1 8 [zi 0] Zg p s t fun u v=>
 zV ZkM #[g,u,zi b] v fun w x=>
 zB Zpb #[w] x fun y a=>
 bif y then
 R (.bool false) a
 else
 ag1 k l (zw (i+1)) a
 else
 ag1 J n (zw (c+1)) f
 else
 R (.bool true) e):CallsH P ZlE #[g,zi b] h R:=zv ⟨[(3,[(6,.i .i64)]),(6,[(7,.i .i64)])],[],[]⟩ Tryz.func193 hv
theorem Zw3 {j:Int} (x:
 zB Zap #[zi j,zi 1,zi 1000000] h fun y g=>
 bif !y then
 R (.slice none 0 0) g
 else
 lq3 j ((.slice none 0 0):Value) (2:Int) g fun J n a k b e=>
 bif decide ((zw (b*b):Int)≤a) then
 lq2 a k e fun l m c f i=>
 b≠0 ∧
 bif (Int.tmod c b:Int)==0 then
 vNewS i (.cells #[zi b] Zg) 1 fun o p=>
 vAppend 1 8 [zi 0] Zg f o p fun r s=>
 b≠0 ∧
 ag2 l m (zw (Int.tdiv c b)) r s
 else
 ag3 J n c f (zw (b+1)) i
 else
 bif decide (a>1) then
 vNewS e (.cells #[zi a] Zg) 1 fun t u=>
 vAppend 1 8 [zi 0] Zg k t u fun v w=>
 R v w
 else
 R k e):CallsH P ZkX #[zi j] h R:=zv ⟨[(5,[(0,.i .i64),(3,.v),(4,.i .i64)]),(7,[(0,.i .i64),(3,.v)])],[],[]⟩ Tryz.func245 x
theorem ZC8 {a:Int} (c:
 zV ZkX #[zi a] h fun e b=>
 vLen e fun f=>
 R (.bool ((f:Int)==1)) b):CallsH P Zo4 #[zi a] h R:=zv ⟨[],[],[]⟩ Tryz.func241 c
end Go.Proofs.YtghbgeaammnkcaaGreatDoor
