import Derived.Test.YtapkemdomnkccaaGreatVcSoundE
import Derived.Test.YtapkemdomnkccaaGreatVcDn
import Derived.Test.YtapkemdomnkccaaGreatPuBase
import Derived.Test.YtapkemdomnkccaaGreatProg
import Derived.KernelRfl
namespace Go.Proofs.YtapkemdomnkccaaGreat
set_option linter.unusedSimpArgs false
open Go Go.Vc Go.Proofs
set_option linter.unusedVariables false
set_option maxRecDepth 100000
noncomputable abbrev P : Program := Tryz.prog
abbrev zw (x : Int) : Int := IntKind.i64.wrap x
abbrev zi (x : Int) : Value := .int .i64 x
abbrev zB (f : FuncId) (a : Array Value) (h : Heap) (K : Bool → Heap → Prop) : Prop := CallsH P f a h fun r h' => ∃ b, r = .bool b ∧ K b h'
abbrev zI (f : FuncId) (a : Array Value) (h : Heap) (K : Int → Heap → Prop) : Prop := CallsH P f a h fun r h' => ∃ x, r = .int .i64 x ∧ K x h'
abbrev zV (f : FuncId) (a : Array Value) (h : Heap) (K : Value → Heap → Prop) : Prop := CallsH P f a h fun r h' => ∃ v, r = v ∧ K v h'
abbrev zS (f : FuncId) (a : Array Value) (h : Heap) (K : ByteArray → Heap → Prop) : Prop := CallsH P f a h fun r h' => ∃ s, r = .string s ∧ K s h'
abbrev ZmG : Nat := 95
abbrev ZnS : Nat := 49
abbrev Zlv : Nat := 19
abbrev Zoh : Nat := 125
abbrev Zk1 : Nat := 75
abbrev ZjO : Nat := 28
abbrev Zoq : Nat := 106
abbrev Zl5 : Nat := 56
abbrev Zkw : Nat := 21
abbrev Zky : Nat := 128
abbrev ZmN : Nat := 77
abbrev Zam : Nat := 30
abbrev Znd : Nat := 69
abbrev ZnQ : Nat := 62
abbrev Zkp : Nat := 24
abbrev Zkb : Nat := 41
abbrev Znt : Nat := 80
abbrev Zdg : Nat := 32
abbrev ZgM : Nat := 35
abbrev Zln : Nat := 71
abbrev Znw : Nat := 63
abbrev Zcz : Nat := 84
abbrev ZmD : Nat := 83
abbrev ZhV : Nat := 36
abbrev ZkV : Nat := 37
abbrev ZjG : Nat := 38
abbrev Zlq : Nat := 73
abbrev ZlH : Nat := 64
abbrev Zls : Nat := 92
abbrev Zh8 : Nat := 46
abbrev Zah : Nat := 96
abbrev Zm7 : Nat := 141
abbrev ZhU : Nat := 97
abbrev Zgt : Nat := 98
abbrev ZiN : Nat := 143
abbrev Zkh : Nat := 195
abbrev ZkU : Nat := 196
abbrev ZnB : Nat := 197
abbrev Zir : Nat := 142
abbrev Zhi : Nat := 144
abbrev ZlG : Nat := 198
abbrev ZiR : Nat := 145
abbrev Zoe : Nat := 99
abbrev ZnP : Nat := 50
abbrev ZlT : Nat := 179
abbrev Zn1 : Nat := 180
abbrev ZlA : Nat := 121
abbrev Zk9 : Nat := 66
abbrev ZnH : Nat := 172
abbrev Zn8 : Nat := 104
abbrev ZnY : Nat := 221
abbrev ZkY : Nat := 173
abbrev Zny : Nat := 222
abbrev ZnD : Nat := 174
abbrev Zoc : Nat := 175
abbrev Znr : Nat := 223
abbrev Zlf : Nat := 176
abbrev Zhn : Nat := 224
abbrev Zcp : Nat := 260
abbrev ZfO : Nat := 264
abbrev Zjx : Nat := 292
abbrev Zg2 : Nat := 293
abbrev Zj3 : Nat := 261
abbrev ZkI : Nat := 225
abbrev Zno : Nat := 177
abbrev ZmM : Nat := 262
abbrev Ziz : Nat := 228
abbrev Zle : Nat := 263
abbrev Zm5 : Nat := 226
abbrev Zos : Nat := 227
abbrev ZhQ : Nat := 134
abbrev Zgr : Nat := 306
abbrev Znh : Nat := 294
abbrev ZlE : Nat := 295
abbrev ZlU : Nat := 307
abbrev Zn4 : Nat := 296
abbrev ZlM : Nat := 265
abbrev Zlw : Nat := 229
abbrev Zlz : Nat := 178
abbrev Zk3 : Nat := 120
abbrev Zjt : Nat := 245
abbrev ZnO : Nat := 246
abbrev Zmb : Nat := 192
abbrev Zml : Nat := 126
abbrev Zia : Nat := 127
abbrev Zix : Nat := 76
abbrev Zee : Nat := 86
abbrev Znm : Nat := 85
abbrev Zop : Nat := 93
abbrev ZdW : Nat := 47
abbrev Zaj : Nat := 107
abbrev Zju : Nat := 202
abbrev Zhp : Nat := 151
abbrev ZaL : Nat := 153
abbrev Zhb : Nat := 203
abbrev Zqz : Nat := 204
abbrev ZjV : Nat := 154
abbrev ZmY : Nat := 152
abbrev Zjn : Nat := 108
abbrev Zi9 : Nat := 205
abbrev Zgq : Nat := 155
abbrev ZdP : Nat := 109
abbrev Zox : Nat := 171
abbrev ZmO : Nat := 206
abbrev Zid : Nat := 207
abbrev ZmK : Nat := 208
abbrev Zj7 : Nat := 156
abbrev Zk5 : Nat := 157
abbrev ZnV : Nat := 110
abbrev Zlu : Nat := 57
abbrev ZmR : Nat := 242
abbrev Zm8 : Nat := 190
abbrev Zks : Nat := 214
abbrev Zdi : Nat := 162
abbrev ZlY : Nat := 244
abbrev Zmj : Nat := 243
abbrev ZnE : Nat := 191
abbrev Zoa : Nat := 123
abbrev ZmA : Nat := 68
abbrev Zcr : Nat := 165
abbrev Znl : Nat := 181
abbrev Zlk : Nat := 213
abbrev Zkg : Nat := 267
abbrev ZkJ : Nat := 266
abbrev ZkP : Nat := 230
abbrev Zly : Nat := 231
abbrev Zlh : Nat := 182
abbrev ZbC : Nat := 170
abbrev Zkr : Nat := 183
abbrev Zm3 : Nat := 232
abbrev Zk7 : Nat := 184
abbrev Zna : Nat := 233
abbrev Zkk : Nat := 234
abbrev Zng : Nat := 185
abbrev Zmn : Nat := 186
abbrev Zfn : Nat := 236
abbrev Zf6 : Nat := 237
abbrev ZbE : Nat := 277
abbrev Zi4 : Nat := 299
abbrev Znv : Nat := 308
abbrev ZmF : Nat := 301
abbrev Zig : Nat := 276
abbrev Zi1 : Nat := 300
abbrev ZkN : Nat := 297
abbrev ZnT : Nat := 268
abbrev ZnA : Nat := 216
abbrev Zlt : Nat := 167
abbrev Zld : Nat := 269
abbrev Znc : Nat := 235
abbrev Zj5 : Nat := 298
abbrev Zi6 : Nat := 270
abbrev ZmX : Nat := 271
abbrev ZnX : Nat := 238
abbrev ZlD : Nat := 272
abbrev Zm2 : Nat := 273
abbrev ZlC : Nat := 239
abbrev Zl2 : Nat := 212
abbrev Zok : Nat := 274
abbrev Zmv : Nat := 240
abbrev ZlI : Nat := 187
abbrev Zlp : Nat := 275
abbrev ZmT : Nat := 241
abbrev Zlb : Nat := 188
abbrev ZkZ : Nat := 189
abbrev ZkG : Nat := 122
abbrev Zm9 : Nat := 129
abbrev Zmp : Nat := 78
abbrev Zlg : Nat := 130
abbrev Zl3 : Nat := 132
abbrev Zot : Nat := 131
abbrev ZfK : Nat := 79
abbrev Zj9 : Nat := 31
abbrev ZnG : Nat := 135
abbrev ZjW : Nat := 193
abbrev Zla : Nat := 137
abbrev Zkt : Nat := 136
abbrev ZkS : Nat := 87
abbrev Zma : Nat := 138
abbrev Zjp : Nat := 88
abbrev Zkv : Nat := 90
abbrev Zll : Nat := 94
abbrev Zdm : Nat := 48
abbrev Zkx : Nat := 9
abbrev Zj : Nat := 2
abbrev t_int : Nat := 3
abbrev ZqT : Nat := 5
abbrev Zhc : Nat := 9
abbrev Zzh : Nat := 22
abbrev ZnN : Nat := 27
abbrev Zm6 : Nat := 30
abbrev Zrk : Nat := 38
abbrev Zh : Nat := 40
abbrev Zcb : Nat := 43
abbrev ZaA : Nat := 46
abbrev Zi5 : Nat := 55
abbrev ZP : Nat := 60
abbrev ZX : Nat := 72
abbrev Zbr : Nat := 158
abbrev ZrF : Nat := 164
abbrev ZcV : Nat := 201
abbrev ZbN : Nat := 206
abbrev Zib : Nat := 208
abbrev Zii : Nat := 251
def tab : List (Nat × TE) := [(2, ⟨.int .i64, [.i .i64], [.int .i64 0], 8⟩),
 (3, ⟨.int .i64, [.i .i64], [.int .i64 0], 8⟩),
 (4, ⟨.bool, [.b], [.bool false], 1⟩),
 (5, ⟨.int .u8, [.i .u8], [.int .u8 0], 1⟩),
 (9, ⟨.str, [.s], [.string ⟨#[]⟩], 16⟩),
 (22, ⟨.slice 40, [.v], [.slice none 0 0], 24⟩),
 (27, ⟨.struct [(0, 1, false), (1, 1, false)], [.i .i64, .v], [.int .i64 0, .slice none 0 0], 32⟩),
 (30, ⟨.struct [(0, 1, false), (1, 1, false)], [.i .i64, .v], [.int .i64 0, .slice none 0 0], 32⟩),
 (38, ⟨.struct [(0, 1, false), (1, 1, false), (2, 1, false)], [.i .i64, .i .i64, .v], [.int .i64 0, .int .i64 0, .slice none 0 0], 40⟩),
 (40, ⟨.slice 2, [.v], [.slice none 0 0], 24⟩),
 (41, ⟨.slice 158, [.v], [.slice none 0 0], 24⟩),
 (43, ⟨.struct [(0, 1, false), (1, 1, false)], [.v, .v], [.slice none 0 0, .slice none 0 0], 48⟩),
 (46, ⟨.struct [(0, 1, false), (1, 1, false), (2, 1, false)], [.i .i64, .i .i64, .v], [.int .i64 0, .int .i64 0, .slice none 0 0], 40⟩),
 (53, ⟨.slice 164, [.v], [.slice none 0 0], 24⟩),
 (55, ⟨.struct [(0, 1, false)], [.v], [.slice none 0 0], 24⟩),
 (58, ⟨.slice 72, [.v], [.slice none 0 0], 24⟩),
 (60, ⟨.struct [(0, 1, false)], [.v], [.slice none 0 0], 24⟩),
 (64, ⟨.slice 9, [.v], [.slice none 0 0], 24⟩),
 (72, ⟨.struct [(0, 1, false), (1, 3, true), (4, 1, false)], [.s, .i .i64, .i .i64, .v, .s], [.string ⟨#[]⟩, .int .i64 0, .int .i64 0, .slice none 0 0, .string ⟨#[]⟩], 72⟩),
 (158, ⟨.struct [(0, 1, false), (1, 1, false)], [.i .i64, .i .i64], [.int .i64 0, .int .i64 0], 16⟩),
 (164, ⟨.struct [(0, 1, false), (1, 3, true), (4, 1, false)], [.s, .i .i64, .i .i64, .v, .s], [.string ⟨#[]⟩, .int .i64 0, .int .i64 0, .slice none 0 0, .string ⟨#[]⟩], 72⟩),
 (171, ⟨.slice 5, [.v], [.slice none 0 0], 24⟩),
 (201, ⟨.struct [(0, 1, false), (1, 1, false), (2, 1, false)], [.i .i64, .i .i64, .v], [.int .i64 0, .int .i64 0, .slice none 0 0], 40⟩),
 (206, ⟨.struct [(0, 1, false), (1, 1, false), (2, 1, false)], [.i .i64, .i .i64, .v], [.int .i64 0, .int .i64 0, .slice none 0 0], 40⟩),
 (208, ⟨.struct [(0, 3, true), (3, 1, false)], [.i .i64, .i .i64, .v, .v], [.int .i64 0, .int .i64 0, .slice none 0 0, .slice none 0 0], 64⟩),
 (220, ⟨.int .u64, [.i .u64], [.int .u64 0], 8⟩),
 (228, ⟨.map 9 4, [.v], [.map none], 8⟩),
 (251, ⟨.struct [(0, 1, false), (1, 1, false), (2, 1, false), (3, 1, false), (4, 1, false)], [.i .i64, .v, .v, .v, .v], [.int .i64 0, .slice none 0 0, .slice none 0 0, .slice none 0 0, .slice none 0 0], 104⟩),
 (282, ⟨.slice 3, [.v], [.slice none 0 0], 24⟩)]
def rst : List (Nat × RS) := [(0, ⟨true, []⟩),
 (2, ⟨false, [(false, [.i .i64])]⟩),
 (3, ⟨false, [(false, [.i .i64])]⟩),
 (4, ⟨false, [(false, [.b])]⟩),
 (9, ⟨false, [(false, [.s])]⟩),
 (22, ⟨false, [(false, [.v])]⟩),
 (27, ⟨false, [(true, [.i .i64, .v])]⟩),
 (30, ⟨false, [(true, [.i .i64, .v])]⟩),
 (40, ⟨false, [(false, [.v])]⟩),
 (46, ⟨false, [(true, [.i .i64, .i .i64, .v])]⟩),
 (58, ⟨false, [(false, [.v])]⟩),
 (60, ⟨false, [(true, [.v])]⟩),
 (72, ⟨false, [(true, [.s, .i .i64, .i .i64, .v, .s])]⟩),
 (78, ⟨true, [(true, [.v]), (false, [.i .i64])]⟩),
 (80, ⟨true, [(true, [.v]), (false, [.v]), (false, [.i .i64])]⟩),
 (97, ⟨true, [(true, [.v, .v]), (false, [.b])]⟩),
 (118, ⟨true, [(false, [.i .i64]), (false, [.b])]⟩),
 (128, ⟨true, [(false, [.v]), (false, [.b])]⟩),
 (142, ⟨true, [(false, [.v]), (false, [.v]), (false, [.b])]⟩),
 (190, ⟨true, [(false, [.i .i64]), (false, [.i .i64])]⟩),
 (201, ⟨false, [(true, [.i .i64, .i .i64, .v])]⟩),
 (206, ⟨false, [(true, [.i .i64, .i .i64, .v])]⟩),
 (208, ⟨false, [(true, [.i .i64, .i .i64, .v, .v])]⟩),
 (249, ⟨true, [(false, [.v]), (false, [.v]), (false, [.i .i64])]⟩),
 (251, ⟨false, [(true, [.i .i64, .v, .v, .v, .v])]⟩),
 (254, ⟨true, [(true, [.i .i64, .i .i64, .v]), (false, [.i .i64])]⟩),
 (275, ⟨true, [(false, [.v]), (false, [.v])]⟩)]
def exs : List Nat := [139]
noncomputable def ctx : Ctx := ⟨Tryz.prog, tab, rst, 3, 310, exs, [139]⟩
theorem te2 : TeOk P 2 ⟨.int .i64, [.i .i64], [.int .i64 0], 8⟩ := ⟨by kernel_rfl, by kernel_rfl, by kernel_rfl, by kernel_rfl⟩
theorem te3 : TeOk P 3 ⟨.int .i64, [.i .i64], [.int .i64 0], 8⟩ := ⟨by kernel_rfl, by kernel_rfl, by kernel_rfl, by kernel_rfl⟩
theorem te4 : TeOk P 4 ⟨.bool, [.b], [.bool false], 1⟩ := ⟨by kernel_rfl, by kernel_rfl, by kernel_rfl, by kernel_rfl⟩
theorem te5 : TeOk P 5 ⟨.int .u8, [.i .u8], [.int .u8 0], 1⟩ := ⟨by kernel_rfl, by kernel_rfl, by kernel_rfl, by kernel_rfl⟩
theorem te9 : TeOk P 9 ⟨.str, [.s], [.string ⟨#[]⟩], 16⟩ := ⟨by kernel_rfl, by kernel_rfl, by kernel_rfl, by kernel_rfl⟩
theorem te22 : TeOk P 22 ⟨.slice 40, [.v], [.slice none 0 0], 24⟩ := ⟨by kernel_rfl, by kernel_rfl, by kernel_rfl, by kernel_rfl⟩
theorem te27 : TeOk P 27 ⟨.struct [(0, 1, false), (1, 1, false)], [.i .i64, .v], [.int .i64 0, .slice none 0 0], 32⟩ := ⟨by kernel_rfl, by kernel_rfl, by kernel_rfl, by kernel_rfl⟩
theorem te30 : TeOk P 30 ⟨.struct [(0, 1, false), (1, 1, false)], [.i .i64, .v], [.int .i64 0, .slice none 0 0], 32⟩ := ⟨by kernel_rfl, by kernel_rfl, by kernel_rfl, by kernel_rfl⟩
theorem te38 : TeOk P 38 ⟨.struct [(0, 1, false), (1, 1, false), (2, 1, false)], [.i .i64, .i .i64, .v], [.int .i64 0, .int .i64 0, .slice none 0 0], 40⟩ := ⟨by kernel_rfl, by kernel_rfl, by kernel_rfl, by kernel_rfl⟩
theorem te40 : TeOk P 40 ⟨.slice 2, [.v], [.slice none 0 0], 24⟩ := ⟨by kernel_rfl, by kernel_rfl, by kernel_rfl, by kernel_rfl⟩
theorem te41 : TeOk P 41 ⟨.slice 158, [.v], [.slice none 0 0], 24⟩ := ⟨by kernel_rfl, by kernel_rfl, by kernel_rfl, by kernel_rfl⟩
theorem te43 : TeOk P 43 ⟨.struct [(0, 1, false), (1, 1, false)], [.v, .v], [.slice none 0 0, .slice none 0 0], 48⟩ := ⟨by kernel_rfl, by kernel_rfl, by kernel_rfl, by kernel_rfl⟩
theorem te46 : TeOk P 46 ⟨.struct [(0, 1, false), (1, 1, false), (2, 1, false)], [.i .i64, .i .i64, .v], [.int .i64 0, .int .i64 0, .slice none 0 0], 40⟩ := ⟨by kernel_rfl, by kernel_rfl, by kernel_rfl, by kernel_rfl⟩
theorem te53 : TeOk P 53 ⟨.slice 164, [.v], [.slice none 0 0], 24⟩ := ⟨by kernel_rfl, by kernel_rfl, by kernel_rfl, by kernel_rfl⟩
theorem te55 : TeOk P 55 ⟨.struct [(0, 1, false)], [.v], [.slice none 0 0], 24⟩ := ⟨by kernel_rfl, by kernel_rfl, by kernel_rfl, by kernel_rfl⟩
theorem te58 : TeOk P 58 ⟨.slice 72, [.v], [.slice none 0 0], 24⟩ := ⟨by kernel_rfl, by kernel_rfl, by kernel_rfl, by kernel_rfl⟩
theorem te60 : TeOk P 60 ⟨.struct [(0, 1, false)], [.v], [.slice none 0 0], 24⟩ := ⟨by kernel_rfl, by kernel_rfl, by kernel_rfl, by kernel_rfl⟩
theorem te64 : TeOk P 64 ⟨.slice 9, [.v], [.slice none 0 0], 24⟩ := ⟨by kernel_rfl, by kernel_rfl, by kernel_rfl, by kernel_rfl⟩
theorem te72 : TeOk P 72 ⟨.struct [(0, 1, false), (1, 3, true), (4, 1, false)], [.s, .i .i64, .i .i64, .v, .s], [.string ⟨#[]⟩, .int .i64 0, .int .i64 0, .slice none 0 0, .string ⟨#[]⟩], 72⟩ := ⟨by kernel_rfl, by kernel_rfl, by kernel_rfl, by kernel_rfl⟩
theorem te158 : TeOk P 158 ⟨.struct [(0, 1, false), (1, 1, false)], [.i .i64, .i .i64], [.int .i64 0, .int .i64 0], 16⟩ := ⟨by kernel_rfl, by kernel_rfl, by kernel_rfl, by kernel_rfl⟩
theorem te164 : TeOk P 164 ⟨.struct [(0, 1, false), (1, 3, true), (4, 1, false)], [.s, .i .i64, .i .i64, .v, .s], [.string ⟨#[]⟩, .int .i64 0, .int .i64 0, .slice none 0 0, .string ⟨#[]⟩], 72⟩ := ⟨by kernel_rfl, by kernel_rfl, by kernel_rfl, by kernel_rfl⟩
theorem te171 : TeOk P 171 ⟨.slice 5, [.v], [.slice none 0 0], 24⟩ := ⟨by kernel_rfl, by kernel_rfl, by kernel_rfl, by kernel_rfl⟩
theorem te201 : TeOk P 201 ⟨.struct [(0, 1, false), (1, 1, false), (2, 1, false)], [.i .i64, .i .i64, .v], [.int .i64 0, .int .i64 0, .slice none 0 0], 40⟩ := ⟨by kernel_rfl, by kernel_rfl, by kernel_rfl, by kernel_rfl⟩
theorem te206 : TeOk P 206 ⟨.struct [(0, 1, false), (1, 1, false), (2, 1, false)], [.i .i64, .i .i64, .v], [.int .i64 0, .int .i64 0, .slice none 0 0], 40⟩ := ⟨by kernel_rfl, by kernel_rfl, by kernel_rfl, by kernel_rfl⟩
theorem te208 : TeOk P 208 ⟨.struct [(0, 3, true), (3, 1, false)], [.i .i64, .i .i64, .v, .v], [.int .i64 0, .int .i64 0, .slice none 0 0, .slice none 0 0], 64⟩ := ⟨by kernel_rfl, by kernel_rfl, by kernel_rfl, by kernel_rfl⟩
theorem te220 : TeOk P 220 ⟨.int .u64, [.i .u64], [.int .u64 0], 8⟩ := ⟨by kernel_rfl, by kernel_rfl, by kernel_rfl, by kernel_rfl⟩
theorem te228 : TeOk P 228 ⟨.map 9 4, [.v], [.map none], 8⟩ := ⟨by kernel_rfl, by kernel_rfl, by kernel_rfl, by kernel_rfl⟩
theorem te251 : TeOk P 251 ⟨.struct [(0, 1, false), (1, 1, false), (2, 1, false), (3, 1, false), (4, 1, false)], [.i .i64, .v, .v, .v, .v], [.int .i64 0, .slice none 0 0, .slice none 0 0, .slice none 0 0, .slice none 0 0], 104⟩ := ⟨by kernel_rfl, by kernel_rfl, by kernel_rfl, by kernel_rfl⟩
theorem te282 : TeOk P 282 ⟨.slice 3, [.v], [.slice none 0 0], 24⟩ := ⟨by kernel_rfl, by kernel_rfl, by kernel_rfl, by kernel_rfl⟩
theorem tabOk_all : ∀ p ∈ tab, TeOk P p.1 p.2 := by
 unfold tab
 simp only [List.forall_mem_cons]
 exact ⟨te2, te3, te4, te5, te9, te22, te27, te30, te38, te40, te41, te43, te46, te53, te55, te58, te60, te64, te72, te158, te164, te171, te201, te206, te208, te220, te228, te251, te282, fun p hp => by cases hp⟩
theorem tab_mem : ∀ (l : List (Nat × TE)) (t : Nat) (te : TE), tabGet l t = some te → (t, te) ∈ l
 | [], t, te, h => by cases h
 | (k, x) :: r, t, te, h => by
  unfold tabGet at h
  cases hb : Nat.beq k t with
  | true => rw [hb] at h; have := Nat.eq_of_beq_eq_true hb; subst this; cases h; exact List.mem_cons_self ..
  | false => rw [hb] at h; exact List.mem_cons_of_mem _ (tab_mem r t te h)
noncomputable def fnB (f : Nat) : Bool := match P.funcs[f]? with | some fn => fn.body.isSome && !(fn.name == "runtime.NumGoroutine") | none => false
theorem fns_all : (List.range' 3 307).all (fun f => inL exs f || fnB f) = true := by kernel_rfl
theorem ctxOk : CtxOk ctx where
 tab := fun t te h => tabOk_all (t, te) (tab_mem _ t te h)
 fns := fun f hf => by
  simp only [Ctx.okf, Bool.and_eq_true, Bool.not_eq_true'] at hf
  have h1 : 3 ≤ f := Nat.le_of_ble_eq_true hf.1.1
  have h2 : f < 310 := Nat.blt_eq.mp hf.1.2
  have h := List.all_eq_true.1 fns_all f (List.mem_range'_1.2 ⟨h1, by omega⟩)
  have h3 : inL exs f = false := hf.2
  simp only [h3, Bool.false_or] at h
  unfold fnB at h
  split at h
  ·rename_i fn hfn; simp only [Bool.and_eq_true, Bool.not_eq_true'] at h; exact ⟨fn, hfn, h.1, h.2⟩
  ·cases h
 mixed := by kernel_rfl
 ovs := fun f hf => by
  have hf' : f = 139 := by
   unfold ctx inL at hf
   cases hb : Nat.beq 139 f with
   | true => exact (Nat.eq_of_beq_eq_true hb).symm
   | false => simp [hb, inL] at hf
  subst hf'
  exact ⟨Tryz.f139, 58, 4, 72, _, by kernel_rfl, by kernel_rfl, by kernel_rfl, by kernel_rfl, by kernel_rfl, by kernel_rfl, te72⟩
theorem zv {F : Prop} {f : FuncId} {fn : Func} {args : List Value} {h : Heap} {R : Value → Heap → Prop} (A : Ann) (hf : P.funcs[f]? = some fn) (hv : F)
  (hn : ((match fn.body with | some c => cOk fn.ntmps c | none => false) && Nat.ble args.length fn.ntmps) = true := by kernel_rfl) (e : vcFn ctx A fn args h R = F := by kernel_rfl) : CallsH P f args.toArray h R :=
 Zz9 ctxOk A hf args h R hn (e ▸ hv)
variable {R : Value → Heap → Prop} {h : Heap}
theorem ZyJ {v0 : Value} {x1 : Int} (hv :
 vLen v0 fun n7 =>
 bif decide ((zw (x1 - (n7 : Int)) : Int) < 0) then
 R (zi (-1)) h
 else
 R (zi (zw (x1 - (n7 : Int)))) h) : CallsH P ZmG #[v0, zi x1] h R := zv ⟨[], []⟩ Tryz.func95 hv
theorem ZwR {v0 : Value} {x1 : Int} (hv :
 vLen v0 fun n8 =>
 bif decide ((zw (x1 - (n8 : Int)) : Int) < 0) then
 R (zi (-1)) h
 else
 lq2 (zw (x1 - (n8 : Int))) (0 : Int) h fun J n x1_2 x5 h_2 =>
 vLen v0 fun n14 =>
 bif decide (x5 < (n14 : Int)) then
 vIdx v0 x5 1 fun p20 =>
 ldV h_2 p20 fun v21 =>
 zI ZmG #[v21, zi x1_2] h_2 fun x23 h_3 =>
 bif decide (x23 < 0) then
 R (zi (-1)) h_3
 else
 ag2 J n x23 (zw (x5 + 1)) h_3
 else
 R (zi x1_2) h_2) : CallsH P ZnS #[v0, zi x1] h R := zv ⟨[(5, [(1, .i .i64), (5, .i .i64)])], []⟩ Tryz.func49 hv
theorem ZBg {x0_0 x0_1 : Int} {v0_2 : Value} {x1 : Int} (hv :
 vNew h (.cells #[zi x0_0, zi x0_1, v0_2] Zrk) fun p2 h_2 =>
 ldV h_2 (p2.add 2) fun v6 =>
 zI ZnS #[v6, zi x1] h_2 fun x8 h_3 =>
 bif decide (x8 < 0) then
 R (zi (-1)) h_3
 else
 R (zi x8) h_3) : CallsH P Zlv #[.agg #[zi x0_0, zi x0_1, v0_2], zi x1] h R := zv ⟨[], []⟩ Tryz.func19 hv
theorem Zxl {s0_0 : ByteArray} {x0_1 x0_2 : Int} {v0_3 : Value} {s0_4 : ByteArray} {x1 : Int} (hv :
 vNew h (.cells #[.string s0_0, zi x0_1, zi x0_2, v0_3, .string s0_4] ZrF) fun p2 h_2 =>
 ldS h_2 p2 fun s7 =>
 bif decide ((zw (x1 - (s7.size : Int)) : Int) < 0) then
 R (zi (-1)) h_2
 else
 ldI .i64 h_2 (p2.add 1) fun x13_0 =>
 ldI .i64 h_2 ((p2.add 1).add 1) fun x13_1 =>
 ldV h_2 ((p2.add 1).add 2) fun v13_2 =>
 zI Zlv #[.agg #[zi x13_0, zi x13_1, v13_2], zi (zw (x1 - (s7.size : Int)))] h_2 fun x15 h_3 =>
 bif decide (x15 < 0) then
 R (zi (-1)) h_3
 else
 ldS h_3 (p2.add 4) fun s20 =>
 bif decide ((zw (x15 - (s20.size : Int)) : Int) < 0) then
 R (zi (-1)) h_3
 else
 R (zi (zw (x15 - (s20.size : Int)))) h_3) : CallsH P Zoh #[.agg #[.string s0_0, zi x0_1, zi x0_2, v0_3, .string s0_4], zi x1] h R := zv ⟨[], []⟩ Tryz.func125 hv
theorem Zz1 {v0 : Value} {x1 : Int} (hv :
 vLen v0 fun n8 =>
 bif decide ((zw (x1 - (n8 : Int)) : Int) < 0) then
 R (zi (-1)) h
 else
 lq2 (zw (x1 - (n8 : Int))) (0 : Int) h fun J n x1_2 x5 h_2 =>
 vLen v0 fun n14 =>
 bif decide (x5 < (n14 : Int)) then
 vIdx v0 x5 5 fun p20 =>
 ldS h_2 p20 fun s21_0 =>
 ldI .i64 h_2 (p20.add 1) fun x21_1 =>
 ldI .i64 h_2 (p20.add 2) fun x21_2 =>
 ldV h_2 (p20.add 3) fun v21_3 =>
 ldS h_2 (p20.add 4) fun s21_4 =>
 zI Zoh #[.agg #[.string s21_0, zi x21_1, zi x21_2, v21_3, .string s21_4], zi x1_2] h_2 fun x23 h_3 =>
 bif decide (x23 < 0) then
 R (zi (-1)) h_3
 else
 ag2 J n x23 (zw (x5 + 1)) h_3
 else
 R (zi x1_2) h_2) : CallsH P Zk1 #[v0, zi x1] h R := zv ⟨[(5, [(1, .i .i64), (5, .i .i64)])], []⟩ Tryz.func75 hv
theorem Ztm {v0_0 : Value} {x1 : Int} (hv :
 vNew h (.cells #[v0_0] Zi5) fun p2 h_2 =>
 ldV h_2 p2 fun v6 =>
 zI Zk1 #[v6, zi x1] h_2 fun x8 h_3 =>
 bif decide (x8 < 0) then
 R (zi (-1)) h_3
 else
 R (zi x8) h_3) : CallsH P ZjO #[.agg #[v0_0], zi x1] h R := zv ⟨[], []⟩ Tryz.func28 hv
theorem ZAP {v0 : Value} (hv :
 vLen v0 fun n6 =>
 vMake 8 [zi 0] Zj (n6 : Int) (n6 : Int) h fun v7 h_2 =>
 lq1 (0 : Int) h_2 fun J n x4 h_3 =>
 vLen v0 fun n10 =>
 bif decide (x4 < (n10 : Int)) then
 vIdx v0 x4 1 fun p18 =>
 ldI .i64 h_3 p18 fun x19 =>
 vIdx v7 x4 1 fun p20 =>
 vStore1 h_3 p20 (zi x19) fun h_4 =>
 ag1 J n (zw (x4 + 1)) h_4
 else
 R v7 h_3) : CallsH P Zoq #[v0] h R := zv ⟨[(3, [(4, .i .i64)])], []⟩ Tryz.func106 hv
theorem ZxR {v0 : Value} (hv :
 vLen v0 fun n6 =>
 vMake 24 [.slice none 0 0] Zh (n6 : Int) (n6 : Int) h fun v7 h_2 =>
 lq1 (0 : Int) h_2 fun J n x4 h_3 =>
 vLen v0 fun n10 =>
 bif decide (x4 < (n10 : Int)) then
 vIdx v0 x4 1 fun p18 =>
 ldV h_3 p18 fun v19 =>
 zV Zoq #[v19] h_3 fun v20 h_4 =>
 vIdx v7 x4 1 fun p21 =>
 vStore1 h_4 p21 v20 fun h_5 =>
 ag1 J n (zw (x4 + 1)) h_5
 else
 R v7 h_3) : CallsH P Zl5 #[v0] h R := zv ⟨[(3, [(4, .i .i64)])], []⟩ Tryz.func56 hv
theorem Zr6 {x0_0 x0_1 : Int} {v0_2 : Value} (hv :
 vNew h (.cells #[zi x0_0, zi x0_1, v0_2] Zrk) fun p1 h_2 =>
 vNew h_2 (.cells #[zi 0, zi 0, .slice none 0 0] ZaA) fun p2 h_3 =>
 vNew h_3 (.cells #[zi 0, zi 0, .slice none 0 0] ZaA) fun p3 h_4 =>
 ldI .i64 h_4 p1 fun x5 =>
 vStore1 h_4 p3 (zi x5) fun h_5 =>
 ldI .i64 h_5 (p1.add 1) fun x8 =>
 vStore1 h_5 (p3.add 1) (zi x8) fun h_6 =>
 ldV h_6 (p1.add 2) fun v11 =>
 zV Zl5 #[v11] h_6 fun v12 h_7 =>
 vStore1 h_7 (p3.add 2) v12 fun h_8 =>
 ldI .i64 h_8 p3 fun x14_0 =>
 ldI .i64 h_8 (p3.add 1) fun x14_1 =>
 ldV h_8 (p3.add 2) fun v14_2 =>
 vStore1 h_8 p2 (zi x14_0) fun h_9 =>
 vStore1 h_9 (p2.add 1) (zi x14_1) fun h_10 =>
 vStore1 h_10 (p2.add 2) v14_2 fun h_11 =>
 ldI .i64 h_11 p2 fun xres0_0 =>
 ldI .i64 h_11 (p2.add 1) fun xres0_1 =>
 ldV h_11 (p2.add 2) fun vres0_2 =>
 R (.agg #[zi xres0_0, zi xres0_1, vres0_2]) h_11) : CallsH P Zkw #[.agg #[zi x0_0, zi x0_1, v0_2]] h R := zv ⟨[], []⟩ Tryz.func21 hv
theorem Zw8 {s0_0 : ByteArray} {x0_1 x0_2 : Int} {v0_3 : Value} {s0_4 : ByteArray} (hv :
 vNew h (.cells #[.string s0_0, zi x0_1, zi x0_2, v0_3, .string s0_4] ZrF) fun p1 h_2 =>
 vNew h_2 (.cells #[.string ⟨#[]⟩, zi 0, zi 0, .slice none 0 0, .string ⟨#[]⟩] ZX) fun p2 h_3 =>
 vNew h_3 (.cells #[.string ⟨#[]⟩, zi 0, zi 0, .slice none 0 0, .string ⟨#[]⟩] ZX) fun p3 h_4 =>
 ldS h_4 p1 fun s5 =>
 vStore1 h_4 p3 (.string s5) fun h_5 =>
 ldI .i64 h_5 (p1.add 1) fun x8_0 =>
 ldI .i64 h_5 ((p1.add 1).add 1) fun x8_1 =>
 ldV h_5 ((p1.add 1).add 2) fun v8_2 =>
 CallsH P Zkw #[.agg #[zi x8_0, zi x8_1, v8_2]] h_5 fun r9 h_6 => ∃ x9_0_0, ∃ x9_0_1, ∃ (v9_0_2 : Value), r9 = .agg #[zi x9_0_0, zi x9_0_1, v9_0_2] ∧
 vStore1 h_6 (p3.add 1) (zi x9_0_0) fun h_7 =>
 vStore1 h_7 ((p3.add 1).add 1) (zi x9_0_1) fun h_8 =>
 vStore1 h_8 ((p3.add 1).add 2) v9_0_2 fun h_9 =>
 ldS h_9 (p1.add 4) fun s12 =>
 vStore1 h_9 (p3.add 4) (.string s12) fun h_10 =>
 ldS h_10 p3 fun s14_0 =>
 ldI .i64 h_10 (p3.add 1) fun x14_1 =>
 ldI .i64 h_10 (p3.add 2) fun x14_2 =>
 ldV h_10 (p3.add 3) fun v14_3 =>
 ldS h_10 (p3.add 4) fun s14_4 =>
 vStore1 h_10 p2 (.string s14_0) fun h_11 =>
 vStore1 h_11 (p2.add 1) (zi x14_1) fun h_12 =>
 vStore1 h_12 (p2.add 2) (zi x14_2) fun h_13 =>
 vStore1 h_13 (p2.add 3) v14_3 fun h_14 =>
 vStore1 h_14 (p2.add 4) (.string s14_4) fun h_15 =>
 ldS h_15 p2 fun sres0_0 =>
 ldI .i64 h_15 (p2.add 1) fun xres0_1 =>
 ldI .i64 h_15 (p2.add 2) fun xres0_2 =>
 ldV h_15 (p2.add 3) fun vres0_3 =>
 ldS h_15 (p2.add 4) fun sres0_4 =>
 R (.agg #[.string sres0_0, zi xres0_1, zi xres0_2, vres0_3, .string sres0_4]) h_15) : CallsH P Zky #[.agg #[.string s0_0, zi x0_1, zi x0_2, v0_3, .string s0_4]] h R := zv ⟨[], []⟩ Tryz.func128 hv
theorem Zzg {v0 : Value} (hv :
 vLen v0 fun n6 =>
 vMake 72 [.string ⟨#[]⟩, zi 0, zi 0, .slice none 0 0, .string ⟨#[]⟩] ZX (n6 : Int) (n6 : Int) h fun v7 h_2 =>
 lq1 (0 : Int) h_2 fun J n x4 h_3 =>
 vLen v0 fun n10 =>
 bif decide (x4 < (n10 : Int)) then
 vIdx v0 x4 5 fun p18 =>
 ldS h_3 p18 fun s19_0 =>
 ldI .i64 h_3 (p18.add 1) fun x19_1 =>
 ldI .i64 h_3 (p18.add 2) fun x19_2 =>
 ldV h_3 (p18.add 3) fun v19_3 =>
 ldS h_3 (p18.add 4) fun s19_4 =>
 CallsH P Zky #[.agg #[.string s19_0, zi x19_1, zi x19_2, v19_3, .string s19_4]] h_3 fun r20 h_4 => ∃ (s20_0_0 : ByteArray), ∃ x20_0_1, ∃ x20_0_2, ∃ (v20_0_3 : Value), ∃ (s20_0_4 : ByteArray), r20 = .agg #[.string s20_0_0, zi x20_0_1, zi x20_0_2, v20_0_3, .string s20_0_4] ∧
 vIdx v7 x4 5 fun p21 =>
 vStore1 h_4 p21 (.string s20_0_0) fun h_5 =>
 vStore1 h_5 (p21.add 1) (zi x20_0_1) fun h_6 =>
 vStore1 h_6 (p21.add 2) (zi x20_0_2) fun h_7 =>
 vStore1 h_7 (p21.add 3) v20_0_3 fun h_8 =>
 vStore1 h_8 (p21.add 4) (.string s20_0_4) fun h_9 =>
 ag1 J n (zw (x4 + 1)) h_9
 else
 R v7 h_3) : CallsH P ZmN #[v0] h R := zv ⟨[(3, [(4, .i .i64)])], []⟩ Tryz.func77 hv
theorem Zzt {v0_0 : Value} (hv :
 vNew h (.cells #[v0_0] Zi5) fun p1 h_2 =>
 vNew h_2 (.cells #[.slice none 0 0] ZP) fun p2 h_3 =>
 vNew h_3 (.cells #[.slice none 0 0] ZP) fun p3 h_4 =>
 ldV h_4 p1 fun v5 =>
 zV ZmN #[v5] h_4 fun v6 h_5 =>
 vStore1 h_5 p3 v6 fun h_6 =>
 ldV h_6 p3 fun v8_0 =>
 vStore1 h_6 p2 v8_0 fun h_7 =>
 ldV h_7 p2 fun vres0_0 =>
 R (.agg #[vres0_0]) h_7) : CallsH P Zam #[.agg #[v0_0]] h R := zv ⟨[], []⟩ Tryz.func30 hv
theorem Zyt {v0 v1 : Value} (hv :
 vLen v0 fun n7 =>
 vLen v1 fun n9 =>
 bif (n7 : Int) != (n9 : Int) then
 R (.bool false) h
 else
 lq1 (0 : Int) h fun J n x5 h_2 =>
 vLen v0 fun n13 =>
 bif decide (x5 < (n13 : Int)) then
 vIdx v0 x5 1 fun p19 =>
 ldI .i64 h_2 p19 fun x20 =>
 vIdx v1 x5 1 fun p23 =>
 ldI .i64 h_2 p23 fun x24 =>
 bif x20 != x24 then
 R (.bool false) h_2
 else
 ag1 J n (zw (x5 + 1)) h_2
 else
 R (.bool true) h_2) : CallsH P Znd #[v0, v1] h R := zv ⟨[(4, [(5, .i .i64)])], []⟩ Tryz.func69 hv
theorem Zut {v0 v1 : Value} (hv :
 vLen v0 fun n7 =>
 vLen v1 fun n9 =>
 bif (n7 : Int) != (n9 : Int) then
 R (.bool false) h
 else
 lq1 (0 : Int) h fun J n x5 h_2 =>
 vLen v0 fun n13 =>
 bif decide (x5 < (n13 : Int)) then
 vIdx v0 x5 1 fun p19 =>
 ldV h_2 p19 fun v20 =>
 vIdx v1 x5 1 fun p23 =>
 ldV h_2 p23 fun v24 =>
 zB Znd #[v20, v24] h_2 fun b25 h_3 =>
 bif !b25 then
 R (.bool false) h_3
 else
 ag1 J n (zw (x5 + 1)) h_3
 else
 R (.bool true) h_2) : CallsH P ZnQ #[v0, v1] h R := zv ⟨[(4, [(5, .i .i64)])], []⟩ Tryz.func62 hv
theorem Zvk {x0_0 x0_1 : Int} {v0_2 : Value} {x1_0 x1_1 : Int} {v1_2 : Value} (hv :
 vNew h (.cells #[zi x0_0, zi x0_1, v0_2] ZaA) fun p2 h_2 =>
 vNew h_2 (.cells #[zi x1_0, zi x1_1, v1_2] ZaA) fun p3 h_3 =>
 ldI .i64 h_3 p2 fun x6 =>
 ldI .i64 h_3 p3 fun x8 =>
 bif x6 != x8 then
 R (.bool false) h_3
 else
 ldI .i64 h_3 (p2.add 1) fun x11 =>
 ldI .i64 h_3 (p3.add 1) fun x13 =>
 bif x11 != x13 then
 R (.bool false) h_3
 else
 ldV h_3 (p2.add 2) fun v16 =>
 ldV h_3 (p3.add 2) fun v18 =>
 zB ZnQ #[v16, v18] h_3 fun b19 h_4 =>
 bif !b19 then
 R (.bool false) h_4
 else
 R (.bool true) h_4) : CallsH P Zkp #[.agg #[zi x0_0, zi x0_1, v0_2], .agg #[zi x1_0, zi x1_1, v1_2]] h R := zv ⟨[], []⟩ Tryz.func24 hv
theorem ZyT {s0_0 : ByteArray} {x0_1 x0_2 : Int} {v0_3 : Value} {s0_4 s1_0 : ByteArray} {x1_1 x1_2 : Int} {v1_3 : Value} {s1_4 : ByteArray} (hv :
 vNew h (.cells #[.string s0_0, zi x0_1, zi x0_2, v0_3, .string s0_4] ZX) fun p2 h_2 =>
 vNew h_2 (.cells #[.string s1_0, zi x1_1, zi x1_2, v1_3, .string s1_4] ZX) fun p3 h_3 =>
 ldS h_3 p2 fun s6 =>
 ldS h_3 p3 fun s8 =>
 bif !(s6.toList == s8.toList) then
 R (.bool false) h_3
 else
 ldI .i64 h_3 (p2.add 1) fun x11_0 =>
 ldI .i64 h_3 ((p2.add 1).add 1) fun x11_1 =>
 ldV h_3 ((p2.add 1).add 2) fun v11_2 =>
 ldI .i64 h_3 (p3.add 1) fun x13_0 =>
 ldI .i64 h_3 ((p3.add 1).add 1) fun x13_1 =>
 ldV h_3 ((p3.add 1).add 2) fun v13_2 =>
 zB Zkp #[.agg #[zi x11_0, zi x11_1, v11_2], .agg #[zi x13_0, zi x13_1, v13_2]] h_3 fun b14 h_4 =>
 bif !b14 then
 R (.bool false) h_4
 else
 ldS h_4 (p2.add 4) fun s17 =>
 ldS h_4 (p3.add 4) fun s19 =>
 bif !(s17.toList == s19.toList) then
 R (.bool false) h_4
 else
 R (.bool true) h_4) : CallsH P Zkb #[.agg #[.string s0_0, zi x0_1, zi x0_2, v0_3, .string s0_4], .agg #[.string s1_0, zi x1_1, zi x1_2, v1_3, .string s1_4]] h R := zv ⟨[], []⟩ Tryz.func41 hv
theorem ZAI {v0 v1 : Value} (hv :
 vLen v0 fun n7 =>
 vLen v1 fun n9 =>
 bif (n7 : Int) != (n9 : Int) then
 R (.bool false) h
 else
 lq1 (0 : Int) h fun J n x5 h_2 =>
 vLen v0 fun n13 =>
 bif decide (x5 < (n13 : Int)) then
 vIdx v0 x5 5 fun p19 =>
 ldS h_2 p19 fun s20_0 =>
 ldI .i64 h_2 (p19.add 1) fun x20_1 =>
 ldI .i64 h_2 (p19.add 2) fun x20_2 =>
 ldV h_2 (p19.add 3) fun v20_3 =>
 ldS h_2 (p19.add 4) fun s20_4 =>
 vIdx v1 x5 5 fun p23 =>
 ldS h_2 p23 fun s24_0 =>
 ldI .i64 h_2 (p23.add 1) fun x24_1 =>
 ldI .i64 h_2 (p23.add 2) fun x24_2 =>
 ldV h_2 (p23.add 3) fun v24_3 =>
 ldS h_2 (p23.add 4) fun s24_4 =>
 zB Zkb #[.agg #[.string s20_0, zi x20_1, zi x20_2, v20_3, .string s20_4], .agg #[.string s24_0, zi x24_1, zi x24_2, v24_3, .string s24_4]] h_2 fun b25 h_3 =>
 bif !b25 then
 R (.bool false) h_3
 else
 ag1 J n (zw (x5 + 1)) h_3
 else
 R (.bool true) h_2) : CallsH P Znt #[v0, v1] h R := zv ⟨[(4, [(5, .i .i64)])], []⟩ Tryz.func80 hv
theorem ZzJ {v0_0 v1_0 : Value} (hv :
 vNew h (.cells #[v0_0] ZP) fun p2 h_2 =>
 vNew h_2 (.cells #[v1_0] ZP) fun p3 h_3 =>
 ldV h_3 p2 fun v6 =>
 ldV h_3 p3 fun v8 =>
 zB Znt #[v6, v8] h_3 fun b9 h_4 =>
 bif !b9 then
 R (.bool false) h_4
 else
 R (.bool true) h_4) : CallsH P Zdg #[.agg #[v0_0], .agg #[v1_0]] h R := zv ⟨[], []⟩ Tryz.func32 hv
theorem Zvc {v0 v1 : Value} (hv :
 vLen v0 fun n7 =>
 vLen v1 fun n9 =>
 bif (n7 : Int) != (n9 : Int) then
 R (.bool false) h
 else
 lq1 (0 : Int) h fun J n x5 h_2 =>
 vLen v0 fun n13 =>
 bif decide (x5 < (n13 : Int)) then
 vIdx v0 x5 1 fun p19 =>
 ldS h_2 p19 fun s20 =>
 vIdx v1 x5 1 fun p23 =>
 ldS h_2 p23 fun s24 =>
 bif !(s20.toList == s24.toList) then
 R (.bool false) h_2
 else
 ag1 J n (zw (x5 + 1)) h_2
 else
 R (.bool true) h_2) : CallsH P ZgM #[v0, v1] h R := zv ⟨[(4, [(5, .i .i64)])], []⟩ Tryz.func35 hv
theorem Zv6 {v0 : Value} {x1 : Int} (hv :
 lq2 x1 (0 : Int) h fun J n x1_2 x5 h_2 =>
 vLen v0 fun n8 =>
 bif decide (x5 < (n8 : Int)) then
 vIdx v0 x5 1 fun p15 =>
 vStore1 h_2 p15 (zi x1_2) fun h_3 =>
 ag2 J n (zw (x1_2 + 1)) (zw (x5 + 1)) h_3
 else
 R (zi x1_2) h_2) : CallsH P Zln #[v0, zi x1] h R := zv ⟨[(2, [(1, .i .i64), (5, .i .i64)])], []⟩ Tryz.func71 hv
theorem ZBh {v0 : Value} {x1 : Int} (hv :
 lq2 x1 (0 : Int) h fun J n x1_2 x5 h_2 =>
 vLen v0 fun n8 =>
 bif decide (x5 < (n8 : Int)) then
 vIdx v0 x5 1 fun p14 =>
 ldV h_2 p14 fun v15 =>
 zI Zln #[v15, zi x1_2] h_2 fun x17 h_3 =>
 ag2 J n x17 (zw (x5 + 1)) h_3
 else
 R (zi x1_2) h_2) : CallsH P Znw #[v0, zi x1] h R := zv ⟨[(2, [(1, .i .i64), (5, .i .i64)])], []⟩ Tryz.func63 hv
theorem Zzn {x0 : Int} (hv :
 bif decide (x0 ≤ 0) then
 R (.string ⟨#[109, 48]⟩) h
 else
 lq2 x0 (⟨#[]⟩ : ByteArray) h fun J n x0_2 s3 h_2 =>
 bif decide (x0_2 > 0) then
 (10 : Int) ≠ 0 ∧
 vNewS h_2 (.cells #[.int .u8 (IntKind.u8.wrap (zw (48 + (Int.tmod x0_2 10))))] ZqT) 1 fun v12 h_3 =>
 vB2S v12 h_3 fun s13 =>
 (((s13 : ByteArray).size + (s3 : ByteArray).size : Nat) : Int) ≤ IntKind.i64.max ∧
 (10 : Int) ≠ 0 ∧
 ag2 J n (zw (Int.tdiv x0_2 10)) ((s13 : ByteArray) ++ (s3 : ByteArray)) h_3
 else
 (((⟨#[109]⟩ : ByteArray).size + (s3 : ByteArray).size : Nat) : Int) ≤ IntKind.i64.max ∧
 R (.string ((⟨#[109]⟩ : ByteArray) ++ (s3 : ByteArray))) h_2) : CallsH P Zcz #[zi x0] h R := zv ⟨[(4, [(0, .i .i64), (3, .s)])], []⟩ Tryz.func84 hv
theorem ZuX {v0 : Value} {x1 : Int} (hv :
 lq2 x1 (0 : Int) h fun J n x1_2 x5 h_2 =>
 vLen v0 fun n8 =>
 bif decide (x5 < (n8 : Int)) then
 zS Zcz #[zi x1_2] h_2 fun s15 h_3 =>
 vIdx v0 x5 5 fun p16 =>
 vStore1 h_3 p16 (.string s15) fun h_4 =>
 vIdx v0 x5 5 fun p23 =>
 vStore1 h_4 (p23.add 1) (zi (zw (x1_2 + 1))) fun h_5 =>
 vIdx v0 x5 5 fun p31 =>
 vStore1 h_5 ((p31.add 1).add 1) (zi (zw ((zw (x1_2 + 1)) + 1))) fun h_6 =>
 vIdx v0 x5 5 fun p38 =>
 ldV h_6 ((p38.add 1).add 2) fun v41 =>
 zI Znw #[v41, zi (zw ((zw ((zw (x1_2 + 1)) + 1)) + 1))] h_6 fun x43 h_7 =>
 zS Zcz #[zi x43] h_7 fun s47 h_8 =>
 vIdx v0 x5 5 fun p48 =>
 vStore1 h_8 (p48.add 4) (.string s47) fun h_9 =>
 ag2 J n (zw (x43 + 1)) (zw (x5 + 1)) h_9
 else
 R (zi x1_2) h_2) : CallsH P ZmD #[v0, zi x1] h R := zv ⟨[(2, [(1, .i .i64), (5, .i .i64)])], []⟩ Tryz.func83 hv
theorem ZAL {v0_0 : Value} {x1 : Int} (hv :
 vNew h (.cells #[v0_0] ZP) fun p2 h_2 =>
 ldV h_2 p2 fun v6 =>
 zI ZmD #[v6, zi x1] h_2 fun x8 h_3 =>
 R (zi x8) h_3) : CallsH P ZhV #[.agg #[v0_0], zi x1] h R := zv ⟨[], []⟩ Tryz.func36 hv
theorem Zx5 {v0 : Value} {x1 : Int} (hv :
 lq2 x1 (0 : Int) h fun J n x1_2 x5 h_2 =>
 vLen v0 fun n8 =>
 bif decide (x5 < (n8 : Int)) then
 zS Zcz #[zi x1_2] h_2 fun s15 h_3 =>
 vIdx v0 x5 1 fun p16 =>
 vStore1 h_3 p16 (.string s15) fun h_4 =>
 ag2 J n (zw (x1_2 + 1)) (zw (x5 + 1)) h_4
 else
 R (zi x1_2) h_2) : CallsH P ZkV #[v0, zi x1] h R := zv ⟨[(2, [(1, .i .i64), (5, .i .i64)])], []⟩ Tryz.func37 hv
theorem Zr9 {v0 : Value} {x1 : Int} (hv :
 lq2 x1 (0 : Int) h fun J n x1_2 x5 h_2 =>
 vLen v0 fun n8 =>
 bif decide (x5 < (n8 : Int)) then
 ∃ B : Nat → Prop,
 zS Zcz #[zi x1_2] h_2 fun s17 h_3 =>
 ExtBut B h_2 h_3 ∧
 vIdx v0 x5 1 fun p14 =>
 ldS (hmask B h_2) p14 fun s15 =>
 bif !(s15.toList == s17.toList) then
 R (zi (-1)) h_3
 else
 ag2 J n (zw (x1_2 + 1)) (zw (x5 + 1)) h_3
 else
 R (zi x1_2) h_2) : CallsH P ZjG #[v0, zi x1] h R := zv ⟨[(2, [(1, .i .i64), (5, .i .i64)])], []⟩ Tryz.func38 hv
theorem Zt5 {v0 : Value} {x1 : Int} (hv :
 lq2 x1 (0 : Int) h fun J n x1_2 x5 h_2 =>
 vLen v0 fun n8 =>
 bif decide (x5 < (n8 : Int)) then
 vIdx v0 x5 1 fun p14 =>
 ldI .i64 h_2 p14 fun x15 =>
 bif x15 != x1_2 then
 R (zi (-1)) h_2
 else
 ag2 J n (zw (x1_2 + 1)) (zw (x5 + 1)) h_2
 else
 R (zi x1_2) h_2) : CallsH P Zlq #[v0, zi x1] h R := zv ⟨[(2, [(1, .i .i64), (5, .i .i64)])], []⟩ Tryz.func73 hv
theorem ZAC {v0 : Value} {x1 : Int} (hv :
 lq2 x1 (0 : Int) h fun J n x1_2 x5 h_2 =>
 vLen v0 fun n8 =>
 bif decide (x5 < (n8 : Int)) then
 vIdx v0 x5 1 fun p14 =>
 ldV h_2 p14 fun v15 =>
 zI Zlq #[v15, zi x1_2] h_2 fun x17 h_3 =>
 bif decide (x17 < 0) then
 R (zi (-1)) h_3
 else
 ag2 J n x17 (zw (x5 + 1)) h_3
 else
 R (zi x1_2) h_2) : CallsH P ZlH #[v0, zi x1] h R := zv ⟨[(2, [(1, .i .i64), (5, .i .i64)])], []⟩ Tryz.func64 hv
theorem ZuZ {v0 : Value} {x1 : Int} (hv :
 lq2 x1 (0 : Int) h fun J n x1_2 x5 h_2 =>
 vLen v0 fun n8 =>
 bif decide (x5 < (n8 : Int)) then
 ∃ B : Nat → Prop,
 zS Zcz #[zi x1_2] h_2 fun s18 h_3 =>
 ExtBut B h_2 h_3 ∧
 vIdx v0 x5 5 fun p14 =>
 ldS (hmask B h_2) p14 fun s16 =>
 bif !(s16.toList == s18.toList) then
 R (zi (-1)) h_3
 else
 vIdx v0 x5 5 fun p24 =>
 ldI .i64 h_3 (p24.add 1) fun x27 =>
 bif x27 != (zw (x1_2 + 1)) then
 R (zi (-1)) h_3
 else
 vIdx v0 x5 5 fun p34 =>
 ldI .i64 h_3 ((p34.add 1).add 1) fun x37 =>
 bif x37 != (zw ((zw (x1_2 + 1)) + 1)) then
 R (zi (-1)) h_3
 else
 vIdx v0 x5 5 fun p44 =>
 ldV h_3 ((p44.add 1).add 2) fun v47 =>
 zI ZlH #[v47, zi (zw ((zw ((zw (x1_2 + 1)) + 1)) + 1))] h_3 fun x49 h_4 =>
 bif decide (x49 < 0) then
 R (zi (-1)) h_4
 else
 ∃ B_2 : Nat → Prop,
 zS Zcz #[zi x49] h_4 fun s58 h_5 =>
 ExtBut B_2 h_4 h_5 ∧
 vIdx v0 x5 5 fun p54 =>
 ldS (hmask B_2 h_4) (p54.add 4) fun s56 =>
 bif !(s56.toList == s58.toList) then
 R (zi (-1)) h_5
 else
 ag2 J n (zw (x49 + 1)) (zw (x5 + 1)) h_5
 else
 R (zi x1_2) h_2) : CallsH P Zls #[v0, zi x1] h R := zv ⟨[(2, [(1, .i .i64), (5, .i .i64)])], []⟩ Tryz.func92 hv
theorem Zyl {v0_0 : Value} {x1 : Int} (hv :
 vNew h (.cells #[v0_0] ZP) fun p2 h_2 =>
 ldV h_2 p2 fun v6 =>
 zI Zls #[v6, zi x1] h_2 fun x8 h_3 =>
 bif decide (x8 < 0) then
 R (zi (-1)) h_3
 else
 R (zi x8) h_3) : CallsH P Zh8 #[.agg #[v0_0], zi x1] h R := zv ⟨[], []⟩ Tryz.func46 hv
theorem Zxt {x0 x1 x2 : Int} (hv :
 bif decide (x0 ≥ x1) then
 R (.bool (decide (x0 ≤ x2))) h
 else
 R (.bool false) h) : CallsH P Zah #[zi x0, zi x1, zi x2] h R := zv ⟨[], []⟩ Tryz.func96 hv
theorem ZuK {v0 : Value} {x1 : Int} (hv :
 lq1 (0 : Int) h fun J n x5 h_2 =>
 vLen v0 fun n8 =>
 bif decide (x5 < (n8 : Int)) then
 vIdx v0 x5 1 fun p14 =>
 ldI .i64 h_2 p14 fun x15 =>
 bif x15 == x1 then
 R (.bool true) h_2
 else
 ag1 J n (zw (x5 + 1)) h_2
 else
 R (.bool false) h_2) : CallsH P Zm7 #[v0, zi x1] h R := zv ⟨[(2, [(5, .i .i64)])], []⟩ Tryz.func141 hv
theorem ZuT {v0 : Value} (hv :
 vLen v0 fun n5 =>
 bif decide ((n5 : Int) > 32) then
 R (.bool false) h
 else
 lq1 (0 : Int) h fun J n x3 h_2 =>
 vLen v0 fun n9 =>
 bif decide (x3 < (n9 : Int)) then
 vIdx v0 x3 1 fun p15 =>
 ldI .i64 h_2 p15 fun x16 =>
 vLen v0 fun n18 =>
 zB Zah #[zi x16, zi 0, zi (zw ((n18 : Int) - 1))] h_2 fun b20 h_3 =>
 bif !b20 then
 R (.bool false) h_3
 else
 vSliceS v0 1 none (some (zi x3)) none fun v25 =>
 vIdx v0 x3 1 fun p28 =>
 ldI .i64 h_3 p28 fun x29 =>
 zB Zm7 #[v25, zi x29] h_3 fun b30 h_4 =>
 bif b30 then
 R (.bool false) h_4
 else
 ag1 J n (zw (x3 + 1)) h_4
 else
 R (.bool true) h_2) : CallsH P ZhU #[v0] h R := zv ⟨[(4, [(3, .i .i64)])], []⟩ Tryz.func97 hv
theorem Zsu {v0 v1 : Value} (hv :
 ∃ J : Heap → Prop, (
 lq1 (0 : Int) h fun J_2 n x5 h_2 =>
 ∃ J_3 : Heap → Prop, (
 vLen v0 fun n8 =>
 bif decide (x5 < (n8 : Int)) then
 vLen v1 fun n13 =>
 bif decide (x5 < (n13 : Int)) then
 J_3 h_2
 else
 J h_2
 else
 J h_2
 ) ∧ ∀ (_ : Env) (h_3 : Heap), J_3 h_3 →
 vIdx v0 x5 1 fun p20 =>
 ldI .i64 h_3 p20 fun x21 =>
 vIdx v1 x5 1 fun p24 =>
 ldI .i64 h_3 p24 fun x25 =>
 bif decide (x21 < x25) then
 R (zi (-1)) h_3
 else
 vIdx v0 x5 1 fun p29 =>
 ldI .i64 h_3 p29 fun x30 =>
 vIdx v1 x5 1 fun p33 =>
 ldI .i64 h_3 p33 fun x34 =>
 bif decide (x30 > x34) then
 R (zi 1) h_3
 else
 ag1 J_2 n (zw (x5 + 1)) h_3
 ) ∧ ∀ (_ : Env) (h_4 : Heap), J h_4 →
 vLen v0 fun n37 =>
 vLen v1 fun n39 =>
 bif decide ((n37 : Int) < (n39 : Int)) then
 R (zi (-1)) h_4
 else
 vLen v0 fun n42 =>
 vLen v1 fun n44 =>
 bif decide ((n42 : Int) > (n44 : Int)) then
 R (zi 1) h_4
 else
 R (zi 0) h_4) : CallsH P Zgt #[v0, v1] h R := zv ⟨[(2, [(5, .i .i64)])], [(4, []), (8, [])]⟩ Tryz.func98 hv
theorem ZBc {v0 v1 : Value} (hv :
 vLen v0 fun n11 =>
 lq2 (0 : Int) (n11 : Int) h fun J n x6 x7 h_2 =>
 bif decide (x6 < x7) then
 (2 : Int) ≠ 0 ∧
 vIdx v0 (zw (Int.tdiv (zw (x6 + x7)) 2)) 1 fun p21 =>
 ldV h_2 p21 fun v22 =>
 zI Zgt #[v22, v1] h_2 fun x24 h_3 =>
 bif x24 == 0 then
 R (.tuple #[zi (zw (Int.tdiv (zw (x6 + x7)) 2)), .bool true]) h_3
 else
 bif decide (x24 < 0) then
 ag2 J n (zw ((zw (Int.tdiv (zw (x6 + x7)) 2)) + 1)) x7 h_3
 else
 ag2 J n x6 (zw (Int.tdiv (zw (x6 + x7)) 2)) h_3
 else
 R (.tuple #[zi x6, .bool false]) h_2) : CallsH P ZiN #[v0, v1] h R := zv ⟨[(3, [(6, .i .i64), (7, .i .i64)])], []⟩ Tryz.func143 hv
theorem Zus {x0 : Int} (hv :
 vNewS h (.cells #[] Zj) 0 fun v5 h_2 =>
 lq2 v5 (0 : Int) h_2 fun J n v3 x4 h_3 =>
 bif decide (x4 < x0) then
 vNewS h_3 (.cells #[zi x4] Zj) 1 fun v13 h_4 =>
 vAppend 1 8 [zi 0] Zj v3 v13 h_4 fun v14 h_5 =>
 ag2 J n v14 (zw (x4 + 1)) h_5
 else
 R v3 h_3) : CallsH P Zkh #[zi x0] h R := zv ⟨[(3, [(3, .v), (4, .i .i64)])], []⟩ Tryz.func195 hv
theorem ZtW {v0 v1 : Value} (hv :
 vNewS h (.cells #[] Zj) 0 fun v7 h_2 =>
 lq2 v7 (0 : Int) h_2 fun J n v5 x6 h_3 =>
 vLen v0 fun n10 =>
 bif decide (x6 < (n10 : Int)) then
 vIdx v0 x6 1 fun p18 =>
 ldI .i64 h_3 p18 fun x19 =>
 vIdx v1 x19 1 fun p20 =>
 ldI .i64 h_3 p20 fun x21 =>
 vNewS h_3 (.cells #[zi x21] Zj) 1 fun v22 h_4 =>
 vAppend 1 8 [zi 0] Zj v5 v22 h_4 fun v23 h_5 =>
 ag2 J n v23 (zw (x6 + 1)) h_5
 else
 R v5 h_3) : CallsH P ZkU #[v0, v1] h R := zv ⟨[(3, [(5, .v), (6, .i .i64)])], []⟩ Tryz.func196 hv
theorem ZtT {v0 : Value} {x1 : Int} {v2 : Value} (hv :
 vNewS h (.cells #[] Zh) 0 fun v8 h_2 =>
 vSliceS v0 1 none (some (zi x1)) none fun v11 =>
 vAppend 1 24 [.slice none 0 0] Zh v8 v11 h_2 fun v12 h_3 =>
 vOne v2 fun _ =>
 vNewS h_3 (.cells #[v2] Zh) 1 fun v15 h_4 =>
 vAppend 1 24 [.slice none 0 0] Zh v12 v15 h_4 fun v16 h_5 =>
 vSliceS v0 1 (some (zi x1)) none none fun v20 =>
 vAppend 1 24 [.slice none 0 0] Zh v16 v20 h_5 fun v21 h_6 =>
 R v21 h_6) : CallsH P ZnB #[v0, zi x1, v2] h R := zv ⟨[], []⟩ Tryz.func197 hv
theorem ZzM {x0 : Int} {v1 : Value} {x2 : Int} (hv :
 zV Zkh #[zi x0] h fun v17 h_2 =>
 vOne v17 fun _ =>
 vNewS h_2 (.cells #[v17] Zh) 1 fun v19 h_3 =>
 vOne v17 fun _ =>
 vNewS h_3 (.cells #[v17] Zh) 1 fun v21 h_4 =>
 lq3 v19 v21 (0 : Int) h_4 fun J n v9 v10 x11 h_5 =>
 vLen v10 fun n24 =>
 bif decide (x11 < (n24 : Int)) then
 lq3 v9 v10 (0 : Int) h_5 fun J_2 n_3 v9_2 v10_2 x12 h_6 =>
 vLen v1 fun n30 =>
 bif decide (x12 < (n30 : Int)) then
 vIdx v10_2 x11 1 fun p36 =>
 ldV h_6 p36 fun v37 =>
 vIdx v1 x12 1 fun p40 =>
 ldV h_6 p40 fun v41 =>
 zV ZkU #[v37, v41] h_6 fun v42 h_7 =>
 CallsH P ZiN #[v9_2, v42] h_7 fun r46 h_8 => ∃ x46_0, ∃ (b46_1 : Bool), r46 = .tuple #[zi x46_0, .bool b46_1] ∧
 bif b46_1 then
 ag3 J_2 n_3 v9_2 v10_2 (zw (x12 + 1)) h_8
 else
 vLen v9_2 fun n51 =>
 bif (n51 : Int) == x2 then
 R (.tuple #[(.slice none 0 0), .bool false]) h_8
 else
 zV ZnB #[v9_2, zi x46_0, v42] h_8 fun v57 h_9 =>
 vOne v42 fun _ =>
 vNewS h_9 (.cells #[v42] Zh) 1 fun v60 h_10 =>
 vAppend 1 24 [.slice none 0 0] Zh v10_2 v60 h_10 fun v61 h_11 =>
 ag3 J_2 n_3 v57 v61 (zw (x12 + 1)) h_11
 else
 ag3 J n v9_2 v10_2 (zw (x11 + 1)) h_6
 else
 R (.tuple #[v9, .bool true]) h_5) : CallsH P Zir #[zi x0, v1, zi x2] h R := zv ⟨[(5, [(9, .v), (10, .v), (11, .i .i64)]), (8, [(9, .v), (10, .v), (12, .i .i64)])], []⟩ Tryz.func142 hv
theorem Zwz {v0 : Value} (hv :
 vNewS h (.cells #[] Zj) 0 fun v3 h_2 =>
 vAppend 1 8 [zi 0] Zj v3 v0 h_2 fun v5 h_3 =>
 R v5 h_3) : CallsH P Zhi #[v0] h R := zv ⟨[], []⟩ Tryz.func144 hv
theorem Zwf {v0 v1 : Value} (hv :
 vLen v0 fun n7 =>
 vLen v1 fun n9 =>
 bif (n7 : Int) != (n9 : Int) then
 R (.bool false) h
 else
 lq1 (0 : Int) h fun J n x5 h_2 =>
 vLen v0 fun n13 =>
 bif decide (x5 < (n13 : Int)) then
 vIdx v0 x5 1 fun p19 =>
 ldI .i64 h_2 p19 fun x20 =>
 vIdx v1 x5 1 fun p23 =>
 ldI .i64 h_2 p23 fun x24 =>
 bif x20 != x24 then
 R (.bool false) h_2
 else
 ag1 J n (zw (x5 + 1)) h_2
 else
 R (.bool true) h_2) : CallsH P ZlG #[v0, v1] h R := zv ⟨[(4, [(5, .i .i64)])], []⟩ Tryz.func198 hv
theorem Zw3 {v0 v1 : Value} (hv :
 vLen v0 fun n7 =>
 vLen v1 fun n9 =>
 bif (n7 : Int) != (n9 : Int) then
 R (.bool false) h
 else
 lq1 (0 : Int) h fun J n x5 h_2 =>
 vLen v0 fun n13 =>
 bif decide (x5 < (n13 : Int)) then
 vIdx v0 x5 1 fun p19 =>
 ldV h_2 p19 fun v20 =>
 vIdx v1 x5 1 fun p23 =>
 ldV h_2 p23 fun v24 =>
 zB ZlG #[v20, v24] h_2 fun b25 h_3 =>
 bif !b25 then
 R (.bool false) h_3
 else
 ag1 J n (zw (x5 + 1)) h_3
 else
 R (.bool true) h_2) : CallsH P ZiR #[v0, v1] h R := zv ⟨[(4, [(5, .i .i64)])], []⟩ Tryz.func145 hv
theorem ZyV {x0 : Int} {v1 : Value} (hv :
 vNewS h (.cells #[] Zh) 0 fun v14 h_2 =>
 CallsH P Zir #[zi x0, v14, zi 1] h_2 fun r18 h_3 => ∃ (v18_0 : Value), ∃ (b18_1 : Bool), r18 = .tuple #[v18_0, .bool b18_1] ∧
 lq3 v14 v18_0 (0 : Int) h_3 fun J n v6 v7 x9 h_4 =>
 vLen v1 fun n23 =>
 bif decide (x9 < (n23 : Int)) then
 vIdx v1 x9 1 fun p31 =>
 ldV h_4 p31 fun v32 =>
 CallsH P ZiN #[v7, v32] h_4 fun r33 h_5 => ∃ x33_0, ∃ (b33_1 : Bool), r33 = .tuple #[zi x33_0, .bool b33_1] ∧
 bif b33_1 then
 ag3 J n v6 v7 (zw (x9 + 1)) h_5
 else
 vIdx v1 x9 1 fun p40 =>
 ldV h_5 p40 fun v41 =>
 zV Zhi #[v41] h_5 fun v42 h_6 =>
 vOne v42 fun _ =>
 vNewS h_6 (.cells #[v42] Zh) 1 fun v43 h_7 =>
 vAppend 1 24 [.slice none 0 0] Zh v6 v43 h_7 fun v44 h_8 =>
 vLen v1 fun n49 =>
 CallsH P Zir #[zi x0, v44, zi (n49 : Int)] h_8 fun r50 h_9 => ∃ (v50_0 : Value), ∃ (b50_1 : Bool), r50 = .tuple #[v50_0, .bool b50_1] ∧
 bif !b50_1 then
 R (.tuple #[(.slice none 0 0), .bool false]) h_9
 else
 ag3 J n v44 v50_0 (zw (x9 + 1)) h_9
 else
 zB ZiR #[v7, v1] h_4 fun b59 h_10 =>
 R (.tuple #[v6, .bool b59]) h_10) : CallsH P Zoe #[zi x0, v1] h R := zv ⟨[(4, [(6, .v), (7, .v), (9, .i .i64)])], []⟩ Tryz.func99 hv
theorem ZtC {p0 : Addr} (hv :
 ∃ J : Heap → Prop, (
 ldI .i64 h p0 fun x9 =>
 zB Zah #[zi x9, zi 1, zi 32] h fun b10 h_2 =>
 bif !b10 then
 R (.bool false) h_2
 else
 ldV h_2 (p0.add 1) fun v16 =>
 vLen v16 fun n17 =>
 bif (n17 : Int) == 0 then
 R (.bool false) h_2
 else
 ldV h_2 (p0.add 1) fun v24 =>
 vLen v24 fun n25 =>
 bif decide ((n25 : Int) > 720) then
 R (.bool false) h_2
 else
 J h_2
 ) ∧ ∀ (_ : Env) (h_3 : Heap), J h_3 →
 lq1 (0 : Int) h_3 fun J_2 n x3 h_4 =>
 ldV h_4 (p0.add 1) fun v32 =>
 vLen v32 fun n33 =>
 bif decide (x3 < (n33 : Int)) then
 ldV h_4 (p0.add 1) fun v40 =>
 vIdx v40 x3 1 fun p42 =>
 ldV h_4 p42 fun v43 =>
 zB ZhU #[v43] h_4 fun b44 h_5 =>
 bif !b44 then
 R (.bool false) h_5
 else
 ldV h_5 (p0.add 1) fun v50 =>
 vIdx v50 x3 1 fun p52 =>
 ldV h_5 p52 fun v53 =>
 vLen v53 fun n54 =>
 ldI .i64 h_5 p0 fun x58 =>
 bif (n54 : Int) != x58 then
 R (.bool false) h_5
 else
 bif decide (x3 > 0) then
 ldV h_5 (p0.add 1) fun v68 =>
 vIdx v68 (zw (x3 - 1)) 1 fun p71 =>
 ldV h_5 p71 fun v72 =>
 ldV h_5 (p0.add 1) fun v76 =>
 vIdx v76 x3 1 fun p78 =>
 ldV h_5 p78 fun v79 =>
 zI Zgt #[v72, v79] h_5 fun x80 h_6 =>
 bif decide (x80 ≥ 0) then
 R (.bool false) h_6
 else
 ag1 J_2 n (zw (x3 + 1)) h_6
 else
 ag1 J_2 n (zw (x3 + 1)) h_5
 else
 ldI .i64 h_4 p0 fun x88 =>
 ldV h_4 (p0.add 1) fun v92 =>
 CallsH P Zoe #[zi x88, v92] h_4 fun r93 h_7 => ∃ (v93_0 : Value), ∃ (b93_1 : Bool), r93 = .tuple #[v93_0, .bool b93_1] ∧
 R (.bool b93_1) h_7) : CallsH P ZnP #[.pointer (some p0)] h R := zv ⟨[(4, [(3, .i .i64)])], [(3, [])]⟩ Tryz.func50 hv
theorem Zxd {v0 : Value} (hv :
 vLen v0 fun n5 =>
 bif decide ((n5 : Int) > 64) then
 R (.bool false) h
 else
 lq1 (0 : Int) h fun J n x3 h_2 =>
 vLen v0 fun n9 =>
 bif decide (x3 < (n9 : Int)) then
 vIdx v0 x3 1 fun p15 =>
 ldI .i64 h_2 p15 fun x16 =>
 zB Zah #[zi x16, zi 0, zi 63] h_2 fun b17 h_3 =>
 bif !b17 then
 R (.bool false) h_3
 else
 ag1 J n (zw (x3 + 1)) h_3
 else
 R (.bool true) h_2) : CallsH P ZlT #[v0] h R := zv ⟨[(4, [(3, .i .i64)])], []⟩ Tryz.func179 hv
theorem Zy9 {x0_0 x0_1 x1_0 x1_1 : Int} (hv :
 vNew h (.cells #[zi x0_0, zi x0_1] Zbr) fun p2 h_2 =>
 vNew h_2 (.cells #[zi x1_0, zi x1_1] Zbr) fun p3 h_3 =>
 ldI .i64 h_3 p2 fun x6 =>
 ldI .i64 h_3 p3 fun x8 =>
 bif decide (x6 < x8) then
 R (.bool true) h_3
 else
 ldI .i64 h_3 p2 fun x12 =>
 ldI .i64 h_3 p3 fun x14 =>
 bif x12 == x14 then
 ldI .i64 h_3 (p2.add 1) fun x18 =>
 ldI .i64 h_3 (p3.add 1) fun x20 =>
 R (.bool (decide (x18 < x20))) h_3
 else
 R (.bool false) h_3) : CallsH P Zn1 #[.agg #[zi x0_0, zi x0_1], .agg #[zi x1_0, zi x1_1]] h R := zv ⟨[], []⟩ Tryz.func180 hv
theorem Zz4 {v0_0 v0_1 : Value} (hv :
 vNew h (.cells #[v0_0, v0_1] Zcb) fun p1 h_2 =>
 ∃ J : Heap → Prop, (
 ldV h_2 p1 fun v7 =>
 zB ZlT #[v7] h_2 fun b8 h_3 =>
 bif !b8 then
 R (.bool false) h_3
 else
 ldV h_3 (p1.add 1) fun v12 =>
 vLen v12 fun n13 =>
 bif decide ((n13 : Int) > 512) then
 R (.bool false) h_3
 else
 J h_3
 ) ∧ ∀ (_ : Env) (h_4 : Heap), J h_4 →
 ldV h_4 p1 fun v17 =>
 vLen v17 fun n18 =>
 lq1 (0 : Int) h_4 fun J_2 n x4 h_5 =>
 ldV h_5 (p1.add 1) fun v21 =>
 vLen v21 fun n22 =>
 bif decide (x4 < (n22 : Int)) then
 ldV h_5 (p1.add 1) fun v27 =>
 vIdx v27 x4 2 fun p29 =>
 ldI .i64 h_5 p29 fun x30_0 =>
 ldI .i64 h_5 (p29.add 1) fun x30_1 =>
 vNew h_5 (.cells #[zi 0, zi 0] Zbr) fun p5 h_6 =>
 vStore1 h_6 p5 (zi x30_0) fun h_7 =>
 vStore1 h_7 (p5.add 1) (zi x30_1) fun h_8 =>
 ldI .i64 h_8 p5 fun x32 =>
 zB Zah #[zi x32, zi 0, zi (zw ((n18 : Int) - 1))] h_8 fun b35 h_9 =>
 bif !b35 then
 R (.bool false) h_9
 else
 ldI .i64 h_9 (p5.add 1) fun x39 =>
 ldI .i64 h_9 p5 fun x41 =>
 zB Zah #[zi x39, zi (zw (x41 + 1)), zi (zw ((n18 : Int) - 1))] h_9 fun b45 h_10 =>
 bif !b45 then
 R (.bool false) h_10
 else
 bif decide (x4 > 0) then
 ldV h_10 (p1.add 1) fun v53 =>
 vIdx v53 (zw (x4 - 1)) 2 fun p56 =>
 ldI .i64 h_10 p56 fun x57_0 =>
 ldI .i64 h_10 (p56.add 1) fun x57_1 =>
 ldI .i64 h_10 p5 fun x58_0 =>
 ldI .i64 h_10 (p5.add 1) fun x58_1 =>
 zB Zn1 #[.agg #[zi x57_0, zi x57_1], .agg #[zi x58_0, zi x58_1]] h_10 fun b59 h_11 =>
 bif !b59 then
 R (.bool false) h_11
 else
 ag1 J_2 n (zw (x4 + 1)) h_11
 else
 ag1 J_2 n (zw (x4 + 1)) h_10
 else
 R (.bool true) h_5) : CallsH P ZlA #[.agg #[v0_0, v0_1]] h R := zv ⟨[(5, [(4, .i .i64)])], [(3, [])]⟩ Tryz.func121 hv
theorem ZxM {p0 : Addr} (hv :
 vNew h (.cells #[.slice none 0 0, .slice none 0 0] Zcb) fun p2 h_2 =>
 ldI .i64 h_2 (p0.add 1) fun x9 =>
 zB Zah #[zi x9, zi 0, zi 64] h_2 fun b10 h_3 =>
 bif !b10 then
 vStore1 h_3 p2 (.slice none 0 0) fun h_4 =>
 vStore1 h_4 (p2.add 1) (.slice none 0 0) fun h_5 =>
 ldV h_5 p2 fun vres0_0 =>
 ldV h_5 (p2.add 1) fun vres0_1 =>
 R (.tuple #[.agg #[vres0_0, vres0_1], .bool false]) h_5
 else
 ldI .i64 h_3 (p0.add 1) fun x16 =>
 vMake 8 [zi 0] Zj x16 x16 h_3 fun v17 h_6 =>
 vOne v17 fun _ =>
 vNew h_6 (.cells #[.slice none 0 0, .slice none 0 0] Zcb) fun p4 h_7 =>
 vStore1 h_7 p4 v17 fun h_8 =>
 vStore1 h_8 (p4.add 1) (.slice none 0 0) fun h_9 =>
 lq1 (0 : Int) h_9 fun J n x5 h_10 =>
 ldV h_10 (p0.add 2) fun v23 =>
 vLen v23 fun n24 =>
 bif decide (x5 < (n24 : Int)) then
 ldV h_10 (p0.add 2) fun v31 =>
 vIdx v31 x5 1 fun p33 =>
 ldV h_10 p33 fun v34 =>
 vLen v34 fun n35 =>
 bif (n35 : Int) != 2 then
 vStore1 h_10 p2 (.slice none 0 0) fun h_11 =>
 vStore1 h_11 (p2.add 1) (.slice none 0 0) fun h_12 =>
 ldV h_12 p2 fun vres0_0_2 =>
 ldV h_12 (p2.add 1) fun vres0_1_2 =>
 R (.tuple #[.agg #[vres0_0_2, vres0_1_2], .bool false]) h_12
 else
 ∃ B : Nat → Prop,
 ldV h_10 (p0.add 2) fun v43 =>
 vIdx v43 x5 1 fun p45 =>
 ldV h_10 p45 fun v46 =>
 vIdx v46 0 1 fun p47 =>
 ldI .i64 h_10 p47 fun x48 =>
 ldV h_10 (p0.add 2) fun v52 =>
 vIdx v52 x5 1 fun p54 =>
 ldV h_10 p54 fun v55 =>
 vIdx v55 1 1 fun p56 =>
 ldI .i64 h_10 p56 fun x57 =>
 vNewS h_10 (.cells #[zi x48, zi x57] Zbr) 1 fun v59 h_13 =>
 ExtBut B h_10 h_13 ∧
 ldV (hmask B h_10) (p4.add 1) fun v39 =>
 vAppend 2 16 [zi 0, zi 0] Zbr v39 v59 h_13 fun v60 h_14 =>
 vStore1 h_14 (p4.add 1) v60 fun h_15 =>
 ag1 J n (zw (x5 + 1)) h_15
 else
 ∃ B_2 : Nat → Prop,
 ldV h_10 p4 fun v63_0 =>
 ldV h_10 (p4.add 1) fun v63_1 =>
 zB ZlA #[.agg #[v63_0, v63_1]] h_10 fun b64 h_16 =>
 ExtBut B_2 h_10 h_16 ∧
 ldV (hmask B_2 h_10) p4 fun v62_0 =>
 ldV (hmask B_2 h_10) (p4.add 1) fun v62_1 =>
 vStore1 h_16 p2 v62_0 fun h_17 =>
 vStore1 h_17 (p2.add 1) v62_1 fun h_18 =>
 ldV h_18 p2 fun vres0_0_3 =>
 ldV h_18 (p2.add 1) fun vres0_1_3 =>
 R (.tuple #[.agg #[vres0_0_3, vres0_1_3], .bool b64]) h_18) : CallsH P Zk9 #[.pointer (some p0)] h R := zv ⟨[(5, [(5, .i .i64)])], []⟩ Tryz.func66 hv
theorem ZwG {v0 : Value} (hv :
 vLen v0 fun n9 =>
 ∃ J : Heap → Prop, (
 bif decide ((n9 : Int) < 1) then
 R (.bool false) h
 else
 bif decide ((n9 : Int) > 10) then
 R (.bool false) h
 else
 J h
 ) ∧ ∀ (_ : Env) (h_2 : Heap), J h_2 →
 lq1 (0 : Int) h_2 fun J_2 n x4 h_3 =>
 bif decide (x4 < (n9 : Int)) then
 vIdx v0 x4 1 fun p23 =>
 ldV h_3 p23 fun v24 =>
 vLen v24 fun n25 =>
 bif (n25 : Int) != (n9 : Int) then
 R (.bool false) h_3
 else
 vIdx v0 x4 1 fun p31 =>
 ldV h_3 p31 fun v32 =>
 zB ZhU #[v32] h_3 fun b33 h_4 =>
 bif !b33 then
 R (.bool false) h_4
 else
 ag1 J_2 n (zw (x4 + 1)) h_4
 else
 lq1 (0 : Int) h_3 fun J_3 n_3 x5 h_5 =>
 bif decide (x5 < (n9 : Int)) then
 vNewS h_5 (.cells #[] Zj) 0 fun v41 h_6 =>
 lq2 v41 (0 : Int) h_6 fun J_4 n_5 v6 x7 h_7 =>
 bif decide (x7 < (n9 : Int)) then
 vIdx v0 x7 1 fun p50 =>
 ldV h_7 p50 fun v51 =>
 vIdx v51 x5 1 fun p53 =>
 ldI .i64 h_7 p53 fun x54 =>
 vNewS h_7 (.cells #[zi x54] Zj) 1 fun v55 h_8 =>
 vAppend 1 8 [zi 0] Zj v6 v55 h_8 fun v56 h_9 =>
 ag2 J_4 n_5 v56 (zw (x7 + 1)) h_9
 else
 zB ZhU #[v6] h_7 fun b58 h_10 =>
 bif !b58 then
 R (.bool false) h_10
 else
 ag1 J_3 n_3 (zw (x5 + 1)) h_10
 else
 R (.bool true) h_5) : CallsH P ZnH #[v0] h R := zv ⟨[(5, [(4, .i .i64)]), (10, [(5, .i .i64)]), (14, [(6, .v), (7, .i .i64)])], [(4, [])]⟩ Tryz.func172 hv
theorem ZA6 {v0 : Value} {x1 x2 : Int} (hv :
 lq1 (0 : Int) h fun J n x7 h_2 =>
 vLen v0 fun n10 =>
 bif decide (x7 < (n10 : Int)) then
 vIdx v0 x7 1 fun p16 =>
 ldI .i64 h_2 p16 fun x17 =>
 zB Zah #[zi x17, zi x1, zi x2] h_2 fun b20 h_3 =>
 bif !b20 then
 R (.bool false) h_3
 else
 bif decide (x7 > 0) then
 vIdx v0 (zw (x7 - 1)) 1 fun p29 =>
 ldI .i64 h_3 p29 fun x30 =>
 vIdx v0 x7 1 fun p33 =>
 ldI .i64 h_3 p33 fun x34 =>
 bif decide (x30 ≥ x34) then
 R (.bool false) h_3
 else
 ag1 J n (zw (x7 + 1)) h_3
 else
 ag1 J n (zw (x7 + 1)) h_3
 else
 R (.bool true) h_2) : CallsH P Zn8 #[v0, zi x1, zi x2] h R := zv ⟨[(2, [(7, .i .i64)])], []⟩ Tryz.func104 hv
theorem Zuw {v0 : Value} {x1 : Int} (hv :
 vLen v0 fun n6 =>
 bif decide ((n6 : Int) > 0) then
 zB Zn8 #[v0, zi 0, zi (zw (x1 - 1))] h fun b12 h_2 =>
 R (.bool b12) h_2
 else
 R (.bool false) h) : CallsH P ZnY #[v0, zi x1] h R := zv ⟨[], []⟩ Tryz.func221 hv
theorem Zul {p0 : Addr} (hv :
 ∃ J : Heap → Prop, (
 ldI .i64 h p0 fun x7 =>
 zB Zah #[zi x7, zi 1, zi 32] h fun b8 h_2 =>
 bif !b8 then
 R (.bool false) h_2
 else
 ldV h_2 (p0.add 1) fun v14 =>
 vLen v14 fun n15 =>
 bif decide ((n15 : Int) > 128) then
 R (.bool false) h_2
 else
 J h_2
 ) ∧ ∀ (_ : Env) (h_3 : Heap), J h_3 →
 lq1 (0 : Int) h_3 fun J_2 n x3 h_4 =>
 ldV h_4 (p0.add 1) fun v22 =>
 vLen v22 fun n23 =>
 bif decide (x3 < (n23 : Int)) then
 ldV h_4 (p0.add 1) fun v30 =>
 vIdx v30 x3 1 fun p32 =>
 ldV h_4 p32 fun v33 =>
 ldI .i64 h_4 p0 fun x37 =>
 zB ZnY #[v33, zi x37] h_4 fun b38 h_5 =>
 bif !b38 then
 R (.bool false) h_5
 else
 bif decide (x3 > 0) then
 ldV h_5 (p0.add 1) fun v47 =>
 vIdx v47 (zw (x3 - 1)) 1 fun p50 =>
 ldV h_5 p50 fun v51 =>
 ldV h_5 (p0.add 1) fun v55 =>
 vIdx v55 x3 1 fun p57 =>
 ldV h_5 p57 fun v58 =>
 zI Zgt #[v51, v58] h_5 fun x59 h_6 =>
 bif decide (x59 > 0) then
 R (.bool false) h_6
 else
 ag1 J_2 n (zw (x3 + 1)) h_6
 else
 ag1 J_2 n (zw (x3 + 1)) h_5
 else
 R (.bool true) h_4) : CallsH P ZkY #[.pointer (some p0)] h R := zv ⟨[(4, [(3, .i .i64)])], [(3, [])]⟩ Tryz.func173 hv
theorem Ztn {v0 v1 : Value} (hv :
 lq2 (0 : Int) (0 : Int) h fun J n x5 x6 h_2 =>
 vLen v0 fun n9 =>
 bif decide (x6 < (n9 : Int)) then
 vIdx v0 x6 1 fun p16 =>
 ldI .i64 h_2 p16 fun x17 =>
 vIdx v1 x6 1 fun p20 =>
 ldI .i64 h_2 p20 fun x21 =>
 ag2 J n (zw (x5 + (zw (x17 * x21)))) (zw (x6 + 1)) h_2
 else
 R (zi x5) h_2) : CallsH P Zny #[v0, v1] h R := zv ⟨[(3, [(5, .i .i64), (6, .i .i64)])], []⟩ Tryz.func222 hv
theorem Ztg {v0 : Value} (hv :
 vLen v0 fun n9 =>
 ∃ J : Heap → Prop, (
 bif decide ((n9 : Int) < 1) then
 R (.bool false) h
 else
 bif decide ((n9 : Int) > 32) then
 R (.bool false) h
 else
 J h
 ) ∧ ∀ (_ : Env) (h_2 : Heap), J h_2 →
 lq1 (0 : Int) h_2 fun J_2 n x4 h_3 =>
 bif decide (x4 < (n9 : Int)) then
 vIdx v0 x4 1 fun p23 =>
 ldV h_3 p23 fun v24 =>
 vLen v24 fun n25 =>
 bif (n25 : Int) != (n9 : Int) then
 R (.bool false) h_3
 else
 lq1 (0 : Int) h_3 fun J_3 n_3 x5 h_4 =>
 bif decide (x5 < (n9 : Int)) then
 vIdx v0 x4 1 fun p35 =>
 ldV h_4 p35 fun v36 =>
 vIdx v36 x5 1 fun p38 =>
 ldI .i64 h_4 p38 fun x39 =>
 bif x39 != 1 then
 vIdx v0 x4 1 fun p44 =>
 ldV h_4 p44 fun v45 =>
 vIdx v45 x5 1 fun p47 =>
 ldI .i64 h_4 p47 fun x48 =>
 bif x48 != (-1) then
 R (.bool false) h_4
 else
 ag1 J_3 n_3 (zw (x5 + 1)) h_4
 else
 ag1 J_3 n_3 (zw (x5 + 1)) h_4
 else
 ag1 J_2 n (zw (x4 + 1)) h_4
 else
 lq1 (0 : Int) h_3 fun J_4 n_5 x6 h_5 =>
 bif decide (x6 < (n9 : Int)) then
 lq1 (0 : Int) h_5 fun J_5 n_7 x7 h_6 =>
 bif decide (x7 < x6) then
 vIdx v0 x6 1 fun p63 =>
 ldV h_6 p63 fun v64 =>
 vIdx v0 x7 1 fun p67 =>
 ldV h_6 p67 fun v68 =>
 zI Zny #[v64, v68] h_6 fun x69 h_7 =>
 bif x69 != 0 then
 R (.bool false) h_7
 else
 ag1 J_5 n_7 (zw (x7 + 1)) h_7
 else
 ag1 J_4 n_5 (zw (x6 + 1)) h_6
 else
 R (.bool true) h_5) : CallsH P ZnD #[v0] h R := zv ⟨[(5, [(4, .i .i64)]), (10, [(5, .i .i64)]), (15, [(6, .i .i64)]), (18, [(7, .i .i64)])], [(4, [])]⟩ Tryz.func174 hv
theorem ZAc {p0 : Addr} (hv :
 vNew h (.cells #[zi 0, zi 0, .slice none 0 0] ZcV) fun p2 h_2 =>
 ∃ B : Nat → Prop,
 vNew h_2 (.cells #[zi 0, zi 0, .slice none 0 0] ZcV) fun p3 h_3 =>
 ExtBut B h_2 h_3 ∧
 ldI .i64 (hmask B h_2) (p0.add 1) fun x7 =>
 ldV (hmask B h_2) (p0.add 2) fun v11 =>
 vOne v11 fun _ =>
 vStore1 h_3 p3 (zi x7) fun h_4 =>
 vStore1 h_4 (p3.add 1) (zi 0) fun h_5 =>
 vStore1 h_5 (p3.add 2) v11 fun h_6 =>
 ldV h_6 (p0.add 2) fun v16 =>
 vLen v16 fun n17 =>
 bif decide ((n17 : Int) > 0) then
 ldV h_6 (p0.add 2) fun v22 =>
 vIdx v22 0 1 fun p23 =>
 ldV h_6 p23 fun v24 =>
 vLen v24 fun n25 =>
 vStore1 h_6 (p3.add 1) (zi (n25 : Int)) fun h_7 =>
 ldI .i64 h_7 p3 fun x27_0 =>
 ldI .i64 h_7 (p3.add 1) fun x27_1 =>
 ldV h_7 (p3.add 2) fun v27_2 =>
 vStore1 h_7 p2 (zi x27_0) fun h_8 =>
 vStore1 h_8 (p2.add 1) (zi x27_1) fun h_9 =>
 vStore1 h_9 (p2.add 2) v27_2 fun h_10 =>
 ldI .i64 h_10 p2 fun xres0_0 =>
 ldI .i64 h_10 (p2.add 1) fun xres0_1 =>
 ldV h_10 (p2.add 2) fun vres0_2 =>
 R (.agg #[zi xres0_0, zi xres0_1, vres0_2]) h_10
 else
 ldI .i64 h_6 p3 fun x27_0_2 =>
 ldI .i64 h_6 (p3.add 1) fun x27_1_2 =>
 ldV h_6 (p3.add 2) fun v27_2_2 =>
 vStore1 h_6 p2 (zi x27_0_2) fun h_11 =>
 vStore1 h_11 (p2.add 1) (zi x27_1_2) fun h_12 =>
 vStore1 h_12 (p2.add 2) v27_2_2 fun h_13 =>
 ldI .i64 h_13 p2 fun xres0_0_2 =>
 ldI .i64 h_13 (p2.add 1) fun xres0_1_2 =>
 ldV h_13 (p2.add 2) fun vres0_2_2 =>
 R (.agg #[zi xres0_0_2, zi xres0_1_2, vres0_2_2]) h_13) : CallsH P Zoc #[.pointer (some p0)] h R := zv ⟨[], []⟩ Tryz.func175 hv
theorem Zw1 {x0 x1 : Int} (hv :
 zB Zah #[zi x0, zi 2, zi 16] h fun b6 h_2 =>
 bif b6 then
 zB Zah #[zi x1, zi 1, zi 8] h_2 fun b9 h_3 =>
 R (.bool b9) h_3
 else
 R (.bool false) h_2) : CallsH P Znr #[zi x0, zi x1] h R := zv ⟨[], []⟩ Tryz.func223 hv
theorem Zsi {p0 : Addr} (hv :
 ∃ J : Heap → Prop, (
 ldI .i64 h p0 fun x8 =>
 ldI .i64 h (p0.add 1) fun x12 =>
 zB Znr #[zi x8, zi x12] h fun b13 h_2 =>
 bif !b13 then
 R (.bool false) h_2
 else
 ldV h_2 (p0.add 2) fun v19 =>
 vLen v19 fun n20 =>
 bif decide ((n20 : Int) > 256) then
 R (.bool false) h_2
 else
 J h_2
 ) ∧ ∀ (_ : Env) (h_3 : Heap), J h_3 →
 lq1 (0 : Int) h_3 fun J_2 n x3 h_4 =>
 ldV h_4 (p0.add 2) fun v27 =>
 vLen v27 fun n28 =>
 bif decide (x3 < (n28 : Int)) then
 ldV h_4 (p0.add 2) fun v35 =>
 vIdx v35 x3 1 fun p37 =>
 ldV h_4 p37 fun v38 =>
 vLen v38 fun n39 =>
 ldI .i64 h_4 (p0.add 1) fun x43 =>
 bif (n39 : Int) != x43 then
 R (.bool false) h_4
 else
 lq1 (0 : Int) h_4 fun J_3 n_3 x4 h_5 =>
 ldV h_5 (p0.add 2) fun v49 =>
 vIdx v49 x3 1 fun p51 =>
 ldV h_5 p51 fun v52 =>
 vLen v52 fun n53 =>
 bif decide (x4 < (n53 : Int)) then
 ldV h_5 (p0.add 2) fun v60 =>
 vIdx v60 x3 1 fun p62 =>
 ldV h_5 p62 fun v63 =>
 vIdx v63 x4 1 fun p65 =>
 ldI .i64 h_5 p65 fun x66 =>
 ldI .i64 h_5 p0 fun x70 =>
 zB Zah #[zi x66, zi 0, zi (zw (x70 - 1))] h_5 fun b72 h_6 =>
 bif !b72 then
 R (.bool false) h_6
 else
 ag1 J_3 n_3 (zw (x4 + 1)) h_6
 else
 ag1 J_2 n (zw (x3 + 1)) h_5
 else
 R (.bool true) h_4) : CallsH P Zlf #[.pointer (some p0)] h R := zv ⟨[(4, [(3, .i .i64)]), (9, [(4, .i .i64)])], [(3, [])]⟩ Tryz.func176 hv
theorem ZsK {x0 : Int} (hv :
 zB Zah #[zi x0, zi 2, zi 64] h fun b8 h_2 =>
 bif !b8 then
 R (.tuple #[zi 0, zi 0]) h_2
 else
 lq1 (2 : Int) h_2 fun J n x4 h_3 =>
 x4 ≠ 0 ∧
 bif (Int.tmod x0 x4 : Int) != 0 then
 ag1 J n (zw (x4 + 1)) h_3
 else
 lq2 (0 : Int) x0 h_3 fun J_2 n_3 x5 x6 h_4 =>
 bif decide (x6 > 1) then
 x4 ≠ 0 ∧
 bif (Int.tmod x6 x4 : Int) != 0 then
 R (.tuple #[zi 0, zi 0]) h_4
 else
 x4 ≠ 0 ∧
 ag2 J_2 n_3 (zw (x5 + 1)) (zw (Int.tdiv x6 x4)) h_4
 else
 R (.tuple #[zi x4, zi x5]) h_4) : CallsH P Zhn #[zi x0] h R := zv ⟨[(4, [(4, .i .i64)]), (8, [(5, .i .i64), (6, .i .i64)])], []⟩ Tryz.func224 hv
theorem ZtX {x0 x1 x2 : Int} (hv :
 vNewS h (.cells #[] Zj) 0 fun v8 h_2 =>
 lq3 x0 x2 v8 h_2 fun J n x0_2 x2_2 v7 h_3 =>
 bif decide (x2_2 > 0) then
 x1 ≠ 0 ∧
 vNewS h_3 (.cells #[zi (Int.tmod x0_2 x1)] Zj) 1 fun v17 h_4 =>
 vAppend 1 8 [zi 0] Zj v7 v17 h_4 fun v18 h_5 =>
 x1 ≠ 0 ∧
 ag3 J n (zw (Int.tdiv x0_2 x1)) (zw (x2_2 - 1)) v18 h_5
 else
 R v7 h_3) : CallsH P Zcp #[zi x0, zi x1, zi x2] h R := zv ⟨[(2, [(0, .i .i64), (2, .i .i64), (7, .v)])], []⟩ Tryz.func260 hv
theorem Zs2 {x0 x1 : Int} (hv :
 lq2 x1 (1 : Int) h fun J n x1_2 x5 h_2 =>
 bif decide (x1_2 > 0) then
 ag2 J n (zw (x1_2 - 1)) (zw (x5 * x0)) h_2
 else
 R (zi x5) h_2) : CallsH P ZfO #[zi x0, zi x1] h R := zv ⟨[(2, [(1, .i .i64), (5, .i .i64)])], []⟩ Tryz.func264 hv
theorem ZAl {v0 v1 : Value} {x2 : Int} (hv :
 zV Zhi #[v0] h fun v14 h_2 =>
 vLen v1 fun n16 =>
 vLen v14 fun n18 =>
 lq1 (zw ((n18 : Int) - 1)) h_2 fun J n x9 h_3 =>
 bif decide (x9 ≥ (zw ((n16 : Int) - 1))) then
 vIdx v14 x9 1 fun p28 =>
 ldI .i64 h_3 p28 fun x29 =>
 lq1 (0 : Int) h_3 fun J_2 n_3 x11 h_4 =>
 bif decide (x11 < (n16 : Int)) then
 vIdx v14 (zw ((zw ((zw (x9 - (n16 : Int))) + 1)) + x11)) 1 fun p45 =>
 ldI .i64 h_4 p45 fun x46 =>
 vIdx v1 x11 1 fun p52 =>
 ldI .i64 h_4 p52 fun x53 =>
 x2 ≠ 0 ∧
 vIdx v14 (zw ((zw ((zw (x9 - (n16 : Int))) + 1)) + x11)) 1 fun p58 =>
 vStore1 h_4 p58 (zi (Int.tmod (zw (x46 + (zw ((zw (x2 - x29)) * x53)))) x2)) fun h_5 =>
 ag1 J_2 n_3 (zw (x11 + 1)) h_5
 else
 ag1 J n (zw (x9 - 1)) h_4
 else
 lq1 v14 h_3 fun J_3 n_5 v7 h_6 =>
 vLen v7 fun n60 =>
 bif decide ((n60 : Int) ≥ (n16 : Int)) then
 vLen v7 fun n65 =>
 vSliceS v7 1 none (some (zi (zw ((n65 : Int) - 1)))) none fun v67 =>
 ag1 J_3 n_5 v67 h_6
 else
 R v7 h_6) : CallsH P Zjx #[v0, v1, zi x2] h R := zv ⟨[(4, [(9, .i .i64)]), (8, [(11, .i .i64)]), (12, [(7, .v)])], []⟩ Tryz.func292 hv
theorem ZAG {v0 : Value} {x1 : Int} (hv :
 vLen v0 fun n8 =>
 lq2 (0 : Int) (zw ((n8 : Int) - 1)) h fun J n x5 x6 h_2 =>
 bif decide (x6 ≥ 0) then
 vIdx v0 x6 1 fun p19 =>
 ldI .i64 h_2 p19 fun x20 =>
 ag2 J n (zw ((zw (x5 * x1)) + x20)) (zw (x6 - 1)) h_2
 else
 R (zi x5) h_2) : CallsH P Zg2 #[v0, zi x1] h R := zv ⟨[(3, [(5, .i .i64), (6, .i .i64)])], []⟩ Tryz.func293 hv
theorem Zum {v0 : Value} {x1 : Int} (hv :
 vLen v0 fun n11 =>
 lq1 (1 : Int) h fun J n x6 h_2 =>
 bif decide ((zw (2 * x6) : Int) ≤ (zw ((n11 : Int) - 1))) then
 lq1 (0 : Int) h_2 fun J_2 n_3 x7 h_3 =>
 zI ZfO #[zi x1, zi x6] h_3 fun x22 h_4 =>
 bif decide (x7 < x22) then
 zV Zcp #[zi x7, zi x1, zi x6] h_4 fun v29 h_5 =>
 vNewS h_5 (.cells #[zi 1] Zj) 1 fun v30 h_6 =>
 vAppend 1 8 [zi 0] Zj v29 v30 h_6 fun v31 h_7 =>
 zV Zjx #[v0, v31, zi x1] h_7 fun v35 h_8 =>
 zI Zg2 #[v35, zi x1] h_8 fun x38 h_9 =>
 bif x38 == 0 then
 R (.bool false) h_9
 else
 ag1 J_2 n_3 (zw (x7 + 1)) h_9
 else
 ag1 J n (zw (x6 + 1)) h_4
 else
 R (.bool true) h_2) : CallsH P Zj3 #[v0, zi x1] h R := zv ⟨[(3, [(6, .i .i64)]), (6, [(7, .i .i64)])], []⟩ Tryz.func261 hv
theorem Zu9 {x0 : Int} (hv :
 vNew h (.cells #[zi 0, zi 0, .slice none 0 0] ZbN) fun p2 h_2 =>
 CallsH P Zhn #[zi x0] h_2 fun r9 h_3 => ∃ x9_0, ∃ x9_1, r9 = .tuple #[zi x9_0, zi x9_1] ∧
 lq1 (0 : Int) h_3 fun J n x5 h_4 =>
 zV Zcp #[zi x5, zi x9_0, zi x9_1] h_4 fun v17 h_5 =>
 vNewS h_5 (.cells #[zi 1] Zj) 1 fun v18 h_6 =>
 vAppend 1 8 [zi 0] Zj v17 v18 h_6 fun v19 h_7 =>
 zB Zj3 #[v19, zi x9_0] h_7 fun b22 h_8 =>
 bif b22 then
 vOne v19 fun _ =>
 vStore1 h_8 p2 (zi x9_0) fun h_9 =>
 vStore1 h_9 (p2.add 1) (zi x9_1) fun h_10 =>
 vStore1 h_10 (p2.add 2) v19 fun h_11 =>
 ldI .i64 h_11 p2 fun xres0_0 =>
 ldI .i64 h_11 (p2.add 1) fun xres0_1 =>
 ldV h_11 (p2.add 2) fun vres0_2 =>
 R (.agg #[zi xres0_0, zi xres0_1, vres0_2]) h_11
 else
 ag1 J n (zw (x5 + 1)) h_8) : CallsH P ZkI #[zi x0] h R := zv ⟨[(4, [(5, .i .i64)])], []⟩ Tryz.func225 hv
theorem Zuv {p0 : Addr} (hv :
 vNew h (.cells #[zi 0, zi 0, .slice none 0 0, .slice none 0 0] Zib) fun p2 h_2 =>
 ldI .i64 h_2 (p0.add 1) fun x9 =>
 CallsH P Zhn #[zi x9] h_2 fun r10 h_3 => ∃ x10_0, ∃ x10_1, r10 = .tuple #[zi x10_0, zi x10_1] ∧
 bif x10_0 == 0 then
 vStore1 h_3 p2 (zi 0) fun h_4 =>
 vStore1 h_4 (p2.add 1) (zi 0) fun h_5 =>
 vStore1 h_5 (p2.add 2) (.slice none 0 0) fun h_6 =>
 vStore1 h_6 (p2.add 3) (.slice none 0 0) fun h_7 =>
 ldI .i64 h_7 p2 fun xres0_0 =>
 ldI .i64 h_7 (p2.add 1) fun xres0_1 =>
 ldV h_7 (p2.add 2) fun vres0_2 =>
 ldV h_7 (p2.add 3) fun vres0_3 =>
 R (.agg #[zi xres0_0, zi xres0_1, vres0_2, vres0_3]) h_7
 else
 ∃ B : Nat → Prop,
 ldI .i64 h_3 (p0.add 1) fun x19 =>
 CallsH P ZkI #[zi x19] h_3 fun r20 h_8 => ∃ x20_0_0, ∃ x20_0_1, ∃ (v20_0_2 : Value), r20 = .agg #[zi x20_0_0, zi x20_0_1, v20_0_2] ∧
 ExtBut B h_3 h_8 ∧
 ldV (hmask B h_3) (p0.add 2) fun v24 =>
 vOne v24 fun _ =>
 vStore1 h_8 p2 (zi x20_0_0) fun h_9 =>
 vStore1 h_9 (p2.add 1) (zi x20_0_1) fun h_10 =>
 vStore1 h_10 (p2.add 2) v20_0_2 fun h_11 =>
 vStore1 h_11 (p2.add 3) v24 fun h_12 =>
 ldI .i64 h_12 p2 fun xres0_0_2 =>
 ldI .i64 h_12 (p2.add 1) fun xres0_1_2 =>
 ldV h_12 (p2.add 2) fun vres0_2_2 =>
 ldV h_12 (p2.add 3) fun vres0_3_2 =>
 R (.agg #[zi xres0_0_2, zi xres0_1_2, vres0_2_2, vres0_3_2]) h_12) : CallsH P Zno #[.pointer (some p0)] h R := zv ⟨[], []⟩ Tryz.func177 hv
theorem ZtZ {p0 : Addr} (hv :
 ∃ J : Heap → Prop, (
 ldI .i64 h p0 fun x10 =>
 zB Zah #[zi x10, zi 2, zi 64] h fun b11 h_2 =>
 bif !b11 then
 R (.bool false) h_2
 else
 ldI .i64 h_2 (p0.add 1) fun x17 =>
 zB Zah #[zi x17, zi 1, zi 6] h_2 fun b18 h_3 =>
 bif !b18 then
 R (.bool false) h_3
 else
 ldV h_3 (p0.add 2) fun v25 =>
 vLen v25 fun n26 =>
 ldI .i64 h_3 (p0.add 1) fun x30 =>
 bif (n26 : Int) != (zw (x30 + 1)) then
 R (.bool false) h_3
 else
 ldV h_3 (p0.add 2) fun v38 =>
 ldI .i64 h_3 (p0.add 1) fun x42 =>
 vIdx v38 x42 1 fun p43 =>
 ldI .i64 h_3 p43 fun x44 =>
 bif x44 != 1 then
 R (.bool false) h_3
 else
 J h_3
 ) ∧ ∀ (_ : Env) (h_4 : Heap), J h_4 →
 ldI .i64 h_4 p0 fun x50 =>
 ldI .i64 h_4 (p0.add 1) fun x54 =>
 zI ZfO #[zi x50, zi x54] h_4 fun x55 h_5 =>
 CallsH P Zhn #[zi x55] h_5 fun r58 h_6 => ∃ x58_0, ∃ x58_1, r58 = .tuple #[zi x58_0, zi x58_1] ∧
 ldI .i64 h_6 p0 fun x65 =>
 bif x58_0 != x65 then
 R (.bool false) h_6
 else
 lq1 (0 : Int) h_6 fun J_2 n x6 h_7 =>
 ldV h_7 (p0.add 2) fun v71 =>
 vLen v71 fun n72 =>
 bif decide (x6 < (n72 : Int)) then
 ldV h_7 (p0.add 2) fun v79 =>
 vIdx v79 x6 1 fun p81 =>
 ldI .i64 h_7 p81 fun x82 =>
 zB Zah #[zi x82, zi 0, zi (zw (x58_0 - 1))] h_7 fun b85 h_8 =>
 bif !b85 then
 R (.bool false) h_8
 else
 ag1 J_2 n (zw (x6 + 1)) h_8
 else
 ldV h_7 (p0.add 2) fun v90 =>
 zB Zj3 #[v90, zi x58_0] h_7 fun b92 h_9 =>
 R (.bool b92) h_9) : CallsH P ZmM #[.pointer (some p0)] h R := zv ⟨[(8, [(6, .i .i64)])], [(3, [])]⟩ Tryz.func262 hv
theorem ZwZ {p0 : Addr} (hv :
 ldI .i64 h p0 fun x6 =>
 ldI .i64 h (p0.add 1) fun x10 =>
 zI ZfO #[zi x6, zi x10] h fun x11 h_2 =>
 R (zi x11) h_2) : CallsH P Ziz #[.pointer (some p0)] h R := zv ⟨[], []⟩ Tryz.func228 hv
theorem ZzW {p0 : Addr} {v1 : Value} (hv :
 zI Ziz #[.pointer (some p0)] h fun x8 h_2 =>
 lq1 (0 : Int) h_2 fun J n x6 h_3 =>
 vLen v1 fun n11 =>
 bif decide (x6 < (n11 : Int)) then
 vIdx v1 x6 1 fun p17 =>
 ldI .i64 h_3 p17 fun x18 =>
 zB Zah #[zi x18, zi 0, zi (zw (x8 - 1))] h_3 fun b21 h_4 =>
 bif !b21 then
 R (.bool false) h_4
 else
 ag1 J n (zw (x6 + 1)) h_4
 else
 R (.bool true) h_3) : CallsH P Zle #[.pointer (some p0), v1] h R := zv ⟨[(3, [(6, .i .i64)])], []⟩ Tryz.func263 hv
theorem Zyu {p0 : Addr} {v1 : Value} (hv :
 ∃ J : Heap → Prop, (
 zB ZmM #[.pointer (some p0)] h fun b7 h_2 =>
 bif !b7 then
 R (.bool false) h_2
 else
 vLen v1 fun n11 =>
 bif (n11 : Int) == 0 then
 R (.bool false) h_2
 else
 vLen v1 fun n16 =>
 bif decide ((n16 : Int) > 32) then
 R (.bool false) h_2
 else
 vIdx v1 0 1 fun p21 =>
 ldV h_2 p21 fun v22 =>
 vLen v22 fun n23 =>
 bif (n23 : Int) == 0 then
 R (.bool false) h_2
 else
 vIdx v1 0 1 fun p28 =>
 ldV h_2 p28 fun v29 =>
 vLen v29 fun n30 =>
 bif decide ((n30 : Int) > 32) then
 R (.bool false) h_2
 else
 J h_2
 ) ∧ ∀ (_ : Env) (h_3 : Heap), J h_3 →
 lq1 (0 : Int) h_3 fun J_2 n x5 h_4 =>
 vLen v1 fun n35 =>
 bif decide (x5 < (n35 : Int)) then
 vIdx v1 x5 1 fun p41 =>
 ldV h_4 p41 fun v42 =>
 vLen v42 fun n43 =>
 vIdx v1 0 1 fun p45 =>
 ldV h_4 p45 fun v46 =>
 vLen v46 fun n47 =>
 bif (n43 : Int) != (n47 : Int) then
 R (.bool false) h_4
 else
 vIdx v1 x5 1 fun p53 =>
 ldV h_4 p53 fun v54 =>
 zB Zle #[.pointer (some p0), v54] h_4 fun b55 h_5 =>
 bif !b55 then
 R (.bool false) h_5
 else
 ag1 J_2 n (zw (x5 + 1)) h_5
 else
 R (.bool true) h_4) : CallsH P Zm5 #[.pointer (some p0), v1] h R := zv ⟨[(4, [(5, .i .i64)])], [(3, [])]⟩ Tryz.func226 hv
theorem ZvS {x0 x1 : Int} (hv :
 lq2 x1 (1 : Int) h fun J n x1_2 x5 h_2 =>
 bif decide (x1_2 > 0) then
 bif decide ((zw (x5 * x0) : Int) > 4096) then
 R (zi 0) h_2
 else
 ag2 J n (zw (x1_2 - 1)) (zw (x5 * x0)) h_2
 else
 R (zi x5) h_2) : CallsH P Zos #[zi x0, zi x1] h R := zv ⟨[(2, [(1, .i .i64), (5, .i .i64)])], []⟩ Tryz.func227 hv
theorem ZtS {v0 : Value} (hv :
 vNewS h (.cells #[] Zh) 0 fun v5 h_2 =>
 lq2 v5 (0 : Int) h_2 fun J n v3 x4 h_3 =>
 vLen v0 fun n8 =>
 bif decide (x4 < (n8 : Int)) then
 vIdx v0 x4 1 fun p15 =>
 ldV h_3 p15 fun v16 =>
 zV Zhi #[v16] h_3 fun v17 h_4 =>
 vOne v17 fun _ =>
 vNewS h_4 (.cells #[v17] Zh) 1 fun v18 h_5 =>
 vAppend 1 24 [.slice none 0 0] Zh v3 v18 h_5 fun v19 h_6 =>
 ag2 J n v19 (zw (x4 + 1)) h_6
 else
 R v3 h_3) : CallsH P ZhQ #[v0] h R := zv ⟨[(3, [(3, .v), (4, .i .i64)])], []⟩ Tryz.func134 hv
theorem Zyj {p0 : Addr} {x1 x2 : Int} (hv :
 ldI .i64 h p0 fun x16 =>
 ldI .i64 h (p0.add 1) fun x20 =>
 zV Zcp #[zi x1, zi x16, zi x20] h fun v21 h_2 =>
 ldI .i64 h_2 p0 fun x26 =>
 ldI .i64 h_2 (p0.add 1) fun x30 =>
 zV Zcp #[zi x2, zi x26, zi x30] h_2 fun v31 h_3 =>
 ldI .i64 h_3 (p0.add 1) fun x35 =>
 vMake 8 [zi 0] Zj (zw ((zw (2 * x35)) - 1)) (zw ((zw (2 * x35)) - 1)) h_3 fun v38 h_4 =>
 lq1 (0 : Int) h_4 fun J n x10 h_5 =>
 vLen v21 fun n41 =>
 bif decide (x10 < (n41 : Int)) then
 lq1 (0 : Int) h_5 fun J_2 n_3 x11 h_6 =>
 vLen v31 fun n47 =>
 bif decide (x11 < (n47 : Int)) then
 vIdx v38 (zw (x10 + x11)) 1 fun p59 =>
 ldI .i64 h_6 p59 fun x60 =>
 vIdx v21 x10 1 fun p63 =>
 ldI .i64 h_6 p63 fun x64 =>
 vIdx v31 x11 1 fun p67 =>
 ldI .i64 h_6 p67 fun x68 =>
 ldI .i64 h_6 p0 fun x74 =>
 x74 ≠ 0 ∧
 vIdx v38 (zw (x10 + x11)) 1 fun p76 =>
 vStore1 h_6 p76 (zi (Int.tmod (zw (x60 + (zw (x64 * x68)))) x74)) fun h_7 =>
 ag1 J_2 n_3 (zw (x11 + 1)) h_7
 else
 ag1 J n (zw (x10 + 1)) h_6
 else
 ∃ B : Nat → Prop,
 ldV h_5 (p0.add 2) fun v81 =>
 ldI .i64 h_5 p0 fun x85 =>
 zV Zjx #[v38, v81, zi x85] h_5 fun v86 h_8 =>
 ExtBut B h_5 h_8 ∧
 ldI .i64 (hmask B h_5) p0 fun x90 =>
 zI Zg2 #[v86, zi x90] h_8 fun x91 h_9 =>
 R (zi x91) h_9) : CallsH P Zgr #[.pointer (some p0), zi x1, zi x2] h R := zv ⟨[(5, [(10, .i .i64)]), (8, [(11, .i .i64)])], []⟩ Tryz.func306 hv
theorem Zx6 {p0 : Addr} {v1 : Value} {x2 : Int} (hv :
 vNewS h (.cells #[] Zj) 0 fun v9 h_2 =>
 lq2 v9 (0 : Int) h_2 fun J n v7 x8 h_3 =>
 vLen v1 fun n12 =>
 bif decide (x8 < (n12 : Int)) then
 vIdx v1 x8 1 fun p20 =>
 ldI .i64 h_3 p20 fun x21 =>
 zI Zgr #[.pointer (some p0), zi x21, zi x2] h_3 fun x23 h_4 =>
 vNewS h_4 (.cells #[zi x23] Zj) 1 fun v24 h_5 =>
 vAppend 1 8 [zi 0] Zj v7 v24 h_5 fun v25 h_6 =>
 ag2 J n v25 (zw (x8 + 1)) h_6
 else
 R v7 h_3) : CallsH P Znh #[.pointer (some p0), v1, zi x2] h R := zv ⟨[(3, [(7, .v), (8, .i .i64)])], []⟩ Tryz.func294 hv
theorem Zw7 {p0 : Addr} {x1 : Int} (hv :
 lq1 (1 : Int) h fun J n x5 h_2 =>
 zI Zgr #[.pointer (some p0), zi x1, zi x5] h_2 fun x9 h_3 =>
 bif x9 != 1 then
 ag1 J n (zw (x5 + 1)) h_3
 else
 R (zi x5) h_3) : CallsH P ZlE #[.pointer (some p0), zi x1] h R := zv ⟨[(2, [(5, .i .i64)])], []⟩ Tryz.func295 hv
theorem Zsp {p0 : Addr} {x1 x2 x3 : Int} (hv :
 ldI .i64 h p0 fun x16 =>
 ldI .i64 h (p0.add 1) fun x20 =>
 zV Zcp #[zi x1, zi x16, zi x20] h fun v21 h_2 =>
 ldI .i64 h_2 p0 fun x26 =>
 ldI .i64 h_2 (p0.add 1) fun x30 =>
 zV Zcp #[zi x2, zi x26, zi x30] h_2 fun v31 h_3 =>
 lq1 (0 : Int) h_3 fun J n x11 h_4 =>
 vLen v21 fun n34 =>
 bif decide (x11 < (n34 : Int)) then
 vIdx v21 x11 1 fun p42 =>
 ldI .i64 h_4 p42 fun x43 =>
 vIdx v31 x11 1 fun p47 =>
 ldI .i64 h_4 p47 fun x48 =>
 ldI .i64 h_4 p0 fun x54 =>
 x54 ≠ 0 ∧
 vIdx v21 x11 1 fun p56 =>
 vStore1 h_4 p56 (zi (Int.tmod (zw (x43 + (zw (x3 * x48)))) x54)) fun h_5 =>
 ag1 J n (zw (x11 + 1)) h_5
 else
 ldI .i64 h_4 p0 fun x61 =>
 zI Zg2 #[v21, zi x61] h_4 fun x62 h_6 =>
 R (zi x62) h_6) : CallsH P ZlU #[.pointer (some p0), zi x1, zi x2, zi x3] h R := zv ⟨[(4, [(11, .i .i64)])], []⟩ Tryz.func307 hv
theorem Zy0 {p0 : Addr} {v1 v2 : Value} {x3 : Int} (hv :
 vNewS h (.cells #[] Zj) 0 fun v11 h_2 =>
 lq2 v11 (0 : Int) h_2 fun J n v9 x10 h_3 =>
 vLen v1 fun n14 =>
 bif decide (x10 < (n14 : Int)) then
 ∃ B : Nat → Prop,
 vIdx v2 x10 1 fun p27 =>
 ldI .i64 h_3 p27 fun x28 =>
 zI Zgr #[.pointer (some p0), zi x28, zi x3] h_3 fun x30 h_4 =>
 ExtBut B h_3 h_4 ∧
 vIdx v1 x10 1 fun p22 =>
 ldI .i64 (hmask B h_3) p22 fun x23 =>
 ldI .i64 (hmask B h_3) p0 fun x34 =>
 zI ZlU #[.pointer (some p0), zi x23, zi x30, zi (zw (x34 - 1))] h_4 fun x36 h_5 =>
 vNewS h_5 (.cells #[zi x36] Zj) 1 fun v37 h_6 =>
 vAppend 1 8 [zi 0] Zj v9 v37 h_6 fun v38 h_7 =>
 ag2 J n v38 (zw (x10 + 1)) h_7
 else
 R v9 h_3) : CallsH P Zn4 #[.pointer (some p0), v1, v2, zi x3] h R := zv ⟨[(3, [(9, .v), (10, .i .i64)])], []⟩ Tryz.func296 hv
theorem ZxI {p0 : Addr} {v1 : Value} {x2 : Int} (hv :
 zV ZhQ #[v1] h fun v16 h_2 =>
 vNewS h_2 (.cells #[] Zj) 0 fun v17 h_3 =>
 lq2 v17 (0 : Int) h_3 fun J n v9 x10 h_4 =>
 ∃ J_2 : Heap → Prop, (
 bif decide (x10 < x2) then
 vLen v9 fun n23 =>
 vLen v16 fun n25 =>
 bif decide ((n23 : Int) < (n25 : Int)) then
 J_2 h_4
 else
 R (.tuple #[v16, v9]) h_4
 else
 R (.tuple #[v16, v9]) h_4
 ) ∧ ∀ (_ : Env) (h_5 : Heap), J_2 h_5 →
 vLen v9 fun n31 =>
 ∃ J_3 : Int → Heap → Prop, (
 lq1 (n31 : Int) h_5 fun J_4 n_3 x12 h_6 =>
 vLen v16 fun n35 =>
 bif decide (x12 < (n35 : Int)) then
 vIdx v16 x12 1 fun p40 =>
 ldV h_6 p40 fun v41 =>
 vIdx v41 x10 1 fun p43 =>
 ldI .i64 h_6 p43 fun x44 =>
 bif x44 == 0 then
 ag1 J_4 n_3 (zw (x12 + 1)) h_6
 else
 J_3 x12 h_6
 else
 J_3 x12 h_6
 ) ∧ ∀ (_ : Env) x12_2 (h_7 : Heap), J_3 x12_2 h_7 →
 vLen v16 fun n51 =>
 bif x12_2 == (n51 : Int) then
 ag2 J n v9 (zw (x10 + 1)) h_7
 else
 ∃ B : Nat → Prop,
 vIdx v16 x12_2 1 fun p61 =>
 ldV h_7 p61 fun v62 =>
 vIdx v62 x10 1 fun p64 =>
 ldI .i64 h_7 p64 fun x65 =>
 zI ZlE #[.pointer (some p0), zi x65] h_7 fun x66 h_8 =>
 ExtBut B h_7 h_8 ∧
 vIdx v16 x12_2 1 fun p56 =>
 ldV (hmask B h_7) p56 fun v57 =>
 zV Znh #[.pointer (some p0), v57, zi x66] h_8 fun v67 h_9 =>
 vIdx v16 (n31 : Int) 1 fun p72 =>
 ldV h_9 p72 fun v73 =>
 vIdx v16 x12_2 1 fun p74 =>
 vStore1 h_9 p74 v73 fun h_10 =>
 vIdx v16 (n31 : Int) 1 fun p78 =>
 vStore1 h_10 p78 v67 fun h_11 =>
 lq1 (0 : Int) h_11 fun J_5 n_5 x14 h_12 =>
 vLen v16 fun n81 =>
 bif decide (x14 < (n81 : Int)) then
 bif x14 != (n31 : Int) then
 vIdx v16 x14 1 fun p93 =>
 ldV h_12 p93 fun v94 =>
 vIdx v16 x14 1 fun p98 =>
 ldV h_12 p98 fun v99 =>
 vIdx v99 x10 1 fun p101 =>
 ldI .i64 h_12 p101 fun x102 =>
 zV Zn4 #[.pointer (some p0), v94, v67, zi x102] h_12 fun v103 h_13 =>
 vIdx v16 x14 1 fun p104 =>
 vStore1 h_13 p104 v103 fun h_14 =>
 ag1 J_5 n_5 (zw (x14 + 1)) h_14
 else
 ag1 J_5 n_5 (zw (x14 + 1)) h_12
 else
 vNewS h_12 (.cells #[zi x10] Zj) 1 fun v107 h_15 =>
 vAppend 1 8 [zi 0] Zj v9 v107 h_15 fun v108 h_16 =>
 ag2 J n v108 (zw (x10 + 1)) h_16) : CallsH P ZlM #[.pointer (some p0), v1, zi x2] h R := zv ⟨[(4, [(9, .v), (10, .i .i64)]), (8, [(12, .i .i64)]), (15, [(14, .i .i64)])], [(6, []), (10, [(12, .i .i64)])]⟩ Tryz.func265 hv
theorem Zz5 {p0 : Addr} {v1 : Value} (hv :
 vIdx v1 0 1 fun p11 =>
 ldV h p11 fun v12 =>
 vLen v12 fun n13 =>
 CallsH P ZlM #[.pointer (some p0), v1, zi (n13 : Int)] h fun r14 h_2 => ∃ (v14_0 : Value), ∃ (v14_1 : Value), r14 = .tuple #[v14_0, v14_1] ∧
 vLen v14_1 fun n19 =>
 vSliceS v14_0 1 none (some (zi (n19 : Int))) none fun v20 =>
 R v20 h_2) : CallsH P Zlw #[.pointer (some p0), v1] h R := zv ⟨[], []⟩ Tryz.func229 hv
theorem ZvG {p0 : Addr} (hv :
 ∃ J : Heap → Prop, (
 ldV h (p0.add 3) fun v9 =>
 zB Zm5 #[.pointer (some p0), v9] h fun b10 h_2 =>
 bif !b10 then
 R (.bool false) h_2
 else
 ldV h_2 (p0.add 3) fun v16 =>
 vIdx v16 0 1 fun p17 =>
 ldV h_2 p17 fun v18 =>
 vLen v18 fun n19 =>
 bif decide ((n19 : Int) > 32) then
 R (.bool false) h_2
 else
 ldV h_2 (p0.add 3) fun v26 =>
 vLen v26 fun n27 =>
 bif decide ((n27 : Int) > 8) then
 R (.bool false) h_2
 else
 J h_2
 ) ∧ ∀ (_ : Env) (h_3 : Heap), J h_3 →
 ∃ B : Nat → Prop,
 zI Ziz #[.pointer (some p0)] h_3 fun x33 h_4 =>
 ExtBut B h_3 h_4 ∧
 ldV (hmask B h_3) (p0.add 3) fun v37 =>
 vLen v37 fun n38 =>
 zI Zos #[zi x33, zi (n38 : Int)] h_4 fun x39 h_5 =>
 bif x39 == 0 then
 R (.bool false) h_5
 else
 ∃ B_2 : Nat → Prop,
 ldV h_5 (p0.add 3) fun v47 =>
 zV Zlw #[.pointer (some p0), v47] h_5 fun v48 h_6 =>
 ExtBut B_2 h_5 h_6 ∧
 ldV (hmask B_2 h_5) (p0.add 3) fun v52 =>
 zB ZiR #[v48, v52] h_6 fun b53 h_7 =>
 R (.bool b53) h_7) : CallsH P Zlz #[.pointer (some p0)] h R := zv ⟨[], [(3, [])]⟩ Tryz.func178 hv
theorem Zvj {p0 : Addr} (hv :
 ldI .i64 h p0 fun x10 =>
 bif x10 == 1 then
 ldV h (p0.add 2) fun v16 =>
 zB ZnH #[v16] h fun b17 h_2 =>
 bif b17 then
 ldV h_2 (p0.add 2) fun v22 =>
 vLen v22 fun n23 =>
 ldI .i64 h_2 (p0.add 1) fun x27 =>
 R (.bool ((n23 : Int) == x27)) h_2
 else
 R (.bool false) h_2
 else
 bif x10 == 2 then
 ldI .i64 h (p0.add 1) fun x35 =>
 ldV h (p0.add 2) fun v39 =>
 vOne v39 fun _ =>
 vNew h (.cells #[zi x35, v39] ZnN) fun p41 h_3 =>
 zB ZkY #[.pointer (some p41)] h_3 fun b42 h_4 =>
 R (.bool b42) h_4
 else
 bif x10 == 3 then
 ldV h (p0.add 2) fun v48 =>
 zB ZnD #[v48] h fun b49 h_5 =>
 bif b49 then
 ldV h_5 (p0.add 2) fun v54 =>
 vLen v54 fun n55 =>
 ldI .i64 h_5 (p0.add 1) fun x59 =>
 R (.bool ((n55 : Int) == x59)) h_5
 else
 R (.bool false) h_5
 else
 bif x10 == 4 then
 CallsH P Zoc #[.pointer (some p0)] h fun r65 h_6 => ∃ x65_0_0, ∃ x65_0_1, ∃ (v65_0_2 : Value), r65 = .agg #[zi x65_0_0, zi x65_0_1, v65_0_2] ∧
 vNew h_6 (.cells #[zi 0, zi 0, .slice none 0 0] ZcV) fun p3 h_7 =>
 vStore1 h_7 p3 (zi x65_0_0) fun h_8 =>
 vStore1 h_8 (p3.add 1) (zi x65_0_1) fun h_9 =>
 vStore1 h_9 (p3.add 2) v65_0_2 fun h_10 =>
 ldV h_10 (p0.add 2) fun v69 =>
 vLen v69 fun n70 =>
 bif decide ((n70 : Int) > 0) then
 zB Zlf #[.pointer (some p3)] h_10 fun b73 h_11 =>
 R (.bool b73) h_11
 else
 R (.bool false) h_10
 else
 bif x10 == 5 then
 CallsH P Zno #[.pointer (some p0)] h fun r78 h_12 => ∃ x78_0_0, ∃ x78_0_1, ∃ (v78_0_2 : Value), ∃ (v78_0_3 : Value), r78 = .agg #[zi x78_0_0, zi x78_0_1, v78_0_2, v78_0_3] ∧
 vNew h_12 (.cells #[zi 0, zi 0, .slice none 0 0, .slice none 0 0] Zib) fun p4 h_13 =>
 vStore1 h_13 p4 (zi x78_0_0) fun h_14 =>
 vStore1 h_14 (p4.add 1) (zi x78_0_1) fun h_15 =>
 vStore1 h_15 (p4.add 2) v78_0_2 fun h_16 =>
 vStore1 h_16 (p4.add 3) v78_0_3 fun h_17 =>
 zB Zlz #[.pointer (some p4)] h_17 fun b79 h_18 =>
 R (.bool b79) h_18
 else
 bif x10 == 6 then
 CallsH P Zk9 #[.pointer (some p0)] h fun r84 h_19 => ∃ (v84_0_0 : Value), ∃ (v84_0_1 : Value), ∃ (b84_1 : Bool), r84 = .tuple #[.agg #[v84_0_0, v84_0_1], .bool b84_1] ∧
 vNew h_19 (.cells #[.slice none 0 0, .slice none 0 0] Zcb) fun p5 h_20 =>
 vStore1 h_20 p5 v84_0_0 fun h_21 =>
 vStore1 h_21 (p5.add 1) v84_0_1 fun h_22 =>
 R (.bool b84_1) h_22
 else
 bif x10 == 7 then
 ldI .i64 h (p0.add 1) fun x93 =>
 ldV h (p0.add 2) fun v97 =>
 vOne v97 fun _ =>
 vNew h (.cells #[zi x93, v97] Zm6) fun p99 h_23 =>
 zB ZnP #[.pointer (some p99)] h_23 fun b100 h_24 =>
 R (.bool b100) h_24
 else
 R (.bool false) h) : CallsH P Zk3 #[.pointer (some p0)] h R := zv ⟨[], []⟩ Tryz.func120 hv
theorem ZyC {x0 : Int} (hv :
 bif decide (x0 ≥ 97) then
 R (.bool (decide (x0 ≤ 122))) h
 else
 R (.bool false) h) : CallsH P Zjt #[.int .u8 x0] h R := zv ⟨[], []⟩ Tryz.func245 hv
theorem ZvQ {x0 : Int} (hv :
 bif decide (x0 ≥ 48) then
 R (.bool (decide (x0 ≤ 57))) h
 else
 R (.bool false) h) : CallsH P ZnO #[.int .u8 x0] h R := zv ⟨[], []⟩ Tryz.func246 hv
theorem Zwn {s0 : ByteArray} (hv :
 ∃ J : Heap → Prop, (
 bif s0.toList == (⟨#[]⟩ : ByteArray).toList then
 R (.bool false) h
 else
 bif decide (((s0.size : Int) : Int) > 10) then
 R (.bool false) h
 else
 vStrIdx s0 0 fun c13 =>
 zB Zjt #[.int .u8 (c13.toNat : Int)] h fun b14 h_2 =>
 bif !b14 then
 R (.bool false) h_2
 else
 J h_2
 ) ∧ ∀ (_ : Env) (h_3 : Heap), J h_3 →
 lq1 (0 : Int) h_3 fun J_2 n x3 h_4 =>
 bif decide (x3 < (s0.size : Int)) then
 vStrIdx s0 x3 fun c25 =>
 zB Zjt #[.int .u8 (c25.toNat : Int)] h_4 fun b26 h_5 =>
 bif !b26 then
 vStrIdx s0 x3 fun c31 =>
 zB ZnO #[.int .u8 (c31.toNat : Int)] h_5 fun b32 h_6 =>
 bif !b32 then
 R (.bool false) h_6
 else
 ag1 J_2 n (zw (x3 + 1)) h_6
 else
 ag1 J_2 n (zw (x3 + 1)) h_5
 else
 R (.bool true) h_4) : CallsH P Zmb #[.string s0] h R := zv ⟨[(4, [(3, .i .i64)])], [(3, [])]⟩ Tryz.func192 hv
theorem ZAe {p0 : Addr} (hv :
 ldS h p0 fun s6 =>
 zB Zmb #[.string s6] h fun b7 h_2 =>
 bif b7 then
 zB Zk3 #[.pointer (some (p0.add 1))] h_2 fun b12 h_3 =>
 bif b12 then
 ldS h_3 (p0.add 4) fun s18 =>
 bif decide (((s18.size : Int) : Int) > 0) then
 ldS h_3 (p0.add 4) fun s26 =>
 R (.bool (decide (((s26.size : Int) : Int) ≤ 4000))) h_3
 else
 R (.bool false) h_3
 else
 R (.bool false) h_3
 else
 R (.bool false) h_2) : CallsH P Zml #[.pointer (some p0)] h R := zv ⟨[], []⟩ Tryz.func126 hv
theorem ZwF {p0 p1 : Addr} (hv :
 ldI .i64 h (p0.add 1) fun x9 =>
 ldI .i64 h (p1.add 1) fun x14 =>
 bif x9 == x14 then
 ldS h (p0.add 4) fun s20 =>
 ldS h (p1.add 4) fun s24 =>
 R (.bool (s20.toList == s24.toList)) h
 else
 R (.bool false) h) : CallsH P Zia #[.pointer (some p0), .pointer (some p1)] h R := zv ⟨[], []⟩ Tryz.func127 hv
theorem Zwh {p0 : Addr} (hv :
 lq1 (0 : Int) h fun J n x3 h_2 =>
 ldV h_2 p0 fun v9 =>
 vLen v9 fun n10 =>
 bif decide (x3 < (n10 : Int)) then
 ∃ J_2 : Heap → Prop, (
 ldV h_2 p0 fun v17 =>
 vIdx v17 x3 5 fun p19 =>
 zB Zml #[.pointer (some p19)] h_2 fun b20 h_3 =>
 bif !b20 then
 R (.bool false) h_3
 else
 bif decide (x3 > 0) then
 ldV h_3 p0 fun v29 =>
 vIdx v29 (zw (x3 - 1)) 5 fun p32 =>
 ldS h_3 p32 fun s34 =>
 ldV h_3 p0 fun v38 =>
 vIdx v38 x3 5 fun p40 =>
 ldS h_3 p40 fun s42 =>
 bif !(Op.bytesLess s34.toList s42.toList) then
 R (.bool false) h_3
 else
 J_2 h_3
 else
 J_2 h_3
 ) ∧ ∀ (_ : Env) (h_4 : Heap), J_2 h_4 →
 lq1 (0 : Int) h_4 fun J_3 n_3 x4 h_5 =>
 bif decide (x4 < x3) then
 ldV h_5 p0 fun v54 =>
 vIdx v54 x3 5 fun p56 =>
 ldV h_5 p0 fun v60 =>
 vIdx v60 x4 5 fun p62 =>
 zB Zia #[.pointer (some p56), .pointer (some p62)] h_5 fun b63 h_6 =>
 bif b63 then
 R (.bool false) h_6
 else
 ag1 J_3 n_3 (zw (x4 + 1)) h_6
 else
 ag1 J n (zw (x3 + 1)) h_5
 else
 ldV h_2 p0 fun v67 =>
 vLen v67 fun n68 =>
 R (.bool (decide ((n68 : Int) ≤ 24))) h_2) : CallsH P Zix #[.pointer (some p0)] h R := zv ⟨[(2, [(3, .i .i64)]), (7, [(4, .i .i64)])], [(6, [])]⟩ Tryz.func76 hv
theorem ZzB {p0 : Addr} (hv :
 vNew h (.cells #[.string ⟨#[]⟩, zi 0, zi 0, .slice none 0 0, .string ⟨#[]⟩] ZX) fun p2 h_2 =>
 ∃ B : Nat → Prop,
 (
 ldV (hmask B h_2) ((p0.add 1).add 2) fun v18 =>
 zV ZhQ #[v18] h_2 fun v19 h_3 =>
 ExtBut B h_2 h_3 ∧
 vNew h_3 (.cells #[zi 0, zi 0, .slice none 0 0] ZaA) fun p3 h_4 =>
 ExtBut B h_2 h_4 ∧
 ldI .i64 (hmask B h_2) (p0.add 1) fun x8 =>
 ldI .i64 (hmask B h_2) ((p0.add 1).add 1) fun x13 =>
 vOne v19 fun _ =>
 vStore1 h_4 p3 (zi x8) fun h_5 =>
 vStore1 h_5 (p3.add 1) (zi x13) fun h_6 =>
 vStore1 h_6 (p3.add 2) v19 fun h_7 =>
 ldS h_7 p0 fun s24 =>
 ldI .i64 h_7 p3 fun x25_0 =>
 ldI .i64 h_7 (p3.add 1) fun x25_1 =>
 ldV h_7 (p3.add 2) fun v25_2 =>
 ldS h_7 (p0.add 4) fun s29 =>
 vStore1 h_7 p2 (.string s24) fun h_8 =>
 vStore1 h_8 (p2.add 1) (zi x25_0) fun h_9 =>
 vStore1 h_9 (p2.add 2) (zi x25_1) fun h_10 =>
 vStore1 h_10 (p2.add 3) v25_2 fun h_11 =>
 vStore1 h_11 (p2.add 4) (.string s29) fun h_12 =>
 ldS h_12 p2 fun sres0_0 =>
 ldI .i64 h_12 (p2.add 1) fun xres0_1 =>
 ldI .i64 h_12 (p2.add 2) fun xres0_2 =>
 ldV h_12 (p2.add 3) fun vres0_3 =>
 ldS h_12 (p2.add 4) fun sres0_4 =>
 R (.agg #[.string sres0_0, zi xres0_1, zi xres0_2, vres0_3, .string sres0_4]) h_12
 ) ∧
 (
 vNew h_2 (.cells #[zi 0, zi 0, .slice none 0 0] ZaA) fun p3_2 h_13 =>
 ExtBut B h_2 h_13 ∧
 ldV (hmask B h_2) ((p0.add 1).add 2) fun v18_2 =>
 zV ZhQ #[v18_2] h_13 fun v19_2 h_14 =>
 ExtBut B h_2 h_14 ∧
 ldI .i64 (hmask B h_2) (p0.add 1) fun x8_2 =>
 ldI .i64 (hmask B h_2) ((p0.add 1).add 1) fun x13_2 =>
 vOne v19_2 fun _ =>
 vStore1 h_14 p3_2 (zi x8_2) fun h_15 =>
 vStore1 h_15 (p3_2.add 1) (zi x13_2) fun h_16 =>
 vStore1 h_16 (p3_2.add 2) v19_2 fun h_17 =>
 ldS h_17 p0 fun s24_2 =>
 ldI .i64 h_17 p3_2 fun x25_0_2 =>
 ldI .i64 h_17 (p3_2.add 1) fun x25_1_2 =>
 ldV h_17 (p3_2.add 2) fun v25_2_2 =>
 ldS h_17 (p0.add 4) fun s29_2 =>
 vStore1 h_17 p2 (.string s24_2) fun h_18 =>
 vStore1 h_18 (p2.add 1) (zi x25_0_2) fun h_19 =>
 vStore1 h_19 (p2.add 2) (zi x25_1_2) fun h_20 =>
 vStore1 h_20 (p2.add 3) v25_2_2 fun h_21 =>
 vStore1 h_21 (p2.add 4) (.string s29_2) fun h_22 =>
 ldS h_22 p2 fun sres0_0_2 =>
 ldI .i64 h_22 (p2.add 1) fun xres0_1_2 =>
 ldI .i64 h_22 (p2.add 2) fun xres0_2_2 =>
 ldV h_22 (p2.add 3) fun vres0_3_2 =>
 ldS h_22 (p2.add 4) fun sres0_4_2 =>
 R (.agg #[.string sres0_0_2, zi xres0_1_2, zi xres0_2_2, vres0_3_2, .string sres0_4_2]) h_22
 )) : CallsH P Zee #[.pointer (some p0)] h R := zv ⟨[], []⟩ Tryz.func86 hv
theorem ZxJ {p0 : Addr} {s1 : ByteArray} (hv :
 lq1 (0 : Int) h fun J n x5 h_2 =>
 ldV h_2 p0 fun v10 =>
 vLen v10 fun n11 =>
 bif decide (x5 < (n11 : Int)) then
 ldV h_2 p0 fun v18 =>
 vIdx v18 x5 5 fun p20 =>
 ldS h_2 p20 fun s22 =>
 bif s22.toList == s1.toList then
 R (zi x5) h_2
 else
 ag1 J n (zw (x5 + 1)) h_2
 else
 R (zi (-1)) h_2) : CallsH P Znm #[.pointer (some p0), .string s1] h R := zv ⟨[(2, [(5, .i .i64)])], []⟩ Tryz.func85 hv
theorem Ztv {p0 p1 : Addr} (hv :
 vNew h (.cells #[.slice none 0 0] ZP) fun p4 h_2 =>
 ldS h_2 p1 fun s13 =>
 zI Znm #[.pointer (some p0), .string s13] h_2 fun x14 h_3 =>
 bif decide (x14 ≥ 0) then
 vStore1 h_3 p4 (.slice none 0 0) fun h_4 =>
 ldV h_4 p4 fun vres0_0 =>
 R (.tuple #[.agg #[vres0_0], zi 4]) h_4
 else
 vNew h_3 (.cells #[.slice none 0 0] ZP) fun p6 h_5 =>
 vStore1 h_5 p6 (.slice none 0 0) fun h_6 =>
 lq2 false (0 : Int) h_6 fun J n b7 x8 h_7 =>
 ldV h_7 p0 fun v22 =>
 vLen v22 fun n23 =>
 bif decide (x8 < (n23 : Int)) then
 ldV h_7 p0 fun v30 =>
 vIdx v30 x8 5 fun p32 =>
 zB Zia #[.pointer (some p32), .pointer (some p1)] h_7 fun b34 h_8 =>
 bif b34 then
 vStore1 h_8 p4 (.slice none 0 0) fun h_9 =>
 ldV h_9 p4 fun vres0_0_2 =>
 R (.tuple #[.agg #[vres0_0_2], zi 6]) h_9
 else
 ∃ J_2 : Bool → Heap → Prop, (
 ∃ J_3 : Bool → Heap → Prop, (
 bif !b7 then
 ldV h_8 p0 fun v42 =>
 vIdx v42 x8 5 fun p44 =>
 ldS h_8 p44 fun s46 =>
 ldS h_8 p1 fun s50 =>
 J_3 (!(Op.bytesLess s46.toList s50.toList || s46.toList == s50.toList)) h_8
 else
 J_3 false h_8
 ) ∧ ∀ (_ : Env) (b52 : Bool) (h_10 : Heap), J_3 b52 h_10 →
 bif b52 then
 ∃ B : Nat → Prop,
 CallsH P Zee #[.pointer (some p1)] h_10 fun r56 h_11 => ∃ (s56_0_0 : ByteArray), ∃ x56_0_1, ∃ x56_0_2, ∃ (v56_0_3 : Value), ∃ (s56_0_4 : ByteArray), r56 = .agg #[.string s56_0_0, zi x56_0_1, zi x56_0_2, v56_0_3, .string s56_0_4] ∧
 ExtBut B h_10 h_11 ∧
 vNewS h_11 (.cells #[.string s56_0_0, zi x56_0_1, zi x56_0_2, v56_0_3, .string s56_0_4] ZX) 1 fun v57 h_12 =>
 ExtBut B h_10 h_12 ∧
 ldV (hmask B h_10) p6 fun v54 =>
 vAppend 5 72 [.string ⟨#[]⟩, zi 0, zi 0, .slice none 0 0, .string ⟨#[]⟩] ZX v54 v57 h_12 fun v58 h_13 =>
 vStore1 h_13 p6 v58 fun h_14 =>
 J_2 true h_14
 else
 J_2 b7 h_10
 ) ∧ ∀ (_ : Env) (b7_2 : Bool) (h_15 : Heap), J_2 b7_2 h_15 →
 ∃ B_2 : Nat → Prop,
 ldV h_15 p0 fun v65 =>
 vIdx v65 x8 5 fun p67 =>
 CallsH P Zee #[.pointer (some p67)] h_15 fun r68 h_16 => ∃ (s68_0_0 : ByteArray), ∃ x68_0_1, ∃ x68_0_2, ∃ (v68_0_3 : Value), ∃ (s68_0_4 : ByteArray), r68 = .agg #[.string s68_0_0, zi x68_0_1, zi x68_0_2, v68_0_3, .string s68_0_4] ∧
 ExtBut B_2 h_15 h_16 ∧
 vNewS h_16 (.cells #[.string s68_0_0, zi x68_0_1, zi x68_0_2, v68_0_3, .string s68_0_4] ZX) 1 fun v69 h_17 =>
 ExtBut B_2 h_15 h_17 ∧
 ldV (hmask B_2 h_15) p6 fun v61 =>
 vAppend 5 72 [.string ⟨#[]⟩, zi 0, zi 0, .slice none 0 0, .string ⟨#[]⟩] ZX v61 v69 h_17 fun v70 h_18 =>
 vStore1 h_18 p6 v70 fun h_19 =>
 ag2 J n b7_2 (zw (x8 + 1)) h_19
 else
 ∃ J_4 : Heap → Prop, (
 bif !b7 then
 ∃ B_3 : Nat → Prop,
 CallsH P Zee #[.pointer (some p1)] h_7 fun r77 h_20 => ∃ (s77_0_0 : ByteArray), ∃ x77_0_1, ∃ x77_0_2, ∃ (v77_0_3 : Value), ∃ (s77_0_4 : ByteArray), r77 = .agg #[.string s77_0_0, zi x77_0_1, zi x77_0_2, v77_0_3, .string s77_0_4] ∧
 ExtBut B_3 h_7 h_20 ∧
 vNewS h_20 (.cells #[.string s77_0_0, zi x77_0_1, zi x77_0_2, v77_0_3, .string s77_0_4] ZX) 1 fun v78 h_21 =>
 ExtBut B_3 h_7 h_21 ∧
 ldV (hmask B_3 h_7) p6 fun v75 =>
 vAppend 5 72 [.string ⟨#[]⟩, zi 0, zi 0, .slice none 0 0, .string ⟨#[]⟩] ZX v75 v78 h_21 fun v79 h_22 =>
 vStore1 h_22 p6 v79 fun h_23 =>
 J_4 h_23
 else
 J_4 h_7
 ) ∧ ∀ (_ : Env) (h_24 : Heap), J_4 h_24 →
 ldV h_24 p6 fun v82 =>
 vLen v82 fun n83 =>
 bif decide ((n83 : Int) > 24) then
 vStore1 h_24 p4 (.slice none 0 0) fun h_25 =>
 ldV h_25 p4 fun vres0_0_3 =>
 R (.tuple #[.agg #[vres0_0_3], zi 5]) h_25
 else
 ldV h_24 p6 fun v86_0 =>
 vStore1 h_24 p4 v86_0 fun h_26 =>
 ldV h_26 p4 fun vres0_0_4 =>
 R (.tuple #[.agg #[vres0_0_4], zi 0]) h_26) : CallsH P Zop #[.pointer (some p0), .pointer (some p1)] h R := zv ⟨[(6, [(7, .b), (8, .i .i64)])], [(11, [(52, .b)]), (13, [(7, .b)]), (16, [])]⟩ Tryz.func93 hv
theorem Zwq {v0_0 v1_0 : Value} (hv :
 vNew h (.cells #[v0_0] ZP) fun p2 h_2 =>
 vNew h_2 (.cells #[v1_0] ZP) fun p3 h_3 =>
 vNew h_3 (.cells #[.slice none 0 0] ZP) fun p4 h_4 =>
 ∃ J : Heap → Prop, (
 zB Zix #[.pointer (some p2)] h_4 fun b13 h_5 =>
 bif !b13 then
 vStore1 h_5 p4 (.slice none 0 0) fun h_6 =>
 ldV h_6 p4 fun vres0_0 =>
 R (.tuple #[.agg #[vres0_0], (.slice none 0 0), zi 1]) h_6
 else
 zB Zix #[.pointer (some p3)] h_5 fun b16 h_7 =>
 bif !b16 then
 vStore1 h_7 p4 (.slice none 0 0) fun h_8 =>
 ldV h_8 p4 fun vres0_0_2 =>
 R (.tuple #[.agg #[vres0_0_2], (.slice none 0 0), zi 1]) h_8
 else
 J h_7
 ) ∧ ∀ (_ : Env) (h_9 : Heap), J h_9 →
 vNew h_9 (.cells #[.slice none 0 0] ZP) fun p7 h_10 =>
 vStore1 h_10 p7 (.slice none 0 0) fun h_11 =>
 lq1 (0 : Int) h_11 fun J_2 n x8 h_12 =>
 ldV h_12 p2 fun v23 =>
 vLen v23 fun n24 =>
 bif decide (x8 < (n24 : Int)) then
 ∃ B : Nat → Prop,
 ldV h_12 p2 fun v31 =>
 vIdx v31 x8 5 fun p33 =>
 CallsH P Zee #[.pointer (some p33)] h_12 fun r34 h_13 => ∃ (s34_0_0 : ByteArray), ∃ x34_0_1, ∃ x34_0_2, ∃ (v34_0_3 : Value), ∃ (s34_0_4 : ByteArray), r34 = .agg #[.string s34_0_0, zi x34_0_1, zi x34_0_2, v34_0_3, .string s34_0_4] ∧
 ExtBut B h_12 h_13 ∧
 vNewS h_13 (.cells #[.string s34_0_0, zi x34_0_1, zi x34_0_2, v34_0_3, .string s34_0_4] ZX) 1 fun v35 h_14 =>
 ExtBut B h_12 h_14 ∧
 ldV (hmask B h_12) p7 fun v29 =>
 vAppend 5 72 [.string ⟨#[]⟩, zi 0, zi 0, .slice none 0 0, .string ⟨#[]⟩] ZX v29 v35 h_14 fun v36 h_15 =>
 vStore1 h_15 p7 v36 fun h_16 =>
 ag1 J_2 n (zw (x8 + 1)) h_16
 else
 vNewS h_12 (.cells #[] Zhc) 0 fun v38 h_17 =>
 lq2 v38 (0 : Int) h_17 fun J_3 n_3 v9 x10 h_18 =>
 ldV h_18 p3 fun v41 =>
 vLen v41 fun n42 =>
 bif decide (x10 < (n42 : Int)) then
 ldV h_18 p3 fun v48 =>
 vIdx v48 x10 5 fun p50 =>
 CallsH P Zop #[.pointer (some p7), .pointer (some p50)] h_18 fun r51 h_19 => ∃ (v51_0 : Value), ∃ x51_1, r51 = .tuple #[.agg #[v51_0], zi x51_1] ∧
 vNew h_19 (.cells #[.slice none 0 0] ZP) fun p11 h_20 =>
 vStore1 h_20 p11 v51_0 fun h_21 =>
 bif x51_1 == 5 then
 vStore1 h_21 p4 (.slice none 0 0) fun h_22 =>
 ldV h_22 p4 fun vres0_0_3 =>
 R (.tuple #[.agg #[vres0_0_3], (.slice none 0 0), zi x51_1]) h_22
 else
 bif x51_1 == 0 then
 ldV h_21 p11 fun v60_0 =>
 vStore1 h_21 p7 v60_0 fun h_23 =>
 ag2 J_3 n_3 v9 (zw (x10 + 1)) h_23
 else
 ldV h_21 p3 fun v63 =>
 vIdx v63 x10 5 fun p65 =>
 ldS h_21 p65 fun s67 =>
 vNewS h_21 (.cells #[.string s67] Zhc) 1 fun v68 h_24 =>
 vAppend 1 16 [.string ⟨#[]⟩] Zhc v9 v68 h_24 fun v69 h_25 =>
 ag2 J_3 n_3 v69 (zw (x10 + 1)) h_25
 else
 ldV h_18 p7 fun v70_0 =>
 vStore1 h_18 p4 v70_0 fun h_26 =>
 ldV h_26 p4 fun vres0_0_4 =>
 R (.tuple #[.agg #[vres0_0_4], v9, zi 0]) h_26) : CallsH P ZdW #[.agg #[v0_0], .agg #[v1_0]] h R := zv ⟨[(5, [(8, .i .i64)]), (10, [(9, .v), (10, .i .i64)])], [(3, [])]⟩ Tryz.func47 hv
theorem Zt4 {x0 x1 x2 : Int} (hv :
 bif decide (x0 ≥ x1) then
 R (.bool (decide (x0 ≤ x2))) h
 else
 R (.bool false) h) : CallsH P Zaj #[zi x0, zi x1, zi x2] h R := zv ⟨[], []⟩ Tryz.func107 hv
theorem Zv0 {v0 : Value} {g1 : Nat} {cap1 : List Value} (hv :
 vLen v0 fun n7 =>
 lq1 (0 : Int) h fun J n x8 h_2 =>
 bif decide (x8 < (n7 : Int)) then
 vIdx v0 x8 1 fun p14 =>
 ldV h_2 p14 fun v15 =>
 vOkf ctx g1 fun _ =>
 CallsH P g1 (([v15] : List Value) ++ cap1).toArray h_2 fun r16 h_3 => ∃ (b16 : Bool), r16 = .bool b16 ∧
 bif b16 then
 R (zi x8) h_3
 else
 ag1 J n (zw (x8 + 1)) h_3
 else
 R (zi (-1)) h_2) : CallsH P Zju #[v0, .func (.func g1) #[] cap1.toArray] h R := zv ⟨[(2, [(8, .i .i64)])], []⟩ Tryz.func202 hv
theorem ZsF {v0 : Value} {g1 : Nat} {cap1 : List Value} (hv :
 zI Zju #[v0, .func (.func g1) #[] cap1.toArray] h fun x7 h_2 =>
 R (.bool (decide (x7 ≥ 0))) h_2) : CallsH P Zhp #[v0, .func (.func g1) #[] cap1.toArray] h R := zv ⟨[], []⟩ Tryz.func151 hv
theorem ZxW {v0 : Value} (hv :
 vLen v0 fun n4 =>
 R (zi (n4 : Int)) h) : CallsH P ZaL #[v0] h R := zv ⟨[], []⟩ Tryz.func153 hv
theorem ZsE {v0 : Value} (hv :
 vNilS false v0 fun b4 =>
 bif b4 then
 R (.slice none 0 0) h
 else
 vNewS h (.cells #[] Zj) 0 fun v5 h_2 =>
 vAppend 1 8 [zi 0] Zj v5 v0 h_2 fun v7 h_3 =>
 R v7 h_3) : CallsH P Zhb #[v0] h R := zv ⟨[], []⟩ Tryz.func203 hv
theorem ZyG {v0 : Value} (hv :
 zV Zhb #[v0] h fun v7 h_2 =>
 CallsH P Zqz #[v7] h_2 fun r9 h_3 => r9 = .tuple #[] ∧
 vLen v7 fun n11 =>
 lq1 (0 : Int) h_3 fun J n x12 h_4 =>
 bif decide (x12 < (n11 : Int)) then
 vIdx v7 x12 1 fun p15 =>
 ldI .i64 h_4 p15 fun x16 =>
 bif x16 != x12 then
 R (.bool false) h_4
 else
 ag1 J n (zw (x12 + 1)) h_4
 else
 vLen v0 fun n22 =>
 R (.bool (decide ((n22 : Int) ≤ 32))) h_4) : CallsH P ZjV #[v0] h R := zv ⟨[(4, [(12, .i .i64)])], []⟩ Tryz.func154 hv
theorem Zvb {v0 : Value} {p1 : Addr} (hv :
 ∃ B : Nat → Prop,
 zI ZaL #[v0] h fun x5 h_2 =>
 ExtBut B h h_2 ∧
 ldI .i64 (hmask B h) p1 fun x6 =>
 bif x5 != x6 then
 R (.bool true) h_2
 else
 zB ZjV #[v0] h_2 fun b10 h_3 =>
 R (.bool (!b10)) h_3) : CallsH P ZmY #[v0, .pointer (some p1)] h R := zv ⟨[], []⟩ Tryz.func152 hv
theorem Zug {x0 : Int} {v1 : Value} (hv :
 vNew h (.cells #[zi x0] Zj) fun p2 h_2 =>
 zB Zhp #[v1, .func (.func ZmY) #[] #[.pointer (some p2)]] h_2 fun b7 h_3 =>
 R (.bool (!b7)) h_3) : CallsH P Zjn #[zi x0, v1] h R := zv ⟨[], []⟩ Tryz.func108 hv
theorem ZyP {x0 : Int} (hv :
 R (.bool (x0 != x0)) h) : CallsH P Zi9 #[zi x0] h R := zv ⟨[], []⟩ Tryz.func205 hv
theorem ZtF {x0 x1 : Int} (hv :
 zB Zi9 #[zi x0] h fun b8 h_2 =>
 zB Zi9 #[zi x1] h_2 fun b10 h_3 =>
 bif b8 then
 bif b10 then
 R (zi 0) h_3
 else
 R (zi (-1)) h_3
 else
 bif b10 then
 R (zi 1) h_3
 else
 bif decide (x0 < x1) then
 R (zi (-1)) h_3
 else
 bif decide (x0 > x1) then
 R (zi 1) h_3
 else
 R (zi 0) h_3) : CallsH P Zgq #[zi x0, zi x1] h R := zv ⟨[], []⟩ Tryz.func155 hv
theorem ZsO {v0 v1 : Value} (hv :
 vLen v0 fun n10 =>
 lq1 (0 : Int) h fun J n x11 h_2 =>
 bif decide (x11 < (n10 : Int)) then
 vIdx v0 x11 1 fun p14 =>
 ldI .i64 h_2 p14 fun x15 =>
 vLen v1 fun n18 =>
 bif decide (x11 ≥ (n18 : Int)) then
 R (zi 1) h_2
 else
 vIdx v1 x11 1 fun p22 =>
 ldI .i64 h_2 p22 fun x23 =>
 zI Zgq #[zi x15, zi x23] h_2 fun x26 h_3 =>
 bif x26 != 0 then
 R (zi x26) h_3
 else
 ag1 J n (zw (x11 + 1)) h_3
 else
 vLen v0 fun n32 =>
 vLen v1 fun n34 =>
 bif decide ((n32 : Int) < (n34 : Int)) then
 R (zi (-1)) h_2
 else
 R (zi 0) h_2) : CallsH P ZdP #[v0, v1] h R := zv ⟨[(2, [(11, .i .i64)])], []⟩ Tryz.func109 hv
theorem Zvt {x0 : Int} (hv :
 vMake 8 [zi 0] Zj x0 x0 h fun v6 h_2 =>
 vLen v6 fun n8 =>
 lq1 (0 : Int) h_2 fun J n x9 h_3 =>
 bif decide (x9 < (n8 : Int)) then
 vIdx v6 x9 1 fun p15 =>
 vStore1 h_3 p15 (zi x9) fun h_4 =>
 ag1 J n (zw (x9 + 1)) h_4
 else
 R v6 h_3) : CallsH P ZmO #[zi x0] h R := zv ⟨[(3, [(9, .i .i64)])], []⟩ Tryz.func206 hv
theorem Zxg {v0 : Value} (hv :
 vLen v0 fun n7 =>
 vMake 1 [.int .u8 0] ZqT (n7 : Int) (n7 : Int) h fun v8 h_2 =>
 vLen v0 fun n10 =>
 lq1 (0 : Int) h_2 fun J n x11 h_3 =>
 bif decide (x11 < (n10 : Int)) then
 vIdx v0 x11 1 fun p14 =>
 ldI .i64 h_3 p14 fun x15 =>
 vIdx v8 x11 1 fun p20 =>
 vStore1 h_3 p20 (.int .u8 (IntKind.u8.wrap x15)) fun h_4 =>
 ag1 J n (zw (x11 + 1)) h_4
 else
 vB2S v8 h_3 fun s23 =>
 R (.string s23) h_3) : CallsH P Zid #[v0] h R := zv ⟨[(3, [(11, .i .i64)])], []⟩ Tryz.func207 hv
theorem ZwQ {v0 v1 : Value} (hv :
 vLen v0 fun n8 =>
 vMake 8 [zi 0] Zj (n8 : Int) (n8 : Int) h fun v9 h_2 =>
 vLen v9 fun n11 =>
 lq1 (0 : Int) h_2 fun J n x12 h_3 =>
 bif decide (x12 < (n11 : Int)) then
 vIdx v0 x12 1 fun p20 =>
 ldI .i64 h_3 p20 fun x21 =>
 vIdx v1 x21 1 fun p22 =>
 ldI .i64 h_3 p22 fun x23 =>
 vIdx v9 x12 1 fun p24 =>
 vStore1 h_3 p24 (zi x23) fun h_4 =>
 ag1 J n (zw (x12 + 1)) h_4
 else
 R v9 h_3) : CallsH P ZmK #[v0, v1] h R := zv ⟨[(3, [(12, .i .i64)])], []⟩ Tryz.func208 hv
theorem Zsb {x0 : Int} {v1 : Value} (hv :
 zV ZmO #[zi x0] h fun v14 h_2 =>
 vOne v14 fun _ =>
 vNewS h_2 (.cells #[v14] Zh) 1 fun v15 h_3 =>
 vMapNew h_3 fun v16 h_4 =>
 vIdx v15 0 1 fun p18 =>
 ldV h_4 p18 fun v19 =>
 zS Zid #[v19] h_4 fun s20 h_5 =>
 vMapSet .str v16 (.string s20) (.bool true) h_5 fun h_6 =>
 lq2 v15 (0 : Int) h_6 fun J n v6 x8 h_7 =>
 vLen v6 fun n24 =>
 bif decide (x8 < (n24 : Int)) then
 vLen v1 fun n29 =>
 lq2 v6 (0 : Int) h_7 fun J_2 n_3 v6_2 x30 h_8 =>
 bif decide (x30 < (n29 : Int)) then
 vIdx v1 x30 1 fun p32 =>
 ldV h_8 p32 fun v33 =>
 vIdx v6_2 x8 1 fun p36 =>
 ldV h_8 p36 fun v37 =>
 zV ZmK #[v37, v33] h_8 fun v39 h_9 =>
 zS Zid #[v39] h_9 fun s41 h_10 =>
 mapGetB .str v16 (.string s41) h_10 fun b44 =>
 bif !b44 then
 vMapSet .str v16 (.string s41) (.bool true) h_10 fun h_11 =>
 vOne v39 fun _ =>
 vNewS h_11 (.cells #[v39] Zh) 1 fun v50 h_12 =>
 vAppend 1 24 [.slice none 0 0] Zh v6_2 v50 h_12 fun v51 h_13 =>
 ag2 J_2 n_3 v51 (zw (x30 + 1)) h_13
 else
 ag2 J_2 n_3 v6_2 (zw (x30 + 1)) h_10
 else
 vLen v6_2 fun n54 =>
 bif decide ((n54 : Int) > 720) then
 R (.tuple #[(.slice none 0 0), .bool false]) h_8
 else
 ag2 J n v6_2 (zw (x8 + 1)) h_8
 else
 CallsH P Zox #[v6, .func (.func ZdP) #[] #[]] h_7 fun r57 h_14 => r57 = .tuple #[] ∧
 R (.tuple #[v6, .bool true]) h_14) : CallsH P Zj7 #[zi x0, v1] h R := zv ⟨[(4, [(6, .v), (8, .i .i64)]), (7, [(6, .v), (30, .i .i64)])], []⟩ Tryz.func156 hv
theorem Zx8 {v0 v1 : Value} {g2 : Nat} {cap2 : List Value} (hv :
 vLen v0 fun n13 =>
 lq2 (0 : Int) (n13 : Int) h fun J n x9 x10 h_2 =>
 bif decide (x9 < x10) then
 (0 : Int) ≤ 1 ∧
 vIdx v0 (zw (Int.fdiv (IntKind.u64.wrap (zw (x9 + x10))) (2 ^ min (1 : Int).toNat IntKind.u64.bits))) 1 fun p27 =>
 ldV h_2 p27 fun v28 =>
 vOkf ctx g2 fun _ =>
 CallsH P g2 (([v28, v1] : List Value) ++ cap2).toArray h_2 fun r30 h_3 => ∃ x30, r30 = zi x30 ∧
 bif decide (x30 < 0) then
 ag2 J n (zw ((zw (Int.fdiv (IntKind.u64.wrap (zw (x9 + x10))) (2 ^ min (1 : Int).toNat IntKind.u64.bits))) + 1)) x10 h_3
 else
 ag2 J n x9 (zw (Int.fdiv (IntKind.u64.wrap (zw (x9 + x10))) (2 ^ min (1 : Int).toNat IntKind.u64.bits))) h_3
 else
 bif decide (x9 < (n13 : Int)) then
 vIdx v0 x9 1 fun p43 =>
 ldV h_2 p43 fun v44 =>
 vOkf ctx g2 fun _ =>
 CallsH P g2 (([v44, v1] : List Value) ++ cap2).toArray h_2 fun r46 h_4 => ∃ x46, r46 = zi x46 ∧
 R (.tuple #[zi x9, .bool (x46 == 0)]) h_4
 else
 R (.tuple #[zi x9, .bool false]) h_2) : CallsH P Zk5 #[v0, v1, .func (.func g2) #[] cap2.toArray] h R := zv ⟨[(3, [(9, .i .i64), (10, .i .i64)])], []⟩ Tryz.func157 hv
theorem Zwl {x0 : Int} {v1 : Value} (hv :
 CallsH P Zj7 #[zi x0, (.slice none 0 0)] h fun r16 h_2 => ∃ (v16_0 : Value), ∃ (b16_1 : Bool), r16 = .tuple #[v16_0, .bool b16_1] ∧
 vLen v1 fun n20 =>
 lq4 ((.slice none 0 0) : Value) v16_0 b16_1 (0 : Int) h_2 fun J n v7 v8 b9 x21 h_3 =>
 bif decide (x21 < (n20 : Int)) then
 vIdx v1 x21 1 fun p23 =>
 ldV h_3 p23 fun v24 =>
 ∃ J_2 : Heap → Prop, (
 CallsH P Zk5 #[v8, v24, .func (.func ZdP) #[] #[]] h_3 fun r28 h_4 => ∃ x28_0, ∃ (b28_1 : Bool), r28 = .tuple #[zi x28_0, .bool b28_1] ∧
 bif b28_1 then
 ag4 J n v7 v8 b9 (zw (x21 + 1)) h_4
 else
 bif !b9 then
 ag4 J n v7 v8 b9 (zw (x21 + 1)) h_4
 else
 J_2 h_4
 ) ∧ ∀ (_ : Env) (h_5 : Heap), J_2 h_5 →
 vOne v24 fun _ =>
 vNewS h_5 (.cells #[v24] Zh) 1 fun v38 h_6 =>
 vAppend 1 24 [.slice none 0 0] Zh v7 v38 h_6 fun v39 h_7 =>
 CallsH P Zj7 #[zi x0, v39] h_7 fun r43 h_8 => ∃ (v43_0 : Value), ∃ (b43_1 : Bool), r43 = .tuple #[v43_0, .bool b43_1] ∧
 ag4 J n v39 v43_0 b43_1 (zw (x21 + 1)) h_8
 else
 R (.tuple #[v7, v8, .bool b9]) h_3) : CallsH P ZnV #[zi x0, v1] h R := zv ⟨[(4, [(7, .v), (8, .v), (9, .b), (21, .i .i64)])], [(8, [])]⟩ Tryz.func110 hv
theorem Zxf {x0_0 : Int} {v0_1 : Value} (hv :
 vNew h (.cells #[zi x0_0, v0_1] Zm6) fun p1 h_2 =>
 ∃ J : Heap → Prop, (
 ldI .i64 h_2 p1 fun x8 =>
 zB Zaj #[zi x8, zi 1, zi 32] h_2 fun b9 h_3 =>
 bif !b9 then
 R (.bool false) h_3
 else
 ldV h_3 (p1.add 1) fun v13 =>
 vLen v13 fun n14 =>
 bif decide ((n14 : Int) < 1) then
 R (.bool false) h_3
 else
 ldV h_3 (p1.add 1) fun v19 =>
 vLen v19 fun n20 =>
 bif decide ((n20 : Int) > 720) then
 R (.bool false) h_3
 else
 ldI .i64 h_3 p1 fun x25 =>
 ldV h_3 (p1.add 1) fun v27 =>
 zB Zjn #[zi x25, v27] h_3 fun b28 h_4 =>
 bif !b28 then
 R (.bool false) h_4
 else
 J h_4
 ) ∧ ∀ (_ : Env) (h_5 : Heap), J h_5 →
 lq1 (1 : Int) h_5 fun J_2 n x3 h_6 =>
 ldV h_6 (p1.add 1) fun v33 =>
 vLen v33 fun n34 =>
 bif decide (x3 < (n34 : Int)) then
 ldV h_6 (p1.add 1) fun v39 =>
 vIdx v39 (zw (x3 - 1)) 1 fun p42 =>
 ldV h_6 p42 fun v43 =>
 ldV h_6 (p1.add 1) fun v45 =>
 vIdx v45 x3 1 fun p47 =>
 ldV h_6 p47 fun v48 =>
 zI ZdP #[v43, v48] h_6 fun x49 h_7 =>
 bif decide (x49 ≥ 0) then
 R (.bool false) h_7
 else
 ag1 J_2 n (zw (x3 + 1)) h_7
 else
 ldI .i64 h_6 p1 fun x53 =>
 ldV h_6 (p1.add 1) fun v55 =>
 CallsH P ZnV #[zi x53, v55] h_6 fun r56 h_8 => ∃ (v56_0 : Value), ∃ (v56_1 : Value), ∃ (b56_2 : Bool), r56 = .tuple #[v56_0, v56_1, .bool b56_2] ∧
 bif b56_2 then
 vLen v56_1 fun n63 =>
 ldV h_8 (p1.add 1) fun v65 =>
 vLen v65 fun n66 =>
 R (.bool ((n63 : Int) == (n66 : Int))) h_8
 else
 R (.bool false) h_8) : CallsH P Zlu #[.agg #[zi x0_0, v0_1]] h R := zv ⟨[(4, [(3, .i .i64)])], [(3, [])]⟩ Tryz.func57 hv
theorem Zx2 {v0 : Value} (hv :
 vLen v0 fun n7 =>
 lq1 (0 : Int) h fun J n x8 h_2 =>
 bif decide (x8 < (n7 : Int)) then
 vIdx v0 x8 1 fun p10 =>
 ldI .i64 h_2 p10 fun x11 =>
 bif x11 != 0 then
 R (zi x11) h_2
 else
 ag1 J n (zw (x8 + 1)) h_2
 else
 R (zi 0) h_2) : CallsH P ZmR #[v0] h R := zv ⟨[(3, [(8, .i .i64)])], []⟩ Tryz.func242 hv
theorem ZwN {x0_0 x0_1 x1_0 x1_1 : Int} (hv :
 vNew h (.cells #[zi x0_0, zi x0_1] Zbr) fun p2 h_2 =>
 vNew h_2 (.cells #[zi x1_0, zi x1_1] Zbr) fun p3 h_3 =>
 ∃ B : Nat → Prop,
 ldI .i64 h_3 p2 fun x6 =>
 ldI .i64 h_3 p3 fun x8 =>
 zI Zgq #[zi x6, zi x8] h_3 fun x9 h_4 =>
 ExtBut B h_3 h_4 ∧
 ldI .i64 (hmask B h_3) (p2.add 1) fun x11 =>
 ldI .i64 (hmask B h_3) (p3.add 1) fun x13 =>
 zI Zgq #[zi x11, zi x13] h_4 fun x14 h_5 =>
 vNewS h_5 (.cells #[zi x9, zi x14] t_int) 2 fun v15 h_6 =>
 zI ZmR #[v15] h_6 fun x16 h_7 =>
 R (zi x16) h_7) : CallsH P Zm8 #[.agg #[zi x0_0, zi x0_1], .agg #[zi x1_0, zi x1_1]] h R := zv ⟨[], []⟩ Tryz.func190 hv
theorem ZxK {v0 : Value} {g1 : Nat} {cap1 : List Value} (hv :
 vLen v0 fun n7 =>
 lq1 (0 : Int) h fun J n x8 h_2 =>
 bif decide (x8 < (n7 : Int)) then
 vIdx v0 x8 1 fun p14 =>
 ldI .i64 h_2 p14 fun x15 =>
 vOkf ctx g1 fun _ =>
 CallsH P g1 (([zi x15] : List Value) ++ cap1).toArray h_2 fun r16 h_3 => ∃ (b16 : Bool), r16 = .bool b16 ∧
 bif b16 then
 R (zi x8) h_3
 else
 ag1 J n (zw (x8 + 1)) h_3
 else
 R (zi (-1)) h_2) : CallsH P Zks #[v0, .func (.func g1) #[] cap1.toArray] h R := zv ⟨[(2, [(8, .i .i64)])], []⟩ Tryz.func214 hv
end Go.Proofs.YtapkemdomnkccaaGreat
