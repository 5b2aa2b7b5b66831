/- Shallow verification conditions of the functions of this seat, printed by gen.py; each is held against the program by the kernel. -/
import Derived.Test.YtapkemdomnkccaaGreatVcSoundE
import Derived.Test.YtapkemdomnkccaaGreatVcDn
import Derived.Test.YtapkemdomnkccaaGreatPuBase
import Derived.Test.YtapkemdomnkccaaGreatProg
import Derived.KernelRfl
namespace Go.Proofs.YtapkemdomnkccaaGreat
set_option linter.unusedSimpArgs false
open Go Go.Vc Go.Proofs
set_option linter.unusedVariables false
set_option maxRecDepth 100000
noncomputable abbrev P : Program := Tryz.prog
abbrev zw (x : Int) : Int := IntKind.i64.wrap x
abbrev zi (x : Int) : Value := .int .i64 x
abbrev zB (f : FuncId) (a : Array Value) (h : Heap) (K : Bool → Heap → Prop) : Prop := CallsH P f a h fun r h' => ∃ b, r = .bool b ∧ K b h'
abbrev zI (f : FuncId) (a : Array Value) (h : Heap) (K : Int → Heap → Prop) : Prop := CallsH P f a h fun r h' => ∃ x, r = .int .i64 x ∧ K x h'
abbrev zV (f : FuncId) (a : Array Value) (h : Heap) (K : Value → Heap → Prop) : Prop := CallsH P f a h fun r h' => ∃ v, r = v ∧ K v h'
abbrev zS (f : FuncId) (a : Array Value) (h : Heap) (K : ByteArray → Heap → Prop) : Prop := CallsH P f a h fun r h' => ∃ s, r = .string s ∧ K s h'
abbrev Zji : Nat := 95
abbrev Zjm : Nat := 49
abbrev Zi7 : Nat := 19
abbrev Zyr : Nat := 125
abbrev Zyi : Nat := 75
abbrev Zyu : Nat := 28
abbrev Zlm : Nat := 106
abbrev ZlJ : Nat := 56
abbrev Zdq : Nat := 21
abbrev ZyN : Nat := 128
abbrev Zyh : Nat := 77
abbrev Zxw : Nat := 30
abbrev ZhK : Nat := 69
abbrev Zkh : Nat := 62
abbrev ZkB : Nat := 24
abbrev Zyt : Nat := 41
abbrev ZyL : Nat := 80
abbrev Zyz : Nat := 32
abbrev ZgJ : Nat := 71
abbrev ZiL : Nat := 63
abbrev Zxx : Nat := 84
abbrev Zyy : Nat := 83
abbrev ZyH : Nat := 36
abbrev Z8 : Nat := 96
abbrev Zju : Nat := 141
abbrev Zfx : Nat := 97
abbrev ZeJ : Nat := 98
abbrev ZgS : Nat := 143
abbrev Zka : Nat := 195
abbrev ZiJ : Nat := 196
abbrev Zkq : Nat := 197
abbrev Zgu : Nat := 142
abbrev ZfC : Nat := 144
abbrev Zi3 : Nat := 198
abbrev ZgC : Nat := 145
abbrev Zj3 : Nat := 99
abbrev ZlK : Nat := 50
abbrev ZjB : Nat := 179
abbrev ZkE : Nat := 180
abbrev Zkw : Nat := 121
abbrev ZgF : Nat := 66
abbrev Zkn : Nat := 172
abbrev Zkp : Nat := 104
abbrev Zlg : Nat := 221
abbrev Zlo : Nat := 173
abbrev Zle : Nat := 222
abbrev ZiW : Nat := 174
abbrev Zlr : Nat := 175
abbrev Zk6 : Nat := 223
abbrev Zlc : Nat := 176
abbrev ZeI : Nat := 224
abbrev ZbV : Nat := 260
abbrev Zf3 : Nat := 264
abbrev Zgx : Nat := 292
abbrev Ze6 : Nat := 293
abbrev Zhx : Nat := 261
abbrev ZiF : Nat := 225
abbrev Zje : Nat := 177
abbrev Zkz : Nat := 262
abbrev Zhc : Nat := 228
abbrev ZiP : Nat := 263
abbrev Zlt : Nat := 226
abbrev Zj2 : Nat := 227
abbrev ZiY : Nat := 134
abbrev ZeM : Nat := 306
abbrev Zi0 : Nat := 294
abbrev Zlw : Nat := 295
abbrev ZiO : Nat := 307
abbrev Zjy : Nat := 296
abbrev Zit : Nat := 265
abbrev Zia : Nat := 229
abbrev ZlI : Nat := 178
abbrev ZjC : Nat := 120
abbrev Zx2 : Nat := 245
abbrev ZyC : Nat := 246
abbrev Zym : Nat := 192
abbrev Zyo : Nat := 126
abbrev Zyw : Nat := 127
abbrev Zyv : Nat := 76
abbrev ZBo : Nat := 85
abbrev ZBt : Nat := 86
abbrev ZCE : Nat := 44
abbrev Zab : Nat := 107
abbrev ZhU : Nat := 202
abbrev Ze2 : Nat := 151
abbrev ZaA : Nat := 153
abbrev Zep : Nat := 203
abbrev Zmd : Nat := 204
abbrev Zgt : Nat := 154
abbrev Zh8 : Nat := 152
abbrev Zhk : Nat := 108
abbrev ZgM : Nat := 205
abbrev Zf6 : Nat := 155
abbrev ZdQ : Nat := 109
abbrev ZmQ : Nat := 171
abbrev ZiD : Nat := 206
abbrev ZgW : Nat := 207
abbrev ZkQ : Nat := 208
abbrev Zhd : Nat := 156
abbrev Zkj : Nat := 157
abbrev ZkV : Nat := 110
abbrev Zk7 : Nat := 57
abbrev Zjt : Nat := 242
abbrev ZlG : Nat := 190
abbrev ZkR : Nat := 214
abbrev ZcM : Nat := 162
abbrev Zli : Nat := 244
abbrev Zjk : Nat := 243
abbrev ZkC : Nat := 191
abbrev Zk1 : Nat := 123
abbrev ZgN : Nat := 68
abbrev ZbG : Nat := 165
abbrev ZkJ : Nat := 181
abbrev Zjg : Nat := 213
abbrev Zky : Nat := 267
abbrev Zig : Nat := 266
abbrev Zj9 : Nat := 230
abbrev ZkZ : Nat := 231
abbrev Zjh : Nat := 182
abbrev ZbL : Nat := 170
abbrev ZiR : Nat := 183
abbrev Ziv : Nat := 232
abbrev Zjc : Nat := 184
abbrev ZiU : Nat := 233
abbrev ZjL : Nat := 234
abbrev ZkW : Nat := 185
abbrev ZiT : Nat := 186
abbrev ZdV : Nat := 236
abbrev Zeq : Nat := 237
abbrev Zba : Nat := 277
abbrev Zhl : Nat := 299
abbrev ZiH : Nat := 308
abbrev ZiZ : Nat := 301
abbrev ZhS : Nat := 276
abbrev Zha : Nat := 300
abbrev ZjM : Nat := 297
abbrev Zi6 : Nat := 268
abbrev Zkv : Nat := 216
abbrev Zjv : Nat := 167
abbrev Zjr : Nat := 269
abbrev ZjE : Nat := 235
abbrev ZhJ : Nat := 298
abbrev Zhm : Nat := 270
abbrev Zi1 : Nat := 271
abbrev ZkL : Nat := 238
abbrev Zkm : Nat := 272
abbrev ZjS : Nat := 273
abbrev Zlp : Nat := 239
abbrev Zh3 : Nat := 212
abbrev ZiE : Nat := 274
abbrev Ziy : Nat := 240
abbrev Zj5 : Nat := 187
abbrev Zko : Nat := 275
abbrev ZkH : Nat := 241
abbrev Zk0 : Nat := 188
abbrev ZjR : Nat := 189
abbrev ZjF : Nat := 122
abbrev ZyP : Nat := 129
abbrev ZyO : Nat := 78
abbrev Zyj : Nat := 130
abbrev ZyQ : Nat := 132
abbrev Zyg : Nat := 131
abbrev Zya : Nat := 79
abbrev ZyK : Nat := 31
abbrev ZBx : Nat := 135
abbrev ZBf : Nat := 193
abbrev ZBz : Nat := 137
abbrev ZBu : Nat := 136
abbrev ZBv : Nat := 87
abbrev ZBs : Nat := 138
abbrev ZBp : Nat := 88
abbrev ZCD : Nat := 90
abbrev ZCH : Nat := 91
abbrev ZCB : Nat := 45
abbrev Zh4 : Nat := 73
abbrev ZBy : Nat := 64
abbrev ZCI : Nat := 92
abbrev ZCA : Nat := 46
abbrev ZCG : Nat := 8
abbrev Zh : Nat := 2
abbrev t_int : Nat := 3
abbrev ZsO : Nat := 5
abbrev Zta : Nat := 22
abbrev Zij : Nat := 27
abbrev Zlq : Nat := 30
abbrev Zjw : Nat := 38
abbrev Zf : Nat := 40
abbrev Z6 : Nat := 43
abbrev Zaj : Nat := 46
abbrev ZyS : Nat := 55
abbrev Zw8 : Nat := 60
abbrev Zw0 : Nat := 72
abbrev Zaw : Nat := 158
abbrev Zy7 : Nat := 164
abbrev Zb8 : Nat := 201
abbrev Zbb : Nat := 206
abbrev ZhM : Nat := 208
abbrev Zhv : Nat := 251
def tab : List (Nat × TE) := [(2, ⟨.int .i64, [.i .i64], [.int .i64 0], 8⟩),
 (3, ⟨.int .i64, [.i .i64], [.int .i64 0], 8⟩),
 (4, ⟨.bool, [.b], [.bool false], 1⟩),
 (5, ⟨.int .u8, [.i .u8], [.int .u8 0], 1⟩),
 (9, ⟨.str, [.s], [.string ⟨#[]⟩], 16⟩),
 (22, ⟨.slice 40, [.v], [.slice none 0 0], 24⟩),
 (27, ⟨.struct [(0, 1, false), (1, 1, false)], [.i .i64, .v], [.int .i64 0, .slice none 0 0], 32⟩),
 (30, ⟨.struct [(0, 1, false), (1, 1, false)], [.i .i64, .v], [.int .i64 0, .slice none 0 0], 32⟩),
 (38, ⟨.struct [(0, 1, false), (1, 1, false), (2, 1, false)], [.i .i64, .i .i64, .v], [.int .i64 0, .int .i64 0, .slice none 0 0], 40⟩),
 (40, ⟨.slice 2, [.v], [.slice none 0 0], 24⟩),
 (41, ⟨.slice 158, [.v], [.slice none 0 0], 24⟩),
 (43, ⟨.struct [(0, 1, false), (1, 1, false)], [.v, .v], [.slice none 0 0, .slice none 0 0], 48⟩),
 (46, ⟨.struct [(0, 1, false), (1, 1, false), (2, 1, false)], [.i .i64, .i .i64, .v], [.int .i64 0, .int .i64 0, .slice none 0 0], 40⟩),
 (53, ⟨.slice 164, [.v], [.slice none 0 0], 24⟩),
 (55, ⟨.struct [(0, 1, false)], [.v], [.slice none 0 0], 24⟩),
 (58, ⟨.slice 72, [.v], [.slice none 0 0], 24⟩),
 (60, ⟨.struct [(0, 1, false)], [.v], [.slice none 0 0], 24⟩),
 (72, ⟨.struct [(0, 1, false), (1, 3, true), (4, 1, false)], [.s, .i .i64, .i .i64, .v, .s], [.string ⟨#[]⟩, .int .i64 0, .int .i64 0, .slice none 0 0, .string ⟨#[]⟩], 72⟩),
 (158, ⟨.struct [(0, 1, false), (1, 1, false)], [.i .i64, .i .i64], [.int .i64 0, .int .i64 0], 16⟩),
 (164, ⟨.struct [(0, 1, false), (1, 3, true), (4, 1, false)], [.s, .i .i64, .i .i64, .v, .s], [.string ⟨#[]⟩, .int .i64 0, .int .i64 0, .slice none 0 0, .string ⟨#[]⟩], 72⟩),
 (171, ⟨.slice 5, [.v], [.slice none 0 0], 24⟩),
 (201, ⟨.struct [(0, 1, false), (1, 1, false), (2, 1, false)], [.i .i64, .i .i64, .v], [.int .i64 0, .int .i64 0, .slice none 0 0], 40⟩),
 (206, ⟨.struct [(0, 1, false), (1, 1, false), (2, 1, false)], [.i .i64, .i .i64, .v], [.int .i64 0, .int .i64 0, .slice none 0 0], 40⟩),
 (208, ⟨.struct [(0, 3, true), (3, 1, false)], [.i .i64, .i .i64, .v, .v], [.int .i64 0, .int .i64 0, .slice none 0 0, .slice none 0 0], 64⟩),
 (220, ⟨.int .u64, [.i .u64], [.int .u64 0], 8⟩),
 (228, ⟨.map 9 4, [.v], [.map none], 8⟩),
 (251, ⟨.struct [(0, 1, false), (1, 1, false), (2, 1, false), (3, 1, false), (4, 1, false)], [.i .i64, .v, .v, .v, .v], [.int .i64 0, .slice none 0 0, .slice none 0 0, .slice none 0 0, .slice none 0 0], 104⟩),
 (282, ⟨.slice 3, [.v], [.slice none 0 0], 24⟩)]
def rst : List (Nat × RS) := [(0, ⟨true, []⟩),
 (2, ⟨false, [(false, [.i .i64])]⟩),
 (3, ⟨false, [(false, [.i .i64])]⟩),
 (4, ⟨false, [(false, [.b])]⟩),
 (9, ⟨false, [(false, [.s])]⟩),
 (22, ⟨false, [(false, [.v])]⟩),
 (27, ⟨false, [(true, [.i .i64, .v])]⟩),
 (30, ⟨false, [(true, [.i .i64, .v])]⟩),
 (40, ⟨false, [(false, [.v])]⟩),
 (46, ⟨false, [(true, [.i .i64, .i .i64, .v])]⟩),
 (58, ⟨false, [(false, [.v])]⟩),
 (60, ⟨false, [(true, [.v])]⟩),
 (72, ⟨false, [(true, [.s, .i .i64, .i .i64, .v, .s])]⟩),
 (78, ⟨true, [(true, [.v]), (false, [.i .i64])]⟩),
 (97, ⟨true, [(true, [.v, .v]), (false, [.b])]⟩),
 (118, ⟨true, [(false, [.i .i64]), (false, [.b])]⟩),
 (128, ⟨true, [(false, [.v]), (false, [.b])]⟩),
 (142, ⟨true, [(false, [.v]), (false, [.v]), (false, [.b])]⟩),
 (190, ⟨true, [(false, [.i .i64]), (false, [.i .i64])]⟩),
 (201, ⟨false, [(true, [.i .i64, .i .i64, .v])]⟩),
 (206, ⟨false, [(true, [.i .i64, .i .i64, .v])]⟩),
 (208, ⟨false, [(true, [.i .i64, .i .i64, .v, .v])]⟩),
 (249, ⟨true, [(false, [.v]), (false, [.v]), (false, [.i .i64])]⟩),
 (251, ⟨false, [(true, [.i .i64, .v, .v, .v, .v])]⟩),
 (254, ⟨true, [(true, [.i .i64, .i .i64, .v]), (false, [.i .i64])]⟩),
 (275, ⟨true, [(false, [.v]), (false, [.v])]⟩)]
def exs : List Nat := [139]
noncomputable def ctx : Ctx := ⟨Tryz.prog, tab, rst, 3, 310, exs⟩
theorem te2 : TeOk P 2 ⟨.int .i64, [.i .i64], [.int .i64 0], 8⟩ := ⟨by kernel_rfl, by kernel_rfl, by kernel_rfl, by kernel_rfl⟩
theorem te3 : TeOk P 3 ⟨.int .i64, [.i .i64], [.int .i64 0], 8⟩ := ⟨by kernel_rfl, by kernel_rfl, by kernel_rfl, by kernel_rfl⟩
theorem te4 : TeOk P 4 ⟨.bool, [.b], [.bool false], 1⟩ := ⟨by kernel_rfl, by kernel_rfl, by kernel_rfl, by kernel_rfl⟩
theorem te5 : TeOk P 5 ⟨.int .u8, [.i .u8], [.int .u8 0], 1⟩ := ⟨by kernel_rfl, by kernel_rfl, by kernel_rfl, by kernel_rfl⟩
theorem te9 : TeOk P 9 ⟨.str, [.s], [.string ⟨#[]⟩], 16⟩ := ⟨by kernel_rfl, by kernel_rfl, by kernel_rfl, by kernel_rfl⟩
theorem te22 : TeOk P 22 ⟨.slice 40, [.v], [.slice none 0 0], 24⟩ := ⟨by kernel_rfl, by kernel_rfl, by kernel_rfl, by kernel_rfl⟩
theorem te27 : TeOk P 27 ⟨.struct [(0, 1, false), (1, 1, false)], [.i .i64, .v], [.int .i64 0, .slice none 0 0], 32⟩ := ⟨by kernel_rfl, by kernel_rfl, by kernel_rfl, by kernel_rfl⟩
theorem te30 : TeOk P 30 ⟨.struct [(0, 1, false), (1, 1, false)], [.i .i64, .v], [.int .i64 0, .slice none 0 0], 32⟩ := ⟨by kernel_rfl, by kernel_rfl, by kernel_rfl, by kernel_rfl⟩
theorem te38 : TeOk P 38 ⟨.struct [(0, 1, false), (1, 1, false), (2, 1, false)], [.i .i64, .i .i64, .v], [.int .i64 0, .int .i64 0, .slice none 0 0], 40⟩ := ⟨by kernel_rfl, by kernel_rfl, by kernel_rfl, by kernel_rfl⟩
theorem te40 : TeOk P 40 ⟨.slice 2, [.v], [.slice none 0 0], 24⟩ := ⟨by kernel_rfl, by kernel_rfl, by kernel_rfl, by kernel_rfl⟩
theorem te41 : TeOk P 41 ⟨.slice 158, [.v], [.slice none 0 0], 24⟩ := ⟨by kernel_rfl, by kernel_rfl, by kernel_rfl, by kernel_rfl⟩
theorem te43 : TeOk P 43 ⟨.struct [(0, 1, false), (1, 1, false)], [.v, .v], [.slice none 0 0, .slice none 0 0], 48⟩ := ⟨by kernel_rfl, by kernel_rfl, by kernel_rfl, by kernel_rfl⟩
theorem te46 : TeOk P 46 ⟨.struct [(0, 1, false), (1, 1, false), (2, 1, false)], [.i .i64, .i .i64, .v], [.int .i64 0, .int .i64 0, .slice none 0 0], 40⟩ := ⟨by kernel_rfl, by kernel_rfl, by kernel_rfl, by kernel_rfl⟩
theorem te53 : TeOk P 53 ⟨.slice 164, [.v], [.slice none 0 0], 24⟩ := ⟨by kernel_rfl, by kernel_rfl, by kernel_rfl, by kernel_rfl⟩
theorem te55 : TeOk P 55 ⟨.struct [(0, 1, false)], [.v], [.slice none 0 0], 24⟩ := ⟨by kernel_rfl, by kernel_rfl, by kernel_rfl, by kernel_rfl⟩
theorem te58 : TeOk P 58 ⟨.slice 72, [.v], [.slice none 0 0], 24⟩ := ⟨by kernel_rfl, by kernel_rfl, by kernel_rfl, by kernel_rfl⟩
theorem te60 : TeOk P 60 ⟨.struct [(0, 1, false)], [.v], [.slice none 0 0], 24⟩ := ⟨by kernel_rfl, by kernel_rfl, by kernel_rfl, by kernel_rfl⟩
theorem te72 : TeOk P 72 ⟨.struct [(0, 1, false), (1, 3, true), (4, 1, false)], [.s, .i .i64, .i .i64, .v, .s], [.string ⟨#[]⟩, .int .i64 0, .int .i64 0, .slice none 0 0, .string ⟨#[]⟩], 72⟩ := ⟨by kernel_rfl, by kernel_rfl, by kernel_rfl, by kernel_rfl⟩
theorem te158 : TeOk P 158 ⟨.struct [(0, 1, false), (1, 1, false)], [.i .i64, .i .i64], [.int .i64 0, .int .i64 0], 16⟩ := ⟨by kernel_rfl, by kernel_rfl, by kernel_rfl, by kernel_rfl⟩
theorem te164 : TeOk P 164 ⟨.struct [(0, 1, false), (1, 3, true), (4, 1, false)], [.s, .i .i64, .i .i64, .v, .s], [.string ⟨#[]⟩, .int .i64 0, .int .i64 0, .slice none 0 0, .string ⟨#[]⟩], 72⟩ := ⟨by kernel_rfl, by kernel_rfl, by kernel_rfl, by kernel_rfl⟩
theorem te171 : TeOk P 171 ⟨.slice 5, [.v], [.slice none 0 0], 24⟩ := ⟨by kernel_rfl, by kernel_rfl, by kernel_rfl, by kernel_rfl⟩
theorem te201 : TeOk P 201 ⟨.struct [(0, 1, false), (1, 1, false), (2, 1, false)], [.i .i64, .i .i64, .v], [.int .i64 0, .int .i64 0, .slice none 0 0], 40⟩ := ⟨by kernel_rfl, by kernel_rfl, by kernel_rfl, by kernel_rfl⟩
theorem te206 : TeOk P 206 ⟨.struct [(0, 1, false), (1, 1, false), (2, 1, false)], [.i .i64, .i .i64, .v], [.int .i64 0, .int .i64 0, .slice none 0 0], 40⟩ := ⟨by kernel_rfl, by kernel_rfl, by kernel_rfl, by kernel_rfl⟩
theorem te208 : TeOk P 208 ⟨.struct [(0, 3, true), (3, 1, false)], [.i .i64, .i .i64, .v, .v], [.int .i64 0, .int .i64 0, .slice none 0 0, .slice none 0 0], 64⟩ := ⟨by kernel_rfl, by kernel_rfl, by kernel_rfl, by kernel_rfl⟩
theorem te220 : TeOk P 220 ⟨.int .u64, [.i .u64], [.int .u64 0], 8⟩ := ⟨by kernel_rfl, by kernel_rfl, by kernel_rfl, by kernel_rfl⟩
theorem te228 : TeOk P 228 ⟨.map 9 4, [.v], [.map none], 8⟩ := ⟨by kernel_rfl, by kernel_rfl, by kernel_rfl, by kernel_rfl⟩
theorem te251 : TeOk P 251 ⟨.struct [(0, 1, false), (1, 1, false), (2, 1, false), (3, 1, false), (4, 1, false)], [.i .i64, .v, .v, .v, .v], [.int .i64 0, .slice none 0 0, .slice none 0 0, .slice none 0 0, .slice none 0 0], 104⟩ := ⟨by kernel_rfl, by kernel_rfl, by kernel_rfl, by kernel_rfl⟩
theorem te282 : TeOk P 282 ⟨.slice 3, [.v], [.slice none 0 0], 24⟩ := ⟨by kernel_rfl, by kernel_rfl, by kernel_rfl, by kernel_rfl⟩
theorem tabOk_all : ∀ p ∈ tab, TeOk P p.1 p.2 := by
 unfold tab
 simp only [List.forall_mem_cons]
 exact ⟨te2, te3, te4, te5, te9, te22, te27, te30, te38, te40, te41, te43, te46, te53, te55, te58, te60, te72, te158, te164, te171, te201, te206, te208, te220, te228, te251, te282, fun p hp => by cases hp⟩
theorem tab_mem : ∀ (l : List (Nat × TE)) (t : Nat) (te : TE), tabGet l t = some te → (t, te) ∈ l
 | [], t, te, h => by cases h
 | (k, x) :: r, t, te, h => by
  unfold tabGet at h
  cases hb : Nat.beq k t with
  | true => rw [hb] at h; have := Nat.eq_of_beq_eq_true hb; subst this; cases h; exact List.mem_cons_self ..
  | false => rw [hb] at h; exact List.mem_cons_of_mem _ (tab_mem r t te h)
noncomputable def fnB (f : Nat) : Bool := match P.funcs[f]? with | some fn => fn.body.isSome && !(fn.name == "runtime.NumGoroutine") | none => false
theorem fns_all : (List.range' 3 307).all (fun f => inL exs f || fnB f) = true := by kernel_rfl
theorem ctxOk : CtxOk ctx where
 tab := fun t te h => tabOk_all (t, te) (tab_mem _ t te h)
 fns := fun f hf => by
  simp only [Ctx.okf, Bool.and_eq_true, Bool.not_eq_true'] at hf
  have h1 : 3 ≤ f := Nat.le_of_ble_eq_true hf.1.1
  have h2 : f < 310 := Nat.blt_eq.mp hf.1.2
  have h := List.all_eq_true.1 fns_all f (List.mem_range'_1.2 ⟨h1, by omega⟩)
  have h3 : inL exs f = false := hf.2
  simp only [h3, Bool.false_or] at h
  unfold fnB at h
  split at h
  ·rename_i fn hfn; simp only [Bool.and_eq_true, Bool.not_eq_true'] at h; exact ⟨fn, hfn, h.1, h.2⟩
  ·cases h
 mixed := by kernel_rfl
theorem zv {F : Prop} {f : FuncId} {fn : Func} {args : List Value} {h : Heap} {R : Value → Heap → Prop} (A : Ann) (hf : P.funcs[f]? = some fn) (hv : F)
  (hn : ((match fn.body with | some c => cOk fn.ntmps c | none => false) && Nat.ble args.length fn.ntmps) = true := by kernel_rfl) (e : vcFn ctx A fn args h R = F := by kernel_rfl) : CallsH P f args.toArray h R :=
 Zr0 ctxOk A hf args h R hn (e ▸ hv)
variable {R : Value → Heap → Prop} {h : Heap}
theorem ZtE {v0 : Value} {x1 : Int} (hv :
 vLen v0 fun n7 =>
 bif decide ((zw (x1 - (n7 : Int)) : Int) < 0) then
  R (zi (-1)) h
 else
  R (zi (zw (x1 - (n7 : Int)))) h) : CallsH P Zji #[v0, zi x1] h R := zv ⟨[], []⟩ Tryz.func95 hv
theorem ZvA {v0 : Value} {x1 : Int} (hv :
 vLen v0 fun n8 =>
 bif decide ((zw (x1 - (n8 : Int)) : Int) < 0) then
  R (zi (-1)) h
 else
  lq2 (zw (x1 - (n8 : Int))) (0 : Int) h fun J n x1_2 x5 h_2 =>
  vLen v0 fun n14 =>
  bif decide (x5 < (n14 : Int)) then
   vIdx v0 x5 1 fun p20 =>
   ldV h_2 p20 fun v21 =>
   zI Zji #[v21, zi x1_2] h_2 fun x23 h_3 =>
   bif decide (x23 < 0) then
    R (zi (-1)) h_3
   else
    ag2 J n x23 (zw (x5 + 1)) h_3
  else
   R (zi x1_2) h_2) : CallsH P Zjm #[v0, zi x1] h R := zv ⟨[(5, [(1, .i .i64), (5, .i .i64)])], []⟩ Tryz.func49 hv
theorem ZoU {x0_0 : Int} {x0_1 : Int} {v0_2 : Value} {x1 : Int} (hv :
 vNew h (.cells #[zi x0_0, zi x0_1, v0_2] Zjw) fun p2 h_2 =>
 ldV h_2 (p2.add 2) fun v6 =>
 zI Zjm #[v6, zi x1] h_2 fun x8 h_3 =>
 bif decide (x8 < 0) then
  R (zi (-1)) h_3
 else
  R (zi x8) h_3) : CallsH P Zi7 #[.agg #[zi x0_0, zi x0_1, v0_2], zi x1] h R := zv ⟨[], []⟩ Tryz.func19 hv
theorem ZAE {s0_0 : ByteArray} {x0_1 : Int} {x0_2 : Int} {v0_3 : Value} {s0_4 : ByteArray} {x1 : Int} (hv :
 vNew h (.cells #[.string s0_0, zi x0_1, zi x0_2, v0_3, .string s0_4] Zy7) fun p2 h_2 =>
 ldS h_2 p2 fun s7 =>
 bif decide ((zw (x1 - (s7.size : Int)) : Int) < 0) then
  R (zi (-1)) h_2
 else
  ldI .i64 h_2 (p2.add 1) fun x13_0 =>
  ldI .i64 h_2 ((p2.add 1).add 1) fun x13_1 =>
  ldV h_2 ((p2.add 1).add 2) fun v13_2 =>
  zI Zi7 #[.agg #[zi x13_0, zi x13_1, v13_2], zi (zw (x1 - (s7.size : Int)))] h_2 fun x15 h_3 =>
  bif decide (x15 < 0) then
   R (zi (-1)) h_3
  else
   ldS h_3 (p2.add 4) fun s20 =>
   bif decide ((zw (x15 - (s20.size : Int)) : Int) < 0) then
    R (zi (-1)) h_3
   else
    R (zi (zw (x15 - (s20.size : Int)))) h_3) : CallsH P Zyr #[.agg #[.string s0_0, zi x0_1, zi x0_2, v0_3, .string s0_4], zi x1] h R := zv ⟨[], []⟩ Tryz.func125 hv
theorem ZAr {v0 : Value} {x1 : Int} (hv :
 vLen v0 fun n8 =>
 bif decide ((zw (x1 - (n8 : Int)) : Int) < 0) then
  R (zi (-1)) h
 else
  lq2 (zw (x1 - (n8 : Int))) (0 : Int) h fun J n x1_2 x5 h_2 =>
  vLen v0 fun n14 =>
  bif decide (x5 < (n14 : Int)) then
   vIdx v0 x5 5 fun p20 =>
   ldS h_2 p20 fun s21_0 =>
   ldI .i64 h_2 (p20.add 1) fun x21_1 =>
   ldI .i64 h_2 (p20.add 2) fun x21_2 =>
   ldV h_2 (p20.add 3) fun v21_3 =>
   ldS h_2 (p20.add 4) fun s21_4 =>
   zI Zyr #[.agg #[.string s21_0, zi x21_1, zi x21_2, v21_3, .string s21_4], zi x1_2] h_2 fun x23 h_3 =>
   bif decide (x23 < 0) then
    R (zi (-1)) h_3
   else
    ag2 J n x23 (zw (x5 + 1)) h_3
  else
   R (zi x1_2) h_2) : CallsH P Zyi #[v0, zi x1] h R := zv ⟨[(5, [(1, .i .i64), (5, .i .i64)])], []⟩ Tryz.func75 hv
theorem ZzS {v0_0 : Value} {x1 : Int} (hv :
 vNew h (.cells #[v0_0] ZyS) fun p2 h_2 =>
 ldV h_2 p2 fun v6 =>
 zI Zyi #[v6, zi x1] h_2 fun x8 h_3 =>
 bif decide (x8 < 0) then
  R (zi (-1)) h_3
 else
  R (zi x8) h_3) : CallsH P Zyu #[.agg #[v0_0], zi x1] h R := zv ⟨[], []⟩ Tryz.func28 hv
theorem ZrE {v0 : Value} (hv :
 vLen v0 fun n6 =>
 vMake 8 [zi 0] Zh (n6 : Int) (n6 : Int) h fun v7 h_2 =>
 lq1 (0 : Int) h_2 fun J n x4 h_3 =>
 vLen v0 fun n10 =>
 bif decide (x4 < (n10 : Int)) then
  vIdx v0 x4 1 fun p18 =>
  ldI .i64 h_3 p18 fun x19 =>
  vIdx v7 x4 1 fun p20 =>
  vStore1 h_3 p20 (zi x19) fun h_4 =>
  ag1 J n (zw (x4 + 1)) h_4
 else
  R v7 h_3) : CallsH P Zlm #[v0] h R := zv ⟨[(3, [(4, .i .i64)])], []⟩ Tryz.func106 hv
theorem Zq0 {v0 : Value} (hv :
 vLen v0 fun n6 =>
 vMake 24 [.slice none 0 0] Zf (n6 : Int) (n6 : Int) h fun v7 h_2 =>
 lq1 (0 : Int) h_2 fun J n x4 h_3 =>
 vLen v0 fun n10 =>
 bif decide (x4 < (n10 : Int)) then
  vIdx v0 x4 1 fun p18 =>
  ldV h_3 p18 fun v19 =>
  zV Zlm #[v19] h_3 fun v20 h_4 =>
  vIdx v7 x4 1 fun p21 =>
  vStore1 h_4 p21 v20 fun h_5 =>
  ag1 J n (zw (x4 + 1)) h_5
 else
  R v7 h_3) : CallsH P ZlJ #[v0] h R := zv ⟨[(3, [(4, .i .i64)])], []⟩ Tryz.func56 hv
theorem ZqI {x0_0 : Int} {x0_1 : Int} {v0_2 : Value} (hv :
 vNew h (.cells #[zi x0_0, zi x0_1, v0_2] Zjw) fun p1 h_2 =>
 vNew h_2 (.cells #[zi 0, zi 0, .slice none 0 0] Zaj) fun p2 h_3 =>
 vNew h_3 (.cells #[zi 0, zi 0, .slice none 0 0] Zaj) fun p3 h_4 =>
 ldI .i64 h_4 p1 fun x5 =>
 vStore1 h_4 p3 (zi x5) fun h_5 =>
 ldI .i64 h_5 (p1.add 1) fun x8 =>
 vStore1 h_5 (p3.add 1) (zi x8) fun h_6 =>
 ldV h_6 (p1.add 2) fun v11 =>
 zV ZlJ #[v11] h_6 fun v12 h_7 =>
 vStore1 h_7 (p3.add 2) v12 fun h_8 =>
 ldI .i64 h_8 p3 fun x14_0 =>
 ldI .i64 h_8 (p3.add 1) fun x14_1 =>
 ldV h_8 (p3.add 2) fun v14_2 =>
 vStore1 h_8 p2 (zi x14_0) fun h_9 =>
 vStore1 h_9 (p2.add 1) (zi x14_1) fun h_10 =>
 vStore1 h_10 (p2.add 2) v14_2 fun h_11 =>
 ldI .i64 h_11 p2 fun xres0_0 =>
 ldI .i64 h_11 (p2.add 1) fun xres0_1 =>
 ldV h_11 (p2.add 2) fun vres0_2 =>
 R (.agg #[zi xres0_0, zi xres0_1, vres0_2]) h_11) : CallsH P Zdq #[.agg #[zi x0_0, zi x0_1, v0_2]] h R := zv ⟨[], []⟩ Tryz.func21 hv
theorem ZzG {s0_0 : ByteArray} {x0_1 : Int} {x0_2 : Int} {v0_3 : Value} {s0_4 : ByteArray} (hv :
 vNew h (.cells #[.string s0_0, zi x0_1, zi x0_2, v0_3, .string s0_4] Zy7) fun p1 h_2 =>
 vNew h_2 (.cells #[.string ⟨#[]⟩, zi 0, zi 0, .slice none 0 0, .string ⟨#[]⟩] Zw0) fun p2 h_3 =>
 vNew h_3 (.cells #[.string ⟨#[]⟩, zi 0, zi 0, .slice none 0 0, .string ⟨#[]⟩] Zw0) fun p3 h_4 =>
 ldS h_4 p1 fun s5 =>
 vStore1 h_4 p3 (.string s5) fun h_5 =>
 ldI .i64 h_5 (p1.add 1) fun x8_0 =>
 ldI .i64 h_5 ((p1.add 1).add 1) fun x8_1 =>
 ldV h_5 ((p1.add 1).add 2) fun v8_2 =>
 CallsH P Zdq #[.agg #[zi x8_0, zi x8_1, v8_2]] h_5 fun r9 h_6 => ∃ x9_0_0, ∃ x9_0_1, ∃ (v9_0_2 : Value), r9 = .agg #[zi x9_0_0, zi x9_0_1, v9_0_2] ∧
 vStore1 h_6 (p3.add 1) (zi x9_0_0) fun h_7 =>
 vStore1 h_7 ((p3.add 1).add 1) (zi x9_0_1) fun h_8 =>
 vStore1 h_8 ((p3.add 1).add 2) v9_0_2 fun h_9 =>
 ldS h_9 (p1.add 4) fun s12 =>
 vStore1 h_9 (p3.add 4) (.string s12) fun h_10 =>
 ldS h_10 p3 fun s14_0 =>
 ldI .i64 h_10 (p3.add 1) fun x14_1 =>
 ldI .i64 h_10 (p3.add 2) fun x14_2 =>
 ldV h_10 (p3.add 3) fun v14_3 =>
 ldS h_10 (p3.add 4) fun s14_4 =>
 vStore1 h_10 p2 (.string s14_0) fun h_11 =>
 vStore1 h_11 (p2.add 1) (zi x14_1) fun h_12 =>
 vStore1 h_12 (p2.add 2) (zi x14_2) fun h_13 =>
 vStore1 h_13 (p2.add 3) v14_3 fun h_14 =>
 vStore1 h_14 (p2.add 4) (.string s14_4) fun h_15 =>
 ldS h_15 p2 fun sres0_0 =>
 ldI .i64 h_15 (p2.add 1) fun xres0_1 =>
 ldI .i64 h_15 (p2.add 2) fun xres0_2 =>
 ldV h_15 (p2.add 3) fun vres0_3 =>
 ldS h_15 (p2.add 4) fun sres0_4 =>
 R (.agg #[.string sres0_0, zi xres0_1, zi xres0_2, vres0_3, .string sres0_4]) h_15) : CallsH P ZyN #[.agg #[.string s0_0, zi x0_1, zi x0_2, v0_3, .string s0_4]] h R := zv ⟨[], []⟩ Tryz.func128 hv
theorem Zzx {v0 : Value} (hv :
 vLen v0 fun n6 =>
 vMake 72 [.string ⟨#[]⟩, zi 0, zi 0, .slice none 0 0, .string ⟨#[]⟩] Zw0 (n6 : Int) (n6 : Int) h fun v7 h_2 =>
 lq1 (0 : Int) h_2 fun J n x4 h_3 =>
 vLen v0 fun n10 =>
 bif decide (x4 < (n10 : Int)) then
  vIdx v0 x4 5 fun p18 =>
  ldS h_3 p18 fun s19_0 =>
  ldI .i64 h_3 (p18.add 1) fun x19_1 =>
  ldI .i64 h_3 (p18.add 2) fun x19_2 =>
  ldV h_3 (p18.add 3) fun v19_3 =>
  ldS h_3 (p18.add 4) fun s19_4 =>
  CallsH P ZyN #[.agg #[.string s19_0, zi x19_1, zi x19_2, v19_3, .string s19_4]] h_3 fun r20 h_4 => ∃ (s20_0_0 : ByteArray), ∃ x20_0_1, ∃ x20_0_2, ∃ (v20_0_3 : Value), ∃ (s20_0_4 : ByteArray), r20 = .agg #[.string s20_0_0, zi x20_0_1, zi x20_0_2, v20_0_3, .string s20_0_4] ∧
  vIdx v7 x4 5 fun p21 =>
  vStore1 h_4 p21 (.string s20_0_0) fun h_5 =>
  vStore1 h_5 (p21.add 1) (zi x20_0_1) fun h_6 =>
  vStore1 h_6 (p21.add 2) (zi x20_0_2) fun h_7 =>
  vStore1 h_7 (p21.add 3) v20_0_3 fun h_8 =>
  vStore1 h_8 (p21.add 4) (.string s20_0_4) fun h_9 =>
  ag1 J n (zw (x4 + 1)) h_9
 else
  R v7 h_3) : CallsH P Zyh #[v0] h R := zv ⟨[(3, [(4, .i .i64)])], []⟩ Tryz.func77 hv
theorem ZAf {v0_0 : Value} (hv :
 vNew h (.cells #[v0_0] ZyS) fun p1 h_2 =>
 vNew h_2 (.cells #[.slice none 0 0] Zw8) fun p2 h_3 =>
 vNew h_3 (.cells #[.slice none 0 0] Zw8) fun p3 h_4 =>
 ldV h_4 p1 fun v5 =>
 zV Zyh #[v5] h_4 fun v6 h_5 =>
 vStore1 h_5 p3 v6 fun h_6 =>
 ldV h_6 p3 fun v8_0 =>
 vStore1 h_6 p2 v8_0 fun h_7 =>
 ldV h_7 p2 fun vres0_0 =>
 R (.agg #[vres0_0]) h_7) : CallsH P Zxw #[.agg #[v0_0]] h R := zv ⟨[], []⟩ Tryz.func30 hv
theorem ZtK {v0 : Value} {v1 : Value} (hv :
 vLen v0 fun n7 =>
 vLen v1 fun n9 =>
 bif (n7 : Int) != (n9 : Int) then
  R (.bool false) h
 else
  lq1 (0 : Int) h fun J n x5 h_2 =>
  vLen v0 fun n13 =>
  bif decide (x5 < (n13 : Int)) then
   vIdx v0 x5 1 fun p19 =>
   ldI .i64 h_2 p19 fun x20 =>
   vIdx v1 x5 1 fun p23 =>
   ldI .i64 h_2 p23 fun x24 =>
   bif x20 != x24 then
    R (.bool false) h_2
   else
    ag1 J n (zw (x5 + 1)) h_2
  else
   R (.bool true) h_2) : CallsH P ZhK #[v0, v1] h R := zv ⟨[(4, [(5, .i .i64)])], []⟩ Tryz.func69 hv
theorem Zp8 {v0 : Value} {v1 : Value} (hv :
 vLen v0 fun n7 =>
 vLen v1 fun n9 =>
 bif (n7 : Int) != (n9 : Int) then
  R (.bool false) h
 else
  lq1 (0 : Int) h fun J n x5 h_2 =>
  vLen v0 fun n13 =>
  bif decide (x5 < (n13 : Int)) then
   vIdx v0 x5 1 fun p19 =>
   ldV h_2 p19 fun v20 =>
   vIdx v1 x5 1 fun p23 =>
   ldV h_2 p23 fun v24 =>
   zB ZhK #[v20, v24] h_2 fun b25 h_3 =>
   bif !b25 then
    R (.bool false) h_3
   else
    ag1 J n (zw (x5 + 1)) h_3
  else
   R (.bool true) h_2) : CallsH P Zkh #[v0, v1] h R := zv ⟨[(4, [(5, .i .i64)])], []⟩ Tryz.func62 hv
theorem ZqE {x0_0 : Int} {x0_1 : Int} {v0_2 : Value} {x1_0 : Int} {x1_1 : Int} {v1_2 : Value} (hv :
 vNew h (.cells #[zi x0_0, zi x0_1, v0_2] Zaj) fun p2 h_2 =>
 vNew h_2 (.cells #[zi x1_0, zi x1_1, v1_2] Zaj) fun p3 h_3 =>
 ldI .i64 h_3 p2 fun x6 =>
 ldI .i64 h_3 p3 fun x8 =>
 bif x6 != x8 then
  R (.bool false) h_3
 else
  ldI .i64 h_3 (p2.add 1) fun x11 =>
  ldI .i64 h_3 (p3.add 1) fun x13 =>
  bif x11 != x13 then
   R (.bool false) h_3
  else
   ldV h_3 (p2.add 2) fun v16 =>
   ldV h_3 (p3.add 2) fun v18 =>
   zB Zkh #[v16, v18] h_3 fun b19 h_4 =>
   bif !b19 then
    R (.bool false) h_4
   else
    R (.bool true) h_4) : CallsH P ZkB #[.agg #[zi x0_0, zi x0_1, v0_2], .agg #[zi x1_0, zi x1_1, v1_2]] h R := zv ⟨[], []⟩ Tryz.func24 hv
theorem ZAX {s0_0 : ByteArray} {x0_1 : Int} {x0_2 : Int} {v0_3 : Value} {s0_4 : ByteArray} {s1_0 : ByteArray} {x1_1 : Int} {x1_2 : Int} {v1_3 : Value} {s1_4 : ByteArray} (hv :
 vNew h (.cells #[.string s0_0, zi x0_1, zi x0_2, v0_3, .string s0_4] Zw0) fun p2 h_2 =>
 vNew h_2 (.cells #[.string s1_0, zi x1_1, zi x1_2, v1_3, .string s1_4] Zw0) fun p3 h_3 =>
 ldS h_3 p2 fun s6 =>
 ldS h_3 p3 fun s8 =>
 bif !(s6.toList == s8.toList) then
  R (.bool false) h_3
 else
  ldI .i64 h_3 (p2.add 1) fun x11_0 =>
  ldI .i64 h_3 ((p2.add 1).add 1) fun x11_1 =>
  ldV h_3 ((p2.add 1).add 2) fun v11_2 =>
  ldI .i64 h_3 (p3.add 1) fun x13_0 =>
  ldI .i64 h_3 ((p3.add 1).add 1) fun x13_1 =>
  ldV h_3 ((p3.add 1).add 2) fun v13_2 =>
  zB ZkB #[.agg #[zi x11_0, zi x11_1, v11_2], .agg #[zi x13_0, zi x13_1, v13_2]] h_3 fun b14 h_4 =>
  bif !b14 then
   R (.bool false) h_4
  else
   ldS h_4 (p2.add 4) fun s17 =>
   ldS h_4 (p3.add 4) fun s19 =>
   bif !(s17.toList == s19.toList) then
    R (.bool false) h_4
   else
    R (.bool true) h_4) : CallsH P Zyt #[.agg #[.string s0_0, zi x0_1, zi x0_2, v0_3, .string s0_4], .agg #[.string s1_0, zi x1_1, zi x1_2, v1_3, .string s1_4]] h R := zv ⟨[], []⟩ Tryz.func41 hv
theorem ZzE {v0 : Value} {v1 : Value} (hv :
 vLen v0 fun n7 =>
 vLen v1 fun n9 =>
 bif (n7 : Int) != (n9 : Int) then
  R (.bool false) h
 else
  lq1 (0 : Int) h fun J n x5 h_2 =>
  vLen v0 fun n13 =>
  bif decide (x5 < (n13 : Int)) then
   vIdx v0 x5 5 fun p19 =>
   ldS h_2 p19 fun s20_0 =>
   ldI .i64 h_2 (p19.add 1) fun x20_1 =>
   ldI .i64 h_2 (p19.add 2) fun x20_2 =>
   ldV h_2 (p19.add 3) fun v20_3 =>
   ldS h_2 (p19.add 4) fun s20_4 =>
   vIdx v1 x5 5 fun p23 =>
   ldS h_2 p23 fun s24_0 =>
   ldI .i64 h_2 (p23.add 1) fun x24_1 =>
   ldI .i64 h_2 (p23.add 2) fun x24_2 =>
   ldV h_2 (p23.add 3) fun v24_3 =>
   ldS h_2 (p23.add 4) fun s24_4 =>
   zB Zyt #[.agg #[.string s20_0, zi x20_1, zi x20_2, v20_3, .string s20_4], .agg #[.string s24_0, zi x24_1, zi x24_2, v24_3, .string s24_4]] h_2 fun b25 h_3 =>
   bif !b25 then
    R (.bool false) h_3
   else
    ag1 J n (zw (x5 + 1)) h_3
  else
   R (.bool true) h_2) : CallsH P ZyL #[v0, v1] h R := zv ⟨[(4, [(5, .i .i64)])], []⟩ Tryz.func80 hv
theorem ZAj {v0_0 : Value} {v1_0 : Value} (hv :
 vNew h (.cells #[v0_0] Zw8) fun p2 h_2 =>
 vNew h_2 (.cells #[v1_0] Zw8) fun p3 h_3 =>
 ldV h_3 p2 fun v6 =>
 ldV h_3 p3 fun v8 =>
 zB ZyL #[v6, v8] h_3 fun b9 h_4 =>
 bif !b9 then
  R (.bool false) h_4
 else
  R (.bool true) h_4) : CallsH P Zyz #[.agg #[v0_0], .agg #[v1_0]] h R := zv ⟨[], []⟩ Tryz.func32 hv
theorem ZuP {v0 : Value} {x1 : Int} (hv :
 lq2 x1 (0 : Int) h fun J n x1_2 x5 h_2 =>
 vLen v0 fun n8 =>
 bif decide (x5 < (n8 : Int)) then
  vIdx v0 x5 1 fun p15 =>
  vStore1 h_2 p15 (zi x1_2) fun h_3 =>
  ag2 J n (zw (x1_2 + 1)) (zw (x5 + 1)) h_3
 else
  R (zi x1_2) h_2) : CallsH P ZgJ #[v0, zi x1] h R := zv ⟨[(2, [(1, .i .i64), (5, .i .i64)])], []⟩ Tryz.func71 hv
theorem Ztm {v0 : Value} {x1 : Int} (hv :
 lq2 x1 (0 : Int) h fun J n x1_2 x5 h_2 =>
 vLen v0 fun n8 =>
 bif decide (x5 < (n8 : Int)) then
  vIdx v0 x5 1 fun p14 =>
  ldV h_2 p14 fun v15 =>
  zI ZgJ #[v15, zi x1_2] h_2 fun x17 h_3 =>
  ag2 J n x17 (zw (x5 + 1)) h_3
 else
  R (zi x1_2) h_2) : CallsH P ZiL #[v0, zi x1] h R := zv ⟨[(2, [(1, .i .i64), (5, .i .i64)])], []⟩ Tryz.func63 hv
theorem ZAp {x0 : Int} (hv :
 bif decide (x0 ≤ 0) then
  R (.string ⟨#[109, 48]⟩) h
 else
  lq2 x0 (⟨#[]⟩ : ByteArray) h fun J n x0_2 s3 h_2 =>
  bif decide (x0_2 > 0) then
   (10 : Int) ≠ 0 ∧
   vNewS h_2 (.cells #[.int .u8 (IntKind.u8.wrap (zw (48 + (Int.tmod x0_2 10))))] ZsO) 1 fun v12 h_3 =>
   vB2S v12 h_3 fun s13 =>
   (((s13 : ByteArray).size + (s3 : ByteArray).size : Nat) : Int) ≤ IntKind.i64.max ∧
   (10 : Int) ≠ 0 ∧
   ag2 J n (zw (Int.tdiv x0_2 10)) ((s13 : ByteArray) ++ (s3 : ByteArray)) h_3
  else
   (((⟨#[109]⟩ : ByteArray).size + (s3 : ByteArray).size : Nat) : Int) ≤ IntKind.i64.max ∧
   R (.string ((⟨#[109]⟩ : ByteArray) ++ (s3 : ByteArray))) h_2) : CallsH P Zxx #[zi x0] h R := zv ⟨[(4, [(0, .i .i64), (3, .s)])], []⟩ Tryz.func84 hv
theorem ZAS {v0 : Value} {x1 : Int} (hv :
 lq2 x1 (0 : Int) h fun J n x1_2 x5 h_2 =>
 vLen v0 fun n8 =>
 bif decide (x5 < (n8 : Int)) then
  zS Zxx #[zi x1_2] h_2 fun s15 h_3 =>
  vIdx v0 x5 5 fun p16 =>
  vStore1 h_3 p16 (.string s15) fun h_4 =>
  vIdx v0 x5 5 fun p23 =>
  vStore1 h_4 (p23.add 1) (zi (zw (x1_2 + 1))) fun h_5 =>
  vIdx v0 x5 5 fun p31 =>
  vStore1 h_5 ((p31.add 1).add 1) (zi (zw ((zw (x1_2 + 1)) + 1))) fun h_6 =>
  vIdx v0 x5 5 fun p38 =>
  ldV h_6 ((p38.add 1).add 2) fun v41 =>
  zI ZiL #[v41, zi (zw ((zw ((zw (x1_2 + 1)) + 1)) + 1))] h_6 fun x43 h_7 =>
  zS Zxx #[zi x43] h_7 fun s47 h_8 =>
  vIdx v0 x5 5 fun p48 =>
  vStore1 h_8 (p48.add 4) (.string s47) fun h_9 =>
  ag2 J n (zw (x43 + 1)) (zw (x5 + 1)) h_9
 else
  R (zi x1_2) h_2) : CallsH P Zyy #[v0, zi x1] h R := zv ⟨[(2, [(1, .i .i64), (5, .i .i64)])], []⟩ Tryz.func83 hv
theorem ZAR {v0_0 : Value} {x1 : Int} (hv :
 vNew h (.cells #[v0_0] Zw8) fun p2 h_2 =>
 ldV h_2 p2 fun v6 =>
 zI Zyy #[v6, zi x1] h_2 fun x8 h_3 =>
 R (zi x8) h_3) : CallsH P ZyH #[.agg #[v0_0], zi x1] h R := zv ⟨[], []⟩ Tryz.func36 hv
theorem Zwp {x0 : Int} {x1 : Int} {x2 : Int} (hv :
 bif decide (x0 ≥ x1) then
  R (.bool (decide (x0 ≤ x2))) h
 else
  R (.bool false) h) : CallsH P Z8 #[zi x0, zi x1, zi x2] h R := zv ⟨[], []⟩ Tryz.func96 hv
theorem Zru {v0 : Value} {x1 : Int} (hv :
 lq1 (0 : Int) h fun J n x5 h_2 =>
 vLen v0 fun n8 =>
 bif decide (x5 < (n8 : Int)) then
  vIdx v0 x5 1 fun p14 =>
  ldI .i64 h_2 p14 fun x15 =>
  bif x15 == x1 then
   R (.bool true) h_2
  else
   ag1 J n (zw (x5 + 1)) h_2
 else
  R (.bool false) h_2) : CallsH P Zju #[v0, zi x1] h R := zv ⟨[(2, [(5, .i .i64)])], []⟩ Tryz.func141 hv
theorem ZqH {v0 : Value} (hv :
 vLen v0 fun n5 =>
 bif decide ((n5 : Int) > 32) then
  R (.bool false) h
 else
  lq1 (0 : Int) h fun J n x3 h_2 =>
  vLen v0 fun n9 =>
  bif decide (x3 < (n9 : Int)) then
   vIdx v0 x3 1 fun p15 =>
   ldI .i64 h_2 p15 fun x16 =>
   vLen v0 fun n18 =>
   zB Z8 #[zi x16, zi 0, zi (zw ((n18 : Int) - 1))] h_2 fun b20 h_3 =>
   bif !b20 then
    R (.bool false) h_3
   else
    vSliceS v0 1 none (some (zi x3)) none fun v25 =>
    vIdx v0 x3 1 fun p28 =>
    ldI .i64 h_3 p28 fun x29 =>
    zB Zju #[v25, zi x29] h_3 fun b30 h_4 =>
    bif b30 then
     R (.bool false) h_4
    else
     ag1 J n (zw (x3 + 1)) h_4
  else
   R (.bool true) h_2) : CallsH P Zfx #[v0] h R := zv ⟨[(4, [(3, .i .i64)])], []⟩ Tryz.func97 hv
theorem Zrq {v0 : Value} {v1 : Value} (hv :
 ∃ J : Heap → Prop, (
  lq1 (0 : Int) h fun J_2 n x5 h_2 =>
  ∃ J_3 : Heap → Prop, (
   vLen v0 fun n8 =>
   bif decide (x5 < (n8 : Int)) then
    vLen v1 fun n13 =>
    bif decide (x5 < (n13 : Int)) then
     J_3 h_2
    else
     J h_2
   else
    J h_2
  ) ∧ ∀ (_ : Env) (h_3 : Heap), J_3 h_3 →
  vIdx v0 x5 1 fun p20 =>
  ldI .i64 h_3 p20 fun x21 =>
  vIdx v1 x5 1 fun p24 =>
  ldI .i64 h_3 p24 fun x25 =>
  bif decide (x21 < x25) then
   R (zi (-1)) h_3
  else
   vIdx v0 x5 1 fun p29 =>
   ldI .i64 h_3 p29 fun x30 =>
   vIdx v1 x5 1 fun p33 =>
   ldI .i64 h_3 p33 fun x34 =>
   bif decide (x30 > x34) then
    R (zi 1) h_3
   else
    ag1 J_2 n (zw (x5 + 1)) h_3
 ) ∧ ∀ (_ : Env) (h_4 : Heap), J h_4 →
 vLen v0 fun n37 =>
 vLen v1 fun n39 =>
 bif decide ((n37 : Int) < (n39 : Int)) then
  R (zi (-1)) h_4
 else
  vLen v0 fun n42 =>
  vLen v1 fun n44 =>
  bif decide ((n42 : Int) > (n44 : Int)) then
   R (zi 1) h_4
  else
   R (zi 0) h_4) : CallsH P ZeJ #[v0, v1] h R := zv ⟨[(2, [(5, .i .i64)])], [(4, []), (8, [])]⟩ Tryz.func98 hv
theorem ZoP {v0 : Value} {v1 : Value} (hv :
 vLen v0 fun n11 =>
 lq2 (0 : Int) (n11 : Int) h fun J n x6 x7 h_2 =>
 bif decide (x6 < x7) then
  (2 : Int) ≠ 0 ∧
  vIdx v0 (zw (Int.tdiv (zw (x6 + x7)) 2)) 1 fun p21 =>
  ldV h_2 p21 fun v22 =>
  zI ZeJ #[v22, v1] h_2 fun x24 h_3 =>
  bif x24 == 0 then
   R (.tuple #[zi (zw (Int.tdiv (zw (x6 + x7)) 2)), .bool true]) h_3
  else
   bif decide (x24 < 0) then
    ag2 J n (zw ((zw (Int.tdiv (zw (x6 + x7)) 2)) + 1)) x7 h_3
   else
    ag2 J n x6 (zw (Int.tdiv (zw (x6 + x7)) 2)) h_3
 else
  R (.tuple #[zi x6, .bool false]) h_2) : CallsH P ZgS #[v0, v1] h R := zv ⟨[(3, [(6, .i .i64), (7, .i .i64)])], []⟩ Tryz.func143 hv
theorem Zq5 {x0 : Int} (hv :
 vNewS h (.cells #[] Zh) 0 fun v5 h_2 =>
 lq2 v5 (0 : Int) h_2 fun J n v3 x4 h_3 =>
 bif decide (x4 < x0) then
  vNewS h_3 (.cells #[zi x4] Zh) 1 fun v13 h_4 =>
  vAppend 1 8 [zi 0] Zh v3 v13 h_4 fun v14 h_5 =>
  ag2 J n v14 (zw (x4 + 1)) h_5
 else
  R v3 h_3) : CallsH P Zka #[zi x0] h R := zv ⟨[(3, [(3, .v), (4, .i .i64)])], []⟩ Tryz.func195 hv
theorem Zwa {v0 : Value} {v1 : Value} (hv :
 vNewS h (.cells #[] Zh) 0 fun v7 h_2 =>
 lq2 v7 (0 : Int) h_2 fun J n v5 x6 h_3 =>
 vLen v0 fun n10 =>
 bif decide (x6 < (n10 : Int)) then
  vIdx v0 x6 1 fun p18 =>
  ldI .i64 h_3 p18 fun x19 =>
  vIdx v1 x19 1 fun p20 =>
  ldI .i64 h_3 p20 fun x21 =>
  vNewS h_3 (.cells #[zi x21] Zh) 1 fun v22 h_4 =>
  vAppend 1 8 [zi 0] Zh v5 v22 h_4 fun v23 h_5 =>
  ag2 J n v23 (zw (x6 + 1)) h_5
 else
  R v5 h_3) : CallsH P ZiJ #[v0, v1] h R := zv ⟨[(3, [(5, .v), (6, .i .i64)])], []⟩ Tryz.func196 hv
theorem Zqh {v0 : Value} {x1 : Int} {v2 : Value} (hv :
 vNewS h (.cells #[] Zf) 0 fun v8 h_2 =>
 vSliceS v0 1 none (some (zi x1)) none fun v11 =>
 vAppend 1 24 [.slice none 0 0] Zf v8 v11 h_2 fun v12 h_3 =>
 vOne v2 fun _ =>
 vNewS h_3 (.cells #[v2] Zf) 1 fun v15 h_4 =>
 vAppend 1 24 [.slice none 0 0] Zf v12 v15 h_4 fun v16 h_5 =>
 vSliceS v0 1 (some (zi x1)) none none fun v20 =>
 vAppend 1 24 [.slice none 0 0] Zf v16 v20 h_5 fun v21 h_6 =>
 R v21 h_6) : CallsH P Zkq #[v0, zi x1, v2] h R := zv ⟨[], []⟩ Tryz.func197 hv
theorem Zr2 {x0 : Int} {v1 : Value} {x2 : Int} (hv :
 zV Zka #[zi x0] h fun v17 h_2 =>
 vOne v17 fun _ =>
 vNewS h_2 (.cells #[v17] Zf) 1 fun v19 h_3 =>
 vOne v17 fun _ =>
 vNewS h_3 (.cells #[v17] Zf) 1 fun v21 h_4 =>
 lq3 v19 v21 (0 : Int) h_4 fun J n v9 v10 x11 h_5 =>
 vLen v10 fun n24 =>
 bif decide (x11 < (n24 : Int)) then
  lq3 v9 v10 (0 : Int) h_5 fun J_2 n_3 v9_2 v10_2 x12 h_6 =>
  vLen v1 fun n30 =>
  bif decide (x12 < (n30 : Int)) then
   vIdx v10_2 x11 1 fun p36 =>
   ldV h_6 p36 fun v37 =>
   vIdx v1 x12 1 fun p40 =>
   ldV h_6 p40 fun v41 =>
   zV ZiJ #[v37, v41] h_6 fun v42 h_7 =>
   CallsH P ZgS #[v9_2, v42] h_7 fun r46 h_8 => ∃ x46_0, ∃ (b46_1 : Bool), r46 = .tuple #[zi x46_0, .bool b46_1] ∧
   bif b46_1 then
    ag3 J_2 n_3 v9_2 v10_2 (zw (x12 + 1)) h_8
   else
    vLen v9_2 fun n51 =>
    bif (n51 : Int) == x2 then
     R (.tuple #[(.slice none 0 0), .bool false]) h_8
    else
     zV Zkq #[v9_2, zi x46_0, v42] h_8 fun v57 h_9 =>
     vOne v42 fun _ =>
     vNewS h_9 (.cells #[v42] Zf) 1 fun v60 h_10 =>
     vAppend 1 24 [.slice none 0 0] Zf v10_2 v60 h_10 fun v61 h_11 =>
     ag3 J_2 n_3 v57 v61 (zw (x12 + 1)) h_11
  else
   ag3 J n v9_2 v10_2 (zw (x11 + 1)) h_6
 else
  R (.tuple #[v9, .bool true]) h_5) : CallsH P Zgu #[zi x0, v1, zi x2] h R := zv ⟨[(5, [(9, .v), (10, .v), (11, .i .i64)]), (8, [(9, .v), (10, .v), (12, .i .i64)])], []⟩ Tryz.func142 hv
theorem Zu9 {v0 : Value} (hv :
 vNewS h (.cells #[] Zh) 0 fun v3 h_2 =>
 vAppend 1 8 [zi 0] Zh v3 v0 h_2 fun v5 h_3 =>
 R v5 h_3) : CallsH P ZfC #[v0] h R := zv ⟨[], []⟩ Tryz.func144 hv
theorem Zrh {v0 : Value} {v1 : Value} (hv :
 vLen v0 fun n7 =>
 vLen v1 fun n9 =>
 bif (n7 : Int) != (n9 : Int) then
  R (.bool false) h
 else
  lq1 (0 : Int) h fun J n x5 h_2 =>
  vLen v0 fun n13 =>
  bif decide (x5 < (n13 : Int)) then
   vIdx v0 x5 1 fun p19 =>
   ldI .i64 h_2 p19 fun x20 =>
   vIdx v1 x5 1 fun p23 =>
   ldI .i64 h_2 p23 fun x24 =>
   bif x20 != x24 then
    R (.bool false) h_2
   else
    ag1 J n (zw (x5 + 1)) h_2
  else
   R (.bool true) h_2) : CallsH P Zi3 #[v0, v1] h R := zv ⟨[(4, [(5, .i .i64)])], []⟩ Tryz.func198 hv
theorem ZpB {v0 : Value} {v1 : Value} (hv :
 vLen v0 fun n7 =>
 vLen v1 fun n9 =>
 bif (n7 : Int) != (n9 : Int) then
  R (.bool false) h
 else
  lq1 (0 : Int) h fun J n x5 h_2 =>
  vLen v0 fun n13 =>
  bif decide (x5 < (n13 : Int)) then
   vIdx v0 x5 1 fun p19 =>
   ldV h_2 p19 fun v20 =>
   vIdx v1 x5 1 fun p23 =>
   ldV h_2 p23 fun v24 =>
   zB Zi3 #[v20, v24] h_2 fun b25 h_3 =>
   bif !b25 then
    R (.bool false) h_3
   else
    ag1 J n (zw (x5 + 1)) h_3
  else
   R (.bool true) h_2) : CallsH P ZgC #[v0, v1] h R := zv ⟨[(4, [(5, .i .i64)])], []⟩ Tryz.func145 hv
theorem Zvw {x0 : Int} {v1 : Value} (hv :
 vNewS h (.cells #[] Zf) 0 fun v14 h_2 =>
 CallsH P Zgu #[zi x0, v14, zi 1] h_2 fun r18 h_3 => ∃ (v18_0 : Value), ∃ (b18_1 : Bool), r18 = .tuple #[v18_0, .bool b18_1] ∧
 lq3 v14 v18_0 (0 : Int) h_3 fun J n v6 v7 x9 h_4 =>
 vLen v1 fun n23 =>
 bif decide (x9 < (n23 : Int)) then
  vIdx v1 x9 1 fun p31 =>
  ldV h_4 p31 fun v32 =>
  CallsH P ZgS #[v7, v32] h_4 fun r33 h_5 => ∃ x33_0, ∃ (b33_1 : Bool), r33 = .tuple #[zi x33_0, .bool b33_1] ∧
  bif b33_1 then
   ag3 J n v6 v7 (zw (x9 + 1)) h_5
  else
   vIdx v1 x9 1 fun p40 =>
   ldV h_5 p40 fun v41 =>
   zV ZfC #[v41] h_5 fun v42 h_6 =>
   vOne v42 fun _ =>
   vNewS h_6 (.cells #[v42] Zf) 1 fun v43 h_7 =>
   vAppend 1 24 [.slice none 0 0] Zf v6 v43 h_7 fun v44 h_8 =>
   vLen v1 fun n49 =>
   CallsH P Zgu #[zi x0, v44, zi (n49 : Int)] h_8 fun r50 h_9 => ∃ (v50_0 : Value), ∃ (b50_1 : Bool), r50 = .tuple #[v50_0, .bool b50_1] ∧
   bif !b50_1 then
    R (.tuple #[(.slice none 0 0), .bool false]) h_9
   else
    ag3 J n v44 v50_0 (zw (x9 + 1)) h_9
 else
  zB ZgC #[v7, v1] h_4 fun b59 h_10 =>
  R (.tuple #[v6, .bool b59]) h_10) : CallsH P Zj3 #[zi x0, v1] h R := zv ⟨[(4, [(6, .v), (7, .v), (9, .i .i64)])], []⟩ Tryz.func99 hv
theorem ZtM {p0 : Addr} (hv :
 ∃ J : Heap → Prop, (
  ldI .i64 h p0 fun x9 =>
  zB Z8 #[zi x9, zi 1, zi 32] h fun b10 h_2 =>
  bif !b10 then
   R (.bool false) h_2
  else
   ldV h_2 (p0.add 1) fun v16 =>
   vLen v16 fun n17 =>
   bif (n17 : Int) == 0 then
    R (.bool false) h_2
   else
    ldV h_2 (p0.add 1) fun v24 =>
    vLen v24 fun n25 =>
    bif decide ((n25 : Int) > 720) then
     R (.bool false) h_2
    else
     J h_2
 ) ∧ ∀ (_ : Env) (h_3 : Heap), J h_3 →
 lq1 (0 : Int) h_3 fun J_2 n x3 h_4 =>
 ldV h_4 (p0.add 1) fun v32 =>
 vLen v32 fun n33 =>
 bif decide (x3 < (n33 : Int)) then
  ldV h_4 (p0.add 1) fun v40 =>
  vIdx v40 x3 1 fun p42 =>
  ldV h_4 p42 fun v43 =>
  zB Zfx #[v43] h_4 fun b44 h_5 =>
  bif !b44 then
   R (.bool false) h_5
  else
   ldV h_5 (p0.add 1) fun v50 =>
   vIdx v50 x3 1 fun p52 =>
   ldV h_5 p52 fun v53 =>
   vLen v53 fun n54 =>
   ldI .i64 h_5 p0 fun x58 =>
   bif (n54 : Int) != x58 then
    R (.bool false) h_5
   else
    bif decide (x3 > 0) then
     ldV h_5 (p0.add 1) fun v68 =>
     vIdx v68 (zw (x3 - 1)) 1 fun p71 =>
     ldV h_5 p71 fun v72 =>
     ldV h_5 (p0.add 1) fun v76 =>
     vIdx v76 x3 1 fun p78 =>
     ldV h_5 p78 fun v79 =>
     zI ZeJ #[v72, v79] h_5 fun x80 h_6 =>
     bif decide (x80 ≥ 0) then
      R (.bool false) h_6
     else
      ag1 J_2 n (zw (x3 + 1)) h_6
    else
     ag1 J_2 n (zw (x3 + 1)) h_5
 else
  ldI .i64 h_4 p0 fun x88 =>
  ldV h_4 (p0.add 1) fun v92 =>
  CallsH P Zj3 #[zi x88, v92] h_4 fun r93 h_7 => ∃ (v93_0 : Value), ∃ (b93_1 : Bool), r93 = .tuple #[v93_0, .bool b93_1] ∧
  R (.bool b93_1) h_7) : CallsH P ZlK #[.pointer (some p0)] h R := zv ⟨[(4, [(3, .i .i64)])], [(3, [])]⟩ Tryz.func50 hv
theorem Zqg {v0 : Value} (hv :
 vLen v0 fun n5 =>
 bif decide ((n5 : Int) > 64) then
  R (.bool false) h
 else
  lq1 (0 : Int) h fun J n x3 h_2 =>
  vLen v0 fun n9 =>
  bif decide (x3 < (n9 : Int)) then
   vIdx v0 x3 1 fun p15 =>
   ldI .i64 h_2 p15 fun x16 =>
   zB Z8 #[zi x16, zi 0, zi 63] h_2 fun b17 h_3 =>
   bif !b17 then
    R (.bool false) h_3
   else
    ag1 J n (zw (x3 + 1)) h_3
  else
   R (.bool true) h_2) : CallsH P ZjB #[v0] h R := zv ⟨[(4, [(3, .i .i64)])], []⟩ Tryz.func179 hv
theorem ZoK {x0_0 : Int} {x0_1 : Int} {x1_0 : Int} {x1_1 : Int} (hv :
 vNew h (.cells #[zi x0_0, zi x0_1] Zaw) fun p2 h_2 =>
 vNew h_2 (.cells #[zi x1_0, zi x1_1] Zaw) fun p3 h_3 =>
 ldI .i64 h_3 p2 fun x6 =>
 ldI .i64 h_3 p3 fun x8 =>
 bif decide (x6 < x8) then
  R (.bool true) h_3
 else
  ldI .i64 h_3 p2 fun x12 =>
  ldI .i64 h_3 p3 fun x14 =>
  bif x12 == x14 then
   ldI .i64 h_3 (p2.add 1) fun x18 =>
   ldI .i64 h_3 (p3.add 1) fun x20 =>
   R (.bool (decide (x18 < x20))) h_3
  else
   R (.bool false) h_3) : CallsH P ZkE #[.agg #[zi x0_0, zi x0_1], .agg #[zi x1_0, zi x1_1]] h R := zv ⟨[], []⟩ Tryz.func180 hv
theorem ZoE {v0_0 : Value} {v0_1 : Value} (hv :
 vNew h (.cells #[v0_0, v0_1] Z6) fun p1 h_2 =>
 ∃ J : Heap → Prop, (
  ldV h_2 p1 fun v7 =>
  zB ZjB #[v7] h_2 fun b8 h_3 =>
  bif !b8 then
   R (.bool false) h_3
  else
   ldV h_3 (p1.add 1) fun v12 =>
   vLen v12 fun n13 =>
   bif decide ((n13 : Int) > 512) then
    R (.bool false) h_3
   else
    J h_3
 ) ∧ ∀ (_ : Env) (h_4 : Heap), J h_4 →
 ldV h_4 p1 fun v17 =>
 vLen v17 fun n18 =>
 lq1 (0 : Int) h_4 fun J_2 n x4 h_5 =>
 ldV h_5 (p1.add 1) fun v21 =>
 vLen v21 fun n22 =>
 bif decide (x4 < (n22 : Int)) then
  ldV h_5 (p1.add 1) fun v27 =>
  vIdx v27 x4 2 fun p29 =>
  ldI .i64 h_5 p29 fun x30_0 =>
  ldI .i64 h_5 (p29.add 1) fun x30_1 =>
  vNew h_5 (.cells #[zi 0, zi 0] Zaw) fun p5 h_6 =>
  vStore1 h_6 p5 (zi x30_0) fun h_7 =>
  vStore1 h_7 (p5.add 1) (zi x30_1) fun h_8 =>
  ldI .i64 h_8 p5 fun x32 =>
  zB Z8 #[zi x32, zi 0, zi (zw ((n18 : Int) - 1))] h_8 fun b35 h_9 =>
  bif !b35 then
   R (.bool false) h_9
  else
   ldI .i64 h_9 (p5.add 1) fun x39 =>
   ldI .i64 h_9 p5 fun x41 =>
   zB Z8 #[zi x39, zi (zw (x41 + 1)), zi (zw ((n18 : Int) - 1))] h_9 fun b45 h_10 =>
   bif !b45 then
    R (.bool false) h_10
   else
    bif decide (x4 > 0) then
     ldV h_10 (p1.add 1) fun v53 =>
     vIdx v53 (zw (x4 - 1)) 2 fun p56 =>
     ldI .i64 h_10 p56 fun x57_0 =>
     ldI .i64 h_10 (p56.add 1) fun x57_1 =>
     ldI .i64 h_10 p5 fun x58_0 =>
     ldI .i64 h_10 (p5.add 1) fun x58_1 =>
     zB ZkE #[.agg #[zi x57_0, zi x57_1], .agg #[zi x58_0, zi x58_1]] h_10 fun b59 h_11 =>
     bif !b59 then
      R (.bool false) h_11
     else
      ag1 J_2 n (zw (x4 + 1)) h_11
    else
     ag1 J_2 n (zw (x4 + 1)) h_10
 else
  R (.bool true) h_5) : CallsH P Zkw #[.agg #[v0_0, v0_1]] h R := zv ⟨[(5, [(4, .i .i64)])], [(3, [])]⟩ Tryz.func121 hv
theorem ZrP {p0 : Addr} (hv :
 vNew h (.cells #[.slice none 0 0, .slice none 0 0] Z6) fun p2 h_2 =>
 ldI .i64 h_2 (p0.add 1) fun x9 =>
 zB Z8 #[zi x9, zi 0, zi 64] h_2 fun b10 h_3 =>
 bif !b10 then
  vStore1 h_3 p2 (.slice none 0 0) fun h_4 =>
  vStore1 h_4 (p2.add 1) (.slice none 0 0) fun h_5 =>
  ldV h_5 p2 fun vres0_0 =>
  ldV h_5 (p2.add 1) fun vres0_1 =>
  R (.tuple #[.agg #[vres0_0, vres0_1], .bool false]) h_5
 else
  ldI .i64 h_3 (p0.add 1) fun x16 =>
  vMake 8 [zi 0] Zh x16 x16 h_3 fun v17 h_6 =>
  vOne v17 fun _ =>
  vNew h_6 (.cells #[.slice none 0 0, .slice none 0 0] Z6) fun p4 h_7 =>
  vStore1 h_7 p4 v17 fun h_8 =>
  vStore1 h_8 (p4.add 1) (.slice none 0 0) fun h_9 =>
  lq1 (0 : Int) h_9 fun J n x5 h_10 =>
  ldV h_10 (p0.add 2) fun v23 =>
  vLen v23 fun n24 =>
  bif decide (x5 < (n24 : Int)) then
   ldV h_10 (p0.add 2) fun v31 =>
   vIdx v31 x5 1 fun p33 =>
   ldV h_10 p33 fun v34 =>
   vLen v34 fun n35 =>
   bif (n35 : Int) != 2 then
    vStore1 h_10 p2 (.slice none 0 0) fun h_11 =>
    vStore1 h_11 (p2.add 1) (.slice none 0 0) fun h_12 =>
    ldV h_12 p2 fun vres0_0_2 =>
    ldV h_12 (p2.add 1) fun vres0_1_2 =>
    R (.tuple #[.agg #[vres0_0_2, vres0_1_2], .bool false]) h_12
   else
    ∃ B : Nat → Prop,
    ldV h_10 (p0.add 2) fun v43 =>
    vIdx v43 x5 1 fun p45 =>
    ldV h_10 p45 fun v46 =>
    vIdx v46 0 1 fun p47 =>
    ldI .i64 h_10 p47 fun x48 =>
    ldV h_10 (p0.add 2) fun v52 =>
    vIdx v52 x5 1 fun p54 =>
    ldV h_10 p54 fun v55 =>
    vIdx v55 1 1 fun p56 =>
    ldI .i64 h_10 p56 fun x57 =>
    vNewS h_10 (.cells #[zi x48, zi x57] Zaw) 1 fun v59 h_13 =>
    ExtBut B h_10 h_13 ∧
    ldV (hmask B h_10) (p4.add 1) fun v39 =>
    vAppend 2 16 [zi 0, zi 0] Zaw v39 v59 h_13 fun v60 h_14 =>
    vStore1 h_14 (p4.add 1) v60 fun h_15 =>
    ag1 J n (zw (x5 + 1)) h_15
  else
   ∃ B_2 : Nat → Prop,
   ldV h_10 p4 fun v63_0 =>
   ldV h_10 (p4.add 1) fun v63_1 =>
   zB Zkw #[.agg #[v63_0, v63_1]] h_10 fun b64 h_16 =>
   ExtBut B_2 h_10 h_16 ∧
   ldV (hmask B_2 h_10) p4 fun v62_0 =>
   ldV (hmask B_2 h_10) (p4.add 1) fun v62_1 =>
   vStore1 h_16 p2 v62_0 fun h_17 =>
   vStore1 h_17 (p2.add 1) v62_1 fun h_18 =>
   ldV h_18 p2 fun vres0_0_3 =>
   ldV h_18 (p2.add 1) fun vres0_1_3 =>
   R (.tuple #[.agg #[vres0_0_3, vres0_1_3], .bool b64]) h_18) : CallsH P ZgF #[.pointer (some p0)] h R := zv ⟨[(5, [(5, .i .i64)])], []⟩ Tryz.func66 hv
theorem Zss {v0 : Value} (hv :
 vLen v0 fun n9 =>
 ∃ J : Heap → Prop, (
  bif decide ((n9 : Int) < 1) then
   R (.bool false) h
  else
   bif decide ((n9 : Int) > 10) then
    R (.bool false) h
   else
    J h
 ) ∧ ∀ (_ : Env) (h_2 : Heap), J h_2 →
 lq1 (0 : Int) h_2 fun J_2 n x4 h_3 =>
 bif decide (x4 < (n9 : Int)) then
  vIdx v0 x4 1 fun p23 =>
  ldV h_3 p23 fun v24 =>
  vLen v24 fun n25 =>
  bif (n25 : Int) != (n9 : Int) then
   R (.bool false) h_3
  else
   vIdx v0 x4 1 fun p31 =>
   ldV h_3 p31 fun v32 =>
   zB Zfx #[v32] h_3 fun b33 h_4 =>
   bif !b33 then
    R (.bool false) h_4
   else
    ag1 J_2 n (zw (x4 + 1)) h_4
 else
  lq1 (0 : Int) h_3 fun J_3 n_3 x5 h_5 =>
  bif decide (x5 < (n9 : Int)) then
   vNewS h_5 (.cells #[] Zh) 0 fun v41 h_6 =>
   lq2 v41 (0 : Int) h_6 fun J_4 n_5 v6 x7 h_7 =>
   bif decide (x7 < (n9 : Int)) then
    vIdx v0 x7 1 fun p50 =>
    ldV h_7 p50 fun v51 =>
    vIdx v51 x5 1 fun p53 =>
    ldI .i64 h_7 p53 fun x54 =>
    vNewS h_7 (.cells #[zi x54] Zh) 1 fun v55 h_8 =>
    vAppend 1 8 [zi 0] Zh v6 v55 h_8 fun v56 h_9 =>
    ag2 J_4 n_5 v56 (zw (x7 + 1)) h_9
   else
    zB Zfx #[v6] h_7 fun b58 h_10 =>
    bif !b58 then
     R (.bool false) h_10
    else
     ag1 J_3 n_3 (zw (x5 + 1)) h_10
  else
   R (.bool true) h_5) : CallsH P Zkn #[v0] h R := zv ⟨[(5, [(4, .i .i64)]), (10, [(5, .i .i64)]), (14, [(6, .v), (7, .i .i64)])], [(4, [])]⟩ Tryz.func172 hv
theorem ZwD {v0 : Value} {x1 : Int} {x2 : Int} (hv :
 lq1 (0 : Int) h fun J n x7 h_2 =>
 vLen v0 fun n10 =>
 bif decide (x7 < (n10 : Int)) then
  vIdx v0 x7 1 fun p16 =>
  ldI .i64 h_2 p16 fun x17 =>
  zB Z8 #[zi x17, zi x1, zi x2] h_2 fun b20 h_3 =>
  bif !b20 then
   R (.bool false) h_3
  else
   bif decide (x7 > 0) then
    vIdx v0 (zw (x7 - 1)) 1 fun p29 =>
    ldI .i64 h_3 p29 fun x30 =>
    vIdx v0 x7 1 fun p33 =>
    ldI .i64 h_3 p33 fun x34 =>
    bif decide (x30 ≥ x34) then
     R (.bool false) h_3
    else
     ag1 J n (zw (x7 + 1)) h_3
   else
    ag1 J n (zw (x7 + 1)) h_3
 else
  R (.bool true) h_2) : CallsH P Zkp #[v0, zi x1, zi x2] h R := zv ⟨[(2, [(7, .i .i64)])], []⟩ Tryz.func104 hv
theorem ZuQ {v0 : Value} {x1 : Int} (hv :
 vLen v0 fun n6 =>
 bif decide ((n6 : Int) > 0) then
  zB Zkp #[v0, zi 0, zi (zw (x1 - 1))] h fun b12 h_2 =>
  R (.bool b12) h_2
 else
  R (.bool false) h) : CallsH P Zlg #[v0, zi x1] h R := zv ⟨[], []⟩ Tryz.func221 hv
theorem ZsI {p0 : Addr} (hv :
 ∃ J : Heap → Prop, (
  ldI .i64 h p0 fun x7 =>
  zB Z8 #[zi x7, zi 1, zi 32] h fun b8 h_2 =>
  bif !b8 then
   R (.bool false) h_2
  else
   ldV h_2 (p0.add 1) fun v14 =>
   vLen v14 fun n15 =>
   bif decide ((n15 : Int) > 128) then
    R (.bool false) h_2
   else
    J h_2
 ) ∧ ∀ (_ : Env) (h_3 : Heap), J h_3 →
 lq1 (0 : Int) h_3 fun J_2 n x3 h_4 =>
 ldV h_4 (p0.add 1) fun v22 =>
 vLen v22 fun n23 =>
 bif decide (x3 < (n23 : Int)) then
  ldV h_4 (p0.add 1) fun v30 =>
  vIdx v30 x3 1 fun p32 =>
  ldV h_4 p32 fun v33 =>
  ldI .i64 h_4 p0 fun x37 =>
  zB Zlg #[v33, zi x37] h_4 fun b38 h_5 =>
  bif !b38 then
   R (.bool false) h_5
  else
   bif decide (x3 > 0) then
    ldV h_5 (p0.add 1) fun v47 =>
    vIdx v47 (zw (x3 - 1)) 1 fun p50 =>
    ldV h_5 p50 fun v51 =>
    ldV h_5 (p0.add 1) fun v55 =>
    vIdx v55 x3 1 fun p57 =>
    ldV h_5 p57 fun v58 =>
    zI ZeJ #[v51, v58] h_5 fun x59 h_6 =>
    bif decide (x59 > 0) then
     R (.bool false) h_6
    else
     ag1 J_2 n (zw (x3 + 1)) h_6
   else
    ag1 J_2 n (zw (x3 + 1)) h_5
 else
  R (.bool true) h_4) : CallsH P Zlo #[.pointer (some p0)] h R := zv ⟨[(4, [(3, .i .i64)])], [(3, [])]⟩ Tryz.func173 hv
theorem Zq4 {v0 : Value} {v1 : Value} (hv :
 lq2 (0 : Int) (0 : Int) h fun J n x5 x6 h_2 =>
 vLen v0 fun n9 =>
 bif decide (x6 < (n9 : Int)) then
  vIdx v0 x6 1 fun p16 =>
  ldI .i64 h_2 p16 fun x17 =>
  vIdx v1 x6 1 fun p20 =>
  ldI .i64 h_2 p20 fun x21 =>
  ag2 J n (zw (x5 + (zw (x17 * x21)))) (zw (x6 + 1)) h_2
 else
  R (zi x5) h_2) : CallsH P Zle #[v0, v1] h R := zv ⟨[(3, [(5, .i .i64), (6, .i .i64)])], []⟩ Tryz.func222 hv
theorem Zt4 {v0 : Value} (hv :
 vLen v0 fun n9 =>
 ∃ J : Heap → Prop, (
  bif decide ((n9 : Int) < 1) then
   R (.bool false) h
  else
   bif decide ((n9 : Int) > 32) then
    R (.bool false) h
   else
    J h
 ) ∧ ∀ (_ : Env) (h_2 : Heap), J h_2 →
 lq1 (0 : Int) h_2 fun J_2 n x4 h_3 =>
 bif decide (x4 < (n9 : Int)) then
  vIdx v0 x4 1 fun p23 =>
  ldV h_3 p23 fun v24 =>
  vLen v24 fun n25 =>
  bif (n25 : Int) != (n9 : Int) then
   R (.bool false) h_3
  else
   lq1 (0 : Int) h_3 fun J_3 n_3 x5 h_4 =>
   bif decide (x5 < (n9 : Int)) then
    vIdx v0 x4 1 fun p35 =>
    ldV h_4 p35 fun v36 =>
    vIdx v36 x5 1 fun p38 =>
    ldI .i64 h_4 p38 fun x39 =>
    bif x39 != 1 then
     vIdx v0 x4 1 fun p44 =>
     ldV h_4 p44 fun v45 =>
     vIdx v45 x5 1 fun p47 =>
     ldI .i64 h_4 p47 fun x48 =>
     bif x48 != (-1) then
      R (.bool false) h_4
     else
      ag1 J_3 n_3 (zw (x5 + 1)) h_4
    else
     ag1 J_3 n_3 (zw (x5 + 1)) h_4
   else
    ag1 J_2 n (zw (x4 + 1)) h_4
 else
  lq1 (0 : Int) h_3 fun J_4 n_5 x6 h_5 =>
  bif decide (x6 < (n9 : Int)) then
   lq1 (0 : Int) h_5 fun J_5 n_7 x7 h_6 =>
   bif decide (x7 < x6) then
    vIdx v0 x6 1 fun p63 =>
    ldV h_6 p63 fun v64 =>
    vIdx v0 x7 1 fun p67 =>
    ldV h_6 p67 fun v68 =>
    zI Zle #[v64, v68] h_6 fun x69 h_7 =>
    bif x69 != 0 then
     R (.bool false) h_7
    else
     ag1 J_5 n_7 (zw (x7 + 1)) h_7
   else
    ag1 J_4 n_5 (zw (x6 + 1)) h_6
  else
   R (.bool true) h_5) : CallsH P ZiW #[v0] h R := zv ⟨[(5, [(4, .i .i64)]), (10, [(5, .i .i64)]), (15, [(6, .i .i64)]), (18, [(7, .i .i64)])], [(4, [])]⟩ Tryz.func174 hv
theorem Zpx {p0 : Addr} (hv :
 vNew h (.cells #[zi 0, zi 0, .slice none 0 0] Zb8) fun p2 h_2 =>
 ∃ B : Nat → Prop,
 vNew h_2 (.cells #[zi 0, zi 0, .slice none 0 0] Zb8) fun p3 h_3 =>
 ExtBut B h_2 h_3 ∧
 ldI .i64 (hmask B h_2) (p0.add 1) fun x7 =>
 ldV (hmask B h_2) (p0.add 2) fun v11 =>
 vOne v11 fun _ =>
 vStore1 h_3 p3 (zi x7) fun h_4 =>
 vStore1 h_4 (p3.add 1) (zi 0) fun h_5 =>
 vStore1 h_5 (p3.add 2) v11 fun h_6 =>
 ldV h_6 (p0.add 2) fun v16 =>
 vLen v16 fun n17 =>
 bif decide ((n17 : Int) > 0) then
  ldV h_6 (p0.add 2) fun v22 =>
  vIdx v22 0 1 fun p23 =>
  ldV h_6 p23 fun v24 =>
  vLen v24 fun n25 =>
  vStore1 h_6 (p3.add 1) (zi (n25 : Int)) fun h_7 =>
  ldI .i64 h_7 p3 fun x27_0 =>
  ldI .i64 h_7 (p3.add 1) fun x27_1 =>
  ldV h_7 (p3.add 2) fun v27_2 =>
  vStore1 h_7 p2 (zi x27_0) fun h_8 =>
  vStore1 h_8 (p2.add 1) (zi x27_1) fun h_9 =>
  vStore1 h_9 (p2.add 2) v27_2 fun h_10 =>
  ldI .i64 h_10 p2 fun xres0_0 =>
  ldI .i64 h_10 (p2.add 1) fun xres0_1 =>
  ldV h_10 (p2.add 2) fun vres0_2 =>
  R (.agg #[zi xres0_0, zi xres0_1, vres0_2]) h_10
 else
  ldI .i64 h_6 p3 fun x27_0_2 =>
  ldI .i64 h_6 (p3.add 1) fun x27_1_2 =>
  ldV h_6 (p3.add 2) fun v27_2_2 =>
  vStore1 h_6 p2 (zi x27_0_2) fun h_11 =>
  vStore1 h_11 (p2.add 1) (zi x27_1_2) fun h_12 =>
  vStore1 h_12 (p2.add 2) v27_2_2 fun h_13 =>
  ldI .i64 h_13 p2 fun xres0_0_2 =>
  ldI .i64 h_13 (p2.add 1) fun xres0_1_2 =>
  ldV h_13 (p2.add 2) fun vres0_2_2 =>
  R (.agg #[zi xres0_0_2, zi xres0_1_2, vres0_2_2]) h_13) : CallsH P Zlr #[.pointer (some p0)] h R := zv ⟨[], []⟩ Tryz.func175 hv
theorem ZqV {x0 : Int} {x1 : Int} (hv :
 zB Z8 #[zi x0, zi 2, zi 16] h fun b6 h_2 =>
 bif b6 then
  zB Z8 #[zi x1, zi 1, zi 8] h_2 fun b9 h_3 =>
  R (.bool b9) h_3
 else
  R (.bool false) h_2) : CallsH P Zk6 #[zi x0, zi x1] h R := zv ⟨[], []⟩ Tryz.func223 hv
theorem ZrJ {p0 : Addr} (hv :
 ∃ J : Heap → Prop, (
  ldI .i64 h p0 fun x8 =>
  ldI .i64 h (p0.add 1) fun x12 =>
  zB Zk6 #[zi x8, zi x12] h fun b13 h_2 =>
  bif !b13 then
   R (.bool false) h_2
  else
   ldV h_2 (p0.add 2) fun v19 =>
   vLen v19 fun n20 =>
   bif decide ((n20 : Int) > 256) then
    R (.bool false) h_2
   else
    J h_2
 ) ∧ ∀ (_ : Env) (h_3 : Heap), J h_3 →
 lq1 (0 : Int) h_3 fun J_2 n x3 h_4 =>
 ldV h_4 (p0.add 2) fun v27 =>
 vLen v27 fun n28 =>
 bif decide (x3 < (n28 : Int)) then
  ldV h_4 (p0.add 2) fun v35 =>
  vIdx v35 x3 1 fun p37 =>
  ldV h_4 p37 fun v38 =>
  vLen v38 fun n39 =>
  ldI .i64 h_4 (p0.add 1) fun x43 =>
  bif (n39 : Int) != x43 then
   R (.bool false) h_4
  else
   lq1 (0 : Int) h_4 fun J_3 n_3 x4 h_5 =>
   ldV h_5 (p0.add 2) fun v49 =>
   vIdx v49 x3 1 fun p51 =>
   ldV h_5 p51 fun v52 =>
   vLen v52 fun n53 =>
   bif decide (x4 < (n53 : Int)) then
    ldV h_5 (p0.add 2) fun v60 =>
    vIdx v60 x3 1 fun p62 =>
    ldV h_5 p62 fun v63 =>
    vIdx v63 x4 1 fun p65 =>
    ldI .i64 h_5 p65 fun x66 =>
    ldI .i64 h_5 p0 fun x70 =>
    zB Z8 #[zi x66, zi 0, zi (zw (x70 - 1))] h_5 fun b72 h_6 =>
    bif !b72 then
     R (.bool false) h_6
    else
     ag1 J_3 n_3 (zw (x4 + 1)) h_6
   else
    ag1 J_2 n (zw (x3 + 1)) h_5
 else
  R (.bool true) h_4) : CallsH P Zlc #[.pointer (some p0)] h R := zv ⟨[(4, [(3, .i .i64)]), (9, [(4, .i .i64)])], [(3, [])]⟩ Tryz.func176 hv
theorem Zr9 {x0 : Int} (hv :
 zB Z8 #[zi x0, zi 2, zi 64] h fun b8 h_2 =>
 bif !b8 then
  R (.tuple #[zi 0, zi 0]) h_2
 else
  lq1 (2 : Int) h_2 fun J n x4 h_3 =>
  x4 ≠ 0 ∧
  bif (Int.tmod x0 x4 : Int) != 0 then
   ag1 J n (zw (x4 + 1)) h_3
  else
   lq2 (0 : Int) x0 h_3 fun J_2 n_3 x5 x6 h_4 =>
   bif decide (x6 > 1) then
    x4 ≠ 0 ∧
    bif (Int.tmod x6 x4 : Int) != 0 then
     R (.tuple #[zi 0, zi 0]) h_4
    else
     x4 ≠ 0 ∧
     ag2 J_2 n_3 (zw (x5 + 1)) (zw (Int.tdiv x6 x4)) h_4
   else
    R (.tuple #[zi x4, zi x5]) h_4) : CallsH P ZeI #[zi x0] h R := zv ⟨[(4, [(4, .i .i64)]), (8, [(5, .i .i64), (6, .i .i64)])], []⟩ Tryz.func224 hv
theorem Zqq {x0 : Int} {x1 : Int} {x2 : Int} (hv :
 vNewS h (.cells #[] Zh) 0 fun v8 h_2 =>
 lq3 x0 x2 v8 h_2 fun J n x0_2 x2_2 v7 h_3 =>
 bif decide (x2_2 > 0) then
  x1 ≠ 0 ∧
  vNewS h_3 (.cells #[zi (Int.tmod x0_2 x1)] Zh) 1 fun v17 h_4 =>
  vAppend 1 8 [zi 0] Zh v7 v17 h_4 fun v18 h_5 =>
  x1 ≠ 0 ∧
  ag3 J n (zw (Int.tdiv x0_2 x1)) (zw (x2_2 - 1)) v18 h_5
 else
  R v7 h_3) : CallsH P ZbV #[zi x0, zi x1, zi x2] h R := zv ⟨[(2, [(0, .i .i64), (2, .i .i64), (7, .v)])], []⟩ Tryz.func260 hv
theorem ZqX {x0 : Int} {x1 : Int} (hv :
 lq2 x1 (1 : Int) h fun J n x1_2 x5 h_2 =>
 bif decide (x1_2 > 0) then
  ag2 J n (zw (x1_2 - 1)) (zw (x5 * x0)) h_2
 else
  R (zi x5) h_2) : CallsH P Zf3 #[zi x0, zi x1] h R := zv ⟨[(2, [(1, .i .i64), (5, .i .i64)])], []⟩ Tryz.func264 hv
theorem ZqB {v0 : Value} {v1 : Value} {x2 : Int} (hv :
 zV ZfC #[v0] h fun v14 h_2 =>
 vLen v1 fun n16 =>
 vLen v14 fun n18 =>
 lq1 (zw ((n18 : Int) - 1)) h_2 fun J n x9 h_3 =>
 bif decide (x9 ≥ (zw ((n16 : Int) - 1))) then
  vIdx v14 x9 1 fun p28 =>
  ldI .i64 h_3 p28 fun x29 =>
  lq1 (0 : Int) h_3 fun J_2 n_3 x11 h_4 =>
  bif decide (x11 < (n16 : Int)) then
   vIdx v14 (zw ((zw ((zw (x9 - (n16 : Int))) + 1)) + x11)) 1 fun p45 =>
   ldI .i64 h_4 p45 fun x46 =>
   vIdx v1 x11 1 fun p52 =>
   ldI .i64 h_4 p52 fun x53 =>
   x2 ≠ 0 ∧
   vIdx v14 (zw ((zw ((zw (x9 - (n16 : Int))) + 1)) + x11)) 1 fun p58 =>
   vStore1 h_4 p58 (zi (Int.tmod (zw (x46 + (zw ((zw (x2 - x29)) * x53)))) x2)) fun h_5 =>
   ag1 J_2 n_3 (zw (x11 + 1)) h_5
  else
   ag1 J n (zw (x9 - 1)) h_4
 else
  lq1 v14 h_3 fun J_3 n_5 v7 h_6 =>
  vLen v7 fun n60 =>
  bif decide ((n60 : Int) ≥ (n16 : Int)) then
   vLen v7 fun n65 =>
   vSliceS v7 1 none (some (zi (zw ((n65 : Int) - 1)))) none fun v67 =>
   ag1 J_3 n_5 v67 h_6
  else
   R v7 h_6) : CallsH P Zgx #[v0, v1, zi x2] h R := zv ⟨[(4, [(9, .i .i64)]), (8, [(11, .i .i64)]), (12, [(7, .v)])], []⟩ Tryz.func292 hv
theorem ZuR {v0 : Value} {x1 : Int} (hv :
 vLen v0 fun n8 =>
 lq2 (0 : Int) (zw ((n8 : Int) - 1)) h fun J n x5 x6 h_2 =>
 bif decide (x6 ≥ 0) then
  vIdx v0 x6 1 fun p19 =>
  ldI .i64 h_2 p19 fun x20 =>
  ag2 J n (zw ((zw (x5 * x1)) + x20)) (zw (x6 - 1)) h_2
 else
  R (zi x5) h_2) : CallsH P Ze6 #[v0, zi x1] h R := zv ⟨[(3, [(5, .i .i64), (6, .i .i64)])], []⟩ Tryz.func293 hv
theorem Zrp {v0 : Value} {x1 : Int} (hv :
 vLen v0 fun n11 =>
 lq1 (1 : Int) h fun J n x6 h_2 =>
 bif decide ((zw (2 * x6) : Int) ≤ (zw ((n11 : Int) - 1))) then
  lq1 (0 : Int) h_2 fun J_2 n_3 x7 h_3 =>
  zI Zf3 #[zi x1, zi x6] h_3 fun x22 h_4 =>
  bif decide (x7 < x22) then
   zV ZbV #[zi x7, zi x1, zi x6] h_4 fun v29 h_5 =>
   vNewS h_5 (.cells #[zi 1] Zh) 1 fun v30 h_6 =>
   vAppend 1 8 [zi 0] Zh v29 v30 h_6 fun v31 h_7 =>
   zV Zgx #[v0, v31, zi x1] h_7 fun v35 h_8 =>
   zI Ze6 #[v35, zi x1] h_8 fun x38 h_9 =>
   bif x38 == 0 then
    R (.bool false) h_9
   else
    ag1 J_2 n_3 (zw (x7 + 1)) h_9
  else
   ag1 J n (zw (x6 + 1)) h_4
 else
  R (.bool true) h_2) : CallsH P Zhx #[v0, zi x1] h R := zv ⟨[(3, [(6, .i .i64)]), (6, [(7, .i .i64)])], []⟩ Tryz.func261 hv
theorem ZsG {x0 : Int} (hv :
 vNew h (.cells #[zi 0, zi 0, .slice none 0 0] Zbb) fun p2 h_2 =>
 CallsH P ZeI #[zi x0] h_2 fun r9 h_3 => ∃ x9_0, ∃ x9_1, r9 = .tuple #[zi x9_0, zi x9_1] ∧
 lq1 (0 : Int) h_3 fun J n x5 h_4 =>
 zV ZbV #[zi x5, zi x9_0, zi x9_1] h_4 fun v17 h_5 =>
 vNewS h_5 (.cells #[zi 1] Zh) 1 fun v18 h_6 =>
 vAppend 1 8 [zi 0] Zh v17 v18 h_6 fun v19 h_7 =>
 zB Zhx #[v19, zi x9_0] h_7 fun b22 h_8 =>
 bif b22 then
  vOne v19 fun _ =>
  vStore1 h_8 p2 (zi x9_0) fun h_9 =>
  vStore1 h_9 (p2.add 1) (zi x9_1) fun h_10 =>
  vStore1 h_10 (p2.add 2) v19 fun h_11 =>
  ldI .i64 h_11 p2 fun xres0_0 =>
  ldI .i64 h_11 (p2.add 1) fun xres0_1 =>
  ldV h_11 (p2.add 2) fun vres0_2 =>
  R (.agg #[zi xres0_0, zi xres0_1, vres0_2]) h_11
 else
  ag1 J n (zw (x5 + 1)) h_8) : CallsH P ZiF #[zi x0] h R := zv ⟨[(4, [(5, .i .i64)])], []⟩ Tryz.func225 hv
theorem Zs1 {p0 : Addr} (hv :
 vNew h (.cells #[zi 0, zi 0, .slice none 0 0, .slice none 0 0] ZhM) fun p2 h_2 =>
 ldI .i64 h_2 (p0.add 1) fun x9 =>
 CallsH P ZeI #[zi x9] h_2 fun r10 h_3 => ∃ x10_0, ∃ x10_1, r10 = .tuple #[zi x10_0, zi x10_1] ∧
 bif x10_0 == 0 then
  vStore1 h_3 p2 (zi 0) fun h_4 =>
  vStore1 h_4 (p2.add 1) (zi 0) fun h_5 =>
  vStore1 h_5 (p2.add 2) (.slice none 0 0) fun h_6 =>
  vStore1 h_6 (p2.add 3) (.slice none 0 0) fun h_7 =>
  ldI .i64 h_7 p2 fun xres0_0 =>
  ldI .i64 h_7 (p2.add 1) fun xres0_1 =>
  ldV h_7 (p2.add 2) fun vres0_2 =>
  ldV h_7 (p2.add 3) fun vres0_3 =>
  R (.agg #[zi xres0_0, zi xres0_1, vres0_2, vres0_3]) h_7
 else
  ∃ B : Nat → Prop,
  ldI .i64 h_3 (p0.add 1) fun x19 =>
  CallsH P ZiF #[zi x19] h_3 fun r20 h_8 => ∃ x20_0_0, ∃ x20_0_1, ∃ (v20_0_2 : Value), r20 = .agg #[zi x20_0_0, zi x20_0_1, v20_0_2] ∧
  ExtBut B h_3 h_8 ∧
  ldV (hmask B h_3) (p0.add 2) fun v24 =>
  vOne v24 fun _ =>
  vStore1 h_8 p2 (zi x20_0_0) fun h_9 =>
  vStore1 h_9 (p2.add 1) (zi x20_0_1) fun h_10 =>
  vStore1 h_10 (p2.add 2) v20_0_2 fun h_11 =>
  vStore1 h_11 (p2.add 3) v24 fun h_12 =>
  ldI .i64 h_12 p2 fun xres0_0_2 =>
  ldI .i64 h_12 (p2.add 1) fun xres0_1_2 =>
  ldV h_12 (p2.add 2) fun vres0_2_2 =>
  ldV h_12 (p2.add 3) fun vres0_3_2 =>
  R (.agg #[zi xres0_0_2, zi xres0_1_2, vres0_2_2, vres0_3_2]) h_12) : CallsH P Zje #[.pointer (some p0)] h R := zv ⟨[], []⟩ Tryz.func177 hv
theorem ZqY {p0 : Addr} (hv :
 ∃ J : Heap → Prop, (
  ldI .i64 h p0 fun x10 =>
  zB Z8 #[zi x10, zi 2, zi 64] h fun b11 h_2 =>
  bif !b11 then
   R (.bool false) h_2
  else
   ldI .i64 h_2 (p0.add 1) fun x17 =>
   zB Z8 #[zi x17, zi 1, zi 6] h_2 fun b18 h_3 =>
   bif !b18 then
    R (.bool false) h_3
   else
    ldV h_3 (p0.add 2) fun v25 =>
    vLen v25 fun n26 =>
    ldI .i64 h_3 (p0.add 1) fun x30 =>
    bif (n26 : Int) != (zw (x30 + 1)) then
     R (.bool false) h_3
    else
     ldV h_3 (p0.add 2) fun v38 =>
     ldI .i64 h_3 (p0.add 1) fun x42 =>
     vIdx v38 x42 1 fun p43 =>
     ldI .i64 h_3 p43 fun x44 =>
     bif x44 != 1 then
      R (.bool false) h_3
     else
      J h_3
 ) ∧ ∀ (_ : Env) (h_4 : Heap), J h_4 →
 ldI .i64 h_4 p0 fun x50 =>
 ldI .i64 h_4 (p0.add 1) fun x54 =>
 zI Zf3 #[zi x50, zi x54] h_4 fun x55 h_5 =>
 CallsH P ZeI #[zi x55] h_5 fun r58 h_6 => ∃ x58_0, ∃ x58_1, r58 = .tuple #[zi x58_0, zi x58_1] ∧
 ldI .i64 h_6 p0 fun x65 =>
 bif x58_0 != x65 then
  R (.bool false) h_6
 else
  lq1 (0 : Int) h_6 fun J_2 n x6 h_7 =>
  ldV h_7 (p0.add 2) fun v71 =>
  vLen v71 fun n72 =>
  bif decide (x6 < (n72 : Int)) then
   ldV h_7 (p0.add 2) fun v79 =>
   vIdx v79 x6 1 fun p81 =>
   ldI .i64 h_7 p81 fun x82 =>
   zB Z8 #[zi x82, zi 0, zi (zw (x58_0 - 1))] h_7 fun b85 h_8 =>
   bif !b85 then
    R (.bool false) h_8
   else
    ag1 J_2 n (zw (x6 + 1)) h_8
  else
   ldV h_7 (p0.add 2) fun v90 =>
   zB Zhx #[v90, zi x58_0] h_7 fun b92 h_9 =>
   R (.bool b92) h_9) : CallsH P Zkz #[.pointer (some p0)] h R := zv ⟨[(8, [(6, .i .i64)])], [(3, [])]⟩ Tryz.func262 hv
theorem Zv9 {p0 : Addr} (hv :
 ldI .i64 h p0 fun x6 =>
 ldI .i64 h (p0.add 1) fun x10 =>
 zI Zf3 #[zi x6, zi x10] h fun x11 h_2 =>
 R (zi x11) h_2) : CallsH P Zhc #[.pointer (some p0)] h R := zv ⟨[], []⟩ Tryz.func228 hv
theorem ZuB {p0 : Addr} {v1 : Value} (hv :
 zI Zhc #[.pointer (some p0)] h fun x8 h_2 =>
 lq1 (0 : Int) h_2 fun J n x6 h_3 =>
 vLen v1 fun n11 =>
 bif decide (x6 < (n11 : Int)) then
  vIdx v1 x6 1 fun p17 =>
  ldI .i64 h_3 p17 fun x18 =>
  zB Z8 #[zi x18, zi 0, zi (zw (x8 - 1))] h_3 fun b21 h_4 =>
  bif !b21 then
   R (.bool false) h_4
  else
   ag1 J n (zw (x6 + 1)) h_4
 else
  R (.bool true) h_3) : CallsH P ZiP #[.pointer (some p0), v1] h R := zv ⟨[(3, [(6, .i .i64)])], []⟩ Tryz.func263 hv
theorem ZuT {p0 : Addr} {v1 : Value} (hv :
 ∃ J : Heap → Prop, (
  zB Zkz #[.pointer (some p0)] h fun b7 h_2 =>
  bif !b7 then
   R (.bool false) h_2
  else
   vLen v1 fun n11 =>
   bif (n11 : Int) == 0 then
    R (.bool false) h_2
   else
    vLen v1 fun n16 =>
    bif decide ((n16 : Int) > 32) then
     R (.bool false) h_2
    else
     vIdx v1 0 1 fun p21 =>
     ldV h_2 p21 fun v22 =>
     vLen v22 fun n23 =>
     bif (n23 : Int) == 0 then
      R (.bool false) h_2
     else
      vIdx v1 0 1 fun p28 =>
      ldV h_2 p28 fun v29 =>
      vLen v29 fun n30 =>
      bif decide ((n30 : Int) > 32) then
       R (.bool false) h_2
      else
       J h_2
 ) ∧ ∀ (_ : Env) (h_3 : Heap), J h_3 →
 lq1 (0 : Int) h_3 fun J_2 n x5 h_4 =>
 vLen v1 fun n35 =>
 bif decide (x5 < (n35 : Int)) then
  vIdx v1 x5 1 fun p41 =>
  ldV h_4 p41 fun v42 =>
  vLen v42 fun n43 =>
  vIdx v1 0 1 fun p45 =>
  ldV h_4 p45 fun v46 =>
  vLen v46 fun n47 =>
  bif (n43 : Int) != (n47 : Int) then
   R (.bool false) h_4
  else
   vIdx v1 x5 1 fun p53 =>
   ldV h_4 p53 fun v54 =>
   zB ZiP #[.pointer (some p0), v54] h_4 fun b55 h_5 =>
   bif !b55 then
    R (.bool false) h_5
   else
    ag1 J_2 n (zw (x5 + 1)) h_5
 else
  R (.bool true) h_4) : CallsH P Zlt #[.pointer (some p0), v1] h R := zv ⟨[(4, [(5, .i .i64)])], [(3, [])]⟩ Tryz.func226 hv
theorem Zsx {x0 : Int} {x1 : Int} (hv :
 lq2 x1 (1 : Int) h fun J n x1_2 x5 h_2 =>
 bif decide (x1_2 > 0) then
  bif decide ((zw (x5 * x0) : Int) > 4096) then
   R (zi 0) h_2
  else
   ag2 J n (zw (x1_2 - 1)) (zw (x5 * x0)) h_2
 else
  R (zi x5) h_2) : CallsH P Zj2 #[zi x0, zi x1] h R := zv ⟨[(2, [(1, .i .i64), (5, .i .i64)])], []⟩ Tryz.func227 hv
theorem Zr3 {v0 : Value} (hv :
 vNewS h (.cells #[] Zf) 0 fun v5 h_2 =>
 lq2 v5 (0 : Int) h_2 fun J n v3 x4 h_3 =>
 vLen v0 fun n8 =>
 bif decide (x4 < (n8 : Int)) then
  vIdx v0 x4 1 fun p15 =>
  ldV h_3 p15 fun v16 =>
  zV ZfC #[v16] h_3 fun v17 h_4 =>
  vOne v17 fun _ =>
  vNewS h_4 (.cells #[v17] Zf) 1 fun v18 h_5 =>
  vAppend 1 24 [.slice none 0 0] Zf v3 v18 h_5 fun v19 h_6 =>
  ag2 J n v19 (zw (x4 + 1)) h_6
 else
  R v3 h_3) : CallsH P ZiY #[v0] h R := zv ⟨[(3, [(3, .v), (4, .i .i64)])], []⟩ Tryz.func134 hv
theorem Zvn {p0 : Addr} {x1 : Int} {x2 : Int} (hv :
 ldI .i64 h p0 fun x16 =>
 ldI .i64 h (p0.add 1) fun x20 =>
 zV ZbV #[zi x1, zi x16, zi x20] h fun v21 h_2 =>
 ldI .i64 h_2 p0 fun x26 =>
 ldI .i64 h_2 (p0.add 1) fun x30 =>
 zV ZbV #[zi x2, zi x26, zi x30] h_2 fun v31 h_3 =>
 ldI .i64 h_3 (p0.add 1) fun x35 =>
 vMake 8 [zi 0] Zh (zw ((zw (2 * x35)) - 1)) (zw ((zw (2 * x35)) - 1)) h_3 fun v38 h_4 =>
 lq1 (0 : Int) h_4 fun J n x10 h_5 =>
 vLen v21 fun n41 =>
 bif decide (x10 < (n41 : Int)) then
  lq1 (0 : Int) h_5 fun J_2 n_3 x11 h_6 =>
  vLen v31 fun n47 =>
  bif decide (x11 < (n47 : Int)) then
   vIdx v38 (zw (x10 + x11)) 1 fun p59 =>
   ldI .i64 h_6 p59 fun x60 =>
   vIdx v21 x10 1 fun p63 =>
   ldI .i64 h_6 p63 fun x64 =>
   vIdx v31 x11 1 fun p67 =>
   ldI .i64 h_6 p67 fun x68 =>
   ldI .i64 h_6 p0 fun x74 =>
   x74 ≠ 0 ∧
   vIdx v38 (zw (x10 + x11)) 1 fun p76 =>
   vStore1 h_6 p76 (zi (Int.tmod (zw (x60 + (zw (x64 * x68)))) x74)) fun h_7 =>
   ag1 J_2 n_3 (zw (x11 + 1)) h_7
  else
   ag1 J n (zw (x10 + 1)) h_6
 else
  ∃ B : Nat → Prop,
  ldV h_5 (p0.add 2) fun v81 =>
  ldI .i64 h_5 p0 fun x85 =>
  zV Zgx #[v38, v81, zi x85] h_5 fun v86 h_8 =>
  ExtBut B h_5 h_8 ∧
  ldI .i64 (hmask B h_5) p0 fun x90 =>
  zI Ze6 #[v86, zi x90] h_8 fun x91 h_9 =>
  R (zi x91) h_9) : CallsH P ZeM #[.pointer (some p0), zi x1, zi x2] h R := zv ⟨[(5, [(10, .i .i64)]), (8, [(11, .i .i64)])], []⟩ Tryz.func306 hv
theorem Zv1 {p0 : Addr} {v1 : Value} {x2 : Int} (hv :
 vNewS h (.cells #[] Zh) 0 fun v9 h_2 =>
 lq2 v9 (0 : Int) h_2 fun J n v7 x8 h_3 =>
 vLen v1 fun n12 =>
 bif decide (x8 < (n12 : Int)) then
  vIdx v1 x8 1 fun p20 =>
  ldI .i64 h_3 p20 fun x21 =>
  zI ZeM #[.pointer (some p0), zi x21, zi x2] h_3 fun x23 h_4 =>
  vNewS h_4 (.cells #[zi x23] Zh) 1 fun v24 h_5 =>
  vAppend 1 8 [zi 0] Zh v7 v24 h_5 fun v25 h_6 =>
  ag2 J n v25 (zw (x8 + 1)) h_6
 else
  R v7 h_3) : CallsH P Zi0 #[.pointer (some p0), v1, zi x2] h R := zv ⟨[(3, [(7, .v), (8, .i .i64)])], []⟩ Tryz.func294 hv
theorem ZwK {p0 : Addr} {x1 : Int} (hv :
 lq1 (1 : Int) h fun J n x5 h_2 =>
 zI ZeM #[.pointer (some p0), zi x1, zi x5] h_2 fun x9 h_3 =>
 bif x9 != 1 then
  ag1 J n (zw (x5 + 1)) h_3
 else
  R (zi x5) h_3) : CallsH P Zlw #[.pointer (some p0), zi x1] h R := zv ⟨[(2, [(5, .i .i64)])], []⟩ Tryz.func295 hv
theorem Zrg {p0 : Addr} {x1 : Int} {x2 : Int} {x3 : Int} (hv :
 ldI .i64 h p0 fun x16 =>
 ldI .i64 h (p0.add 1) fun x20 =>
 zV ZbV #[zi x1, zi x16, zi x20] h fun v21 h_2 =>
 ldI .i64 h_2 p0 fun x26 =>
 ldI .i64 h_2 (p0.add 1) fun x30 =>
 zV ZbV #[zi x2, zi x26, zi x30] h_2 fun v31 h_3 =>
 lq1 (0 : Int) h_3 fun J n x11 h_4 =>
 vLen v21 fun n34 =>
 bif decide (x11 < (n34 : Int)) then
  vIdx v21 x11 1 fun p42 =>
  ldI .i64 h_4 p42 fun x43 =>
  vIdx v31 x11 1 fun p47 =>
  ldI .i64 h_4 p47 fun x48 =>
  ldI .i64 h_4 p0 fun x54 =>
  x54 ≠ 0 ∧
  vIdx v21 x11 1 fun p56 =>
  vStore1 h_4 p56 (zi (Int.tmod (zw (x43 + (zw (x3 * x48)))) x54)) fun h_5 =>
  ag1 J n (zw (x11 + 1)) h_5
 else
  ldI .i64 h_4 p0 fun x61 =>
  zI Ze6 #[v21, zi x61] h_4 fun x62 h_6 =>
  R (zi x62) h_6) : CallsH P ZiO #[.pointer (some p0), zi x1, zi x2, zi x3] h R := zv ⟨[(4, [(11, .i .i64)])], []⟩ Tryz.func307 hv
theorem ZrI {p0 : Addr} {v1 : Value} {v2 : Value} {x3 : Int} (hv :
 vNewS h (.cells #[] Zh) 0 fun v11 h_2 =>
 lq2 v11 (0 : Int) h_2 fun J n v9 x10 h_3 =>
 vLen v1 fun n14 =>
 bif decide (x10 < (n14 : Int)) then
  ∃ B : Nat → Prop,
  vIdx v2 x10 1 fun p27 =>
  ldI .i64 h_3 p27 fun x28 =>
  zI ZeM #[.pointer (some p0), zi x28, zi x3] h_3 fun x30 h_4 =>
  ExtBut B h_3 h_4 ∧
  vIdx v1 x10 1 fun p22 =>
  ldI .i64 (hmask B h_3) p22 fun x23 =>
  ldI .i64 (hmask B h_3) p0 fun x34 =>
  zI ZiO #[.pointer (some p0), zi x23, zi x30, zi (zw (x34 - 1))] h_4 fun x36 h_5 =>
  vNewS h_5 (.cells #[zi x36] Zh) 1 fun v37 h_6 =>
  vAppend 1 8 [zi 0] Zh v9 v37 h_6 fun v38 h_7 =>
  ag2 J n v38 (zw (x10 + 1)) h_7
 else
  R v9 h_3) : CallsH P Zjy #[.pointer (some p0), v1, v2, zi x3] h R := zv ⟨[(3, [(9, .v), (10, .i .i64)])], []⟩ Tryz.func296 hv
theorem Zrk {p0 : Addr} {v1 : Value} {x2 : Int} (hv :
 zV ZiY #[v1] h fun v16 h_2 =>
 vNewS h_2 (.cells #[] Zh) 0 fun v17 h_3 =>
 lq2 v17 (0 : Int) h_3 fun J n v9 x10 h_4 =>
 ∃ J_2 : Heap → Prop, (
  bif decide (x10 < x2) then
   vLen v9 fun n23 =>
   vLen v16 fun n25 =>
   bif decide ((n23 : Int) < (n25 : Int)) then
    J_2 h_4
   else
    R (.tuple #[v16, v9]) h_4
  else
   R (.tuple #[v16, v9]) h_4
 ) ∧ ∀ (_ : Env) (h_5 : Heap), J_2 h_5 →
 vLen v9 fun n31 =>
 ∃ J_3 : Int → Heap → Prop, (
  lq1 (n31 : Int) h_5 fun J_4 n_3 x12 h_6 =>
  vLen v16 fun n35 =>
  bif decide (x12 < (n35 : Int)) then
   vIdx v16 x12 1 fun p40 =>
   ldV h_6 p40 fun v41 =>
   vIdx v41 x10 1 fun p43 =>
   ldI .i64 h_6 p43 fun x44 =>
   bif x44 == 0 then
    ag1 J_4 n_3 (zw (x12 + 1)) h_6
   else
    J_3 x12 h_6
  else
   J_3 x12 h_6
 ) ∧ ∀ (_ : Env) x12_2 (h_7 : Heap), J_3 x12_2 h_7 →
 vLen v16 fun n51 =>
 bif x12_2 == (n51 : Int) then
  ag2 J n v9 (zw (x10 + 1)) h_7
 else
  ∃ B : Nat → Prop,
  vIdx v16 x12_2 1 fun p61 =>
  ldV h_7 p61 fun v62 =>
  vIdx v62 x10 1 fun p64 =>
  ldI .i64 h_7 p64 fun x65 =>
  zI Zlw #[.pointer (some p0), zi x65] h_7 fun x66 h_8 =>
  ExtBut B h_7 h_8 ∧
  vIdx v16 x12_2 1 fun p56 =>
  ldV (hmask B h_7) p56 fun v57 =>
  zV Zi0 #[.pointer (some p0), v57, zi x66] h_8 fun v67 h_9 =>
  vIdx v16 (n31 : Int) 1 fun p72 =>
  ldV h_9 p72 fun v73 =>
  vIdx v16 x12_2 1 fun p74 =>
  vStore1 h_9 p74 v73 fun h_10 =>
  vIdx v16 (n31 : Int) 1 fun p78 =>
  vStore1 h_10 p78 v67 fun h_11 =>
  lq1 (0 : Int) h_11 fun J_5 n_5 x14 h_12 =>
  vLen v16 fun n81 =>
  bif decide (x14 < (n81 : Int)) then
   bif x14 != (n31 : Int) then
    vIdx v16 x14 1 fun p93 =>
    ldV h_12 p93 fun v94 =>
    vIdx v16 x14 1 fun p98 =>
    ldV h_12 p98 fun v99 =>
    vIdx v99 x10 1 fun p101 =>
    ldI .i64 h_12 p101 fun x102 =>
    zV Zjy #[.pointer (some p0), v94, v67, zi x102] h_12 fun v103 h_13 =>
    vIdx v16 x14 1 fun p104 =>
    vStore1 h_13 p104 v103 fun h_14 =>
    ag1 J_5 n_5 (zw (x14 + 1)) h_14
   else
    ag1 J_5 n_5 (zw (x14 + 1)) h_12
  else
   vNewS h_12 (.cells #[zi x10] Zh) 1 fun v107 h_15 =>
   vAppend 1 8 [zi 0] Zh v9 v107 h_15 fun v108 h_16 =>
   ag2 J n v108 (zw (x10 + 1)) h_16) : CallsH P Zit #[.pointer (some p0), v1, zi x2] h R := zv ⟨[(4, [(9, .v), (10, .i .i64)]), (8, [(12, .i .i64)]), (15, [(14, .i .i64)])], [(6, []), (10, [(12, .i .i64)])]⟩ Tryz.func265 hv
theorem Ztk {p0 : Addr} {v1 : Value} (hv :
 vIdx v1 0 1 fun p11 =>
 ldV h p11 fun v12 =>
 vLen v12 fun n13 =>
 CallsH P Zit #[.pointer (some p0), v1, zi (n13 : Int)] h fun r14 h_2 => ∃ (v14_0 : Value), ∃ (v14_1 : Value), r14 = .tuple #[v14_0, v14_1] ∧
 vLen v14_1 fun n19 =>
 vSliceS v14_0 1 none (some (zi (n19 : Int))) none fun v20 =>
 R v20 h_2) : CallsH P Zia #[.pointer (some p0), v1] h R := zv ⟨[], []⟩ Tryz.func229 hv
theorem ZvH {p0 : Addr} (hv :
 ∃ J : Heap → Prop, (
  ldV h (p0.add 3) fun v9 =>
  zB Zlt #[.pointer (some p0), v9] h fun b10 h_2 =>
  bif !b10 then
   R (.bool false) h_2
  else
   ldV h_2 (p0.add 3) fun v16 =>
   vIdx v16 0 1 fun p17 =>
   ldV h_2 p17 fun v18 =>
   vLen v18 fun n19 =>
   bif decide ((n19 : Int) > 32) then
    R (.bool false) h_2
   else
    ldV h_2 (p0.add 3) fun v26 =>
    vLen v26 fun n27 =>
    bif decide ((n27 : Int) > 8) then
     R (.bool false) h_2
    else
     J h_2
 ) ∧ ∀ (_ : Env) (h_3 : Heap), J h_3 →
 ∃ B : Nat → Prop,
 zI Zhc #[.pointer (some p0)] h_3 fun x33 h_4 =>
 ExtBut B h_3 h_4 ∧
 ldV (hmask B h_3) (p0.add 3) fun v37 =>
 vLen v37 fun n38 =>
 zI Zj2 #[zi x33, zi (n38 : Int)] h_4 fun x39 h_5 =>
 bif x39 == 0 then
  R (.bool false) h_5
 else
  ∃ B_2 : Nat → Prop,
  ldV h_5 (p0.add 3) fun v47 =>
  zV Zia #[.pointer (some p0), v47] h_5 fun v48 h_6 =>
  ExtBut B_2 h_5 h_6 ∧
  ldV (hmask B_2 h_5) (p0.add 3) fun v52 =>
  zB ZgC #[v48, v52] h_6 fun b53 h_7 =>
  R (.bool b53) h_7) : CallsH P ZlI #[.pointer (some p0)] h R := zv ⟨[], [(3, [])]⟩ Tryz.func178 hv
theorem Zvz {p0 : Addr} (hv :
 ldI .i64 h p0 fun x10 =>
 bif x10 == 1 then
  ldV h (p0.add 2) fun v16 =>
  zB Zkn #[v16] h fun b17 h_2 =>
  bif b17 then
   ldV h_2 (p0.add 2) fun v22 =>
   vLen v22 fun n23 =>
   ldI .i64 h_2 (p0.add 1) fun x27 =>
   R (.bool ((n23 : Int) == x27)) h_2
  else
   R (.bool false) h_2
 else
  bif x10 == 2 then
   ldI .i64 h (p0.add 1) fun x35 =>
   ldV h (p0.add 2) fun v39 =>
   vOne v39 fun _ =>
   vNew h (.cells #[zi x35, v39] Zij) fun p41 h_3 =>
   zB Zlo #[.pointer (some p41)] h_3 fun b42 h_4 =>
   R (.bool b42) h_4
  else
   bif x10 == 3 then
    ldV h (p0.add 2) fun v48 =>
    zB ZiW #[v48] h fun b49 h_5 =>
    bif b49 then
     ldV h_5 (p0.add 2) fun v54 =>
     vLen v54 fun n55 =>
     ldI .i64 h_5 (p0.add 1) fun x59 =>
     R (.bool ((n55 : Int) == x59)) h_5
    else
     R (.bool false) h_5
   else
    bif x10 == 4 then
     CallsH P Zlr #[.pointer (some p0)] h fun r65 h_6 => ∃ x65_0_0, ∃ x65_0_1, ∃ (v65_0_2 : Value), r65 = .agg #[zi x65_0_0, zi x65_0_1, v65_0_2] ∧
     vNew h_6 (.cells #[zi 0, zi 0, .slice none 0 0] Zb8) fun p3 h_7 =>
     vStore1 h_7 p3 (zi x65_0_0) fun h_8 =>
     vStore1 h_8 (p3.add 1) (zi x65_0_1) fun h_9 =>
     vStore1 h_9 (p3.add 2) v65_0_2 fun h_10 =>
     ldV h_10 (p0.add 2) fun v69 =>
     vLen v69 fun n70 =>
     bif decide ((n70 : Int) > 0) then
      zB Zlc #[.pointer (some p3)] h_10 fun b73 h_11 =>
      R (.bool b73) h_11
     else
      R (.bool false) h_10
    else
     bif x10 == 5 then
      CallsH P Zje #[.pointer (some p0)] h fun r78 h_12 => ∃ x78_0_0, ∃ x78_0_1, ∃ (v78_0_2 : Value), ∃ (v78_0_3 : Value), r78 = .agg #[zi x78_0_0, zi x78_0_1, v78_0_2, v78_0_3] ∧
      vNew h_12 (.cells #[zi 0, zi 0, .slice none 0 0, .slice none 0 0] ZhM) fun p4 h_13 =>
      vStore1 h_13 p4 (zi x78_0_0) fun h_14 =>
      vStore1 h_14 (p4.add 1) (zi x78_0_1) fun h_15 =>
      vStore1 h_15 (p4.add 2) v78_0_2 fun h_16 =>
      vStore1 h_16 (p4.add 3) v78_0_3 fun h_17 =>
      zB ZlI #[.pointer (some p4)] h_17 fun b79 h_18 =>
      R (.bool b79) h_18
     else
      bif x10 == 6 then
       CallsH P ZgF #[.pointer (some p0)] h fun r84 h_19 => ∃ (v84_0_0 : Value), ∃ (v84_0_1 : Value), ∃ (b84_1 : Bool), r84 = .tuple #[.agg #[v84_0_0, v84_0_1], .bool b84_1] ∧
       vNew h_19 (.cells #[.slice none 0 0, .slice none 0 0] Z6) fun p5 h_20 =>
       vStore1 h_20 p5 v84_0_0 fun h_21 =>
       vStore1 h_21 (p5.add 1) v84_0_1 fun h_22 =>
       R (.bool b84_1) h_22
      else
       bif x10 == 7 then
        ldI .i64 h (p0.add 1) fun x93 =>
        ldV h (p0.add 2) fun v97 =>
        vOne v97 fun _ =>
        vNew h (.cells #[zi x93, v97] Zlq) fun p99 h_23 =>
        zB ZlK #[.pointer (some p99)] h_23 fun b100 h_24 =>
        R (.bool b100) h_24
       else
        R (.bool false) h) : CallsH P ZjC #[.pointer (some p0)] h R := zv ⟨[], []⟩ Tryz.func120 hv
theorem Zzt {x0 : Int} (hv :
 bif decide (x0 ≥ 97) then
  R (.bool (decide (x0 ≤ 122))) h
 else
  R (.bool false) h) : CallsH P Zx2 #[.int .u8 x0] h R := zv ⟨[], []⟩ Tryz.func245 hv
theorem Zzq {x0 : Int} (hv :
 bif decide (x0 ≥ 48) then
  R (.bool (decide (x0 ≤ 57))) h
 else
  R (.bool false) h) : CallsH P ZyC #[.int .u8 x0] h R := zv ⟨[], []⟩ Tryz.func246 hv
theorem Zz5 {s0 : ByteArray} (hv :
 ∃ J : Heap → Prop, (
  bif s0.toList == (⟨#[]⟩ : ByteArray).toList then
   R (.bool false) h
  else
   bif decide (((s0.size : Int) : Int) > 10) then
    R (.bool false) h
   else
    vStrIdx s0 0 fun c13 =>
    zB Zx2 #[.int .u8 (c13.toNat : Int)] h fun b14 h_2 =>
    bif !b14 then
     R (.bool false) h_2
    else
     J h_2
 ) ∧ ∀ (_ : Env) (h_3 : Heap), J h_3 →
 lq1 (0 : Int) h_3 fun J_2 n x3 h_4 =>
 bif decide (x3 < (s0.size : Int)) then
  vStrIdx s0 x3 fun c25 =>
  zB Zx2 #[.int .u8 (c25.toNat : Int)] h_4 fun b26 h_5 =>
  bif !b26 then
   vStrIdx s0 x3 fun c31 =>
   zB ZyC #[.int .u8 (c31.toNat : Int)] h_5 fun b32 h_6 =>
   bif !b32 then
    R (.bool false) h_6
   else
    ag1 J_2 n (zw (x3 + 1)) h_6
  else
   ag1 J_2 n (zw (x3 + 1)) h_5
 else
  R (.bool true) h_4) : CallsH P Zym #[.string s0] h R := zv ⟨[(4, [(3, .i .i64)])], [(3, [])]⟩ Tryz.func192 hv
theorem Zz2 {p0 : Addr} (hv :
 ldS h p0 fun s6 =>
 zB Zym #[.string s6] h fun b7 h_2 =>
 bif b7 then
  zB ZjC #[.pointer (some (p0.add 1))] h_2 fun b12 h_3 =>
  bif b12 then
   ldS h_3 (p0.add 4) fun s18 =>
   bif decide (((s18.size : Int) : Int) > 0) then
    ldS h_3 (p0.add 4) fun s26 =>
    R (.bool (decide (((s26.size : Int) : Int) ≤ 4000))) h_3
   else
    R (.bool false) h_3
  else
   R (.bool false) h_3
 else
  R (.bool false) h_2) : CallsH P Zyo #[.pointer (some p0)] h R := zv ⟨[], []⟩ Tryz.func126 hv
theorem Zz1 {p0 : Addr} {p1 : Addr} (hv :
 ldI .i64 h (p0.add 1) fun x9 =>
 ldI .i64 h (p1.add 1) fun x14 =>
 bif x9 == x14 then
  ldS h (p0.add 4) fun s20 =>
  ldS h (p1.add 4) fun s24 =>
  R (.bool (s20.toList == s24.toList)) h
 else
  R (.bool false) h) : CallsH P Zyw #[.pointer (some p0), .pointer (some p1)] h R := zv ⟨[], []⟩ Tryz.func127 hv
theorem Zzm {p0 : Addr} (hv :
 lq1 (0 : Int) h fun J n x3 h_2 =>
 ldV h_2 p0 fun v9 =>
 vLen v9 fun n10 =>
 bif decide (x3 < (n10 : Int)) then
  ∃ J_2 : Heap → Prop, (
   ldV h_2 p0 fun v17 =>
   vIdx v17 x3 5 fun p19 =>
   zB Zyo #[.pointer (some p19)] h_2 fun b20 h_3 =>
   bif !b20 then
    R (.bool false) h_3
   else
    bif decide (x3 > 0) then
     ldV h_3 p0 fun v29 =>
     vIdx v29 (zw (x3 - 1)) 5 fun p32 =>
     ldS h_3 p32 fun s34 =>
     ldV h_3 p0 fun v38 =>
     vIdx v38 x3 5 fun p40 =>
     ldS h_3 p40 fun s42 =>
     bif !(Op.bytesLess s34.toList s42.toList) then
      R (.bool false) h_3
     else
      J_2 h_3
    else
     J_2 h_3
  ) ∧ ∀ (_ : Env) (h_4 : Heap), J_2 h_4 →
  lq1 (0 : Int) h_4 fun J_3 n_3 x4 h_5 =>
  bif decide (x4 < x3) then
   ldV h_5 p0 fun v54 =>
   vIdx v54 x3 5 fun p56 =>
   ldV h_5 p0 fun v60 =>
   vIdx v60 x4 5 fun p62 =>
   zB Zyw #[.pointer (some p56), .pointer (some p62)] h_5 fun b63 h_6 =>
   bif b63 then
    R (.bool false) h_6
   else
    ag1 J_3 n_3 (zw (x4 + 1)) h_6
  else
   ag1 J n (zw (x3 + 1)) h_5
 else
  ldV h_2 p0 fun v67 =>
  vLen v67 fun n68 =>
  R (.bool (decide ((n68 : Int) ≤ 24))) h_2) : CallsH P Zyv #[.pointer (some p0)] h R := zv ⟨[(2, [(3, .i .i64)]), (7, [(4, .i .i64)])], [(6, [])]⟩ Tryz.func76 hv
theorem ZBK {p0 : Addr} {s1 : ByteArray} (hv :
 lq1 (0 : Int) h fun J n x5 h_2 =>
 ldV h_2 p0 fun v10 =>
 vLen v10 fun n11 =>
 bif decide (x5 < (n11 : Int)) then
  ldV h_2 p0 fun v18 =>
  vIdx v18 x5 5 fun p20 =>
  ldS h_2 p20 fun s22 =>
  bif s22.toList == s1.toList then
   R (zi x5) h_2
  else
   ag1 J n (zw (x5 + 1)) h_2
 else
  R (zi (-1)) h_2) : CallsH P ZBo #[.pointer (some p0), .string s1] h R := zv ⟨[(2, [(5, .i .i64)])], []⟩ Tryz.func85 hv
theorem ZBV {p0 : Addr} (hv :
 vNew h (.cells #[.string ⟨#[]⟩, zi 0, zi 0, .slice none 0 0, .string ⟨#[]⟩] Zw0) fun p2 h_2 =>
 ∃ B : Nat → Prop,
 (
  ldV (hmask B h_2) ((p0.add 1).add 2) fun v18 =>
  zV ZiY #[v18] h_2 fun v19 h_3 =>
  ExtBut B h_2 h_3 ∧
  vNew h_3 (.cells #[zi 0, zi 0, .slice none 0 0] Zaj) fun p3 h_4 =>
  ExtBut B h_2 h_4 ∧
  ldI .i64 (hmask B h_2) (p0.add 1) fun x8 =>
  ldI .i64 (hmask B h_2) ((p0.add 1).add 1) fun x13 =>
  vOne v19 fun _ =>
  vStore1 h_4 p3 (zi x8) fun h_5 =>
  vStore1 h_5 (p3.add 1) (zi x13) fun h_6 =>
  vStore1 h_6 (p3.add 2) v19 fun h_7 =>
  ldS h_7 p0 fun s24 =>
  ldI .i64 h_7 p3 fun x25_0 =>
  ldI .i64 h_7 (p3.add 1) fun x25_1 =>
  ldV h_7 (p3.add 2) fun v25_2 =>
  ldS h_7 (p0.add 4) fun s29 =>
  vStore1 h_7 p2 (.string s24) fun h_8 =>
  vStore1 h_8 (p2.add 1) (zi x25_0) fun h_9 =>
  vStore1 h_9 (p2.add 2) (zi x25_1) fun h_10 =>
  vStore1 h_10 (p2.add 3) v25_2 fun h_11 =>
  vStore1 h_11 (p2.add 4) (.string s29) fun h_12 =>
  ldS h_12 p2 fun sres0_0 =>
  ldI .i64 h_12 (p2.add 1) fun xres0_1 =>
  ldI .i64 h_12 (p2.add 2) fun xres0_2 =>
  ldV h_12 (p2.add 3) fun vres0_3 =>
  ldS h_12 (p2.add 4) fun sres0_4 =>
  R (.agg #[.string sres0_0, zi xres0_1, zi xres0_2, vres0_3, .string sres0_4]) h_12
 ) ∧
 (
  vNew h_2 (.cells #[zi 0, zi 0, .slice none 0 0] Zaj) fun p3_2 h_13 =>
  ExtBut B h_2 h_13 ∧
  ldV (hmask B h_2) ((p0.add 1).add 2) fun v18_2 =>
  zV ZiY #[v18_2] h_13 fun v19_2 h_14 =>
  ExtBut B h_2 h_14 ∧
  ldI .i64 (hmask B h_2) (p0.add 1) fun x8_2 =>
  ldI .i64 (hmask B h_2) ((p0.add 1).add 1) fun x13_2 =>
  vOne v19_2 fun _ =>
  vStore1 h_14 p3_2 (zi x8_2) fun h_15 =>
  vStore1 h_15 (p3_2.add 1) (zi x13_2) fun h_16 =>
  vStore1 h_16 (p3_2.add 2) v19_2 fun h_17 =>
  ldS h_17 p0 fun s24_2 =>
  ldI .i64 h_17 p3_2 fun x25_0_2 =>
  ldI .i64 h_17 (p3_2.add 1) fun x25_1_2 =>
  ldV h_17 (p3_2.add 2) fun v25_2_2 =>
  ldS h_17 (p0.add 4) fun s29_2 =>
  vStore1 h_17 p2 (.string s24_2) fun h_18 =>
  vStore1 h_18 (p2.add 1) (zi x25_0_2) fun h_19 =>
  vStore1 h_19 (p2.add 2) (zi x25_1_2) fun h_20 =>
  vStore1 h_20 (p2.add 3) v25_2_2 fun h_21 =>
  vStore1 h_21 (p2.add 4) (.string s29_2) fun h_22 =>
  ldS h_22 p2 fun sres0_0_2 =>
  ldI .i64 h_22 (p2.add 1) fun xres0_1_2 =>
  ldI .i64 h_22 (p2.add 2) fun xres0_2_2 =>
  ldV h_22 (p2.add 3) fun vres0_3_2 =>
  ldS h_22 (p2.add 4) fun sres0_4_2 =>
  R (.agg #[.string sres0_0_2, zi xres0_1_2, zi xres0_2_2, vres0_3_2, .string sres0_4_2]) h_22
 )) : CallsH P ZBt #[.pointer (some p0)] h R := zv ⟨[], []⟩ Tryz.func86 hv
theorem ZDb {v0_0 : Value} {s1 : ByteArray} (hv :
 vNew h (.cells #[v0_0] Zw8) fun p2 h_2 =>
 vNew h_2 (.cells #[.slice none 0 0] Zw8) fun p4 h_3 =>
 zB Zyv #[.pointer (some p2)] h_3 fun b9 h_4 =>
 bif !b9 then
  vStore1 h_4 p4 (.slice none 0 0) fun h_5 =>
  ldV h_5 p4 fun vres0_0 =>
  R (.tuple #[.agg #[vres0_0], zi 1]) h_5
 else
  zI ZBo #[.pointer (some p2), .string s1] h_4 fun x13 h_6 =>
  bif decide (x13 < 0) then
   vStore1 h_6 p4 (.slice none 0 0) fun h_7 =>
   ldV h_7 p4 fun vres0_0_2 =>
   R (.tuple #[.agg #[vres0_0_2], zi 3]) h_7
  else
   vNew h_6 (.cells #[.slice none 0 0] Zw8) fun p7 h_8 =>
   vStore1 h_8 p7 (.slice none 0 0) fun h_9 =>
   lq1 (0 : Int) h_9 fun J n x8 h_10 =>
   ldV h_10 p2 fun v20 =>
   vLen v20 fun n21 =>
   bif decide (x8 < (n21 : Int)) then
    bif x8 != x13 then
     ∃ B : Nat → Prop,
     ldV h_10 p2 fun v31 =>
     vIdx v31 x8 5 fun p33 =>
     CallsH P ZBt #[.pointer (some p33)] h_10 fun r34 h_11 => ∃ (s34_0_0 : ByteArray), ∃ x34_0_1, ∃ x34_0_2, ∃ (v34_0_3 : Value), ∃ (s34_0_4 : ByteArray), r34 = .agg #[.string s34_0_0, zi x34_0_1, zi x34_0_2, v34_0_3, .string s34_0_4] ∧
     ExtBut B h_10 h_11 ∧
     vNewS h_11 (.cells #[.string s34_0_0, zi x34_0_1, zi x34_0_2, v34_0_3, .string s34_0_4] Zw0) 1 fun v35 h_12 =>
     ExtBut B h_10 h_12 ∧
     ldV (hmask B h_10) p7 fun v29 =>
     vAppend 5 72 [.string ⟨#[]⟩, zi 0, zi 0, .slice none 0 0, .string ⟨#[]⟩] Zw0 v29 v35 h_12 fun v36 h_13 =>
     vStore1 h_13 p7 v36 fun h_14 =>
     ag1 J n (zw (x8 + 1)) h_14
    else
     ag1 J n (zw (x8 + 1)) h_10
   else
    ldV h_10 p7 fun v38_0 =>
    vStore1 h_10 p4 v38_0 fun h_15 =>
    ldV h_15 p4 fun vres0_0_3 =>
    R (.tuple #[.agg #[vres0_0_3], zi 0]) h_15) : CallsH P ZCE #[.agg #[v0_0], .string s1] h R := zv ⟨[(8, [(8, .i .i64)])], []⟩ Tryz.func44 hv
theorem Zp0 {x0 : Int} {x1 : Int} {x2 : Int} (hv :
 bif decide (x0 ≥ x1) then
  R (.bool (decide (x0 ≤ x2))) h
 else
  R (.bool false) h) : CallsH P Zab #[zi x0, zi x1, zi x2] h R := zv ⟨[], []⟩ Tryz.func107 hv
theorem Zv4 {v0 : Value} {g1 : Nat} {cap1 : List Value} (hv :
 vLen v0 fun n7 =>
 lq1 (0 : Int) h fun J n x8 h_2 =>
 bif decide (x8 < (n7 : Int)) then
  vIdx v0 x8 1 fun p14 =>
  ldV h_2 p14 fun v15 =>
  vOkf ctx g1 fun _ =>
  CallsH P g1 (([v15] : List Value) ++ cap1).toArray h_2 fun r16 h_3 => ∃ (b16 : Bool), r16 = .bool b16 ∧
  bif b16 then
   R (zi x8) h_3
  else
   ag1 J n (zw (x8 + 1)) h_3
 else
  R (zi (-1)) h_2) : CallsH P ZhU #[v0, .func (.func g1) #[] cap1.toArray] h R := zv ⟨[(2, [(8, .i .i64)])], []⟩ Tryz.func202 hv
theorem Zp9 {v0 : Value} {g1 : Nat} {cap1 : List Value} (hv :
 zI ZhU #[v0, .func (.func g1) #[] cap1.toArray] h fun x7 h_2 =>
 R (.bool (decide (x7 ≥ 0))) h_2) : CallsH P Ze2 #[v0, .func (.func g1) #[] cap1.toArray] h R := zv ⟨[], []⟩ Tryz.func151 hv
theorem Zr5 {v0 : Value} (hv :
 vLen v0 fun n4 =>
 R (zi (n4 : Int)) h) : CallsH P ZaA #[v0] h R := zv ⟨[], []⟩ Tryz.func153 hv
theorem ZtQ {v0 : Value} (hv :
 vNilS false v0 fun b4 =>
 bif b4 then
  R (.slice none 0 0) h
 else
  vNewS h (.cells #[] Zh) 0 fun v5 h_2 =>
  vAppend 1 8 [zi 0] Zh v5 v0 h_2 fun v7 h_3 =>
  R v7 h_3) : CallsH P Zep #[v0] h R := zv ⟨[], []⟩ Tryz.func203 hv
theorem Zpb {v0 : Value} (hv :
 zV Zep #[v0] h fun v7 h_2 =>
 CallsH P Zmd #[v7] h_2 fun r9 h_3 => r9 = .tuple #[] ∧
 vLen v7 fun n11 =>
 lq1 (0 : Int) h_3 fun J n x12 h_4 =>
 bif decide (x12 < (n11 : Int)) then
  vIdx v7 x12 1 fun p15 =>
  ldI .i64 h_4 p15 fun x16 =>
  bif x16 != x12 then
   R (.bool false) h_4
  else
   ag1 J n (zw (x12 + 1)) h_4
 else
  vLen v0 fun n22 =>
  R (.bool (decide ((n22 : Int) ≤ 32))) h_4) : CallsH P Zgt #[v0] h R := zv ⟨[(4, [(12, .i .i64)])], []⟩ Tryz.func154 hv
theorem ZoJ {v0 : Value} {p1 : Addr} (hv :
 ∃ B : Nat → Prop,
 zI ZaA #[v0] h fun x5 h_2 =>
 ExtBut B h h_2 ∧
 ldI .i64 (hmask B h) p1 fun x6 =>
 bif x5 != x6 then
  R (.bool true) h_2
 else
  zB Zgt #[v0] h_2 fun b10 h_3 =>
  R (.bool (!b10)) h_3) : CallsH P Zh8 #[v0, .pointer (some p1)] h R := zv ⟨[], []⟩ Tryz.func152 hv
theorem Zuh {x0 : Int} {v1 : Value} (hv :
 vNew h (.cells #[zi x0] Zh) fun p2 h_2 =>
 zB Ze2 #[v1, .func (.func Zh8) #[] #[.pointer (some p2)]] h_2 fun b7 h_3 =>
 R (.bool (!b7)) h_3) : CallsH P Zhk #[zi x0, v1] h R := zv ⟨[], []⟩ Tryz.func108 hv
theorem ZrR {x0 : Int} (hv :
 R (.bool (x0 != x0)) h) : CallsH P ZgM #[zi x0] h R := zv ⟨[], []⟩ Tryz.func205 hv
theorem ZsM {x0 : Int} {x1 : Int} (hv :
 zB ZgM #[zi x0] h fun b8 h_2 =>
 zB ZgM #[zi x1] h_2 fun b10 h_3 =>
 bif b8 then
  bif b10 then
   R (zi 0) h_3
  else
   R (zi (-1)) h_3
 else
  bif b10 then
   R (zi 1) h_3
  else
   bif decide (x0 < x1) then
    R (zi (-1)) h_3
   else
    bif decide (x0 > x1) then
     R (zi 1) h_3
    else
     R (zi 0) h_3) : CallsH P Zf6 #[zi x0, zi x1] h R := zv ⟨[], []⟩ Tryz.func155 hv
theorem Zst {v0 : Value} {v1 : Value} (hv :
 vLen v0 fun n10 =>
 lq1 (0 : Int) h fun J n x11 h_2 =>
 bif decide (x11 < (n10 : Int)) then
  vIdx v0 x11 1 fun p14 =>
  ldI .i64 h_2 p14 fun x15 =>
  vLen v1 fun n18 =>
  bif decide (x11 ≥ (n18 : Int)) then
   R (zi 1) h_2
  else
   vIdx v1 x11 1 fun p22 =>
   ldI .i64 h_2 p22 fun x23 =>
   zI Zf6 #[zi x15, zi x23] h_2 fun x26 h_3 =>
   bif x26 != 0 then
    R (zi x26) h_3
   else
    ag1 J n (zw (x11 + 1)) h_3
 else
  vLen v0 fun n32 =>
  vLen v1 fun n34 =>
  bif decide ((n32 : Int) < (n34 : Int)) then
   R (zi (-1)) h_2
  else
   R (zi 0) h_2) : CallsH P ZdQ #[v0, v1] h R := zv ⟨[(2, [(11, .i .i64)])], []⟩ Tryz.func109 hv
theorem Ztn {x0 : Int} (hv :
 vMake 8 [zi 0] Zh x0 x0 h fun v6 h_2 =>
 vLen v6 fun n8 =>
 lq1 (0 : Int) h_2 fun J n x9 h_3 =>
 bif decide (x9 < (n8 : Int)) then
  vIdx v6 x9 1 fun p15 =>
  vStore1 h_3 p15 (zi x9) fun h_4 =>
  ag1 J n (zw (x9 + 1)) h_4
 else
  R v6 h_3) : CallsH P ZiD #[zi x0] h R := zv ⟨[(3, [(9, .i .i64)])], []⟩ Tryz.func206 hv
theorem Zqb {v0 : Value} (hv :
 vLen v0 fun n7 =>
 vMake 1 [.int .u8 0] ZsO (n7 : Int) (n7 : Int) h fun v8 h_2 =>
 vLen v0 fun n10 =>
 lq1 (0 : Int) h_2 fun J n x11 h_3 =>
 bif decide (x11 < (n10 : Int)) then
  vIdx v0 x11 1 fun p14 =>
  ldI .i64 h_3 p14 fun x15 =>
  vIdx v8 x11 1 fun p20 =>
  vStore1 h_3 p20 (.int .u8 (IntKind.u8.wrap x15)) fun h_4 =>
  ag1 J n (zw (x11 + 1)) h_4
 else
  vB2S v8 h_3 fun s23 =>
  R (.string s23) h_3) : CallsH P ZgW #[v0] h R := zv ⟨[(3, [(11, .i .i64)])], []⟩ Tryz.func207 hv
theorem ZsT {v0 : Value} {v1 : Value} (hv :
 vLen v0 fun n8 =>
 vMake 8 [zi 0] Zh (n8 : Int) (n8 : Int) h fun v9 h_2 =>
 vLen v9 fun n11 =>
 lq1 (0 : Int) h_2 fun J n x12 h_3 =>
 bif decide (x12 < (n11 : Int)) then
  vIdx v0 x12 1 fun p20 =>
  ldI .i64 h_3 p20 fun x21 =>
  vIdx v1 x21 1 fun p22 =>
  ldI .i64 h_3 p22 fun x23 =>
  vIdx v9 x12 1 fun p24 =>
  vStore1 h_3 p24 (zi x23) fun h_4 =>
  ag1 J n (zw (x12 + 1)) h_4
 else
  R v9 h_3) : CallsH P ZkQ #[v0, v1] h R := zv ⟨[(3, [(12, .i .i64)])], []⟩ Tryz.func208 hv
theorem ZpA {x0 : Int} {v1 : Value} (hv :
 zV ZiD #[zi x0] h fun v14 h_2 =>
 vOne v14 fun _ =>
 vNewS h_2 (.cells #[v14] Zf) 1 fun v15 h_3 =>
 vMapNew h_3 fun v16 h_4 =>
 vIdx v15 0 1 fun p18 =>
 ldV h_4 p18 fun v19 =>
 zS ZgW #[v19] h_4 fun s20 h_5 =>
 vMapSet .str v16 (.string s20) (.bool true) h_5 fun h_6 =>
 lq2 v15 (0 : Int) h_6 fun J n v6 x8 h_7 =>
 vLen v6 fun n24 =>
 bif decide (x8 < (n24 : Int)) then
  vLen v1 fun n29 =>
  lq2 v6 (0 : Int) h_7 fun J_2 n_3 v6_2 x30 h_8 =>
  bif decide (x30 < (n29 : Int)) then
   vIdx v1 x30 1 fun p32 =>
   ldV h_8 p32 fun v33 =>
   vIdx v6_2 x8 1 fun p36 =>
   ldV h_8 p36 fun v37 =>
   zV ZkQ #[v37, v33] h_8 fun v39 h_9 =>
   zS ZgW #[v39] h_9 fun s41 h_10 =>
   mapGetB .str v16 (.string s41) h_10 fun b44 =>
   bif !b44 then
    vMapSet .str v16 (.string s41) (.bool true) h_10 fun h_11 =>
    vOne v39 fun _ =>
    vNewS h_11 (.cells #[v39] Zf) 1 fun v50 h_12 =>
    vAppend 1 24 [.slice none 0 0] Zf v6_2 v50 h_12 fun v51 h_13 =>
    ag2 J_2 n_3 v51 (zw (x30 + 1)) h_13
   else
    ag2 J_2 n_3 v6_2 (zw (x30 + 1)) h_10
  else
   vLen v6_2 fun n54 =>
   bif decide ((n54 : Int) > 720) then
    R (.tuple #[(.slice none 0 0), .bool false]) h_8
   else
    ag2 J n v6_2 (zw (x8 + 1)) h_8
 else
  CallsH P ZmQ #[v6, .func (.func ZdQ) #[] #[]] h_7 fun r57 h_14 => r57 = .tuple #[] ∧
  R (.tuple #[v6, .bool true]) h_14) : CallsH P Zhd #[zi x0, v1] h R := zv ⟨[(4, [(6, .v), (8, .i .i64)]), (7, [(6, .v), (30, .i .i64)])], []⟩ Tryz.func156 hv
theorem Zt9 {v0 : Value} {v1 : Value} {g2 : Nat} {cap2 : List Value} (hv :
 vLen v0 fun n13 =>
 lq2 (0 : Int) (n13 : Int) h fun J n x9 x10 h_2 =>
 bif decide (x9 < x10) then
  (0 : Int) ≤ 1 ∧
  vIdx v0 (zw (Int.fdiv (IntKind.u64.wrap (zw (x9 + x10))) (2 ^ min (1 : Int).toNat IntKind.u64.bits))) 1 fun p27 =>
  ldV h_2 p27 fun v28 =>
  vOkf ctx g2 fun _ =>
  CallsH P g2 (([v28, v1] : List Value) ++ cap2).toArray h_2 fun r30 h_3 => ∃ x30, r30 = zi x30 ∧
  bif decide (x30 < 0) then
   ag2 J n (zw ((zw (Int.fdiv (IntKind.u64.wrap (zw (x9 + x10))) (2 ^ min (1 : Int).toNat IntKind.u64.bits))) + 1)) x10 h_3
  else
   ag2 J n x9 (zw (Int.fdiv (IntKind.u64.wrap (zw (x9 + x10))) (2 ^ min (1 : Int).toNat IntKind.u64.bits))) h_3
 else
  bif decide (x9 < (n13 : Int)) then
   vIdx v0 x9 1 fun p43 =>
   ldV h_2 p43 fun v44 =>
   vOkf ctx g2 fun _ =>
   CallsH P g2 (([v44, v1] : List Value) ++ cap2).toArray h_2 fun r46 h_4 => ∃ x46, r46 = zi x46 ∧
   R (.tuple #[zi x9, .bool (x46 == 0)]) h_4
  else
   R (.tuple #[zi x9, .bool false]) h_2) : CallsH P Zkj #[v0, v1, .func (.func g2) #[] cap2.toArray] h R := zv ⟨[(3, [(9, .i .i64), (10, .i .i64)])], []⟩ Tryz.func157 hv
theorem Zra {x0 : Int} {v1 : Value} (hv :
 CallsH P Zhd #[zi x0, (.slice none 0 0)] h fun r16 h_2 => ∃ (v16_0 : Value), ∃ (b16_1 : Bool), r16 = .tuple #[v16_0, .bool b16_1] ∧
 vLen v1 fun n20 =>
 lq4 ((.slice none 0 0) : Value) v16_0 b16_1 (0 : Int) h_2 fun J n v7 v8 b9 x21 h_3 =>
 bif decide (x21 < (n20 : Int)) then
  vIdx v1 x21 1 fun p23 =>
  ldV h_3 p23 fun v24 =>
  ∃ J_2 : Heap → Prop, (
   CallsH P Zkj #[v8, v24, .func (.func ZdQ) #[] #[]] h_3 fun r28 h_4 => ∃ x28_0, ∃ (b28_1 : Bool), r28 = .tuple #[zi x28_0, .bool b28_1] ∧
   bif b28_1 then
    ag4 J n v7 v8 b9 (zw (x21 + 1)) h_4
   else
    bif !b9 then
     ag4 J n v7 v8 b9 (zw (x21 + 1)) h_4
    else
     J_2 h_4
  ) ∧ ∀ (_ : Env) (h_5 : Heap), J_2 h_5 →
  vOne v24 fun _ =>
  vNewS h_5 (.cells #[v24] Zf) 1 fun v38 h_6 =>
  vAppend 1 24 [.slice none 0 0] Zf v7 v38 h_6 fun v39 h_7 =>
  CallsH P Zhd #[zi x0, v39] h_7 fun r43 h_8 => ∃ (v43_0 : Value), ∃ (b43_1 : Bool), r43 = .tuple #[v43_0, .bool b43_1] ∧
  ag4 J n v39 v43_0 b43_1 (zw (x21 + 1)) h_8
 else
  R (.tuple #[v7, v8, .bool b9]) h_3) : CallsH P ZkV #[zi x0, v1] h R := zv ⟨[(4, [(7, .v), (8, .v), (9, .b), (21, .i .i64)])], [(8, [])]⟩ Tryz.func110 hv
theorem Zpz {x0_0 : Int} {v0_1 : Value} (hv :
 vNew h (.cells #[zi x0_0, v0_1] Zlq) fun p1 h_2 =>
 ∃ J : Heap → Prop, (
  ldI .i64 h_2 p1 fun x8 =>
  zB Zab #[zi x8, zi 1, zi 32] h_2 fun b9 h_3 =>
  bif !b9 then
   R (.bool false) h_3
  else
   ldV h_3 (p1.add 1) fun v13 =>
   vLen v13 fun n14 =>
   bif decide ((n14 : Int) < 1) then
    R (.bool false) h_3
   else
    ldV h_3 (p1.add 1) fun v19 =>
    vLen v19 fun n20 =>
    bif decide ((n20 : Int) > 720) then
     R (.bool false) h_3
    else
     ldI .i64 h_3 p1 fun x25 =>
     ldV h_3 (p1.add 1) fun v27 =>
     zB Zhk #[zi x25, v27] h_3 fun b28 h_4 =>
     bif !b28 then
      R (.bool false) h_4
     else
      J h_4
 ) ∧ ∀ (_ : Env) (h_5 : Heap), J h_5 →
 lq1 (1 : Int) h_5 fun J_2 n x3 h_6 =>
 ldV h_6 (p1.add 1) fun v33 =>
 vLen v33 fun n34 =>
 bif decide (x3 < (n34 : Int)) then
  ldV h_6 (p1.add 1) fun v39 =>
  vIdx v39 (zw (x3 - 1)) 1 fun p42 =>
  ldV h_6 p42 fun v43 =>
  ldV h_6 (p1.add 1) fun v45 =>
  vIdx v45 x3 1 fun p47 =>
  ldV h_6 p47 fun v48 =>
  zI ZdQ #[v43, v48] h_6 fun x49 h_7 =>
  bif decide (x49 ≥ 0) then
   R (.bool false) h_7
  else
   ag1 J_2 n (zw (x3 + 1)) h_7
 else
  ldI .i64 h_6 p1 fun x53 =>
  ldV h_6 (p1.add 1) fun v55 =>
  CallsH P ZkV #[zi x53, v55] h_6 fun r56 h_8 => ∃ (v56_0 : Value), ∃ (v56_1 : Value), ∃ (b56_2 : Bool), r56 = .tuple #[v56_0, v56_1, .bool b56_2] ∧
  bif b56_2 then
   vLen v56_1 fun n63 =>
   ldV h_8 (p1.add 1) fun v65 =>
   vLen v65 fun n66 =>
   R (.bool ((n63 : Int) == (n66 : Int))) h_8
  else
   R (.bool false) h_8) : CallsH P Zk7 #[.agg #[zi x0_0, v0_1]] h R := zv ⟨[(4, [(3, .i .i64)])], [(3, [])]⟩ Tryz.func57 hv
theorem ZvF {v0 : Value} (hv :
 vLen v0 fun n7 =>
 lq1 (0 : Int) h fun J n x8 h_2 =>
 bif decide (x8 < (n7 : Int)) then
  vIdx v0 x8 1 fun p10 =>
  ldI .i64 h_2 p10 fun x11 =>
  bif x11 != 0 then
   R (zi x11) h_2
  else
   ag1 J n (zw (x8 + 1)) h_2
 else
  R (zi 0) h_2) : CallsH P Zjt #[v0] h R := zv ⟨[(3, [(8, .i .i64)])], []⟩ Tryz.func242 hv
theorem Zo5 {x0_0 : Int} {x0_1 : Int} {x1_0 : Int} {x1_1 : Int} (hv :
 vNew h (.cells #[zi x0_0, zi x0_1] Zaw) fun p2 h_2 =>
 vNew h_2 (.cells #[zi x1_0, zi x1_1] Zaw) fun p3 h_3 =>
 ∃ B : Nat → Prop,
 ldI .i64 h_3 p2 fun x6 =>
 ldI .i64 h_3 p3 fun x8 =>
 zI Zf6 #[zi x6, zi x8] h_3 fun x9 h_4 =>
 ExtBut B h_3 h_4 ∧
 ldI .i64 (hmask B h_3) (p2.add 1) fun x11 =>
 ldI .i64 (hmask B h_3) (p3.add 1) fun x13 =>
 zI Zf6 #[zi x11, zi x13] h_4 fun x14 h_5 =>
 vNewS h_5 (.cells #[zi x9, zi x14] t_int) 2 fun v15 h_6 =>
 zI Zjt #[v15] h_6 fun x16 h_7 =>
 R (zi x16) h_7) : CallsH P ZlG #[.agg #[zi x0_0, zi x0_1], .agg #[zi x1_0, zi x1_1]] h R := zv ⟨[], []⟩ Tryz.func190 hv
theorem ZqW {v0 : Value} {g1 : Nat} {cap1 : List Value} (hv :
 vLen v0 fun n7 =>
 lq1 (0 : Int) h fun J n x8 h_2 =>
 bif decide (x8 < (n7 : Int)) then
  vIdx v0 x8 1 fun p14 =>
  ldI .i64 h_2 p14 fun x15 =>
  vOkf ctx g1 fun _ =>
  CallsH P g1 (([zi x15] : List Value) ++ cap1).toArray h_2 fun r16 h_3 => ∃ (b16 : Bool), r16 = .bool b16 ∧
  bif b16 then
   R (zi x8) h_3
  else
   ag1 J n (zw (x8 + 1)) h_3
 else
  R (zi (-1)) h_2) : CallsH P ZkR #[v0, .func (.func g1) #[] cap1.toArray] h R := zv ⟨[(2, [(8, .i .i64)])], []⟩ Tryz.func214 hv
theorem Ztb {v0 : Value} {g1 : Nat} {cap1 : List Value} (hv :
 zI ZkR #[v0, .func (.func g1) #[] cap1.toArray] h fun x7 h_2 =>
 R (.bool (decide (x7 ≥ 0))) h_2) : CallsH P ZcM #[v0, .func (.func g1) #[] cap1.toArray] h R := zv ⟨[], []⟩ Tryz.func162 hv
theorem Zt5 {x0 : Int} (hv :
 zB Zab #[zi x0, zi 0, zi 63] h fun b4 h_2 =>
 R (.bool b4) h_2) : CallsH P Zli #[zi x0] h R := zv ⟨[], []⟩ Tryz.func244 hv
theorem Ztr {x0 : Int} (hv :
 zB Zli #[zi x0] h fun b4 h_2 =>
 R (.bool (!b4)) h_2) : CallsH P Zjk #[zi x0] h R := zv ⟨[], []⟩ Tryz.func243 hv
theorem Zvu {v0 : Value} (hv :
 vLen v0 fun n4 =>
 bif decide ((n4 : Int) ≤ 64) then
  zB ZcM #[v0, .func (.func Zjk) #[] #[]] h fun b8 h_2 =>
  R (.bool (!b8)) h_2
 else
  R (.bool false) h) : CallsH P ZkC #[v0] h R := zv ⟨[], []⟩ Tryz.func191 hv
end Go.Proofs.YtapkemdomnkccaaGreat
