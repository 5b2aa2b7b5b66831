import Derived.Test.YtocnokjekoglnaaGreatDoorVcSoundE
import Derived.Test.YtocnokjekoglnaaGreatDoorVcDn
import Derived.Test.YtocnokjekoglnaaGreatDoorPuBase
import Derived.Test.YtocnokjekoglnaaGreatDoorProg
import Derived.KernelRfl
namespace Go.Proofs.YtocnokjekoglnaaGreatDoor
set_option linter.unusedSimpArgs false
open Go Go.Vc Go.Proofs
set_option linter.unusedVariables false
set_option maxRecDepth 100000
noncomputable abbrev P : Program := Tryz.prog
abbrev zw (x : Int) : Int := IntKind.i64.wrap x
abbrev zi (x : Int) : Value := .int .i64 x
abbrev zB (f : FuncId) (a : Array Value) (h : Heap) (K : Bool → Heap → Prop) : Prop := CallsH P f a h fun r h' => ∃ b, r = .bool b ∧ K b h'
abbrev zI (f : FuncId) (a : Array Value) (h : Heap) (K : Int → Heap → Prop) : Prop := CallsH P f a h fun r h' => ∃ x, r = .int .i64 x ∧ K x h'
abbrev zV (f : FuncId) (a : Array Value) (h : Heap) (K : Value → Heap → Prop) : Prop := CallsH P f a h fun r h' => ∃ v, r = v ∧ K v h'
abbrev zS (f : FuncId) (a : Array Value) (h : Heap) (K : ByteArray → Heap → Prop) : Prop := CallsH P f a h fun r h' => ∃ s, r = .string s ∧ K s h'
abbrev ZlB : Nat := 44
abbrev Zjo : Nat := 21
abbrev ZiF : Nat := 6
abbrev Zx9 : Nat := 11
abbrev Zz8 : Nat := 35
abbrev Zz4 : Nat := 16
abbrev Z6 : Nat := 86
abbrev Zit : Nat := 128
abbrev Zfw : Nat := 85
abbrev ZkL : Nat := 45
abbrev Zkn : Nat := 129
abbrev ZkT : Nat := 87
abbrev Zeq : Nat := 88
abbrev Zj4 : Nat := 46
abbrev ZkX : Nat := 89
abbrev Zj5 : Nat := 47
abbrev ZkS : Nat := 48
abbrev ZjU : Nat := 90
abbrev Zke : Nat := 49
abbrev ZfT : Nat := 91
abbrev Zb8 : Nat := 130
abbrev Zfh : Nat := 134
abbrev ZfW : Nat := 141
abbrev ZgW : Nat := 171
abbrev Zfr : Nat := 172
abbrev Zg9 : Nat := 131
abbrev Zka : Nat := 92
abbrev Zk9 : Nat := 50
abbrev Zjj : Nat := 132
abbrev Zhl : Nat := 95
abbrev ZjE : Nat := 133
abbrev ZiA : Nat := 93
abbrev Zk2 : Nat := 94
abbrev ZkP : Nat := 135
abbrev ZhT : Nat := 96
abbrev Zkv : Nat := 173
abbrev Zgu : Nat := 202
abbrev ZlL : Nat := 174
abbrev ZiI : Nat := 175
abbrev Zjx : Nat := 203
abbrev ZiH : Nat := 176
abbrev Zlg : Nat := 136
abbrev Zlw : Nat := 97
abbrev Zjt : Nat := 51
abbrev ZiG : Nat := 137
abbrev Zix : Nat := 138
abbrev Zij : Nat := 98
abbrev ZjM : Nat := 52
abbrev Zg5 : Nat := 140
abbrev Zh9 : Nat := 177
abbrev Zkt : Nat := 178
abbrev ZlI : Nat := 179
abbrev ZhP : Nat := 139
abbrev ZlF : Nat := 99
abbrev ZjT : Nat := 53
abbrev Zkw : Nat := 22
abbrev ZxN : Nat := 122
abbrev Zx1 : Nat := 123
abbrev ZxU : Nat := 78
abbrev Zx2 : Nat := 31
abbrev ZzY : Nat := 82
abbrev ZAh : Nat := 36
abbrev Zlr : Nat := 54
abbrev Ze5 : Nat := 55
abbrev ZhL : Nat := 56
abbrev Zlt : Nat := 23
abbrev Zx3 : Nat := 79
abbrev Zx8 : Nat := 32
abbrev Zz7 : Nat := 37
abbrev Zz0 : Nat := 17
abbrev Zk1 : Nat := 57
abbrev ZlG : Nat := 24
abbrev ZfG : Nat := 8
abbrev Zxx : Nat := 13
abbrev Zz5 : Nat := 38
abbrev ZzI : Nat := 18
abbrev Znp : Nat := 76
abbrev Zh2 : Nat := 29
abbrev ZbN : Nat := 58
abbrev Z9 : Nat := 72
abbrev ZgK : Nat := 154
abbrev Zgn : Nat := 142
abbrev ZfO : Nat := 144
abbrev Zoy : Nat := 145
abbrev ZgT : Nat := 101
abbrev ZaC : Nat := 106
abbrev Zje : Nat := 143
abbrev Zh3 : Nat := 100
abbrev ZiP : Nat := 59
abbrev ZkV : Nat := 182
abbrev Zlj : Nat := 147
abbrev Zkq : Nat := 146
abbrev ZlU : Nat := 102
abbrev ZkZ : Nat := 103
abbrev ZbR : Nat := 183
abbrev Zb4 : Nat := 148
abbrev Zca : Nat := 104
abbrev ZlA : Nat := 60
abbrev ZbX : Nat := 105
abbrev ZiO : Nat := 61
abbrev ZkA : Nat := 119
abbrev Zb7 : Nat := 70
abbrev Zlh : Nat := 107
abbrev Zk0 : Nat := 62
abbrev Zil : Nat := 108
abbrev Zkr : Nat := 109
abbrev Zjc : Nat := 63
abbrev Ziz : Nat := 64
abbrev ZdH : Nat := 111
abbrev Ze1 : Nat := 112
abbrev Zbp : Nat := 161
abbrev Zhx : Nat := 187
abbrev Zin : Nat := 214
abbrev ZjI : Nat := 189
abbrev ZhS : Nat := 160
abbrev ZgG : Nat := 188
abbrev Zlq : Nat := 184
abbrev ZiX : Nat := 149
abbrev Zjl : Nat := 185
abbrev Zim : Nat := 151
abbrev Zkb : Nat := 150
abbrev ZiN : Nat := 110
abbrev ZhF : Nat := 186
abbrev ZgF : Nat := 152
abbrev Zid : Nat := 153
abbrev ZlS : Nat := 113
abbrev Zlc : Nat := 155
abbrev ZjQ : Nat := 156
abbrev Zko : Nat := 114
abbrev ZkH : Nat := 157
abbrev ZiS : Nat := 158
abbrev Zjd : Nat := 115
abbrev ZjA : Nat := 65
abbrev Zii : Nat := 159
abbrev ZkW : Nat := 116
abbrev Zi8 : Nat := 66
abbrev ZkO : Nat := 190
abbrev ZiB : Nat := 162
abbrev Zlo : Nat := 192
abbrev Zj9 : Nat := 191
abbrev ZkM : Nat := 163
abbrev Zlm : Nat := 117
abbrev Zkh : Nat := 67
abbrev Zlz : Nat := 193
abbrev Zha : Nat := 194
abbrev Zk3 : Nat := 195
abbrev Znj : Nat := 196
abbrev Zhc : Nat := 164
abbrev ZiZ : Nat := 165
abbrev Zlk : Nat := 118
abbrev Zli : Nat := 68
abbrev Zja : Nat := 69
abbrev Zih : Nat := 25
abbrev ZiE : Nat := 27
abbrev Zi5 : Nat := 71
abbrev ZjH : Nat := 26
abbrev ZlW : Nat := 74
abbrev Zls : Nat := 75
abbrev Zju : Nat := 28
abbrev Zkd : Nat := 9
abbrev Zx6 : Nat := 81
abbrev ZxX : Nat := 34
abbrev Zya : Nat := 80
abbrev ZxZ : Nat := 33
abbrev ZzV : Nat := 124
abbrev Zz1 : Nat := 126
abbrev ZAe : Nat := 125
abbrev ZzS : Nat := 83
abbrev ZzW : Nat := 39
abbrev ZAi : Nat := 40
abbrev ZAf : Nat := 41
abbrev ZBk : Nat := 42
abbrev ZAb : Nat := 19
abbrev ZkU : Nat := 77
abbrev Zj1 : Nat := 30
abbrev ZiV : Nat := 10
abbrev Zyb : Nat := 15
abbrev ZzX : Nat := 43
abbrev ZAd : Nat := 20
abbrev Zz3 : Nat := 5
abbrev Zg : Nat := 2
abbrev t_int : Nat := 3
abbrev Zg2 : Nat := 5
abbrev Zdf : Nat := 9
abbrev Zp3 : Nat := 22
abbrev Zjs : Nat := 24
abbrev Zat : Nat := 27
abbrev ZxV : Nat := 32
abbrev Zxt : Nat := 36
abbrev Zz2 : Nat := 42
abbrev Zzm : Nat := 48
abbrev Zf : Nat := 59
abbrev Zzw : Nat := 78
abbrev Zkg : Nat := 91
abbrev ZcC : Nat := 93
abbrev Zbv : Nat := 98
abbrev Zh7 : Nat := 100
abbrev ZbO : Nat := 106
abbrev ZkD : Nat := 112
abbrev ZaZ : Nat := 149
abbrev ZhU : Nat := 163
def tab : List (Nat × TE) := [(2, ⟨.int .i64, [.i .i64], [.int .i64 0], 8⟩),
 (3, ⟨.int .i64, [.i .i64], [.int .i64 0], 8⟩),
 (4, ⟨.bool, [.b], [.bool false], 1⟩),
 (5, ⟨.int .u8, [.i .u8], [.int .u8 0], 1⟩),
 (9, ⟨.str, [.s], [.string ⟨#[]⟩], 16⟩),
 (22, ⟨.slice 59, [.v], [.slice none 0 0], 24⟩),
 (24, ⟨.struct [(0, 1, false), (1, 1, false), (2, 1, false)], [.i .i64, .i .i64, .v], [.int .i64 0, .int .i64 0, .slice none 0 0], 40⟩),
 (27, ⟨.struct [(0, 1, false), (1, 1, false), (2, 1, false)], [.i .i64, .i .i64, .v], [.int .i64 0, .int .i64 0, .slice none 0 0], 40⟩),
 (32, ⟨.struct [(0, 1, false), (1, 3, true), (4, 1, false)], [.s, .i .i64, .i .i64, .v, .s], [.string ⟨#[]⟩, .int .i64 0, .int .i64 0, .slice none 0 0, .string ⟨#[]⟩], 72⟩),
 (36, ⟨.struct [(0, 1, false), (1, 3, true), (4, 1, false)], [.s, .i .i64, .i .i64, .v, .s], [.string ⟨#[]⟩, .int .i64 0, .int .i64 0, .slice none 0 0, .string ⟨#[]⟩], 72⟩),
 (40, ⟨.slice 32, [.v], [.slice none 0 0], 24⟩),
 (42, ⟨.struct [(0, 1, false)], [.v], [.slice none 0 0], 24⟩),
 (46, ⟨.slice 36, [.v], [.slice none 0 0], 24⟩),
 (48, ⟨.struct [(0, 1, false)], [.v], [.slice none 0 0], 24⟩),
 (58, ⟨.slice 9, [.v], [.slice none 0 0], 24⟩),
 (59, ⟨.slice 2, [.v], [.slice none 0 0], 24⟩),
 (76, ⟨.slice 5, [.v], [.slice none 0 0], 24⟩),
 (78, ⟨.struct [(0, 1, false), (1, 1, false)], [.p, .v], [.pointer none, .slice none 0 0], 32⟩),
 (91, ⟨.struct [(0, 1, false), (1, 1, false)], [.i .i64, .v], [.int .i64 0, .slice none 0 0], 32⟩),
 (93, ⟨.struct [(0, 1, false), (1, 1, false), (2, 1, false)], [.i .i64, .i .i64, .v], [.int .i64 0, .int .i64 0, .slice none 0 0], 40⟩),
 (98, ⟨.struct [(0, 1, false), (1, 1, false), (2, 1, false)], [.i .i64, .i .i64, .v], [.int .i64 0, .int .i64 0, .slice none 0 0], 40⟩),
 (100, ⟨.struct [(0, 3, true), (3, 1, false)], [.i .i64, .i .i64, .v, .v], [.int .i64 0, .int .i64 0, .slice none 0 0, .slice none 0 0], 64⟩),
 (104, ⟨.slice 149, [.v], [.slice none 0 0], 24⟩),
 (106, ⟨.struct [(0, 1, false), (1, 1, false)], [.v, .v], [.slice none 0 0, .slice none 0 0], 48⟩),
 (112, ⟨.struct [(0, 1, false), (1, 1, false)], [.i .i64, .v], [.int .i64 0, .slice none 0 0], 32⟩),
 (149, ⟨.struct [(0, 1, false), (1, 1, false)], [.i .i64, .i .i64], [.int .i64 0, .int .i64 0], 16⟩),
 (163, ⟨.struct [(0, 1, false), (1, 1, false), (2, 1, false), (3, 1, false), (4, 1, false)], [.i .i64, .v, .v, .v, .v], [.int .i64 0, .slice none 0 0, .slice none 0 0, .slice none 0 0, .slice none 0 0], 104⟩),
 (172, ⟨.int .u64, [.i .u64], [.int .u64 0], 8⟩),
 (217, ⟨.map 9 4, [.v], [.map none], 8⟩),
 (235, ⟨.slice 3, [.v], [.slice none 0 0], 24⟩)]
def rst : List (Nat × RS) := [(0, ⟨true, []⟩),
 (2, ⟨false, [(false, [.i .i64])]⟩),
 (3, ⟨false, [(false, [.i .i64])]⟩),
 (4, ⟨false, [(false, [.b])]⟩),
 (9, ⟨false, [(false, [.s])]⟩),
 (22, ⟨false, [(false, [.v])]⟩),
 (27, ⟨false, [(true, [.i .i64, .i .i64, .v])]⟩),
 (36, ⟨false, [(true, [.s, .i .i64, .i .i64, .v, .s])]⟩),
 (44, ⟨true, [(false, [.s]), (false, [.i .i64])]⟩),
 (46, ⟨false, [(false, [.v])]⟩),
 (48, ⟨false, [(true, [.v])]⟩),
 (58, ⟨false, [(false, [.v])]⟩),
 (59, ⟨false, [(false, [.v])]⟩),
 (81, ⟨true, [(false, [.i .i64]), (false, [.v])]⟩),
 (91, ⟨false, [(true, [.i .i64, .v])]⟩),
 (93, ⟨false, [(true, [.i .i64, .i .i64, .v])]⟩),
 (98, ⟨false, [(true, [.i .i64, .i .i64, .v])]⟩),
 (100, ⟨false, [(true, [.i .i64, .i .i64, .v, .v])]⟩),
 (107, ⟨true, [(true, [.v, .v]), (false, [.b])]⟩),
 (112, ⟨false, [(true, [.i .i64, .v])]⟩),
 (140, ⟨true, [(false, [.i .i64]), (false, [.i .i64])]⟩),
 (151, ⟨true, [(false, [.v]), (false, [.b])]⟩),
 (161, ⟨true, [(false, [.v]), (false, [.v]), (false, [.i .i64])]⟩),
 (163, ⟨false, [(true, [.i .i64, .v, .v, .v, .v])]⟩),
 (166, ⟨true, [(true, [.i .i64, .i .i64, .v]), (false, [.i .i64])]⟩),
 (168, ⟨true, [(false, [.v]), (false, [.v]), (false, [.b])]⟩),
 (180, ⟨true, [(false, [.v]), (false, [.v])]⟩),
 (184, ⟨true, [(false, [.i .i64]), (false, [.b])]⟩)]
def exs : List Nat := [127, 166, 236, 237, 238, 239, 240, 241, 242, 243, 244, 245, 246, 247, 248, 249, 250, 251, 252, 253, 254, 255, 256, 257]
noncomputable def ctx : Ctx := ⟨Tryz.prog, tab, rst, 3, 259, exs, [], False⟩
theorem te2 : TeOk P 2 ⟨.int .i64, [.i .i64], [.int .i64 0], 8⟩ := ⟨by kernel_rfl, by kernel_rfl, by kernel_rfl, by kernel_rfl⟩
theorem te3 : TeOk P 3 ⟨.int .i64, [.i .i64], [.int .i64 0], 8⟩ := ⟨by kernel_rfl, by kernel_rfl, by kernel_rfl, by kernel_rfl⟩
theorem te4 : TeOk P 4 ⟨.bool, [.b], [.bool false], 1⟩ := ⟨by kernel_rfl, by kernel_rfl, by kernel_rfl, by kernel_rfl⟩
theorem te5 : TeOk P 5 ⟨.int .u8, [.i .u8], [.int .u8 0], 1⟩ := ⟨by kernel_rfl, by kernel_rfl, by kernel_rfl, by kernel_rfl⟩
theorem te9 : TeOk P 9 ⟨.str, [.s], [.string ⟨#[]⟩], 16⟩ := ⟨by kernel_rfl, by kernel_rfl, by kernel_rfl, by kernel_rfl⟩
theorem te22 : TeOk P 22 ⟨.slice 59, [.v], [.slice none 0 0], 24⟩ := ⟨by kernel_rfl, by kernel_rfl, by kernel_rfl, by kernel_rfl⟩
theorem te24 : TeOk P 24 ⟨.struct [(0, 1, false), (1, 1, false), (2, 1, false)], [.i .i64, .i .i64, .v], [.int .i64 0, .int .i64 0, .slice none 0 0], 40⟩ := ⟨by kernel_rfl, by kernel_rfl, by kernel_rfl, by kernel_rfl⟩
theorem te27 : TeOk P 27 ⟨.struct [(0, 1, false), (1, 1, false), (2, 1, false)], [.i .i64, .i .i64, .v], [.int .i64 0, .int .i64 0, .slice none 0 0], 40⟩ := ⟨by kernel_rfl, by kernel_rfl, by kernel_rfl, by kernel_rfl⟩
theorem te32 : TeOk P 32 ⟨.struct [(0, 1, false), (1, 3, true), (4, 1, false)], [.s, .i .i64, .i .i64, .v, .s], [.string ⟨#[]⟩, .int .i64 0, .int .i64 0, .slice none 0 0, .string ⟨#[]⟩], 72⟩ := ⟨by kernel_rfl, by kernel_rfl, by kernel_rfl, by kernel_rfl⟩
theorem te36 : TeOk P 36 ⟨.struct [(0, 1, false), (1, 3, true), (4, 1, false)], [.s, .i .i64, .i .i64, .v, .s], [.string ⟨#[]⟩, .int .i64 0, .int .i64 0, .slice none 0 0, .string ⟨#[]⟩], 72⟩ := ⟨by kernel_rfl, by kernel_rfl, by kernel_rfl, by kernel_rfl⟩
theorem te40 : TeOk P 40 ⟨.slice 32, [.v], [.slice none 0 0], 24⟩ := ⟨by kernel_rfl, by kernel_rfl, by kernel_rfl, by kernel_rfl⟩
theorem te42 : TeOk P 42 ⟨.struct [(0, 1, false)], [.v], [.slice none 0 0], 24⟩ := ⟨by kernel_rfl, by kernel_rfl, by kernel_rfl, by kernel_rfl⟩
theorem te46 : TeOk P 46 ⟨.slice 36, [.v], [.slice none 0 0], 24⟩ := ⟨by kernel_rfl, by kernel_rfl, by kernel_rfl, by kernel_rfl⟩
theorem te48 : TeOk P 48 ⟨.struct [(0, 1, false)], [.v], [.slice none 0 0], 24⟩ := ⟨by kernel_rfl, by kernel_rfl, by kernel_rfl, by kernel_rfl⟩
theorem te58 : TeOk P 58 ⟨.slice 9, [.v], [.slice none 0 0], 24⟩ := ⟨by kernel_rfl, by kernel_rfl, by kernel_rfl, by kernel_rfl⟩
theorem te59 : TeOk P 59 ⟨.slice 2, [.v], [.slice none 0 0], 24⟩ := ⟨by kernel_rfl, by kernel_rfl, by kernel_rfl, by kernel_rfl⟩
theorem te76 : TeOk P 76 ⟨.slice 5, [.v], [.slice none 0 0], 24⟩ := ⟨by kernel_rfl, by kernel_rfl, by kernel_rfl, by kernel_rfl⟩
theorem te78 : TeOk P 78 ⟨.struct [(0, 1, false), (1, 1, false)], [.p, .v], [.pointer none, .slice none 0 0], 32⟩ := ⟨by kernel_rfl, by kernel_rfl, by kernel_rfl, by kernel_rfl⟩
theorem te91 : TeOk P 91 ⟨.struct [(0, 1, false), (1, 1, false)], [.i .i64, .v], [.int .i64 0, .slice none 0 0], 32⟩ := ⟨by kernel_rfl, by kernel_rfl, by kernel_rfl, by kernel_rfl⟩
theorem te93 : TeOk P 93 ⟨.struct [(0, 1, false), (1, 1, false), (2, 1, false)], [.i .i64, .i .i64, .v], [.int .i64 0, .int .i64 0, .slice none 0 0], 40⟩ := ⟨by kernel_rfl, by kernel_rfl, by kernel_rfl, by kernel_rfl⟩
theorem te98 : TeOk P 98 ⟨.struct [(0, 1, false), (1, 1, false), (2, 1, false)], [.i .i64, .i .i64, .v], [.int .i64 0, .int .i64 0, .slice none 0 0], 40⟩ := ⟨by kernel_rfl, by kernel_rfl, by kernel_rfl, by kernel_rfl⟩
theorem te100 : TeOk P 100 ⟨.struct [(0, 3, true), (3, 1, false)], [.i .i64, .i .i64, .v, .v], [.int .i64 0, .int .i64 0, .slice none 0 0, .slice none 0 0], 64⟩ := ⟨by kernel_rfl, by kernel_rfl, by kernel_rfl, by kernel_rfl⟩
theorem te104 : TeOk P 104 ⟨.slice 149, [.v], [.slice none 0 0], 24⟩ := ⟨by kernel_rfl, by kernel_rfl, by kernel_rfl, by kernel_rfl⟩
theorem te106 : TeOk P 106 ⟨.struct [(0, 1, false), (1, 1, false)], [.v, .v], [.slice none 0 0, .slice none 0 0], 48⟩ := ⟨by kernel_rfl, by kernel_rfl, by kernel_rfl, by kernel_rfl⟩
theorem te112 : TeOk P 112 ⟨.struct [(0, 1, false), (1, 1, false)], [.i .i64, .v], [.int .i64 0, .slice none 0 0], 32⟩ := ⟨by kernel_rfl, by kernel_rfl, by kernel_rfl, by kernel_rfl⟩
theorem te149 : TeOk P 149 ⟨.struct [(0, 1, false), (1, 1, false)], [.i .i64, .i .i64], [.int .i64 0, .int .i64 0], 16⟩ := ⟨by kernel_rfl, by kernel_rfl, by kernel_rfl, by kernel_rfl⟩
theorem te163 : TeOk P 163 ⟨.struct [(0, 1, false), (1, 1, false), (2, 1, false), (3, 1, false), (4, 1, false)], [.i .i64, .v, .v, .v, .v], [.int .i64 0, .slice none 0 0, .slice none 0 0, .slice none 0 0, .slice none 0 0], 104⟩ := ⟨by kernel_rfl, by kernel_rfl, by kernel_rfl, by kernel_rfl⟩
theorem te172 : TeOk P 172 ⟨.int .u64, [.i .u64], [.int .u64 0], 8⟩ := ⟨by kernel_rfl, by kernel_rfl, by kernel_rfl, by kernel_rfl⟩
theorem te217 : TeOk P 217 ⟨.map 9 4, [.v], [.map none], 8⟩ := ⟨by kernel_rfl, by kernel_rfl, by kernel_rfl, by kernel_rfl⟩
theorem te235 : TeOk P 235 ⟨.slice 3, [.v], [.slice none 0 0], 24⟩ := ⟨by kernel_rfl, by kernel_rfl, by kernel_rfl, by kernel_rfl⟩
theorem tabOk_all : ∀ p ∈ tab, TeOk P p.1 p.2 := by
 unfold tab
 simp only [List.forall_mem_cons]
 exact ⟨te2, te3, te4, te5, te9, te22, te24, te27, te32, te36, te40, te42, te46, te48, te58, te59, te76, te78, te91, te93, te98, te100, te104, te106, te112, te149, te163, te172, te217, te235, fun p hp => by cases hp⟩
theorem tab_mem : ∀ (l : List (Nat × TE)) (t : Nat) (te : TE), tabGet l t = some te → (t, te) ∈ l
 | [], t, te, h => by cases h
 | (k, x) :: r, t, te, h => by
  unfold tabGet at h
  cases hb : Nat.beq k t with
  | true => rw [hb] at h; have := Nat.eq_of_beq_eq_true hb; subst this; cases h; exact List.mem_cons_self ..
  | false => rw [hb] at h; exact List.mem_cons_of_mem _ (tab_mem r t te h)
noncomputable def fnB (f : Nat) : Bool := match P.funcs[f]? with | some fn => fn.body.isSome && !(fn.name == "runtime.NumGoroutine") | none => false
theorem fns_all : (List.range' 3 256).all (fun f => inL exs f || fnB f) = true := by kernel_rfl
theorem ctxOk : CtxOk ctx where
 tab := fun t te h => tabOk_all (t, te) (tab_mem _ t te h)
 fns := fun f hf => by
  simp only [Ctx.okf, Bool.and_eq_true, Bool.not_eq_true'] at hf
  have h1 : 3 ≤ f := Nat.le_of_ble_eq_true hf.1.1
  have h2 : f < 259 := Nat.blt_eq.mp hf.1.2
  have h := List.all_eq_true.1 fns_all f (List.mem_range'_1.2 ⟨h1, by omega⟩)
  have h3 : inL exs f = false := hf.2
  simp only [h3, Bool.false_or] at h
  unfold fnB at h
  split at h
  ·rename_i fn hfn; simp only [Bool.and_eq_true, Bool.not_eq_true'] at h; exact ⟨fn, hfn, h.1, h.2⟩
  ·cases h
 mixed := by kernel_rfl
 ovs := fun f hf => by cases hf
theorem zv {F : Prop} {f : FuncId} {fn : Func} {args : List Value} {h : Heap} {R : Value → Heap → Prop} (A : Ann) (hf : P.funcs[f]? = some fn) (hv : F)
  (hn : ((match fn.body with | some c => cOk fn.ntmps c | none => false) && Nat.ble args.length fn.ntmps) = true := by kernel_rfl) (e : vcFn ctx A fn args h R = F := by kernel_rfl) : CallsH P f args.toArray h R :=
 Zg7 ctxOk A hf args h R hn (e ▸ hv)
variable {R : Value → Heap → Prop} {h : Heap}
theorem Zre {v0 : Value} {x1 : Int} (hv :
 vLen v0 fun n7 =>
 bif decide ((zw (x1 - (n7 : Int)) : Int) < 0) then
 R (zi (-1)) h
 else
 R (zi (zw (x1 - (n7 : Int)))) h) : CallsH P ZlB #[v0, zi x1] h R := zv ⟨[], [], []⟩ Tryz.func44 hv
theorem Zqi {v0 : Value} {x1 : Int} (hv :
 vLen v0 fun n8 =>
 bif decide ((zw (x1 - (n8 : Int)) : Int) < 0) then
 R (zi (-1)) h
 else
 lq2 (zw (x1 - (n8 : Int))) (0 : Int) h fun J n x1_2 x5 h_2 =>
 vLen v0 fun n14 =>
 bif decide (x5 < (n14 : Int)) then
 vIdx v0 x5 1 fun p20 =>
 ldV h_2 p20 fun v21 =>
 zI ZlB #[v21, zi x1_2] h_2 fun x23 h_3 =>
 bif decide (x23 < 0) then
 R (zi (-1)) h_3
 else
 ag2 J n x23 (zw (x5 + 1)) h_3
 else
 R (zi x1_2) h_2) : CallsH P Zjo #[v0, zi x1] h R := zv ⟨[(5, [(1, .i .i64), (5, .i .i64)])], [], []⟩ Tryz.func21 hv
theorem Zvr {x0_0 x0_1 : Int} {v0_2 : Value} {x1 : Int} (hv :
 vNew h (.cells #[zi x0_0, zi x0_1, v0_2] Zjs) fun p2 h_2 =>
 ldV h_2 (p2.add 2) fun v6 =>
 zI Zjo #[v6, zi x1] h_2 fun x8 h_3 =>
 bif decide (x8 < 0) then
 R (zi (-1)) h_3
 else
 R (zi x8) h_3) : CallsH P ZiF #[.agg #[zi x0_0, zi x0_1, v0_2], zi x1] h R := zv ⟨[], [], []⟩ Tryz.func6 hv
theorem ZyB {s0_0 : ByteArray} {x0_1 x0_2 : Int} {v0_3 : Value} {s0_4 : ByteArray} {x1 : Int} (hv :
 vNew h (.cells #[.string s0_0, zi x0_1, zi x0_2, v0_3, .string s0_4] ZxV) fun p2 h_2 =>
 ldS h_2 p2 fun s7 =>
 bif decide ((zw (x1 - (s7.size : Int)) : Int) < 0) then
 R (zi (-1)) h_2
 else
 ldI .i64 h_2 (p2.add 1) fun x13_0 =>
 ldI .i64 h_2 ((p2.add 1).add 1) fun x13_1 =>
 ldV h_2 ((p2.add 1).add 2) fun v13_2 =>
 zI ZiF #[.agg #[zi x13_0, zi x13_1, v13_2], zi (zw (x1 - (s7.size : Int)))] h_2 fun x15 h_3 =>
 bif decide (x15 < 0) then
 R (zi (-1)) h_3
 else
 ldS h_3 (p2.add 4) fun s20 =>
 bif decide ((zw (x15 - (s20.size : Int)) : Int) < 0) then
 R (zi (-1)) h_3
 else
 R (zi (zw (x15 - (s20.size : Int)))) h_3) : CallsH P Zx9 #[.agg #[.string s0_0, zi x0_1, zi x0_2, v0_3, .string s0_4], zi x1] h R := zv ⟨[], [], []⟩ Tryz.func11 hv
theorem ZAM {v0 : Value} {x1 : Int} (hv :
 vLen v0 fun n8 =>
 bif decide ((zw (x1 - (n8 : Int)) : Int) < 0) then
 R (zi (-1)) h
 else
 lq2 (zw (x1 - (n8 : Int))) (0 : Int) h fun J n x1_2 x5 h_2 =>
 vLen v0 fun n14 =>
 bif decide (x5 < (n14 : Int)) then
 vIdx v0 x5 5 fun p20 =>
 ldS h_2 p20 fun s21_0 =>
 ldI .i64 h_2 (p20.add 1) fun x21_1 =>
 ldI .i64 h_2 (p20.add 2) fun x21_2 =>
 ldV h_2 (p20.add 3) fun v21_3 =>
 ldS h_2 (p20.add 4) fun s21_4 =>
 zI Zx9 #[.agg #[.string s21_0, zi x21_1, zi x21_2, v21_3, .string s21_4], zi x1_2] h_2 fun x23 h_3 =>
 bif decide (x23 < 0) then
 R (zi (-1)) h_3
 else
 ag2 J n x23 (zw (x5 + 1)) h_3
 else
 R (zi x1_2) h_2) : CallsH P Zz8 #[v0, zi x1] h R := zv ⟨[(5, [(1, .i .i64), (5, .i .i64)])], [], []⟩ Tryz.func35 hv
theorem ZA7 {v0_0 : Value} {x1 : Int} (hv :
 vNew h (.cells #[v0_0] Zz2) fun p2 h_2 =>
 ldV h_2 p2 fun v6 =>
 zI Zz8 #[v6, zi x1] h_2 fun x8 h_3 =>
 bif decide (x8 < 0) then
 R (zi (-1)) h_3
 else
 R (zi x8) h_3) : CallsH P Zz4 #[.agg #[v0_0], zi x1] h R := zv ⟨[], [], []⟩ Tryz.func16 hv
theorem Zqt {x0 x1 x2 : Int} (hv :
 bif decide (x0 ≥ x1) then
 R (.bool (decide (x0 ≤ x2))) h
 else
 R (.bool false) h) : CallsH P Z6 #[zi x0, zi x1, zi x2] h R := zv ⟨[], [], []⟩ Tryz.func86 hv
theorem ZuH {v0 : Value} {x1 : Int} (hv :
 lq1 (0 : Int) h fun J n x5 h_2 =>
 vLen v0 fun n8 =>
 bif decide (x5 < (n8 : Int)) then
 vIdx v0 x5 1 fun p14 =>
 ldI .i64 h_2 p14 fun x15 =>
 bif x15 == x1 then
 R (.bool true) h_2
 else
 ag1 J n (zw (x5 + 1)) h_2
 else
 R (.bool false) h_2) : CallsH P Zit #[v0, zi x1] h R := zv ⟨[(2, [(5, .i .i64)])], [], []⟩ Tryz.func128 hv
theorem ZqR {v0 : Value} (hv :
 vLen v0 fun n5 =>
 bif decide ((n5 : Int) > 32) then
 R (.bool false) h
 else
 lq1 (0 : Int) h fun J n x3 h_2 =>
 vLen v0 fun n9 =>
 bif decide (x3 < (n9 : Int)) then
 vIdx v0 x3 1 fun p15 =>
 ldI .i64 h_2 p15 fun x16 =>
 vLen v0 fun n18 =>
 zB Z6 #[zi x16, zi 0, zi (zw ((n18 : Int) - 1))] h_2 fun b20 h_3 =>
 bif !b20 then
 R (.bool false) h_3
 else
 vSliceS v0 1 none (some (zi x3)) none fun v25 =>
 vIdx v0 x3 1 fun p28 =>
 ldI .i64 h_3 p28 fun x29 =>
 zB Zit #[v25, zi x29] h_3 fun b30 h_4 =>
 bif b30 then
 R (.bool false) h_4
 else
 ag1 J n (zw (x3 + 1)) h_4
 else
 R (.bool true) h_2) : CallsH P Zfw #[v0] h R := zv ⟨[(4, [(3, .i .i64)])], [], []⟩ Tryz.func85 hv
theorem Zq4 {v0 : Value} (hv :
 vLen v0 fun n9 =>
 ∃ J : Heap → Prop, (
 bif decide ((n9 : Int) < 1) then
 R (.bool false) h
 else
 bif decide ((n9 : Int) > 10) then
 R (.bool false) h
 else
 J h
 ) ∧ ∀ (_ : Env) (h_2 : Heap), J h_2 →
 lq1 (0 : Int) h_2 fun J_2 n x4 h_3 =>
 bif decide (x4 < (n9 : Int)) then
 vIdx v0 x4 1 fun p23 =>
 ldV h_3 p23 fun v24 =>
 vLen v24 fun n25 =>
 bif (n25 : Int) != (n9 : Int) then
 R (.bool false) h_3
 else
 vIdx v0 x4 1 fun p31 =>
 ldV h_3 p31 fun v32 =>
 zB Zfw #[v32] h_3 fun b33 h_4 =>
 bif !b33 then
 R (.bool false) h_4
 else
 ag1 J_2 n (zw (x4 + 1)) h_4
 else
 lq1 (0 : Int) h_3 fun J_3 n_3 x5 h_5 =>
 bif decide (x5 < (n9 : Int)) then
 vNewS h_5 (.cells #[] Zg) 0 fun v41 h_6 =>
 lq2 v41 (0 : Int) h_6 fun J_4 n_5 v6 x7 h_7 =>
 bif decide (x7 < (n9 : Int)) then
 vIdx v0 x7 1 fun p50 =>
 ldV h_7 p50 fun v51 =>
 vIdx v51 x5 1 fun p53 =>
 ldI .i64 h_7 p53 fun x54 =>
 vNewS h_7 (.cells #[zi x54] Zg) 1 fun v55 h_8 =>
 vAppend 1 8 [zi 0] Zg v6 v55 h_8 fun v56 h_9 =>
 ag2 J_4 n_5 v56 (zw (x7 + 1)) h_9
 else
 zB Zfw #[v6] h_7 fun b58 h_10 =>
 bif !b58 then
 R (.bool false) h_10
 else
 ag1 J_3 n_3 (zw (x5 + 1)) h_10
 else
 R (.bool true) h_5) : CallsH P ZkL #[v0] h R := zv ⟨[(5, [(4, .i .i64)]), (10, [(5, .i .i64)]), (14, [(6, .v), (7, .i .i64)])], [(4, [])], []⟩ Tryz.func45 hv
theorem ZvJ {v0 : Value} {x1 x2 : Int} (hv :
 lq1 (0 : Int) h fun J n x7 h_2 =>
 vLen v0 fun n10 =>
 bif decide (x7 < (n10 : Int)) then
 vIdx v0 x7 1 fun p16 =>
 ldI .i64 h_2 p16 fun x17 =>
 zB Z6 #[zi x17, zi x1, zi x2] h_2 fun b20 h_3 =>
 bif !b20 then
 R (.bool false) h_3
 else
 bif decide (x7 > 0) then
 vIdx v0 (zw (x7 - 1)) 1 fun p29 =>
 ldI .i64 h_3 p29 fun x30 =>
 vIdx v0 x7 1 fun p33 =>
 ldI .i64 h_3 p33 fun x34 =>
 bif decide (x30 ≥ x34) then
 R (.bool false) h_3
 else
 ag1 J n (zw (x7 + 1)) h_3
 else
 ag1 J n (zw (x7 + 1)) h_3
 else
 R (.bool true) h_2) : CallsH P Zkn #[v0, zi x1, zi x2] h R := zv ⟨[(2, [(7, .i .i64)])], [], []⟩ Tryz.func129 hv
theorem Zt8 {v0 : Value} {x1 : Int} (hv :
 vLen v0 fun n6 =>
 bif decide ((n6 : Int) > 0) then
 zB Zkn #[v0, zi 0, zi (zw (x1 - 1))] h fun b12 h_2 =>
 R (.bool b12) h_2
 else
 R (.bool false) h) : CallsH P ZkT #[v0, zi x1] h R := zv ⟨[], [], []⟩ Tryz.func87 hv
theorem ZuD {v0 v1 : Value} (hv :
 ∃ J : Heap → Prop, (
 lq1 (0 : Int) h fun J_2 n x5 h_2 =>
 ∃ J_3 : Heap → Prop, (
 vLen v0 fun n8 =>
 bif decide (x5 < (n8 : Int)) then
 vLen v1 fun n13 =>
 bif decide (x5 < (n13 : Int)) then
 J_3 h_2
 else
 J h_2
 else
 J h_2
 ) ∧ ∀ (_ : Env) (h_3 : Heap), J_3 h_3 →
 vIdx v0 x5 1 fun p20 =>
 ldI .i64 h_3 p20 fun x21 =>
 vIdx v1 x5 1 fun p24 =>
 ldI .i64 h_3 p24 fun x25 =>
 bif decide (x21 < x25) then
 R (zi (-1)) h_3
 else
 vIdx v0 x5 1 fun p29 =>
 ldI .i64 h_3 p29 fun x30 =>
 vIdx v1 x5 1 fun p33 =>
 ldI .i64 h_3 p33 fun x34 =>
 bif decide (x30 > x34) then
 R (zi 1) h_3
 else
 ag1 J_2 n (zw (x5 + 1)) h_3
 ) ∧ ∀ (_ : Env) (h_4 : Heap), J h_4 →
 vLen v0 fun n37 =>
 vLen v1 fun n39 =>
 bif decide ((n37 : Int) < (n39 : Int)) then
 R (zi (-1)) h_4
 else
 vLen v0 fun n42 =>
 vLen v1 fun n44 =>
 bif decide ((n42 : Int) > (n44 : Int)) then
 R (zi 1) h_4
 else
 R (zi 0) h_4) : CallsH P Zeq #[v0, v1] h R := zv ⟨[(2, [(5, .i .i64)])], [(4, []), (8, [])], []⟩ Tryz.func88 hv
theorem Zwb {p0 : Addr} (hv :
 ∃ J : Heap → Prop, (
 ldI .i64 h p0 fun x7 =>
 zB Z6 #[zi x7, zi 1, zi 32] h fun b8 h_2 =>
 bif !b8 then
 R (.bool false) h_2
 else
 ldV h_2 (p0.add 1) fun v14 =>
 vLen v14 fun n15 =>
 bif decide ((n15 : Int) > 128) then
 R (.bool false) h_2
 else
 J h_2
 ) ∧ ∀ (_ : Env) (h_3 : Heap), J h_3 →
 lq1 (0 : Int) h_3 fun J_2 n x3 h_4 =>
 ldV h_4 (p0.add 1) fun v22 =>
 vLen v22 fun n23 =>
 bif decide (x3 < (n23 : Int)) then
 ldV h_4 (p0.add 1) fun v30 =>
 vIdx v30 x3 1 fun p32 =>
 ldV h_4 p32 fun v33 =>
 ldI .i64 h_4 p0 fun x37 =>
 zB ZkT #[v33, zi x37] h_4 fun b38 h_5 =>
 bif !b38 then
 R (.bool false) h_5
 else
 bif decide (x3 > 0) then
 ldV h_5 (p0.add 1) fun v47 =>
 vIdx v47 (zw (x3 - 1)) 1 fun p50 =>
 ldV h_5 p50 fun v51 =>
 ldV h_5 (p0.add 1) fun v55 =>
 vIdx v55 x3 1 fun p57 =>
 ldV h_5 p57 fun v58 =>
 zI Zeq #[v51, v58] h_5 fun x59 h_6 =>
 bif decide (x59 > 0) then
 R (.bool false) h_6
 else
 ag1 J_2 n (zw (x3 + 1)) h_6
 else
 ag1 J_2 n (zw (x3 + 1)) h_5
 else
 R (.bool true) h_4) : CallsH P Zj4 #[.pointer (some p0)] h R := zv ⟨[(4, [(3, .i .i64)])], [(3, [])], []⟩ Tryz.func46 hv
theorem Zpi {v0 v1 : Value} (hv :
 lq2 (0 : Int) (0 : Int) h fun J n x5 x6 h_2 =>
 vLen v0 fun n9 =>
 bif decide (x6 < (n9 : Int)) then
 vIdx v0 x6 1 fun p16 =>
 ldI .i64 h_2 p16 fun x17 =>
 vIdx v1 x6 1 fun p20 =>
 ldI .i64 h_2 p20 fun x21 =>
 ag2 J n (zw (x5 + (zw (x17 * x21)))) (zw (x6 + 1)) h_2
 else
 R (zi x5) h_2) : CallsH P ZkX #[v0, v1] h R := zv ⟨[(3, [(5, .i .i64), (6, .i .i64)])], [], []⟩ Tryz.func89 hv
theorem Zt6 {v0 : Value} (hv :
 vLen v0 fun n9 =>
 ∃ J : Heap → Prop, (
 bif decide ((n9 : Int) < 1) then
 R (.bool false) h
 else
 bif decide ((n9 : Int) > 32) then
 R (.bool false) h
 else
 J h
 ) ∧ ∀ (_ : Env) (h_2 : Heap), J h_2 →
 lq1 (0 : Int) h_2 fun J_2 n x4 h_3 =>
 bif decide (x4 < (n9 : Int)) then
 vIdx v0 x4 1 fun p23 =>
 ldV h_3 p23 fun v24 =>
 vLen v24 fun n25 =>
 bif (n25 : Int) != (n9 : Int) then
 R (.bool false) h_3
 else
 lq1 (0 : Int) h_3 fun J_3 n_3 x5 h_4 =>
 bif decide (x5 < (n9 : Int)) then
 vIdx v0 x4 1 fun p35 =>
 ldV h_4 p35 fun v36 =>
 vIdx v36 x5 1 fun p38 =>
 ldI .i64 h_4 p38 fun x39 =>
 bif x39 != 1 then
 vIdx v0 x4 1 fun p44 =>
 ldV h_4 p44 fun v45 =>
 vIdx v45 x5 1 fun p47 =>
 ldI .i64 h_4 p47 fun x48 =>
 bif x48 != (-1) then
 R (.bool false) h_4
 else
 ag1 J_3 n_3 (zw (x5 + 1)) h_4
 else
 ag1 J_3 n_3 (zw (x5 + 1)) h_4
 else
 ag1 J_2 n (zw (x4 + 1)) h_4
 else
 lq1 (0 : Int) h_3 fun J_4 n_5 x6 h_5 =>
 bif decide (x6 < (n9 : Int)) then
 lq1 (0 : Int) h_5 fun J_5 n_7 x7 h_6 =>
 bif decide (x7 < x6) then
 vIdx v0 x6 1 fun p63 =>
 ldV h_6 p63 fun v64 =>
 vIdx v0 x7 1 fun p67 =>
 ldV h_6 p67 fun v68 =>
 zI ZkX #[v64, v68] h_6 fun x69 h_7 =>
 bif x69 != 0 then
 R (.bool false) h_7
 else
 ag1 J_5 n_7 (zw (x7 + 1)) h_7
 else
 ag1 J_4 n_5 (zw (x6 + 1)) h_6
 else
 R (.bool true) h_5) : CallsH P Zj5 #[v0] h R := zv ⟨[(5, [(4, .i .i64)]), (10, [(5, .i .i64)]), (15, [(6, .i .i64)]), (18, [(7, .i .i64)])], [(4, [])], []⟩ Tryz.func47 hv
theorem Zrb {p0 : Addr} (hv :
 vNew h (.cells #[zi 0, zi 0, .slice none 0 0] ZcC) fun p2 h_2 =>
 ∃ B : Nat → Prop,
 vNew h_2 (.cells #[zi 0, zi 0, .slice none 0 0] ZcC) fun p3 h_3 =>
 ExtBut B h_2 h_3 ∧
 ldI .i64 (hmask B h_2) (p0.add 1) fun x7 =>
 ldV (hmask B h_2) (p0.add 2) fun v11 =>
 vOne v11 fun _ =>
 vStore1 h_3 p3 (zi x7) fun h_4 =>
 vStore1 h_4 (p3.add 1) (zi 0) fun h_5 =>
 vStore1 h_5 (p3.add 2) v11 fun h_6 =>
 ldV h_6 (p0.add 2) fun v16 =>
 vLen v16 fun n17 =>
 bif decide ((n17 : Int) > 0) then
 ldV h_6 (p0.add 2) fun v22 =>
 vIdx v22 0 1 fun p23 =>
 ldV h_6 p23 fun v24 =>
 vLen v24 fun n25 =>
 vStore1 h_6 (p3.add 1) (zi (n25 : Int)) fun h_7 =>
 ldI .i64 h_7 p3 fun x27_0 =>
 ldI .i64 h_7 (p3.add 1) fun x27_1 =>
 ldV h_7 (p3.add 2) fun v27_2 =>
 vStore1 h_7 p2 (zi x27_0) fun h_8 =>
 vStore1 h_8 (p2.add 1) (zi x27_1) fun h_9 =>
 vStore1 h_9 (p2.add 2) v27_2 fun h_10 =>
 ldI .i64 h_10 p2 fun xres0_0 =>
 ldI .i64 h_10 (p2.add 1) fun xres0_1 =>
 ldV h_10 (p2.add 2) fun vres0_2 =>
 R (.agg #[zi xres0_0, zi xres0_1, vres0_2]) h_10
 else
 ldI .i64 h_6 p3 fun x27_0_2 =>
 ldI .i64 h_6 (p3.add 1) fun x27_1_2 =>
 ldV h_6 (p3.add 2) fun v27_2_2 =>
 vStore1 h_6 p2 (zi x27_0_2) fun h_11 =>
 vStore1 h_11 (p2.add 1) (zi x27_1_2) fun h_12 =>
 vStore1 h_12 (p2.add 2) v27_2_2 fun h_13 =>
 ldI .i64 h_13 p2 fun xres0_0_2 =>
 ldI .i64 h_13 (p2.add 1) fun xres0_1_2 =>
 ldV h_13 (p2.add 2) fun vres0_2_2 =>
 R (.agg #[zi xres0_0_2, zi xres0_1_2, vres0_2_2]) h_13) : CallsH P ZkS #[.pointer (some p0)] h R := zv ⟨[], [], []⟩ Tryz.func48 hv
theorem Zw1 {x0 x1 : Int} (hv :
 zB Z6 #[zi x0, zi 2, zi 16] h fun b6 h_2 =>
 bif b6 then
 zB Z6 #[zi x1, zi 1, zi 8] h_2 fun b9 h_3 =>
 R (.bool b9) h_3
 else
 R (.bool false) h_2) : CallsH P ZjU #[zi x0, zi x1] h R := zv ⟨[], [], []⟩ Tryz.func90 hv
theorem ZpE {p0 : Addr} (hv :
 ∃ J : Heap → Prop, (
 ldI .i64 h p0 fun x8 =>
 ldI .i64 h (p0.add 1) fun x12 =>
 zB ZjU #[zi x8, zi x12] h fun b13 h_2 =>
 bif !b13 then
 R (.bool false) h_2
 else
 ldV h_2 (p0.add 2) fun v19 =>
 vLen v19 fun n20 =>
 bif decide ((n20 : Int) > 256) then
 R (.bool false) h_2
 else
 J h_2
 ) ∧ ∀ (_ : Env) (h_3 : Heap), J h_3 →
 lq1 (0 : Int) h_3 fun J_2 n x3 h_4 =>
 ldV h_4 (p0.add 2) fun v27 =>
 vLen v27 fun n28 =>
 bif decide (x3 < (n28 : Int)) then
 ldV h_4 (p0.add 2) fun v35 =>
 vIdx v35 x3 1 fun p37 =>
 ldV h_4 p37 fun v38 =>
 vLen v38 fun n39 =>
 ldI .i64 h_4 (p0.add 1) fun x43 =>
 bif (n39 : Int) != x43 then
 R (.bool false) h_4
 else
 lq1 (0 : Int) h_4 fun J_3 n_3 x4 h_5 =>
 ldV h_5 (p0.add 2) fun v49 =>
 vIdx v49 x3 1 fun p51 =>
 ldV h_5 p51 fun v52 =>
 vLen v52 fun n53 =>
 bif decide (x4 < (n53 : Int)) then
 ldV h_5 (p0.add 2) fun v60 =>
 vIdx v60 x3 1 fun p62 =>
 ldV h_5 p62 fun v63 =>
 vIdx v63 x4 1 fun p65 =>
 ldI .i64 h_5 p65 fun x66 =>
 ldI .i64 h_5 p0 fun x70 =>
 zB Z6 #[zi x66, zi 0, zi (zw (x70 - 1))] h_5 fun b72 h_6 =>
 bif !b72 then
 R (.bool false) h_6
 else
 ag1 J_3 n_3 (zw (x4 + 1)) h_6
 else
 ag1 J_2 n (zw (x3 + 1)) h_5
 else
 R (.bool true) h_4) : CallsH P Zke #[.pointer (some p0)] h R := zv ⟨[(4, [(3, .i .i64)]), (9, [(4, .i .i64)])], [(3, [])], []⟩ Tryz.func49 hv
theorem ZrW {x0 : Int} (hv :
 zB Z6 #[zi x0, zi 2, zi 64] h fun b8 h_2 =>
 bif !b8 then
 R (.tuple #[zi 0, zi 0]) h_2
 else
 lq1 (2 : Int) h_2 fun J n x4 h_3 =>
 x4 ≠ 0 ∧
 bif (Int.tmod x0 x4 : Int) != 0 then
 ag1 J n (zw (x4 + 1)) h_3
 else
 lq2 (0 : Int) x0 h_3 fun J_2 n_3 x5 x6 h_4 =>
 bif decide (x6 > 1) then
 x4 ≠ 0 ∧
 bif (Int.tmod x6 x4 : Int) != 0 then
 R (.tuple #[zi 0, zi 0]) h_4
 else
 x4 ≠ 0 ∧
 ag2 J_2 n_3 (zw (x5 + 1)) (zw (Int.tdiv x6 x4)) h_4
 else
 R (.tuple #[zi x4, zi x5]) h_4) : CallsH P ZfT #[zi x0] h R := zv ⟨[(4, [(4, .i .i64)]), (8, [(5, .i .i64), (6, .i .i64)])], [], []⟩ Tryz.func91 hv
theorem ZtH {x0 x1 x2 : Int} (hv :
 vNewS h (.cells #[] Zg) 0 fun v8 h_2 =>
 lq3 x0 x2 v8 h_2 fun J n x0_2 x2_2 v7 h_3 =>
 bif decide (x2_2 > 0) then
 x1 ≠ 0 ∧
 vNewS h_3 (.cells #[zi (Int.tmod x0_2 x1)] Zg) 1 fun v17 h_4 =>
 vAppend 1 8 [zi 0] Zg v7 v17 h_4 fun v18 h_5 =>
 x1 ≠ 0 ∧
 ag3 J n (zw (Int.tdiv x0_2 x1)) (zw (x2_2 - 1)) v18 h_5
 else
 R v7 h_3) : CallsH P Zb8 #[zi x0, zi x1, zi x2] h R := zv ⟨[(2, [(0, .i .i64), (2, .i .i64), (7, .v)])], [], []⟩ Tryz.func130 hv
theorem Zve {x0 x1 : Int} (hv :
 lq2 x1 (1 : Int) h fun J n x1_2 x5 h_2 =>
 bif decide (x1_2 > 0) then
 ag2 J n (zw (x1_2 - 1)) (zw (x5 * x0)) h_2
 else
 R (zi x5) h_2) : CallsH P Zfh #[zi x0, zi x1] h R := zv ⟨[(2, [(1, .i .i64), (5, .i .i64)])], [], []⟩ Tryz.func134 hv
theorem Zqu {v0 : Value} (hv :
 vNewS h (.cells #[] Zg) 0 fun v3 h_2 =>
 vAppend 1 8 [zi 0] Zg v3 v0 h_2 fun v5 h_3 =>
 R v5 h_3) : CallsH P ZfW #[v0] h R := zv ⟨[], [], []⟩ Tryz.func141 hv
theorem Zpt {v0 v1 : Value} {x2 : Int} (hv :
 zV ZfW #[v0] h fun v14 h_2 =>
 vLen v1 fun n16 =>
 vLen v14 fun n18 =>
 lq1 (zw ((n18 : Int) - 1)) h_2 fun J n x9 h_3 =>
 bif decide (x9 ≥ (zw ((n16 : Int) - 1))) then
 vIdx v14 x9 1 fun p28 =>
 ldI .i64 h_3 p28 fun x29 =>
 lq1 (0 : Int) h_3 fun J_2 n_3 x11 h_4 =>
 bif decide (x11 < (n16 : Int)) then
 vIdx v14 (zw ((zw ((zw (x9 - (n16 : Int))) + 1)) + x11)) 1 fun p45 =>
 ldI .i64 h_4 p45 fun x46 =>
 vIdx v1 x11 1 fun p52 =>
 ldI .i64 h_4 p52 fun x53 =>
 x2 ≠ 0 ∧
 vIdx v14 (zw ((zw ((zw (x9 - (n16 : Int))) + 1)) + x11)) 1 fun p58 =>
 vStore1 h_4 p58 (zi (Int.tmod (zw (x46 + (zw ((zw (x2 - x29)) * x53)))) x2)) fun h_5 =>
 ag1 J_2 n_3 (zw (x11 + 1)) h_5
 else
 ag1 J n (zw (x9 - 1)) h_4
 else
 lq1 v14 h_3 fun J_3 n_5 v7 h_6 =>
 vLen v7 fun n60 =>
 bif decide ((n60 : Int) ≥ (n16 : Int)) then
 vLen v7 fun n65 =>
 vSliceS v7 1 none (some (zi (zw ((n65 : Int) - 1)))) none fun v67 =>
 ag1 J_3 n_5 v67 h_6
 else
 R v7 h_6) : CallsH P ZgW #[v0, v1, zi x2] h R := zv ⟨[(4, [(9, .i .i64)]), (8, [(11, .i .i64)]), (12, [(7, .v)])], [], []⟩ Tryz.func171 hv
theorem ZqN {v0 : Value} {x1 : Int} (hv :
 vLen v0 fun n8 =>
 lq2 (0 : Int) (zw ((n8 : Int) - 1)) h fun J n x5 x6 h_2 =>
 bif decide (x6 ≥ 0) then
 vIdx v0 x6 1 fun p19 =>
 ldI .i64 h_2 p19 fun x20 =>
 ag2 J n (zw ((zw (x5 * x1)) + x20)) (zw (x6 - 1)) h_2
 else
 R (zi x5) h_2) : CallsH P Zfr #[v0, zi x1] h R := zv ⟨[(3, [(5, .i .i64), (6, .i .i64)])], [], []⟩ Tryz.func172 hv
theorem Zuo {v0 : Value} {x1 : Int} (hv :
 vLen v0 fun n11 =>
 lq1 (1 : Int) h fun J n x6 h_2 =>
 bif decide ((zw (2 * x6) : Int) ≤ (zw ((n11 : Int) - 1))) then
 lq1 (0 : Int) h_2 fun J_2 n_3 x7 h_3 =>
 zI Zfh #[zi x1, zi x6] h_3 fun x22 h_4 =>
 bif decide (x7 < x22) then
 zV Zb8 #[zi x7, zi x1, zi x6] h_4 fun v29 h_5 =>
 vNewS h_5 (.cells #[zi 1] Zg) 1 fun v30 h_6 =>
 vAppend 1 8 [zi 0] Zg v29 v30 h_6 fun v31 h_7 =>
 zV ZgW #[v0, v31, zi x1] h_7 fun v35 h_8 =>
 zI Zfr #[v35, zi x1] h_8 fun x38 h_9 =>
 bif x38 == 0 then
 R (.bool false) h_9
 else
 ag1 J_2 n_3 (zw (x7 + 1)) h_9
 else
 ag1 J n (zw (x6 + 1)) h_4
 else
 R (.bool true) h_2) : CallsH P Zg9 #[v0, zi x1] h R := zv ⟨[(3, [(6, .i .i64)]), (6, [(7, .i .i64)])], [], []⟩ Tryz.func131 hv
theorem ZuS {x0 : Int} (hv :
 vNew h (.cells #[zi 0, zi 0, .slice none 0 0] Zbv) fun p2 h_2 =>
 CallsH P ZfT #[zi x0] h_2 fun r9 h_3 => ∃ x9_0, ∃ x9_1, r9 = .tuple #[zi x9_0, zi x9_1] ∧
 lq1 (0 : Int) h_3 fun J n x5 h_4 =>
 zV Zb8 #[zi x5, zi x9_0, zi x9_1] h_4 fun v17 h_5 =>
 vNewS h_5 (.cells #[zi 1] Zg) 1 fun v18 h_6 =>
 vAppend 1 8 [zi 0] Zg v17 v18 h_6 fun v19 h_7 =>
 zB Zg9 #[v19, zi x9_0] h_7 fun b22 h_8 =>
 bif b22 then
 vOne v19 fun _ =>
 vStore1 h_8 p2 (zi x9_0) fun h_9 =>
 vStore1 h_9 (p2.add 1) (zi x9_1) fun h_10 =>
 vStore1 h_10 (p2.add 2) v19 fun h_11 =>
 ldI .i64 h_11 p2 fun xres0_0 =>
 ldI .i64 h_11 (p2.add 1) fun xres0_1 =>
 ldV h_11 (p2.add 2) fun vres0_2 =>
 R (.agg #[zi xres0_0, zi xres0_1, vres0_2]) h_11
 else
 ag1 J n (zw (x5 + 1)) h_8) : CallsH P Zka #[zi x0] h R := zv ⟨[(4, [(5, .i .i64)])], [], []⟩ Tryz.func92 hv
theorem Zvx {p0 : Addr} (hv :
 vNew h (.cells #[zi 0, zi 0, .slice none 0 0, .slice none 0 0] Zh7) fun p2 h_2 =>
 ldI .i64 h_2 (p0.add 1) fun x9 =>
 CallsH P ZfT #[zi x9] h_2 fun r10 h_3 => ∃ x10_0, ∃ x10_1, r10 = .tuple #[zi x10_0, zi x10_1] ∧
 bif x10_0 == 0 then
 vStore1 h_3 p2 (zi 0) fun h_4 =>
 vStore1 h_4 (p2.add 1) (zi 0) fun h_5 =>
 vStore1 h_5 (p2.add 2) (.slice none 0 0) fun h_6 =>
 vStore1 h_6 (p2.add 3) (.slice none 0 0) fun h_7 =>
 ldI .i64 h_7 p2 fun xres0_0 =>
 ldI .i64 h_7 (p2.add 1) fun xres0_1 =>
 ldV h_7 (p2.add 2) fun vres0_2 =>
 ldV h_7 (p2.add 3) fun vres0_3 =>
 R (.agg #[zi xres0_0, zi xres0_1, vres0_2, vres0_3]) h_7
 else
 ∃ B : Nat → Prop,
 ldI .i64 h_3 (p0.add 1) fun x19 =>
 CallsH P Zka #[zi x19] h_3 fun r20 h_8 => ∃ x20_0_0, ∃ x20_0_1, ∃ (v20_0_2 : Value), r20 = .agg #[zi x20_0_0, zi x20_0_1, v20_0_2] ∧
 ExtBut B h_3 h_8 ∧
 ldV (hmask B h_3) (p0.add 2) fun v24 =>
 vOne v24 fun _ =>
 vStore1 h_8 p2 (zi x20_0_0) fun h_9 =>
 vStore1 h_9 (p2.add 1) (zi x20_0_1) fun h_10 =>
 vStore1 h_10 (p2.add 2) v20_0_2 fun h_11 =>
 vStore1 h_11 (p2.add 3) v24 fun h_12 =>
 ldI .i64 h_12 p2 fun xres0_0_2 =>
 ldI .i64 h_12 (p2.add 1) fun xres0_1_2 =>
 ldV h_12 (p2.add 2) fun vres0_2_2 =>
 ldV h_12 (p2.add 3) fun vres0_3_2 =>
 R (.agg #[zi xres0_0_2, zi xres0_1_2, vres0_2_2, vres0_3_2]) h_12) : CallsH P Zk9 #[.pointer (some p0)] h R := zv ⟨[], [], []⟩ Tryz.func50 hv
theorem Zr7 {p0 : Addr} (hv :
 ∃ J : Heap → Prop, (
 ldI .i64 h p0 fun x10 =>
 zB Z6 #[zi x10, zi 2, zi 64] h fun b11 h_2 =>
 bif !b11 then
 R (.bool false) h_2
 else
 ldI .i64 h_2 (p0.add 1) fun x17 =>
 zB Z6 #[zi x17, zi 1, zi 6] h_2 fun b18 h_3 =>
 bif !b18 then
 R (.bool false) h_3
 else
 ldV h_3 (p0.add 2) fun v25 =>
 vLen v25 fun n26 =>
 ldI .i64 h_3 (p0.add 1) fun x30 =>
 bif (n26 : Int) != (zw (x30 + 1)) then
 R (.bool false) h_3
 else
 ldV h_3 (p0.add 2) fun v38 =>
 ldI .i64 h_3 (p0.add 1) fun x42 =>
 vIdx v38 x42 1 fun p43 =>
 ldI .i64 h_3 p43 fun x44 =>
 bif x44 != 1 then
 R (.bool false) h_3
 else
 J h_3
 ) ∧ ∀ (_ : Env) (h_4 : Heap), J h_4 →
 ldI .i64 h_4 p0 fun x50 =>
 ldI .i64 h_4 (p0.add 1) fun x54 =>
 zI Zfh #[zi x50, zi x54] h_4 fun x55 h_5 =>
 CallsH P ZfT #[zi x55] h_5 fun r58 h_6 => ∃ x58_0, ∃ x58_1, r58 = .tuple #[zi x58_0, zi x58_1] ∧
 ldI .i64 h_6 p0 fun x65 =>
 bif x58_0 != x65 then
 R (.bool false) h_6
 else
 lq1 (0 : Int) h_6 fun J_2 n x6 h_7 =>
 ldV h_7 (p0.add 2) fun v71 =>
 vLen v71 fun n72 =>
 bif decide (x6 < (n72 : Int)) then
 ldV h_7 (p0.add 2) fun v79 =>
 vIdx v79 x6 1 fun p81 =>
 ldI .i64 h_7 p81 fun x82 =>
 zB Z6 #[zi x82, zi 0, zi (zw (x58_0 - 1))] h_7 fun b85 h_8 =>
 bif !b85 then
 R (.bool false) h_8
 else
 ag1 J_2 n (zw (x6 + 1)) h_8
 else
 ldV h_7 (p0.add 2) fun v90 =>
 zB Zg9 #[v90, zi x58_0] h_7 fun b92 h_9 =>
 R (.bool b92) h_9) : CallsH P Zjj #[.pointer (some p0)] h R := zv ⟨[(8, [(6, .i .i64)])], [(3, [])], []⟩ Tryz.func132 hv
theorem Zpq {p0 : Addr} (hv :
 ldI .i64 h p0 fun x6 =>
 ldI .i64 h (p0.add 1) fun x10 =>
 zI Zfh #[zi x6, zi x10] h fun x11 h_2 =>
 R (zi x11) h_2) : CallsH P Zhl #[.pointer (some p0)] h R := zv ⟨[], [], []⟩ Tryz.func95 hv
theorem Zsv {p0 : Addr} {v1 : Value} (hv :
 zI Zhl #[.pointer (some p0)] h fun x8 h_2 =>
 lq1 (0 : Int) h_2 fun J n x6 h_3 =>
 vLen v1 fun n11 =>
 bif decide (x6 < (n11 : Int)) then
 vIdx v1 x6 1 fun p17 =>
 ldI .i64 h_3 p17 fun x18 =>
 zB Z6 #[zi x18, zi 0, zi (zw (x8 - 1))] h_3 fun b21 h_4 =>
 bif !b21 then
 R (.bool false) h_4
 else
 ag1 J n (zw (x6 + 1)) h_4
 else
 R (.bool true) h_3) : CallsH P ZjE #[.pointer (some p0), v1] h R := zv ⟨[(3, [(6, .i .i64)])], [], []⟩ Tryz.func133 hv
theorem ZvG {p0 : Addr} {v1 : Value} (hv :
 ∃ J : Heap → Prop, (
 zB Zjj #[.pointer (some p0)] h fun b7 h_2 =>
 bif !b7 then
 R (.bool false) h_2
 else
 vLen v1 fun n11 =>
 bif (n11 : Int) == 0 then
 R (.bool false) h_2
 else
 vLen v1 fun n16 =>
 bif decide ((n16 : Int) > 32) then
 R (.bool false) h_2
 else
 vIdx v1 0 1 fun p21 =>
 ldV h_2 p21 fun v22 =>
 vLen v22 fun n23 =>
 bif (n23 : Int) == 0 then
 R (.bool false) h_2
 else
 vIdx v1 0 1 fun p28 =>
 ldV h_2 p28 fun v29 =>
 vLen v29 fun n30 =>
 bif decide ((n30 : Int) > 32) then
 R (.bool false) h_2
 else
 J h_2
 ) ∧ ∀ (_ : Env) (h_3 : Heap), J h_3 →
 lq1 (0 : Int) h_3 fun J_2 n x5 h_4 =>
 vLen v1 fun n35 =>
 bif decide (x5 < (n35 : Int)) then
 vIdx v1 x5 1 fun p41 =>
 ldV h_4 p41 fun v42 =>
 vLen v42 fun n43 =>
 vIdx v1 0 1 fun p45 =>
 ldV h_4 p45 fun v46 =>
 vLen v46 fun n47 =>
 bif (n43 : Int) != (n47 : Int) then
 R (.bool false) h_4
 else
 vIdx v1 x5 1 fun p53 =>
 ldV h_4 p53 fun v54 =>
 zB ZjE #[.pointer (some p0), v54] h_4 fun b55 h_5 =>
 bif !b55 then
 R (.bool false) h_5
 else
 ag1 J_2 n (zw (x5 + 1)) h_5
 else
 R (.bool true) h_4) : CallsH P ZiA #[.pointer (some p0), v1] h R := zv ⟨[(4, [(5, .i .i64)])], [(3, [])], []⟩ Tryz.func93 hv
theorem Zvm {x0 x1 : Int} (hv :
 lq2 x1 (1 : Int) h fun J n x1_2 x5 h_2 =>
 bif decide (x1_2 > 0) then
 bif decide ((zw (x5 * x0) : Int) > 4096) then
 R (zi 0) h_2
 else
 ag2 J n (zw (x1_2 - 1)) (zw (x5 * x0)) h_2
 else
 R (zi x5) h_2) : CallsH P Zk2 #[zi x0, zi x1] h R := zv ⟨[(2, [(1, .i .i64), (5, .i .i64)])], [], []⟩ Tryz.func94 hv
theorem ZrV {v0 v1 : Value} (hv :
 vLen v0 fun n7 =>
 vLen v1 fun n9 =>
 bif (n7 : Int) != (n9 : Int) then
 R (.bool false) h
 else
 lq1 (0 : Int) h fun J n x5 h_2 =>
 vLen v0 fun n13 =>
 bif decide (x5 < (n13 : Int)) then
 vIdx v0 x5 1 fun p19 =>
 ldI .i64 h_2 p19 fun x20 =>
 vIdx v1 x5 1 fun p23 =>
 ldI .i64 h_2 p23 fun x24 =>
 bif x20 != x24 then
 R (.bool false) h_2
 else
 ag1 J n (zw (x5 + 1)) h_2
 else
 R (.bool true) h_2) : CallsH P ZkP #[v0, v1] h R := zv ⟨[(4, [(5, .i .i64)])], [], []⟩ Tryz.func135 hv
theorem Ztr {v0 v1 : Value} (hv :
 vLen v0 fun n7 =>
 vLen v1 fun n9 =>
 bif (n7 : Int) != (n9 : Int) then
 R (.bool false) h
 else
 lq1 (0 : Int) h fun J n x5 h_2 =>
 vLen v0 fun n13 =>
 bif decide (x5 < (n13 : Int)) then
 vIdx v0 x5 1 fun p19 =>
 ldV h_2 p19 fun v20 =>
 vIdx v1 x5 1 fun p23 =>
 ldV h_2 p23 fun v24 =>
 zB ZkP #[v20, v24] h_2 fun b25 h_3 =>
 bif !b25 then
 R (.bool false) h_3
 else
 ag1 J n (zw (x5 + 1)) h_3
 else
 R (.bool true) h_2) : CallsH P ZhT #[v0, v1] h R := zv ⟨[(4, [(5, .i .i64)])], [], []⟩ Tryz.func96 hv
theorem Zth {v0 : Value} (hv :
 vNewS h (.cells #[] Zf) 0 fun v5 h_2 =>
 lq2 v5 (0 : Int) h_2 fun J n v3 x4 h_3 =>
 vLen v0 fun n8 =>
 bif decide (x4 < (n8 : Int)) then
 vIdx v0 x4 1 fun p15 =>
 ldV h_3 p15 fun v16 =>
 zV ZfW #[v16] h_3 fun v17 h_4 =>
 vOne v17 fun _ =>
 vNewS h_4 (.cells #[v17] Zf) 1 fun v18 h_5 =>
 vAppend 1 24 [.slice none 0 0] Zf v3 v18 h_5 fun v19 h_6 =>
 ag2 J n v19 (zw (x4 + 1)) h_6
 else
 R v3 h_3) : CallsH P Zkv #[v0] h R := zv ⟨[(3, [(3, .v), (4, .i .i64)])], [], []⟩ Tryz.func173 hv
theorem Zqy {p0 : Addr} {x1 x2 : Int} (hv :
 ldI .i64 h p0 fun x16 =>
 ldI .i64 h (p0.add 1) fun x20 =>
 zV Zb8 #[zi x1, zi x16, zi x20] h fun v21 h_2 =>
 ldI .i64 h_2 p0 fun x26 =>
 ldI .i64 h_2 (p0.add 1) fun x30 =>
 zV Zb8 #[zi x2, zi x26, zi x30] h_2 fun v31 h_3 =>
 ldI .i64 h_3 (p0.add 1) fun x35 =>
 vMake 8 [zi 0] Zg (zw ((zw (2 * x35)) - 1)) (zw ((zw (2 * x35)) - 1)) h_3 fun v38 h_4 =>
 lq1 (0 : Int) h_4 fun J n x10 h_5 =>
 vLen v21 fun n41 =>
 bif decide (x10 < (n41 : Int)) then
 lq1 (0 : Int) h_5 fun J_2 n_3 x11 h_6 =>
 vLen v31 fun n47 =>
 bif decide (x11 < (n47 : Int)) then
 vIdx v38 (zw (x10 + x11)) 1 fun p59 =>
 ldI .i64 h_6 p59 fun x60 =>
 vIdx v21 x10 1 fun p63 =>
 ldI .i64 h_6 p63 fun x64 =>
 vIdx v31 x11 1 fun p67 =>
 ldI .i64 h_6 p67 fun x68 =>
 ldI .i64 h_6 p0 fun x74 =>
 x74 ≠ 0 ∧
 vIdx v38 (zw (x10 + x11)) 1 fun p76 =>
 vStore1 h_6 p76 (zi (Int.tmod (zw (x60 + (zw (x64 * x68)))) x74)) fun h_7 =>
 ag1 J_2 n_3 (zw (x11 + 1)) h_7
 else
 ag1 J n (zw (x10 + 1)) h_6
 else
 ∃ B : Nat → Prop,
 ldV h_5 (p0.add 2) fun v81 =>
 ldI .i64 h_5 p0 fun x85 =>
 zV ZgW #[v38, v81, zi x85] h_5 fun v86 h_8 =>
 ExtBut B h_5 h_8 ∧
 ldI .i64 (hmask B h_5) p0 fun x90 =>
 zI Zfr #[v86, zi x90] h_8 fun x91 h_9 =>
 R (zi x91) h_9) : CallsH P Zgu #[.pointer (some p0), zi x1, zi x2] h R := zv ⟨[(5, [(10, .i .i64)]), (8, [(11, .i .i64)])], [], []⟩ Tryz.func202 hv
theorem ZqV {p0 : Addr} {v1 : Value} {x2 : Int} (hv :
 vNewS h (.cells #[] Zg) 0 fun v9 h_2 =>
 lq2 v9 (0 : Int) h_2 fun J n v7 x8 h_3 =>
 vLen v1 fun n12 =>
 bif decide (x8 < (n12 : Int)) then
 vIdx v1 x8 1 fun p20 =>
 ldI .i64 h_3 p20 fun x21 =>
 zI Zgu #[.pointer (some p0), zi x21, zi x2] h_3 fun x23 h_4 =>
 vNewS h_4 (.cells #[zi x23] Zg) 1 fun v24 h_5 =>
 vAppend 1 8 [zi 0] Zg v7 v24 h_5 fun v25 h_6 =>
 ag2 J n v25 (zw (x8 + 1)) h_6
 else
 R v7 h_3) : CallsH P ZlL #[.pointer (some p0), v1, zi x2] h R := zv ⟨[(3, [(7, .v), (8, .i .i64)])], [], []⟩ Tryz.func174 hv
theorem Zui {p0 : Addr} {x1 : Int} (hv :
 lq1 (1 : Int) h fun J n x5 h_2 =>
 zI Zgu #[.pointer (some p0), zi x1, zi x5] h_2 fun x9 h_3 =>
 bif x9 != 1 then
 ag1 J n (zw (x5 + 1)) h_3
 else
 R (zi x5) h_3) : CallsH P ZiI #[.pointer (some p0), zi x1] h R := zv ⟨[(2, [(5, .i .i64)])], [], []⟩ Tryz.func175 hv
theorem ZuB {p0 : Addr} {x1 x2 x3 : Int} (hv :
 ldI .i64 h p0 fun x16 =>
 ldI .i64 h (p0.add 1) fun x20 =>
 zV Zb8 #[zi x1, zi x16, zi x20] h fun v21 h_2 =>
 ldI .i64 h_2 p0 fun x26 =>
 ldI .i64 h_2 (p0.add 1) fun x30 =>
 zV Zb8 #[zi x2, zi x26, zi x30] h_2 fun v31 h_3 =>
 lq1 (0 : Int) h_3 fun J n x11 h_4 =>
 vLen v21 fun n34 =>
 bif decide (x11 < (n34 : Int)) then
 vIdx v21 x11 1 fun p42 =>
 ldI .i64 h_4 p42 fun x43 =>
 vIdx v31 x11 1 fun p47 =>
 ldI .i64 h_4 p47 fun x48 =>
 ldI .i64 h_4 p0 fun x54 =>
 x54 ≠ 0 ∧
 vIdx v21 x11 1 fun p56 =>
 vStore1 h_4 p56 (zi (Int.tmod (zw (x43 + (zw (x3 * x48)))) x54)) fun h_5 =>
 ag1 J n (zw (x11 + 1)) h_5
 else
 ldI .i64 h_4 p0 fun x61 =>
 zI Zfr #[v21, zi x61] h_4 fun x62 h_6 =>
 R (zi x62) h_6) : CallsH P Zjx #[.pointer (some p0), zi x1, zi x2, zi x3] h R := zv ⟨[(4, [(11, .i .i64)])], [], []⟩ Tryz.func203 hv
theorem Zqn {p0 : Addr} {v1 v2 : Value} {x3 : Int} (hv :
 vNewS h (.cells #[] Zg) 0 fun v11 h_2 =>
 lq2 v11 (0 : Int) h_2 fun J n v9 x10 h_3 =>
 vLen v1 fun n14 =>
 bif decide (x10 < (n14 : Int)) then
 ∃ B : Nat → Prop,
 vIdx v2 x10 1 fun p27 =>
 ldI .i64 h_3 p27 fun x28 =>
 zI Zgu #[.pointer (some p0), zi x28, zi x3] h_3 fun x30 h_4 =>
 ExtBut B h_3 h_4 ∧
 vIdx v1 x10 1 fun p22 =>
 ldI .i64 (hmask B h_3) p22 fun x23 =>
 ldI .i64 (hmask B h_3) p0 fun x34 =>
 zI Zjx #[.pointer (some p0), zi x23, zi x30, zi (zw (x34 - 1))] h_4 fun x36 h_5 =>
 vNewS h_5 (.cells #[zi x36] Zg) 1 fun v37 h_6 =>
 vAppend 1 8 [zi 0] Zg v9 v37 h_6 fun v38 h_7 =>
 ag2 J n v38 (zw (x10 + 1)) h_7
 else
 R v9 h_3) : CallsH P ZiH #[.pointer (some p0), v1, v2, zi x3] h R := zv ⟨[(3, [(9, .v), (10, .i .i64)])], [], []⟩ Tryz.func176 hv
theorem Zpb {p0 : Addr} {v1 : Value} {x2 : Int} (hv :
 zV Zkv #[v1] h fun v16 h_2 =>
 vNewS h_2 (.cells #[] Zg) 0 fun v17 h_3 =>
 lq2 v17 (0 : Int) h_3 fun J n v9 x10 h_4 =>
 ∃ J_2 : Heap → Prop, (
 bif decide (x10 < x2) then
 vLen v9 fun n23 =>
 vLen v16 fun n25 =>
 bif decide ((n23 : Int) < (n25 : Int)) then
 J_2 h_4
 else
 R (.tuple #[v16, v9]) h_4
 else
 R (.tuple #[v16, v9]) h_4
 ) ∧ ∀ (_ : Env) (h_5 : Heap), J_2 h_5 →
 vLen v9 fun n31 =>
 ∃ J_3 : Int → Heap → Prop, (
 lq1 (n31 : Int) h_5 fun J_4 n_3 x12 h_6 =>
 vLen v16 fun n35 =>
 bif decide (x12 < (n35 : Int)) then
 vIdx v16 x12 1 fun p40 =>
 ldV h_6 p40 fun v41 =>
 vIdx v41 x10 1 fun p43 =>
 ldI .i64 h_6 p43 fun x44 =>
 bif x44 == 0 then
 ag1 J_4 n_3 (zw (x12 + 1)) h_6
 else
 J_3 x12 h_6
 else
 J_3 x12 h_6
 ) ∧ ∀ (_ : Env) x12_2 (h_7 : Heap), J_3 x12_2 h_7 →
 vLen v16 fun n51 =>
 bif x12_2 == (n51 : Int) then
 ag2 J n v9 (zw (x10 + 1)) h_7
 else
 ∃ B : Nat → Prop,
 vIdx v16 x12_2 1 fun p61 =>
 ldV h_7 p61 fun v62 =>
 vIdx v62 x10 1 fun p64 =>
 ldI .i64 h_7 p64 fun x65 =>
 zI ZiI #[.pointer (some p0), zi x65] h_7 fun x66 h_8 =>
 ExtBut B h_7 h_8 ∧
 vIdx v16 x12_2 1 fun p56 =>
 ldV (hmask B h_7) p56 fun v57 =>
 zV ZlL #[.pointer (some p0), v57, zi x66] h_8 fun v67 h_9 =>
 vIdx v16 (n31 : Int) 1 fun p72 =>
 ldV h_9 p72 fun v73 =>
 vIdx v16 x12_2 1 fun p74 =>
 vStore1 h_9 p74 v73 fun h_10 =>
 vIdx v16 (n31 : Int) 1 fun p78 =>
 vStore1 h_10 p78 v67 fun h_11 =>
 lq1 (0 : Int) h_11 fun J_5 n_5 x14 h_12 =>
 vLen v16 fun n81 =>
 bif decide (x14 < (n81 : Int)) then
 bif x14 != (n31 : Int) then
 vIdx v16 x14 1 fun p93 =>
 ldV h_12 p93 fun v94 =>
 vIdx v16 x14 1 fun p98 =>
 ldV h_12 p98 fun v99 =>
 vIdx v99 x10 1 fun p101 =>
 ldI .i64 h_12 p101 fun x102 =>
 zV ZiH #[.pointer (some p0), v94, v67, zi x102] h_12 fun v103 h_13 =>
 vIdx v16 x14 1 fun p104 =>
 vStore1 h_13 p104 v103 fun h_14 =>
 ag1 J_5 n_5 (zw (x14 + 1)) h_14
 else
 ag1 J_5 n_5 (zw (x14 + 1)) h_12
 else
 vNewS h_12 (.cells #[zi x10] Zg) 1 fun v107 h_15 =>
 vAppend 1 8 [zi 0] Zg v9 v107 h_15 fun v108 h_16 =>
 ag2 J n v108 (zw (x10 + 1)) h_16) : CallsH P Zlg #[.pointer (some p0), v1, zi x2] h R := zv ⟨[(4, [(9, .v), (10, .i .i64)]), (8, [(12, .i .i64)]), (15, [(14, .i .i64)])], [(6, []), (10, [(12, .i .i64)])], []⟩ Tryz.func136 hv
theorem Zxg {p0 : Addr} {v1 : Value} (hv :
 vIdx v1 0 1 fun p11 =>
 ldV h p11 fun v12 =>
 vLen v12 fun n13 =>
 CallsH P Zlg #[.pointer (some p0), v1, zi (n13 : Int)] h fun r14 h_2 => ∃ (v14_0 : Value), ∃ (v14_1 : Value), r14 = .tuple #[v14_0, v14_1] ∧
 vLen v14_1 fun n19 =>
 vSliceS v14_0 1 none (some (zi (n19 : Int))) none fun v20 =>
 R v20 h_2) : CallsH P Zlw #[.pointer (some p0), v1] h R := zv ⟨[], [], []⟩ Tryz.func97 hv
theorem Zw8 {p0 : Addr} (hv :
 ∃ J : Heap → Prop, (
 ldV h (p0.add 3) fun v9 =>
 zB ZiA #[.pointer (some p0), v9] h fun b10 h_2 =>
 bif !b10 then
 R (.bool false) h_2
 else
 ldV h_2 (p0.add 3) fun v16 =>
 vIdx v16 0 1 fun p17 =>
 ldV h_2 p17 fun v18 =>
 vLen v18 fun n19 =>
 bif decide ((n19 : Int) > 32) then
 R (.bool false) h_2
 else
 ldV h_2 (p0.add 3) fun v26 =>
 vLen v26 fun n27 =>
 bif decide ((n27 : Int) > 8) then
 R (.bool false) h_2
 else
 J h_2
 ) ∧ ∀ (_ : Env) (h_3 : Heap), J h_3 →
 ∃ B : Nat → Prop,
 zI Zhl #[.pointer (some p0)] h_3 fun x33 h_4 =>
 ExtBut B h_3 h_4 ∧
 ldV (hmask B h_3) (p0.add 3) fun v37 =>
 vLen v37 fun n38 =>
 zI Zk2 #[zi x33, zi (n38 : Int)] h_4 fun x39 h_5 =>
 bif x39 == 0 then
 R (.bool false) h_5
 else
 ∃ B_2 : Nat → Prop,
 ldV h_5 (p0.add 3) fun v47 =>
 zV Zlw #[.pointer (some p0), v47] h_5 fun v48 h_6 =>
 ExtBut B_2 h_5 h_6 ∧
 ldV (hmask B_2 h_5) (p0.add 3) fun v52 =>
 zB ZhT #[v48, v52] h_6 fun b53 h_7 =>
 R (.bool b53) h_7) : CallsH P Zjt #[.pointer (some p0)] h R := zv ⟨[], [(3, [])], []⟩ Tryz.func51 hv
theorem Zu9 {v0 : Value} (hv :
 vLen v0 fun n5 =>
 bif decide ((n5 : Int) > 64) then
 R (.bool false) h
 else
 lq1 (0 : Int) h fun J n x3 h_2 =>
 vLen v0 fun n9 =>
 bif decide (x3 < (n9 : Int)) then
 vIdx v0 x3 1 fun p15 =>
 ldI .i64 h_2 p15 fun x16 =>
 zB Z6 #[zi x16, zi 0, zi 63] h_2 fun b17 h_3 =>
 bif !b17 then
 R (.bool false) h_3
 else
 ag1 J n (zw (x3 + 1)) h_3
 else
 R (.bool true) h_2) : CallsH P ZiG #[v0] h R := zv ⟨[(4, [(3, .i .i64)])], [], []⟩ Tryz.func137 hv
theorem ZpP {x0_0 x0_1 x1_0 x1_1 : Int} (hv :
 vNew h (.cells #[zi x0_0, zi x0_1] ZaZ) fun p2 h_2 =>
 vNew h_2 (.cells #[zi x1_0, zi x1_1] ZaZ) fun p3 h_3 =>
 ldI .i64 h_3 p2 fun x6 =>
 ldI .i64 h_3 p3 fun x8 =>
 bif decide (x6 < x8) then
 R (.bool true) h_3
 else
 ldI .i64 h_3 p2 fun x12 =>
 ldI .i64 h_3 p3 fun x14 =>
 bif x12 == x14 then
 ldI .i64 h_3 (p2.add 1) fun x18 =>
 ldI .i64 h_3 (p3.add 1) fun x20 =>
 R (.bool (decide (x18 < x20))) h_3
 else
 R (.bool false) h_3) : CallsH P Zix #[.agg #[zi x0_0, zi x0_1], .agg #[zi x1_0, zi x1_1]] h R := zv ⟨[], [], []⟩ Tryz.func138 hv
theorem ZvU {v0_0 v0_1 : Value} (hv :
 vNew h (.cells #[v0_0, v0_1] ZbO) fun p1 h_2 =>
 ∃ J : Heap → Prop, (
 ldV h_2 p1 fun v7 =>
 zB ZiG #[v7] h_2 fun b8 h_3 =>
 bif !b8 then
 R (.bool false) h_3
 else
 ldV h_3 (p1.add 1) fun v12 =>
 vLen v12 fun n13 =>
 bif decide ((n13 : Int) > 512) then
 R (.bool false) h_3
 else
 J h_3
 ) ∧ ∀ (_ : Env) (h_4 : Heap), J h_4 →
 ldV h_4 p1 fun v17 =>
 vLen v17 fun n18 =>
 lq1 (0 : Int) h_4 fun J_2 n x4 h_5 =>
 ldV h_5 (p1.add 1) fun v21 =>
 vLen v21 fun n22 =>
 bif decide (x4 < (n22 : Int)) then
 ldV h_5 (p1.add 1) fun v27 =>
 vIdx v27 x4 2 fun p29 =>
 ldI .i64 h_5 p29 fun x30_0 =>
 ldI .i64 h_5 (p29.add 1) fun x30_1 =>
 vNew h_5 (.cells #[zi 0, zi 0] ZaZ) fun p5 h_6 =>
 vStore1 h_6 p5 (zi x30_0) fun h_7 =>
 vStore1 h_7 (p5.add 1) (zi x30_1) fun h_8 =>
 ldI .i64 h_8 p5 fun x32 =>
 zB Z6 #[zi x32, zi 0, zi (zw ((n18 : Int) - 1))] h_8 fun b35 h_9 =>
 bif !b35 then
 R (.bool false) h_9
 else
 ldI .i64 h_9 (p5.add 1) fun x39 =>
 ldI .i64 h_9 p5 fun x41 =>
 zB Z6 #[zi x39, zi (zw (x41 + 1)), zi (zw ((n18 : Int) - 1))] h_9 fun b45 h_10 =>
 bif !b45 then
 R (.bool false) h_10
 else
 bif decide (x4 > 0) then
 ldV h_10 (p1.add 1) fun v53 =>
 vIdx v53 (zw (x4 - 1)) 2 fun p56 =>
 ldI .i64 h_10 p56 fun x57_0 =>
 ldI .i64 h_10 (p56.add 1) fun x57_1 =>
 ldI .i64 h_10 p5 fun x58_0 =>
 ldI .i64 h_10 (p5.add 1) fun x58_1 =>
 zB Zix #[.agg #[zi x57_0, zi x57_1], .agg #[zi x58_0, zi x58_1]] h_10 fun b59 h_11 =>
 bif !b59 then
 R (.bool false) h_11
 else
 ag1 J_2 n (zw (x4 + 1)) h_11
 else
 ag1 J_2 n (zw (x4 + 1)) h_10
 else
 R (.bool true) h_5) : CallsH P Zij #[.agg #[v0_0, v0_1]] h R := zv ⟨[(5, [(4, .i .i64)])], [(3, [])], []⟩ Tryz.func98 hv
theorem Zwq {p0 : Addr} (hv :
 vNew h (.cells #[.slice none 0 0, .slice none 0 0] ZbO) fun p2 h_2 =>
 ldI .i64 h_2 (p0.add 1) fun x9 =>
 zB Z6 #[zi x9, zi 0, zi 64] h_2 fun b10 h_3 =>
 bif !b10 then
 vStore1 h_3 p2 (.slice none 0 0) fun h_4 =>
 vStore1 h_4 (p2.add 1) (.slice none 0 0) fun h_5 =>
 ldV h_5 p2 fun vres0_0 =>
 ldV h_5 (p2.add 1) fun vres0_1 =>
 R (.tuple #[.agg #[vres0_0, vres0_1], .bool false]) h_5
 else
 ldI .i64 h_3 (p0.add 1) fun x16 =>
 vMake 8 [zi 0] Zg x16 x16 h_3 fun v17 h_6 =>
 vOne v17 fun _ =>
 vNew h_6 (.cells #[.slice none 0 0, .slice none 0 0] ZbO) fun p4 h_7 =>
 vStore1 h_7 p4 v17 fun h_8 =>
 vStore1 h_8 (p4.add 1) (.slice none 0 0) fun h_9 =>
 lq1 (0 : Int) h_9 fun J n x5 h_10 =>
 ldV h_10 (p0.add 2) fun v23 =>
 vLen v23 fun n24 =>
 bif decide (x5 < (n24 : Int)) then
 ldV h_10 (p0.add 2) fun v31 =>
 vIdx v31 x5 1 fun p33 =>
 ldV h_10 p33 fun v34 =>
 vLen v34 fun n35 =>
 bif (n35 : Int) != 2 then
 vStore1 h_10 p2 (.slice none 0 0) fun h_11 =>
 vStore1 h_11 (p2.add 1) (.slice none 0 0) fun h_12 =>
 ldV h_12 p2 fun vres0_0_2 =>
 ldV h_12 (p2.add 1) fun vres0_1_2 =>
 R (.tuple #[.agg #[vres0_0_2, vres0_1_2], .bool false]) h_12
 else
 ∃ B : Nat → Prop,
 ldV h_10 (p0.add 2) fun v43 =>
 vIdx v43 x5 1 fun p45 =>
 ldV h_10 p45 fun v46 =>
 vIdx v46 0 1 fun p47 =>
 ldI .i64 h_10 p47 fun x48 =>
 ldV h_10 (p0.add 2) fun v52 =>
 vIdx v52 x5 1 fun p54 =>
 ldV h_10 p54 fun v55 =>
 vIdx v55 1 1 fun p56 =>
 ldI .i64 h_10 p56 fun x57 =>
 vNewS h_10 (.cells #[zi x48, zi x57] ZaZ) 1 fun v59 h_13 =>
 ExtBut B h_10 h_13 ∧
 ldV (hmask B h_10) (p4.add 1) fun v39 =>
 vAppend 2 16 [zi 0, zi 0] ZaZ v39 v59 h_13 fun v60 h_14 =>
 vStore1 h_14 (p4.add 1) v60 fun h_15 =>
 ag1 J n (zw (x5 + 1)) h_15
 else
 ∃ B_2 : Nat → Prop,
 ldV h_10 p4 fun v63_0 =>
 ldV h_10 (p4.add 1) fun v63_1 =>
 zB Zij #[.agg #[v63_0, v63_1]] h_10 fun b64 h_16 =>
 ExtBut B_2 h_10 h_16 ∧
 ldV (hmask B_2 h_10) p4 fun v62_0 =>
 ldV (hmask B_2 h_10) (p4.add 1) fun v62_1 =>
 vStore1 h_16 p2 v62_0 fun h_17 =>
 vStore1 h_17 (p2.add 1) v62_1 fun h_18 =>
 ldV h_18 p2 fun vres0_0_3 =>
 ldV h_18 (p2.add 1) fun vres0_1_3 =>
 R (.tuple #[.agg #[vres0_0_3, vres0_1_3], .bool b64]) h_18) : CallsH P ZjM #[.pointer (some p0)] h R := zv ⟨[(5, [(5, .i .i64)])], [], []⟩ Tryz.func52 hv
theorem ZwC {v0 v1 : Value} (hv :
 vLen v0 fun n11 =>
 lq2 (0 : Int) (n11 : Int) h fun J n x6 x7 h_2 =>
 bif decide (x6 < x7) then
 (2 : Int) ≠ 0 ∧
 vIdx v0 (zw (Int.tdiv (zw (x6 + x7)) 2)) 1 fun p21 =>
 ldV h_2 p21 fun v22 =>
 zI Zeq #[v22, v1] h_2 fun x24 h_3 =>
 bif x24 == 0 then
 R (.tuple #[zi (zw (Int.tdiv (zw (x6 + x7)) 2)), .bool true]) h_3
 else
 bif decide (x24 < 0) then
 ag2 J n (zw ((zw (Int.tdiv (zw (x6 + x7)) 2)) + 1)) x7 h_3
 else
 ag2 J n x6 (zw (Int.tdiv (zw (x6 + x7)) 2)) h_3
 else
 R (.tuple #[zi x6, .bool false]) h_2) : CallsH P Zg5 #[v0, v1] h R := zv ⟨[(3, [(6, .i .i64), (7, .i .i64)])], [], []⟩ Tryz.func140 hv
theorem ZwS {x0 : Int} (hv :
 vNewS h (.cells #[] Zg) 0 fun v5 h_2 =>
 lq2 v5 (0 : Int) h_2 fun J n v3 x4 h_3 =>
 bif decide (x4 < x0) then
 vNewS h_3 (.cells #[zi x4] Zg) 1 fun v13 h_4 =>
 vAppend 1 8 [zi 0] Zg v3 v13 h_4 fun v14 h_5 =>
 ag2 J n v14 (zw (x4 + 1)) h_5
 else
 R v3 h_3) : CallsH P Zh9 #[zi x0] h R := zv ⟨[(3, [(3, .v), (4, .i .i64)])], [], []⟩ Tryz.func177 hv
theorem Zvi {v0 v1 : Value} (hv :
 vNewS h (.cells #[] Zg) 0 fun v7 h_2 =>
 lq2 v7 (0 : Int) h_2 fun J n v5 x6 h_3 =>
 vLen v0 fun n10 =>
 bif decide (x6 < (n10 : Int)) then
 vIdx v0 x6 1 fun p18 =>
 ldI .i64 h_3 p18 fun x19 =>
 vIdx v1 x19 1 fun p20 =>
 ldI .i64 h_3 p20 fun x21 =>
 vNewS h_3 (.cells #[zi x21] Zg) 1 fun v22 h_4 =>
 vAppend 1 8 [zi 0] Zg v5 v22 h_4 fun v23 h_5 =>
 ag2 J n v23 (zw (x6 + 1)) h_5
 else
 R v5 h_3) : CallsH P Zkt #[v0, v1] h R := zv ⟨[(3, [(5, .v), (6, .i .i64)])], [], []⟩ Tryz.func178 hv
theorem ZuM {v0 : Value} {x1 : Int} {v2 : Value} (hv :
 vNewS h (.cells #[] Zf) 0 fun v8 h_2 =>
 vSliceS v0 1 none (some (zi x1)) none fun v11 =>
 vAppend 1 24 [.slice none 0 0] Zf v8 v11 h_2 fun v12 h_3 =>
 vOne v2 fun _ =>
 vNewS h_3 (.cells #[v2] Zf) 1 fun v15 h_4 =>
 vAppend 1 24 [.slice none 0 0] Zf v12 v15 h_4 fun v16 h_5 =>
 vSliceS v0 1 (some (zi x1)) none none fun v20 =>
 vAppend 1 24 [.slice none 0 0] Zf v16 v20 h_5 fun v21 h_6 =>
 R v21 h_6) : CallsH P ZlI #[v0, zi x1, v2] h R := zv ⟨[], [], []⟩ Tryz.func179 hv
theorem Zrv {x0 : Int} {v1 : Value} {x2 : Int} (hv :
 zV Zh9 #[zi x0] h fun v17 h_2 =>
 vOne v17 fun _ =>
 vNewS h_2 (.cells #[v17] Zf) 1 fun v19 h_3 =>
 vOne v17 fun _ =>
 vNewS h_3 (.cells #[v17] Zf) 1 fun v21 h_4 =>
 lq3 v19 v21 (0 : Int) h_4 fun J n v9 v10 x11 h_5 =>
 vLen v10 fun n24 =>
 bif decide (x11 < (n24 : Int)) then
 lq3 v9 v10 (0 : Int) h_5 fun J_2 n_3 v9_2 v10_2 x12 h_6 =>
 vLen v1 fun n30 =>
 bif decide (x12 < (n30 : Int)) then
 vIdx v10_2 x11 1 fun p36 =>
 ldV h_6 p36 fun v37 =>
 vIdx v1 x12 1 fun p40 =>
 ldV h_6 p40 fun v41 =>
 zV Zkt #[v37, v41] h_6 fun v42 h_7 =>
 CallsH P Zg5 #[v9_2, v42] h_7 fun r46 h_8 => ∃ x46_0, ∃ (b46_1 : Bool), r46 = .tuple #[zi x46_0, .bool b46_1] ∧
 bif b46_1 then
 ag3 J_2 n_3 v9_2 v10_2 (zw (x12 + 1)) h_8
 else
 vLen v9_2 fun n51 =>
 bif (n51 : Int) == x2 then
 R (.tuple #[(.slice none 0 0), .bool false]) h_8
 else
 zV ZlI #[v9_2, zi x46_0, v42] h_8 fun v57 h_9 =>
 vOne v42 fun _ =>
 vNewS h_9 (.cells #[v42] Zf) 1 fun v60 h_10 =>
 vAppend 1 24 [.slice none 0 0] Zf v10_2 v60 h_10 fun v61 h_11 =>
 ag3 J_2 n_3 v57 v61 (zw (x12 + 1)) h_11
 else
 ag3 J n v9_2 v10_2 (zw (x11 + 1)) h_6
 else
 R (.tuple #[v9, .bool true]) h_5) : CallsH P ZhP #[zi x0, v1, zi x2] h R := zv ⟨[(5, [(9, .v), (10, .v), (11, .i .i64)]), (8, [(9, .v), (10, .v), (12, .i .i64)])], [], []⟩ Tryz.func139 hv
theorem Zrf {x0 : Int} {v1 : Value} (hv :
 vNewS h (.cells #[] Zf) 0 fun v14 h_2 =>
 CallsH P ZhP #[zi x0, v14, zi 1] h_2 fun r18 h_3 => ∃ (v18_0 : Value), ∃ (b18_1 : Bool), r18 = .tuple #[v18_0, .bool b18_1] ∧
 lq3 v14 v18_0 (0 : Int) h_3 fun J n v6 v7 x9 h_4 =>
 vLen v1 fun n23 =>
 bif decide (x9 < (n23 : Int)) then
 vIdx v1 x9 1 fun p31 =>
 ldV h_4 p31 fun v32 =>
 CallsH P Zg5 #[v7, v32] h_4 fun r33 h_5 => ∃ x33_0, ∃ (b33_1 : Bool), r33 = .tuple #[zi x33_0, .bool b33_1] ∧
 bif b33_1 then
 ag3 J n v6 v7 (zw (x9 + 1)) h_5
 else
 vIdx v1 x9 1 fun p40 =>
 ldV h_5 p40 fun v41 =>
 zV ZfW #[v41] h_5 fun v42 h_6 =>
 vOne v42 fun _ =>
 vNewS h_6 (.cells #[v42] Zf) 1 fun v43 h_7 =>
 vAppend 1 24 [.slice none 0 0] Zf v6 v43 h_7 fun v44 h_8 =>
 vLen v1 fun n49 =>
 CallsH P ZhP #[zi x0, v44, zi (n49 : Int)] h_8 fun r50 h_9 => ∃ (v50_0 : Value), ∃ (b50_1 : Bool), r50 = .tuple #[v50_0, .bool b50_1] ∧
 bif !b50_1 then
 R (.tuple #[(.slice none 0 0), .bool false]) h_9
 else
 ag3 J n v44 v50_0 (zw (x9 + 1)) h_9
 else
 zB ZhT #[v7, v1] h_4 fun b59 h_10 =>
 R (.tuple #[v6, .bool b59]) h_10) : CallsH P ZlF #[zi x0, v1] h R := zv ⟨[(4, [(6, .v), (7, .v), (9, .i .i64)])], [], []⟩ Tryz.func99 hv
theorem Zqa {p0 : Addr} (hv :
 ∃ J : Heap → Prop, (
 ldI .i64 h p0 fun x9 =>
 zB Z6 #[zi x9, zi 1, zi 32] h fun b10 h_2 =>
 bif !b10 then
 R (.bool false) h_2
 else
 ldV h_2 (p0.add 1) fun v16 =>
 vLen v16 fun n17 =>
 bif (n17 : Int) == 0 then
 R (.bool false) h_2
 else
 ldV h_2 (p0.add 1) fun v24 =>
 vLen v24 fun n25 =>
 bif decide ((n25 : Int) > 720) then
 R (.bool false) h_2
 else
 J h_2
 ) ∧ ∀ (_ : Env) (h_3 : Heap), J h_3 →
 lq1 (0 : Int) h_3 fun J_2 n x3 h_4 =>
 ldV h_4 (p0.add 1) fun v32 =>
 vLen v32 fun n33 =>
 bif decide (x3 < (n33 : Int)) then
 ldV h_4 (p0.add 1) fun v40 =>
 vIdx v40 x3 1 fun p42 =>
 ldV h_4 p42 fun v43 =>
 zB Zfw #[v43] h_4 fun b44 h_5 =>
 bif !b44 then
 R (.bool false) h_5
 else
 ldV h_5 (p0.add 1) fun v50 =>
 vIdx v50 x3 1 fun p52 =>
 ldV h_5 p52 fun v53 =>
 vLen v53 fun n54 =>
 ldI .i64 h_5 p0 fun x58 =>
 bif (n54 : Int) != x58 then
 R (.bool false) h_5
 else
 bif decide (x3 > 0) then
 ldV h_5 (p0.add 1) fun v68 =>
 vIdx v68 (zw (x3 - 1)) 1 fun p71 =>
 ldV h_5 p71 fun v72 =>
 ldV h_5 (p0.add 1) fun v76 =>
 vIdx v76 x3 1 fun p78 =>
 ldV h_5 p78 fun v79 =>
 zI Zeq #[v72, v79] h_5 fun x80 h_6 =>
 bif decide (x80 ≥ 0) then
 R (.bool false) h_6
 else
 ag1 J_2 n (zw (x3 + 1)) h_6
 else
 ag1 J_2 n (zw (x3 + 1)) h_5
 else
 ldI .i64 h_4 p0 fun x88 =>
 ldV h_4 (p0.add 1) fun v92 =>
 CallsH P ZlF #[zi x88, v92] h_4 fun r93 h_7 => ∃ (v93_0 : Value), ∃ (b93_1 : Bool), r93 = .tuple #[v93_0, .bool b93_1] ∧
 R (.bool b93_1) h_7) : CallsH P ZjT #[.pointer (some p0)] h R := zv ⟨[(4, [(3, .i .i64)])], [(3, [])], []⟩ Tryz.func53 hv
theorem ZrH {p0 : Addr} (hv :
 ldI .i64 h p0 fun x10 =>
 bif x10 == 1 then
 ldV h (p0.add 2) fun v16 =>
 zB ZkL #[v16] h fun b17 h_2 =>
 bif b17 then
 ldV h_2 (p0.add 2) fun v22 =>
 vLen v22 fun n23 =>
 ldI .i64 h_2 (p0.add 1) fun x27 =>
 R (.bool ((n23 : Int) == x27)) h_2
 else
 R (.bool false) h_2
 else
 bif x10 == 2 then
 ldI .i64 h (p0.add 1) fun x35 =>
 ldV h (p0.add 2) fun v39 =>
 vOne v39 fun _ =>
 vNew h (.cells #[zi x35, v39] Zkg) fun p41 h_3 =>
 zB Zj4 #[.pointer (some p41)] h_3 fun b42 h_4 =>
 R (.bool b42) h_4
 else
 bif x10 == 3 then
 ldV h (p0.add 2) fun v48 =>
 zB Zj5 #[v48] h fun b49 h_5 =>
 bif b49 then
 ldV h_5 (p0.add 2) fun v54 =>
 vLen v54 fun n55 =>
 ldI .i64 h_5 (p0.add 1) fun x59 =>
 R (.bool ((n55 : Int) == x59)) h_5
 else
 R (.bool false) h_5
 else
 bif x10 == 4 then
 CallsH P ZkS #[.pointer (some p0)] h fun r65 h_6 => ∃ x65_0_0, ∃ x65_0_1, ∃ (v65_0_2 : Value), r65 = .agg #[zi x65_0_0, zi x65_0_1, v65_0_2] ∧
 vNew h_6 (.cells #[zi 0, zi 0, .slice none 0 0] ZcC) fun p3 h_7 =>
 vStore1 h_7 p3 (zi x65_0_0) fun h_8 =>
 vStore1 h_8 (p3.add 1) (zi x65_0_1) fun h_9 =>
 vStore1 h_9 (p3.add 2) v65_0_2 fun h_10 =>
 ldV h_10 (p0.add 2) fun v69 =>
 vLen v69 fun n70 =>
 bif decide ((n70 : Int) > 0) then
 zB Zke #[.pointer (some p3)] h_10 fun b73 h_11 =>
 R (.bool b73) h_11
 else
 R (.bool false) h_10
 else
 bif x10 == 5 then
 CallsH P Zk9 #[.pointer (some p0)] h fun r78 h_12 => ∃ x78_0_0, ∃ x78_0_1, ∃ (v78_0_2 : Value), ∃ (v78_0_3 : Value), r78 = .agg #[zi x78_0_0, zi x78_0_1, v78_0_2, v78_0_3] ∧
 vNew h_12 (.cells #[zi 0, zi 0, .slice none 0 0, .slice none 0 0] Zh7) fun p4 h_13 =>
 vStore1 h_13 p4 (zi x78_0_0) fun h_14 =>
 vStore1 h_14 (p4.add 1) (zi x78_0_1) fun h_15 =>
 vStore1 h_15 (p4.add 2) v78_0_2 fun h_16 =>
 vStore1 h_16 (p4.add 3) v78_0_3 fun h_17 =>
 zB Zjt #[.pointer (some p4)] h_17 fun b79 h_18 =>
 R (.bool b79) h_18
 else
 bif x10 == 6 then
 CallsH P ZjM #[.pointer (some p0)] h fun r84 h_19 => ∃ (v84_0_0 : Value), ∃ (v84_0_1 : Value), ∃ (b84_1 : Bool), r84 = .tuple #[.agg #[v84_0_0, v84_0_1], .bool b84_1] ∧
 vNew h_19 (.cells #[.slice none 0 0, .slice none 0 0] ZbO) fun p5 h_20 =>
 vStore1 h_20 p5 v84_0_0 fun h_21 =>
 vStore1 h_21 (p5.add 1) v84_0_1 fun h_22 =>
 R (.bool b84_1) h_22
 else
 bif x10 == 7 then
 ldI .i64 h (p0.add 1) fun x93 =>
 ldV h (p0.add 2) fun v97 =>
 vOne v97 fun _ =>
 vNew h (.cells #[zi x93, v97] ZkD) fun p99 h_23 =>
 zB ZjT #[.pointer (some p99)] h_23 fun b100 h_24 =>
 R (.bool b100) h_24
 else
 R (.bool false) h) : CallsH P Zkw #[.pointer (some p0)] h R := zv ⟨[], [], []⟩ Tryz.func22 hv
theorem Zyr {x0 : Int} (hv :
 bif decide (x0 ≥ 97) then
 R (.bool (decide (x0 ≤ 122))) h
 else
 R (.bool false) h) : CallsH P ZxN #[.int .u8 x0] h R := zv ⟨[], [], []⟩ Tryz.func122 hv
theorem Zyo {x0 : Int} (hv :
 bif decide (x0 ≥ 48) then
 R (.bool (decide (x0 ≤ 57))) h
 else
 R (.bool false) h) : CallsH P Zx1 #[.int .u8 x0] h R := zv ⟨[], [], []⟩ Tryz.func123 hv
theorem ZyR {s0 : ByteArray} (hv :
 ∃ J : Heap → Prop, (
 bif s0.toList == (⟨#[]⟩ : ByteArray).toList then
 R (.bool false) h
 else
 bif decide (((s0.size : Int) : Int) > 10) then
 R (.bool false) h
 else
 vStrIdx s0 0 fun c13 =>
 zB ZxN #[.int .u8 (c13.toNat : Int)] h fun b14 h_2 =>
 bif !b14 then
 R (.bool false) h_2
 else
 J h_2
 ) ∧ ∀ (_ : Env) (h_3 : Heap), J h_3 →
 lq1 (0 : Int) h_3 fun J_2 n x3 h_4 =>
 bif decide (x3 < (s0.size : Int)) then
 vStrIdx s0 x3 fun c25 =>
 zB ZxN #[.int .u8 (c25.toNat : Int)] h_4 fun b26 h_5 =>
 bif !b26 then
 vStrIdx s0 x3 fun c31 =>
 zB Zx1 #[.int .u8 (c31.toNat : Int)] h_5 fun b32 h_6 =>
 bif !b32 then
 R (.bool false) h_6
 else
 ag1 J_2 n (zw (x3 + 1)) h_6
 else
 ag1 J_2 n (zw (x3 + 1)) h_5
 else
 R (.bool true) h_4) : CallsH P ZxU #[.string s0] h R := zv ⟨[(4, [(3, .i .i64)])], [(3, [])], []⟩ Tryz.func78 hv
theorem ZyE {p0 : Addr} (hv :
 ldS h p0 fun s6 =>
 zB ZxU #[.string s6] h fun b7 h_2 =>
 bif b7 then
 zB Zkw #[.pointer (some (p0.add 1))] h_2 fun b12 h_3 =>
 bif b12 then
 ldS h_3 (p0.add 4) fun s18 =>
 bif decide (((s18.size : Int) : Int) > 0) then
 ldS h_3 (p0.add 4) fun s26 =>
 R (.bool (decide (((s26.size : Int) : Int) ≤ 4000))) h_3
 else
 R (.bool false) h_3
 else
 R (.bool false) h_3
 else
 R (.bool false) h_2) : CallsH P Zx2 #[.pointer (some p0)] h R := zv ⟨[], [], []⟩ Tryz.func31 hv
theorem ZA2 {p0 p1 : Addr} (hv :
 ldI .i64 h (p0.add 1) fun x9 =>
 ldI .i64 h (p1.add 1) fun x14 =>
 bif x9 == x14 then
 ldS h (p0.add 4) fun s20 =>
 ldS h (p1.add 4) fun s24 =>
 R (.bool (s20.toList == s24.toList)) h
 else
 R (.bool false) h) : CallsH P ZzY #[.pointer (some p0), .pointer (some p1)] h R := zv ⟨[], [], []⟩ Tryz.func82 hv
theorem ZBe {p0 : Addr} (hv :
 lq1 (0 : Int) h fun J n x3 h_2 =>
 ldV h_2 p0 fun v9 =>
 vLen v9 fun n10 =>
 bif decide (x3 < (n10 : Int)) then
 ∃ J_2 : Heap → Prop, (
 ldV h_2 p0 fun v17 =>
 vIdx v17 x3 5 fun p19 =>
 zB Zx2 #[.pointer (some p19)] h_2 fun b20 h_3 =>
 bif !b20 then
 R (.bool false) h_3
 else
 bif decide (x3 > 0) then
 ldV h_3 p0 fun v29 =>
 vIdx v29 (zw (x3 - 1)) 5 fun p32 =>
 ldS h_3 p32 fun s34 =>
 ldV h_3 p0 fun v38 =>
 vIdx v38 x3 5 fun p40 =>
 ldS h_3 p40 fun s42 =>
 bif !(Op.bytesLess s34.toList s42.toList) then
 R (.bool false) h_3
 else
 J_2 h_3
 else
 J_2 h_3
 ) ∧ ∀ (_ : Env) (h_4 : Heap), J_2 h_4 →
 lq1 (0 : Int) h_4 fun J_3 n_3 x4 h_5 =>
 bif decide (x4 < x3) then
 ldV h_5 p0 fun v54 =>
 vIdx v54 x3 5 fun p56 =>
 ldV h_5 p0 fun v60 =>
 vIdx v60 x4 5 fun p62 =>
 zB ZzY #[.pointer (some p56), .pointer (some p62)] h_5 fun b63 h_6 =>
 bif b63 then
 R (.bool false) h_6
 else
 ag1 J_3 n_3 (zw (x4 + 1)) h_6
 else
 ag1 J n (zw (x3 + 1)) h_5
 else
 ldV h_2 p0 fun v67 =>
 vLen v67 fun n68 =>
 R (.bool (decide ((n68 : Int) ≤ 24))) h_2) : CallsH P ZAh #[.pointer (some p0)] h R := zv ⟨[(2, [(3, .i .i64)]), (7, [(4, .i .i64)])], [(6, [])], []⟩ Tryz.func36 hv
theorem Ztn (hv :
 vNewS h (.cells #[.string ⟨#[]⟩, .string ⟨#[115, 113, 117, 97, 114, 101]⟩, .string ⟨#[100, 101, 115, 105, 103, 110]⟩, .string ⟨#[104, 97, 100, 97, 109, 97, 114, 100]⟩, .string ⟨#[97, 114, 114, 97, 121]⟩, .string ⟨#[99, 111, 100, 101]⟩, .string ⟨#[103, 114, 97, 112, 104]⟩, .string ⟨#[103, 114, 111, 117, 112]⟩] Zdf) 8 fun v1 h_2 =>
 R v1 h_2) : CallsH P Zlr #[] h R := zv ⟨[], [], []⟩ Tryz.func54 hv
theorem ZuU {x0 : Int} (hv :
 vNewS h (.cells #[] Zg2) 0 fun v6 h_2 =>
 lq2 v6 x0 h_2 fun J n v3 x4 h_3 =>
 bif x4 != 0 then
 (10 : Int) ≠ 0 ∧
 ∃ J_2 : Int → Heap → Prop, (
 bif decide ((Int.tmod x4 10 : Int) < 0) then
 J_2 (zw (0 - (Int.tmod x4 10))) h_3
 else
 J_2 (Int.tmod x4 10) h_3
 ) ∧ ∀ (_ : Env) x5 (h_4 : Heap), J_2 x5 h_4 →
 vNewS h_4 (.cells #[.int .u8 (IntKind.u8.wrap (zw (48 + x5)))] Zg2) 1 fun v21 h_5 =>
 vAppend 1 1 [.int .u8 0] Zg2 v21 v3 h_5 fun v23 h_6 =>
 (10 : Int) ≠ 0 ∧
 ag2 J n v23 (zw (Int.tdiv x4 10)) h_6
 else
 vLen v3 fun n25 =>
 bif (n25 : Int) == 0 then
 R (.string ⟨#[48]⟩) h_3
 else
 bif decide (x0 < 0) then
 vB2S v3 h_3 fun s30 =>
 (((⟨#[45]⟩ : ByteArray).size + (s30 : ByteArray).size : Nat) : Int) ≤ IntKind.i64.max ∧
 R (.string ((⟨#[45]⟩ : ByteArray) ++ (s30 : ByteArray))) h_3
 else
 vB2S v3 h_3 fun s33 =>
 R (.string s33) h_3) : CallsH P Ze5 #[zi x0] h R := zv ⟨[(3, [(3, .v), (4, .i .i64)])], [(8, [(5, .i .i64)])], []⟩ Tryz.func55 hv
theorem ZwO {v0 : Value} (hv :
 vLen v0 fun n6 =>
 bif decide ((n6 : Int) > 100) then
 R (.string ⟨#[]⟩) h
 else
 vLen v0 fun n9 =>
 bif (n9 : Int) == 0 then
 R (.string ⟨#[45]⟩) h
 else
 lq2 (⟨#[]⟩ : ByteArray) (0 : Int) h fun J n s3 x4 h_2 =>
 vLen v0 fun n13 =>
 bif decide (x4 < (n13 : Int)) then
 vIdx v0 x4 1 fun p19 =>
 ldI .i64 h_2 p19 fun x20 =>
 zB Z6 #[zi x20, zi (-999999999), zi 999999999] h_2 fun b21 h_3 =>
 bif !b21 then
 R (.string ⟨#[]⟩) h_3
 else
 ∃ J_2 : ByteArray → Heap → Prop, (
 bif decide (x4 > 0) then
 (((s3 : ByteArray).size + (⟨#[44]⟩ : ByteArray).size : Nat) : Int) ≤ IntKind.i64.max ∧
 J_2 ((s3 : ByteArray) ++ (⟨#[44]⟩ : ByteArray)) h_3
 else
 J_2 s3 h_3
 ) ∧ ∀ (_ : Env) (s3_2 : ByteArray) (h_4 : Heap), J_2 s3_2 h_4 →
 vIdx v0 x4 1 fun p30 =>
 ldI .i64 h_4 p30 fun x31 =>
 zS Ze5 #[zi x31] h_4 fun s32 h_5 =>
 (((s3_2 : ByteArray).size + (s32 : ByteArray).size : Nat) : Int) ≤ IntKind.i64.max ∧
 ag2 J n ((s3_2 : ByteArray) ++ (s32 : ByteArray)) (zw (x4 + 1)) h_5
 else
 R (.string s3) h_2) : CallsH P ZhL #[v0] h R := zv ⟨[(7, [(3, .s), (4, .i .i64)])], [(13, [(3, .s)])], []⟩ Tryz.func56 hv
theorem Zxf {p0 : Addr} (hv :
 ∃ B : Nat → Prop,
 zV Zlr #[] h fun v5 h_2 =>
 ExtBut B h h_2 ∧
 (
 ldI .i64 (hmask B h) p0 fun x9 =>
 vIdx v5 x9 1 fun p10 =>
 ldS h_2 p10 fun s11 =>
 ExtBut B h h_2 ∧
 ldI .i64 (hmask B h) (p0.add 1) fun x16 =>
 zS Ze5 #[zi x16] h_2 fun s17 h_3 =>
 ExtBut B h h_3 ∧
 (((s11 : ByteArray).size + (⟨#[32]⟩ : ByteArray).size : Nat) : Int) ≤ IntKind.i64.max ∧
 ((((s11 : ByteArray) ++ (⟨#[32]⟩ : ByteArray) : ByteArray).size + (s17 : ByteArray).size : Nat) : Int) ≤ IntKind.i64.max ∧
 (((((s11 : ByteArray) ++ (⟨#[32]⟩ : ByteArray) : ByteArray) ++ (s17 : ByteArray) : ByteArray).size + (⟨#[32]⟩ : ByteArray).size : Nat) : Int) ≤ IntKind.i64.max ∧
 ldV h_3 (p0.add 2) fun v23 =>
 vLen v23 fun n24 =>
 bif (n24 : Int) == 0 then
 ((((((s11 : ByteArray) ++ (⟨#[32]⟩ : ByteArray) : ByteArray) ++ (s17 : ByteArray) : ByteArray) ++ (⟨#[32]⟩ : ByteArray) : ByteArray).size + (⟨#[110, 111, 110, 101]⟩ : ByteArray).size : Nat) : Int) ≤ IntKind.i64.max ∧
 R (.string (((((s11 : ByteArray) ++ (⟨#[32]⟩ : ByteArray) : ByteArray) ++ (s17 : ByteArray) : ByteArray) ++ (⟨#[32]⟩ : ByteArray) : ByteArray) ++ (⟨#[110, 111, 110, 101]⟩ : ByteArray))) h_3
 else
 lq2 (((((s11 : ByteArray) ++ (⟨#[32]⟩ : ByteArray) : ByteArray) ++ (s17 : ByteArray) : ByteArray) ++ (⟨#[32]⟩ : ByteArray)) : ByteArray) (0 : Int) h_3 fun J n s3 x4 h_4 =>
 ldV h_4 (p0.add 2) fun v32 =>
 vLen v32 fun n33 =>
 bif decide (x4 < (n33 : Int)) then
 ∃ J_2 : ByteArray → Heap → Prop, (
 bif decide (x4 > 0) then
 (((s3 : ByteArray).size + (⟨#[47]⟩ : ByteArray).size : Nat) : Int) ≤ IntKind.i64.max ∧
 J_2 ((s3 : ByteArray) ++ (⟨#[47]⟩ : ByteArray)) h_4
 else
 J_2 s3 h_4
 ) ∧ ∀ (_ : Env) (s3_2 : ByteArray) (h_5 : Heap), J_2 s3_2 h_5 →
 ldV h_5 (p0.add 2) fun v45 =>
 vIdx v45 x4 1 fun p47 =>
 ldV h_5 p47 fun v48 =>
 zS ZhL #[v48] h_5 fun s49 h_6 =>
 (((s3_2 : ByteArray).size + (s49 : ByteArray).size : Nat) : Int) ≤ IntKind.i64.max ∧
 ag2 J n ((s3_2 : ByteArray) ++ (s49 : ByteArray)) (zw (x4 + 1)) h_6
 else
 R (.string s3) h_4
 ) ∧
 (
 ldI .i64 (hmask B h) (p0.add 1) fun x16_2 =>
 zS Ze5 #[zi x16_2] h_2 fun s17_2 h_7 =>
 ExtBut B h h_7 ∧
 ldI .i64 (hmask B h) p0 fun x9_2 =>
 vIdx v5 x9_2 1 fun p10_2 =>
 ldS h_7 p10_2 fun s11_2 =>
 ExtBut B h h_7 ∧
 (((s11_2 : ByteArray).size + (⟨#[32]⟩ : ByteArray).size : Nat) : Int) ≤ IntKind.i64.max ∧
 ((((s11_2 : ByteArray) ++ (⟨#[32]⟩ : ByteArray) : ByteArray).size + (s17_2 : ByteArray).size : Nat) : Int) ≤ IntKind.i64.max ∧
 (((((s11_2 : ByteArray) ++ (⟨#[32]⟩ : ByteArray) : ByteArray) ++ (s17_2 : ByteArray) : ByteArray).size + (⟨#[32]⟩ : ByteArray).size : Nat) : Int) ≤ IntKind.i64.max ∧
 ldV h_7 (p0.add 2) fun v23_2 =>
 vLen v23_2 fun n24_2 =>
 bif (n24_2 : Int) == 0 then
 ((((((s11_2 : ByteArray) ++ (⟨#[32]⟩ : ByteArray) : ByteArray) ++ (s17_2 : ByteArray) : ByteArray) ++ (⟨#[32]⟩ : ByteArray) : ByteArray).size + (⟨#[110, 111, 110, 101]⟩ : ByteArray).size : Nat) : Int) ≤ IntKind.i64.max ∧
 R (.string (((((s11_2 : ByteArray) ++ (⟨#[32]⟩ : ByteArray) : ByteArray) ++ (s17_2 : ByteArray) : ByteArray) ++ (⟨#[32]⟩ : ByteArray) : ByteArray) ++ (⟨#[110, 111, 110, 101]⟩ : ByteArray))) h_7
 else
 lq2 (((((s11_2 : ByteArray) ++ (⟨#[32]⟩ : ByteArray) : ByteArray) ++ (s17_2 : ByteArray) : ByteArray) ++ (⟨#[32]⟩ : ByteArray)) : ByteArray) (0 : Int) h_7 fun J_3 n_3 s3_3 x4_2 h_8 =>
 ldV h_8 (p0.add 2) fun v32_2 =>
 vLen v32_2 fun n33_2 =>
 bif decide (x4_2 < (n33_2 : Int)) then
 ∃ J_4 : ByteArray → Heap → Prop, (
 bif decide (x4_2 > 0) then
 (((s3_3 : ByteArray).size + (⟨#[47]⟩ : ByteArray).size : Nat) : Int) ≤ IntKind.i64.max ∧
 J_4 ((s3_3 : ByteArray) ++ (⟨#[47]⟩ : ByteArray)) h_8
 else
 J_4 s3_3 h_8
 ) ∧ ∀ (_ : Env) (s3_4 : ByteArray) (h_9 : Heap), J_4 s3_4 h_9 →
 ldV h_9 (p0.add 2) fun v45_2 =>
 vIdx v45_2 x4_2 1 fun p47_2 =>
 ldV h_9 p47_2 fun v48_2 =>
 zS ZhL #[v48_2] h_9 fun s49_2 h_10 =>
 (((s3_4 : ByteArray).size + (s49_2 : ByteArray).size : Nat) : Int) ≤ IntKind.i64.max ∧
 ag2 J_3 n_3 ((s3_4 : ByteArray) ++ (s49_2 : ByteArray)) (zw (x4_2 + 1)) h_10
 else
 R (.string s3_3) h_8
 )) : CallsH P Zlt #[.pointer (some p0)] h R := zv ⟨[(5, [(3, .s), (4, .i .i64)])], [(9, [(3, .s)])], [(1, [6])]⟩ Tryz.func23 hv
theorem Zyq {s0 : ByteArray} {x1 : Int} (hv :
 lq2 x1 (0 : Int) h fun J n x1_2 x5 h_2 =>
 bif decide (x5 < (s0.size : Int)) then
 vStrIdx s0 x5 fun c17 =>
 (0 : Int) ≤ 8 ∧
 lq2 (zw ((BitVec.ofInt IntKind.i64.bits x1_2 ^^^ BitVec.ofInt IntKind.i64.bits (zw ((zw (c17.toNat : Int)) * 2 ^ min (8 : Int).toNat IntKind.i64.bits))).toNat : Int)) (0 : Int) h_2 fun J_2 n_3 x1_3 x6 h_3 =>
 bif decide (x6 < 8) then
 (0 : Int) ≤ 1 ∧
 bif decide (x1_3 ≥ 32768) then
 ag2 J_2 n_3 (zw ((BitVec.ofInt IntKind.i64.bits (zw ((BitVec.ofInt IntKind.i64.bits (zw (x1_3 * 2 ^ min (1 : Int).toNat IntKind.i64.bits)) &&& BitVec.ofInt IntKind.i64.bits 65535).toNat : Int)) ^^^ BitVec.ofInt IntKind.i64.bits 4129).toNat : Int)) (zw (x6 + 1)) h_3
 else
 ag2 J_2 n_3 (zw ((BitVec.ofInt IntKind.i64.bits (zw (x1_3 * 2 ^ min (1 : Int).toNat IntKind.i64.bits)) &&& BitVec.ofInt IntKind.i64.bits 65535).toNat : Int)) (zw (x6 + 1)) h_3
 else
 ag2 J n x1_3 (zw (x5 + 1)) h_3
 else
 R (zi x1_2) h_2) : CallsH P Zx3 #[.string s0, zi x1] h R := zv ⟨[(2, [(1, .i .i64), (5, .i .i64)]), (6, [(1, .i .i64), (6, .i .i64)])], [], []⟩ Tryz.func79 hv
theorem ZyH {p0 : Addr} (hv :
 ∃ B : Nat → Prop,
 zS Zlt #[.pointer (some (p0.add 1))] h fun s12 h_2 =>
 ExtBut B h h_2 ∧
 ldS (hmask B h) p0 fun s7 =>
 (((s7 : ByteArray).size + (⟨#[32]⟩ : ByteArray).size : Nat) : Int) ≤ IntKind.i64.max ∧
 ((((s7 : ByteArray) ++ (⟨#[32]⟩ : ByteArray) : ByteArray).size + (s12 : ByteArray).size : Nat) : Int) ≤ IntKind.i64.max ∧
 (((((s7 : ByteArray) ++ (⟨#[32]⟩ : ByteArray) : ByteArray) ++ (s12 : ByteArray) : ByteArray).size + (⟨#[32]⟩ : ByteArray).size : Nat) : Int) ≤ IntKind.i64.max ∧
 zI Zx3 #[.string (((s7 : ByteArray) ++ (⟨#[32]⟩ : ByteArray) : ByteArray) ++ (s12 : ByteArray)), zi 65535] h_2 fun x17 h_3 =>
 zS Ze5 #[zi x17] h_3 fun s18 h_4 =>
 ((((((s7 : ByteArray) ++ (⟨#[32]⟩ : ByteArray) : ByteArray) ++ (s12 : ByteArray) : ByteArray) ++ (⟨#[32]⟩ : ByteArray) : ByteArray).size + (s18 : ByteArray).size : Nat) : Int) ≤ IntKind.i64.max ∧
 R (.string (((((s7 : ByteArray) ++ (⟨#[32]⟩ : ByteArray) : ByteArray) ++ (s12 : ByteArray) : ByteArray) ++ (⟨#[32]⟩ : ByteArray) : ByteArray) ++ (s18 : ByteArray))) h_4) : CallsH P Zx8 #[.pointer (some p0)] h R := zv ⟨[], [], []⟩ Tryz.func32 hv
theorem ZBm {p0 : Addr} (hv :
 ldV h p0 fun v8 =>
 vLen v8 fun n9 =>
 zS Ze5 #[zi (n9 : Int)] h fun s10 h_2 =>
 (((⟨#[99, 97, 116, 97, 108, 111, 103, 32]⟩ : ByteArray).size + (s10 : ByteArray).size : Nat) : Int) ≤ IntKind.i64.max ∧
 ((((⟨#[99, 97, 116, 97, 108, 111, 103, 32]⟩ : ByteArray) ++ (s10 : ByteArray) : ByteArray).size + (⟨#[10]⟩ : ByteArray).size : Nat) : Int) ≤ IntKind.i64.max ∧
 lq2 ((((⟨#[99, 97, 116, 97, 108, 111, 103, 32]⟩ : ByteArray) ++ (s10 : ByteArray) : ByteArray) ++ (⟨#[10]⟩ : ByteArray)) : ByteArray) (0 : Int) h_2 fun J n s3 x4 h_3 =>
 ldV h_3 p0 fun v17 =>
 vLen v17 fun n18 =>
 bif decide (x4 < (n18 : Int)) then
 ldV h_3 p0 fun v26 =>
 vIdx v26 x4 5 fun p28 =>
 zS Zx8 #[.pointer (some p28)] h_3 fun s29 h_4 =>
 (((s29 : ByteArray).size + (⟨#[10]⟩ : ByteArray).size : Nat) : Int) ≤ IntKind.i64.max ∧
 (((s3 : ByteArray).size + ((s29 : ByteArray) ++ (⟨#[10]⟩ : ByteArray) : ByteArray).size : Nat) : Int) ≤ IntKind.i64.max ∧
 ag2 J n ((s3 : ByteArray) ++ ((s29 : ByteArray) ++ (⟨#[10]⟩ : ByteArray) : ByteArray)) (zw (x4 + 1)) h_4
 else
 R (.string s3) h_3) : CallsH P Zz7 #[.pointer (some p0)] h R := zv ⟨[(3, [(3, .s), (4, .i .i64)])], [], []⟩ Tryz.func37 hv
theorem ZAC {v0_0 : Value} (hv :
 vNew h (.cells #[v0_0] Zzm) fun p1 h_2 =>
 zB ZAh #[.pointer (some p1)] h_2 fun b4 h_3 =>
 bif !b4 then
 R (.tuple #[.string ⟨#[]⟩, zi 1]) h_3
 else
 zS Zz7 #[.pointer (some p1)] h_3 fun s6 h_4 =>
 R (.tuple #[.string s6, zi 0]) h_4) : CallsH P Zz0 #[.agg #[v0_0]] h R := zv ⟨[], [], []⟩ Tryz.func17 hv
theorem ZtA {v0 : Value} (hv :
 vLen v0 fun n6 =>
 vMake 8 [zi 0] Zg (n6 : Int) (n6 : Int) h fun v7 h_2 =>
 lq1 (0 : Int) h_2 fun J n x4 h_3 =>
 vLen v0 fun n10 =>
 bif decide (x4 < (n10 : Int)) then
 vIdx v0 x4 1 fun p18 =>
 ldI .i64 h_3 p18 fun x19 =>
 vIdx v7 x4 1 fun p20 =>
 vStore1 h_3 p20 (zi x19) fun h_4 =>
 ag1 J n (zw (x4 + 1)) h_4
 else
 R v7 h_3) : CallsH P Zk1 #[v0] h R := zv ⟨[(3, [(4, .i .i64)])], [], []⟩ Tryz.func57 hv
theorem ZqG {v0 : Value} (hv :
 vLen v0 fun n6 =>
 vMake 24 [.slice none 0 0] Zf (n6 : Int) (n6 : Int) h fun v7 h_2 =>
 lq1 (0 : Int) h_2 fun J n x4 h_3 =>
 vLen v0 fun n10 =>
 bif decide (x4 < (n10 : Int)) then
 vIdx v0 x4 1 fun p18 =>
 ldV h_3 p18 fun v19 =>
 zV Zk1 #[v19] h_3 fun v20 h_4 =>
 vIdx v7 x4 1 fun p21 =>
 vStore1 h_4 p21 v20 fun h_5 =>
 ag1 J n (zw (x4 + 1)) h_5
 else
 R v7 h_3) : CallsH P ZlG #[v0] h R := zv ⟨[(3, [(4, .i .i64)])], [], []⟩ Tryz.func24 hv
theorem Zwo {x0_0 x0_1 : Int} {v0_2 : Value} (hv :
 vNew h (.cells #[zi x0_0, zi x0_1, v0_2] Zjs) fun p1 h_2 =>
 vNew h_2 (.cells #[zi 0, zi 0, .slice none 0 0] Zat) fun p2 h_3 =>
 vNew h_3 (.cells #[zi 0, zi 0, .slice none 0 0] Zat) fun p3 h_4 =>
 ldI .i64 h_4 p1 fun x5 =>
 vStore1 h_4 p3 (zi x5) fun h_5 =>
 ldI .i64 h_5 (p1.add 1) fun x8 =>
 vStore1 h_5 (p3.add 1) (zi x8) fun h_6 =>
 ldV h_6 (p1.add 2) fun v11 =>
 zV ZlG #[v11] h_6 fun v12 h_7 =>
 vStore1 h_7 (p3.add 2) v12 fun h_8 =>
 ldI .i64 h_8 p3 fun x14_0 =>
 ldI .i64 h_8 (p3.add 1) fun x14_1 =>
 ldV h_8 (p3.add 2) fun v14_2 =>
 vStore1 h_8 p2 (zi x14_0) fun h_9 =>
 vStore1 h_9 (p2.add 1) (zi x14_1) fun h_10 =>
 vStore1 h_10 (p2.add 2) v14_2 fun h_11 =>
 ldI .i64 h_11 p2 fun xres0_0 =>
 ldI .i64 h_11 (p2.add 1) fun xres0_1 =>
 ldV h_11 (p2.add 2) fun vres0_2 =>
 R (.agg #[zi xres0_0, zi xres0_1, vres0_2]) h_11) : CallsH P ZfG #[.agg #[zi x0_0, zi x0_1, v0_2]] h R := zv ⟨[], [], []⟩ Tryz.func8 hv
theorem ZyK {s0_0 : ByteArray} {x0_1 x0_2 : Int} {v0_3 : Value} {s0_4 : ByteArray} (hv :
 vNew h (.cells #[.string s0_0, zi x0_1, zi x0_2, v0_3, .string s0_4] ZxV) fun p1 h_2 =>
 vNew h_2 (.cells #[.string ⟨#[]⟩, zi 0, zi 0, .slice none 0 0, .string ⟨#[]⟩] Zxt) fun p2 h_3 =>
 vNew h_3 (.cells #[.string ⟨#[]⟩, zi 0, zi 0, .slice none 0 0, .string ⟨#[]⟩] Zxt) fun p3 h_4 =>
 ldS h_4 p1 fun s5 =>
 vStore1 h_4 p3 (.string s5) fun h_5 =>
 ldI .i64 h_5 (p1.add 1) fun x8_0 =>
 ldI .i64 h_5 ((p1.add 1).add 1) fun x8_1 =>
 ldV h_5 ((p1.add 1).add 2) fun v8_2 =>
 CallsH P ZfG #[.agg #[zi x8_0, zi x8_1, v8_2]] h_5 fun r9 h_6 => ∃ x9_0_0, ∃ x9_0_1, ∃ (v9_0_2 : Value), r9 = .agg #[zi x9_0_0, zi x9_0_1, v9_0_2] ∧
 vStore1 h_6 (p3.add 1) (zi x9_0_0) fun h_7 =>
 vStore1 h_7 ((p3.add 1).add 1) (zi x9_0_1) fun h_8 =>
 vStore1 h_8 ((p3.add 1).add 2) v9_0_2 fun h_9 =>
 ldS h_9 (p1.add 4) fun s12 =>
 vStore1 h_9 (p3.add 4) (.string s12) fun h_10 =>
 ldS h_10 p3 fun s14_0 =>
 ldI .i64 h_10 (p3.add 1) fun x14_1 =>
 ldI .i64 h_10 (p3.add 2) fun x14_2 =>
 ldV h_10 (p3.add 3) fun v14_3 =>
 ldS h_10 (p3.add 4) fun s14_4 =>
 vStore1 h_10 p2 (.string s14_0) fun h_11 =>
 vStore1 h_11 (p2.add 1) (zi x14_1) fun h_12 =>
 vStore1 h_12 (p2.add 2) (zi x14_2) fun h_13 =>
 vStore1 h_13 (p2.add 3) v14_3 fun h_14 =>
 vStore1 h_14 (p2.add 4) (.string s14_4) fun h_15 =>
 ldS h_15 p2 fun sres0_0 =>
 ldI .i64 h_15 (p2.add 1) fun xres0_1 =>
 ldI .i64 h_15 (p2.add 2) fun xres0_2 =>
 ldV h_15 (p2.add 3) fun vres0_3 =>
 ldS h_15 (p2.add 4) fun sres0_4 =>
 R (.agg #[.string sres0_0, zi xres0_1, zi xres0_2, vres0_3, .string sres0_4]) h_15) : CallsH P Zxx #[.agg #[.string s0_0, zi x0_1, zi x0_2, v0_3, .string s0_4]] h R := zv ⟨[], [], []⟩ Tryz.func13 hv
theorem ZA6 {v0 : Value} (hv :
 vLen v0 fun n6 =>
 vMake 72 [.string ⟨#[]⟩, zi 0, zi 0, .slice none 0 0, .string ⟨#[]⟩] Zxt (n6 : Int) (n6 : Int) h fun v7 h_2 =>
 lq1 (0 : Int) h_2 fun J n x4 h_3 =>
 vLen v0 fun n10 =>
 bif decide (x4 < (n10 : Int)) then
 vIdx v0 x4 5 fun p18 =>
 ldS h_3 p18 fun s19_0 =>
 ldI .i64 h_3 (p18.add 1) fun x19_1 =>
 ldI .i64 h_3 (p18.add 2) fun x19_2 =>
 ldV h_3 (p18.add 3) fun v19_3 =>
 ldS h_3 (p18.add 4) fun s19_4 =>
 CallsH P Zxx #[.agg #[.string s19_0, zi x19_1, zi x19_2, v19_3, .string s19_4]] h_3 fun r20 h_4 => ∃ (s20_0_0 : ByteArray), ∃ x20_0_1, ∃ x20_0_2, ∃ (v20_0_3 : Value), ∃ (s20_0_4 : ByteArray), r20 = .agg #[.string s20_0_0, zi x20_0_1, zi x20_0_2, v20_0_3, .string s20_0_4] ∧
 vIdx v7 x4 5 fun p21 =>
 vStore1 h_4 p21 (.string s20_0_0) fun h_5 =>
 vStore1 h_5 (p21.add 1) (zi x20_0_1) fun h_6 =>
 vStore1 h_6 (p21.add 2) (zi x20_0_2) fun h_7 =>
 vStore1 h_7 (p21.add 3) v20_0_3 fun h_8 =>
 vStore1 h_8 (p21.add 4) (.string s20_0_4) fun h_9 =>
 ag1 J n (zw (x4 + 1)) h_9
 else
 R v7 h_3) : CallsH P Zz5 #[v0] h R := zv ⟨[(3, [(4, .i .i64)])], [], []⟩ Tryz.func38 hv
theorem ZBd {v0_0 : Value} (hv :
 vNew h (.cells #[v0_0] Zz2) fun p1 h_2 =>
 vNew h_2 (.cells #[.slice none 0 0] Zzm) fun p2 h_3 =>
 vNew h_3 (.cells #[.slice none 0 0] Zzm) fun p3 h_4 =>
 ldV h_4 p1 fun v5 =>
 zV Zz5 #[v5] h_4 fun v6 h_5 =>
 vStore1 h_5 p3 v6 fun h_6 =>
 ldV h_6 p3 fun v8_0 =>
 vStore1 h_6 p2 v8_0 fun h_7 =>
 ldV h_7 p2 fun vres0_0 =>
 R (.agg #[vres0_0]) h_7) : CallsH P ZzI #[.agg #[v0_0]] h R := zv ⟨[], [], []⟩ Tryz.func18 hv
theorem Zw0 {x0 : Int} (hv :
 zS Znp #[zi x0, zi 10] h fun s4 h_2 =>
 R (.string s4) h_2) : CallsH P Zh2 #[zi x0] h R := zv ⟨[], [], []⟩ Tryz.func29 hv
theorem Zrx {v0 : Value} (hv :
 vLen v0 fun n4 =>
 R (zi (n4 : Int)) h) : CallsH P ZbN #[v0] h R := zv ⟨[], [], []⟩ Tryz.func58 hv
theorem ZsL {x0 x1 x2 : Int} (hv :
 bif decide (x0 ≥ x1) then
 R (.bool (decide (x0 ≤ x2))) h
 else
 R (.bool false) h) : CallsH P Z9 #[zi x0, zi x1, zi x2] h R := zv ⟨[], [], []⟩ Tryz.func72 hv
theorem Zpx {v0 : Value} {g1 : Nat} {cap1 : List Value} (hv :
 vLen v0 fun n7 =>
 lq1 (0 : Int) h fun J n x8 h_2 =>
 bif decide (x8 < (n7 : Int)) then
 vIdx v0 x8 1 fun p14 =>
 ldV h_2 p14 fun v15 =>
 vOkf ctx g1 fun _ =>
 CallsH P g1 (([v15] : List Value) ++ cap1).toArray h_2 fun r16 h_3 => ∃ (b16 : Bool), r16 = .bool b16 ∧
 bif b16 then
 R (zi x8) h_3
 else
 ag1 J n (zw (x8 + 1)) h_3
 else
 R (zi (-1)) h_2) : CallsH P ZgK #[v0, .func (.func g1) #[] cap1.toArray] h R := zv ⟨[(2, [(8, .i .i64)])], [], []⟩ Tryz.func154 hv
theorem ZqC {v0 : Value} {g1 : Nat} {cap1 : List Value} (hv :
 zI ZgK #[v0, .func (.func g1) #[] cap1.toArray] h fun x7 h_2 =>
 R (.bool (decide (x7 ≥ 0))) h_2) : CallsH P Zgn #[v0, .func (.func g1) #[] cap1.toArray] h R := zv ⟨[], [], []⟩ Tryz.func142 hv
theorem ZqW {v0 : Value} (hv :
 vNilS false v0 fun b4 =>
 bif b4 then
 R (.slice none 0 0) h
 else
 vNewS h (.cells #[] Zg) 0 fun v5 h_2 =>
 vAppend 1 8 [zi 0] Zg v5 v0 h_2 fun v7 h_3 =>
 R v7 h_3) : CallsH P ZfO #[v0] h R := zv ⟨[], [], []⟩ Tryz.func144 hv
theorem ZpT {v0 : Value} (hv :
 zV ZfO #[v0] h fun v7 h_2 =>
 CallsH P Zoy #[v7] h_2 fun r9 h_3 => r9 = .tuple #[] ∧
 vLen v7 fun n11 =>
 lq1 (0 : Int) h_3 fun J n x12 h_4 =>
 bif decide (x12 < (n11 : Int)) then
 vIdx v7 x12 1 fun p15 =>
 ldI .i64 h_4 p15 fun x16 =>
 bif x16 != x12 then
 R (.bool false) h_4
 else
 ag1 J n (zw (x12 + 1)) h_4
 else
 vLen v0 fun n22 =>
 R (.bool (decide ((n22 : Int) ≤ 32))) h_4) : CallsH P ZgT #[v0] h R := zv ⟨[(4, [(12, .i .i64)])], [], []⟩ Tryz.func101 hv
theorem Zu1 {v0 : Value} (hv :
 vLen v0 fun n4 =>
 R (zi (n4 : Int)) h) : CallsH P ZaC #[v0] h R := zv ⟨[], [], []⟩ Tryz.func106 hv
theorem ZsZ {v0 : Value} {p1 : Addr} (hv :
 ∃ B : Nat → Prop,
 zI ZaC #[v0] h fun x5 h_2 =>
 ExtBut B h h_2 ∧
 ldI .i64 (hmask B h) p1 fun x6 =>
 bif x5 != x6 then
 R (.bool true) h_2
 else
 zB ZgT #[v0] h_2 fun b10 h_3 =>
 R (.bool (!b10)) h_3) : CallsH P Zje #[v0, .pointer (some p1)] h R := zv ⟨[], [], []⟩ Tryz.func143 hv
theorem Zsp {x0 : Int} {v1 : Value} (hv :
 vNew h (.cells #[zi x0] Zg) fun p2 h_2 =>
 zB Zgn #[v1, .func (.func Zje) #[] #[.pointer (some p2)]] h_2 fun b7 h_3 =>
 R (.bool (!b7)) h_3) : CallsH P Zh3 #[zi x0, v1] h R := zv ⟨[], [], []⟩ Tryz.func100 hv
theorem Zv3 {v0 : Value} (hv :
 zI ZbN #[v0] h fun x8 h_2 =>
 ∃ J : Heap → Prop, (
 zB Z9 #[zi x8, zi 1, zi 10] h_2 fun b10 h_3 =>
 bif !b10 then
 R (.bool false) h_3
 else
 zB Zh3 #[zi x8, v0] h_3 fun b15 h_4 =>
 bif !b15 then
 R (.bool false) h_4
 else
 J h_4
 ) ∧ ∀ (_ : Env) (h_5 : Heap), J h_5 →
 vLen v0 fun n19 =>
 lq1 (0 : Int) h_5 fun J_2 n x20 h_6 =>
 bif decide (x20 < (n19 : Int)) then
 vLen v0 fun n24 =>
 lq2 ((.slice none 0 0) : Value) (0 : Int) h_6 fun J_3 n_3 v5 x25 h_7 =>
 bif decide (x25 < (n24 : Int)) then
 vIdx v0 x25 1 fun p31 =>
 ldV h_7 p31 fun v32 =>
 vIdx v32 x20 1 fun p34 =>
 ldI .i64 h_7 p34 fun x35 =>
 vNewS h_7 (.cells #[zi x35] Zg) 1 fun v36 h_8 =>
 vAppend 1 8 [zi 0] Zg v5 v36 h_8 fun v37 h_9 =>
 ag2 J_3 n_3 v37 (zw (x25 + 1)) h_9
 else
 zB ZgT #[v5] h_7 fun b40 h_10 =>
 bif !b40 then
 R (.bool false) h_10
 else
 ag1 J_2 n (zw (x20 + 1)) h_10
 else
 R (.bool true) h_6) : CallsH P ZiP #[v0] h R := zv ⟨[(5, [(20, .i .i64)]), (9, [(5, .v), (25, .i .i64)])], [(4, [])], []⟩ Tryz.func59 hv
theorem Zxc {v0 : Value} {x1 : Int} (hv :
 vLen v0 fun n9 =>
 lq2 ((-1) : Int) (0 : Int) h fun J n x5 x10 h_2 =>
 bif decide (x10 < (n9 : Int)) then
 vIdx v0 x10 1 fun p12 =>
 ldI .i64 h_2 p12 fun x13 =>
 bif decide (x13 ≤ x5) then
 R (.bool false) h_2
 else
 bif decide (x13 ≥ x1) then
 R (.bool false) h_2
 else
 ag2 J n x13 (zw (x10 + 1)) h_2
 else
 zB Z9 #[zi x1, zi 0, zi 32] h_2 fun b25 h_3 =>
 R (.bool b25) h_3) : CallsH P ZkV #[v0, zi x1] h R := zv ⟨[(3, [(5, .i .i64), (10, .i .i64)])], [], []⟩ Tryz.func182 hv
theorem Zw4 {v0 : Value} {x1 : Int} (hv :
 vLen v0 fun n6 =>
 bif decide ((n6 : Int) > 0) then
 zB ZkV #[v0, zi x1] h fun b11 h_2 =>
 R (.bool b11) h_2
 else
 R (.bool false) h) : CallsH P Zlj #[v0, zi x1] h R := zv ⟨[], [], []⟩ Tryz.func147 hv
theorem Zqv {v0 : Value} {p1 : Addr} (hv :
 ldI .i64 h p1 fun x5 =>
 zB Zlj #[v0, zi x5] h fun b6 h_2 =>
 R (.bool (!b6)) h_2) : CallsH P Zkq #[v0, .pointer (some p1)] h R := zv ⟨[], [], []⟩ Tryz.func146 hv
theorem Zw2 {v0 : Value} {x1 : Int} (hv :
 vNew h (.cells #[zi x1] Zg) fun p3 h_2 =>
 ldI .i64 h_2 p3 fun x5 =>
 zB Z9 #[zi x5, zi 1, zi 32] h_2 fun b6 h_3 =>
 bif b6 then
 zB Zgn #[v0, .func (.func Zkq) #[] #[.pointer (some p3)]] h_3 fun b10 h_4 =>
 R (.bool (!b10)) h_4
 else
 R (.bool false) h_3) : CallsH P ZlU #[v0, zi x1] h R := zv ⟨[], [], []⟩ Tryz.func102 hv
theorem Zw3 {v0 : Value} {g1 : Nat} {cap1 : List Value} (hv :
 vLen v0 fun n7 =>
 lq1 (zw ((n7 : Int) - 1)) h fun J n x5 h_2 =>
 bif decide (x5 > 0) then
 vIdx v0 x5 1 fun p16 =>
 ldV h_2 p16 fun v17 =>
 vIdx v0 (zw (x5 - 1)) 1 fun p21 =>
 ldV h_2 p21 fun v22 =>
 vOkf ctx g1 fun _ =>
 CallsH P g1 (([v17, v22] : List Value) ++ cap1).toArray h_2 fun r23 h_3 => ∃ x23, r23 = zi x23 ∧
 bif decide (x23 < 0) then
 R (.bool false) h_3
 else
 ag1 J n (zw (x5 - 1)) h_3
 else
 R (.bool true) h_2) : CallsH P ZkZ #[v0, .func (.func g1) #[] cap1.toArray] h R := zv ⟨[(2, [(5, .i .i64)])], [], []⟩ Tryz.func103 hv
theorem Zwf {x0 : Int} (hv :
 R (.bool (x0 != x0)) h) : CallsH P ZbR #[zi x0] h R := zv ⟨[], [], []⟩ Tryz.func183 hv
theorem Zww {x0 x1 : Int} (hv :
 zB ZbR #[zi x0] h fun b8 h_2 =>
 zB ZbR #[zi x1] h_2 fun b10 h_3 =>
 bif b8 then
 bif b10 then
 R (zi 0) h_3
 else
 R (zi (-1)) h_3
 else
 bif b10 then
 R (zi 1) h_3
 else
 bif decide (x0 < x1) then
 R (zi (-1)) h_3
 else
 bif decide (x0 > x1) then
 R (zi 1) h_3
 else
 R (zi 0) h_3) : CallsH P Zb4 #[zi x0, zi x1] h R := zv ⟨[], [], []⟩ Tryz.func148 hv
theorem Zvk {v0 v1 : Value} (hv :
 vLen v0 fun n10 =>
 lq1 (0 : Int) h fun J n x11 h_2 =>
 bif decide (x11 < (n10 : Int)) then
 vIdx v0 x11 1 fun p14 =>
 ldI .i64 h_2 p14 fun x15 =>
 vLen v1 fun n18 =>
 bif decide (x11 ≥ (n18 : Int)) then
 R (zi 1) h_2
 else
 vIdx v1 x11 1 fun p22 =>
 ldI .i64 h_2 p22 fun x23 =>
 zI Zb4 #[zi x15, zi x23] h_2 fun x26 h_3 =>
 bif x26 != 0 then
 R (zi x26) h_3
 else
 ag1 J n (zw (x11 + 1)) h_3
 else
 vLen v0 fun n32 =>
 vLen v1 fun n34 =>
 bif decide ((n32 : Int) < (n34 : Int)) then
 R (zi (-1)) h_2
 else
 R (zi 0) h_2) : CallsH P Zca #[v0, v1] h R := zv ⟨[(2, [(11, .i .i64)])], [], []⟩ Tryz.func104 hv
theorem Zwz {x0_0 : Int} {v0_1 : Value} (hv :
 vNew h (.cells #[zi x0_0, v0_1] Zkg) fun p1 h_2 =>
 ldV h_2 (p1.add 1) fun v4 =>
 ldI .i64 h_2 p1 fun x6 =>
 zB ZlU #[v4, zi x6] h_2 fun b7 h_3 =>
 bif b7 then
 ldV h_3 (p1.add 1) fun v10 =>
 vLen v10 fun n11 =>
 bif decide ((n11 : Int) ≤ 128) then
 ldV h_3 (p1.add 1) fun v16 =>
 zB ZkZ #[v16, .func (.func Zca) #[] #[]] h_3 fun b17 h_4 =>
 R (.bool b17) h_4
 else
 R (.bool false) h_3
 else
 R (.bool false) h_3) : CallsH P ZlA #[.agg #[zi x0_0, v0_1]] h R := zv ⟨[], [], []⟩ Tryz.func60 hv
theorem ZvC {v0 : Value} (hv :
 vLen v0 fun n7 =>
 lq2 ((.slice none 0 0) : Value) (0 : Int) h fun J n v3 x8 h_2 =>
 bif decide (x8 < (n7 : Int)) then
 vIdx v0 x8 1 fun p10 =>
 ldV h_2 p10 fun v11 =>
 zV ZfO #[v11] h_2 fun v14 h_3 =>
 vOne v14 fun _ =>
 vNewS h_3 (.cells #[v14] Zf) 1 fun v15 h_4 =>
 vAppend 1 24 [.slice none 0 0] Zf v3 v15 h_4 fun v16 h_5 =>
 ag2 J n v16 (zw (x8 + 1)) h_5
 else
 R v3 h_2) : CallsH P ZbX #[v0] h R := zv ⟨[(3, [(3, .v), (8, .i .i64)])], [], []⟩ Tryz.func105 hv
theorem Zsk {x0_0 x0_1 : Int} {v0_2 : Value} (hv :
 vNew h (.cells #[zi x0_0, zi x0_1, v0_2] Zat) fun p1 h_2 =>
 vNew h_2 (.cells #[zi 0, .slice none 0 0] Zkg) fun p2 h_3 =>
 ∃ B : Nat → Prop,
 ldV h_3 (p1.add 2) fun v6 =>
 zV ZbX #[v6] h_3 fun v7 h_4 =>
 ExtBut B h_3 h_4 ∧
 ldI .i64 (hmask B h_3) (p1.add 1) fun x4 =>
 vOne v7 fun _ =>
 vStore1 h_4 p2 (zi x4) fun h_5 =>
 vStore1 h_5 (p2.add 1) v7 fun h_6 =>
 ldI .i64 h_6 p2 fun xres0_0 =>
 ldV h_6 (p2.add 1) fun vres0_1 =>
 R (.agg #[zi xres0_0, vres0_1]) h_6) : CallsH P ZiO #[.agg #[zi x0_0, zi x0_1, v0_2]] h R := zv ⟨[], [], []⟩ Tryz.func61 hv
theorem Zvq {v0 : Value} {g1 : Nat} {cap1 : List Value} (hv :
 vLen v0 fun n7 =>
 lq1 (0 : Int) h fun J n x8 h_2 =>
 bif decide (x8 < (n7 : Int)) then
 vIdx v0 x8 1 fun p14 =>
 ldI .i64 h_2 p14 fun x15 =>
 vOkf ctx g1 fun _ =>
 CallsH P g1 (([zi x15] : List Value) ++ cap1).toArray h_2 fun r16 h_3 => ∃ (b16 : Bool), r16 = .bool b16 ∧
 bif b16 then
 R (zi x8) h_3
 else
 ag1 J n (zw (x8 + 1)) h_3
 else
 R (zi (-1)) h_2) : CallsH P ZkA #[v0, .func (.func g1) #[] cap1.toArray] h R := zv ⟨[(2, [(8, .i .i64)])], [], []⟩ Tryz.func119 hv
theorem Zu7 {v0 : Value} {g1 : Nat} {cap1 : List Value} (hv :
 zI ZkA #[v0, .func (.func g1) #[] cap1.toArray] h fun x7 h_2 =>
 R (.bool (decide (x7 ≥ 0))) h_2) : CallsH P Zb7 #[v0, .func (.func g1) #[] cap1.toArray] h R := zv ⟨[], [], []⟩ Tryz.func70 hv
theorem Zty {x0 : Int} (hv :
 bif x0 != 1 then
 R (.bool (x0 != (-1))) h
 else
 R (.bool false) h) : CallsH P Zlh #[zi x0] h R := zv ⟨[], [], []⟩ Tryz.func107 hv
theorem Zvo {v0 : Value} (hv :
 zI ZbN #[v0] h fun x11 h_2 =>
 vLen v0 fun n13 =>
 lq1 (0 : Int) h_2 fun J n x14 h_3 =>
 bif decide (x14 < (n13 : Int)) then
 vIdx v0 x14 1 fun p17 =>
 ldV h_3 p17 fun v18 =>
 ∃ J_2 : Heap → Prop, (
 zI ZaC #[v18] h_3 fun x20 h_4 =>
 bif x20 != x11 then
 R (.bool false) h_4
 else
 zB Zb7 #[v18, .func (.func Zlh) #[] #[]] h_4 fun b25 h_5 =>
 bif b25 then
 R (.bool false) h_5
 else
 J_2 h_5
 ) ∧ ∀ (_ : Env) (h_6 : Heap), J_2 h_6 →
 vSliceS v0 1 none (some (zi x14)) none fun v29 =>
 vLen v29 fun n30 =>
 lq1 (0 : Int) h_6 fun J_3 n_3 x31 h_7 =>
 bif decide (x31 < (n30 : Int)) then
 vIdx v29 x31 1 fun p33 =>
 ldV h_7 p33 fun v34 =>
 vLen v18 fun n36 =>
 lq2 (0 : Int) (0 : Int) h_7 fun J_4 n_5 x8 x37 h_8 =>
 bif decide (x37 < (n36 : Int)) then
 vIdx v18 x37 1 fun p43 =>
 ldI .i64 h_8 p43 fun x44 =>
 vIdx v34 x37 1 fun p47 =>
 ldI .i64 h_8 p47 fun x48 =>
 ag2 J_4 n_5 (zw (x8 + (zw (x44 * x48)))) (zw (x37 + 1)) h_8
 else
 bif x8 != 0 then
 R (.bool false) h_8
 else
 ag1 J_3 n_3 (zw (x31 + 1)) h_8
 else
 ag1 J n (zw (x14 + 1)) h_7
 else
 zB Z9 #[zi x11, zi 1, zi 32] h_3 fun b57 h_9 =>
 R (.bool b57) h_9) : CallsH P Zk0 #[v0] h R := zv ⟨[(3, [(14, .i .i64)]), (8, [(31, .i .i64)]), (12, [(8, .i .i64), (37, .i .i64)])], [(7, [])], []⟩ Tryz.func62 hv
theorem Zq5 {x0 x1 : Int} (hv :
 zB Z9 #[zi x0, zi 2, zi 16] h fun b6 h_2 =>
 bif b6 then
 zB Z9 #[zi x1, zi 1, zi 8] h_2 fun b9 h_3 =>
 R (.bool b9) h_3
 else
 R (.bool false) h_2) : CallsH P Zil #[zi x0, zi x1] h R := zv ⟨[], [], []⟩ Tryz.func108 hv
theorem Zuu {x0 : Int} {p1 : Addr} (hv :
 ldI .i64 h p1 fun x6 =>
 zB Z9 #[zi x0, zi 0, zi (zw (x6 - 1))] h fun b8 h_2 =>
 R (.bool (!b8)) h_2) : CallsH P Zkr #[zi x0, .pointer (some p1)] h R := zv ⟨[], [], []⟩ Tryz.func109 hv
theorem ZqO {x0_0 x0_1 : Int} {v0_2 : Value} (hv :
 vNew h (.cells #[zi x0_0, zi x0_1, v0_2] ZcC) fun p1 h_2 =>
 ∃ J : Heap → Prop, (
 ldI .i64 h_2 p1 fun x6 =>
 ldI .i64 h_2 (p1.add 1) fun x8 =>
 zB Zil #[zi x6, zi x8] h_2 fun b9 h_3 =>
 bif !b9 then
 R (.bool false) h_3
 else
 ldV h_3 (p1.add 2) fun v13 =>
 vLen v13 fun n14 =>
 bif decide ((n14 : Int) > 256) then
 R (.bool false) h_3
 else
 J h_3
 ) ∧ ∀ (_ : Env) (h_4 : Heap), J h_4 →
 ldV h_4 (p1.add 2) fun v18 =>
 vLen v18 fun n19 =>
 lq1 (0 : Int) h_4 fun J_2 n x20 h_5 =>
 bif decide (x20 < (n19 : Int)) then
 vIdx v18 x20 1 fun p22 =>
 ldV h_5 p22 fun v23 =>
 ∃ B : Nat → Prop,
 zI ZaC #[v23] h_5 fun x25 h_6 =>
 ExtBut B h_5 h_6 ∧
 ldI .i64 (hmask B h_5) (p1.add 1) fun x27 =>
 bif x25 != x27 then
 R (.bool false) h_6
 else
 zB Zb7 #[v23, .func (.func Zkr) #[] #[.pointer (some p1)]] h_6 fun b32 h_7 =>
 bif b32 then
 R (.bool false) h_7
 else
 ag1 J_2 n (zw (x20 + 1)) h_7
 else
 R (.bool true) h_5) : CallsH P Zjc #[.agg #[zi x0_0, zi x0_1, v0_2]] h R := zv ⟨[(4, [(20, .i .i64)])], [(3, [])], []⟩ Tryz.func63 hv
end Go.Proofs.YtocnokjekoglnaaGreatDoor
