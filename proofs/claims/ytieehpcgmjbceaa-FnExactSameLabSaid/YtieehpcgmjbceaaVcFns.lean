/- Shallow verification conditions of the functions of this seat, printed by gen.py; each is held against the program by the kernel. -/
import Derived.Test.YtieehpcgmjbceaaVcSoundE
import Derived.Test.YtieehpcgmjbceaaProg
import Derived.KernelRfl
namespace Go.Proofs.Ytieehpcgmjbceaa
open Go Go.Vc Go.Proofs
set_option linter.unusedVariables false
set_option maxRecDepth 100000
noncomputable abbrev P : Program := Try.prog
abbrev id_spec_CommandNames : Nat := 10
abbrev id_impl_CommandNames : Nat := 11
abbrev id_laws_eqStringS : Nat := 12
abbrev id_laws_markText : Nat := 40
abbrev id_laws_markStringS : Nat := 13
abbrev id_laws_heldStringS : Nat := 14
abbrev id_laws_FnExactCommandNames : Nat := 3
abbrev id_spec_l32Verbs : Nat := 41
abbrev id_spec_VerbNames : Nat := 15
abbrev id_impl_shapes : Nat := 42
abbrev id_impl_VerbNames : Nat := 16
abbrev id_laws_FnExactVerbNames : Nat := 4
abbrev id_spec_l32Verb : Nat := 43
abbrev id_spec_l32Shape : Nat := 44
abbrev id_spec_VerbShape : Nat := 17
abbrev id_slices_IndexFunc_impl_shape_impl_shape : Nat := 78
abbrev id_impl_shapeOf_1 : Nat := 79
abbrev id_impl_shapeOf : Nat := 45
abbrev id_impl_VerbShape : Nat := 18
abbrev id_laws_eqInt64S : Nat := 19
abbrev id_laws_markInt64S : Nat := 20
abbrev id_laws_heldInt64S : Nat := 21
abbrev id_laws_FnExactVerbShape : Nat := 5
abbrev id_laws_szInt64S : Nat := 53
abbrev id_laws_szInt64SS : Nat := 27
abbrev id_laws_szObject : Nat := 92
abbrev id_laws_szItem : Nat := 80
abbrev id_laws_szItemS : Nat := 46
abbrev id_laws_szCatalog : Nat := 22
abbrev id_spec_l00Same : Nat := 68
abbrev id_spec_l10Same : Nat := 93
abbrev id_spec_SameObject : Nat := 70
abbrev id_spec_l31Same : Nat := 47
abbrev id_spec_SameCatalog : Nat := 23
abbrev id_laws_toInt64S : Nat := 59
abbrev id_laws_toInt64SS : Nat := 29
abbrev id_laws_toObject : Nat := 95
abbrev id_laws_toItem : Nat := 81
abbrev id_laws_toItemS : Nat := 48
abbrev id_laws_toCatalog : Nat := 24
abbrev id_slices_EqualFunc_impl_Item_impl_Item_impl_Item_impl_Item : Nat := 49
abbrev id_slices_Equal_int64_int64 : Nat := 96
abbrev id_slices_EqualFunc_int64_int64_int64_int64 : Nat := 100
abbrev id_impl_areSame : Nat := 82
abbrev id_impl_SameObject : Nat := 51
abbrev id_impl_SameCatalog_1 : Nat := 50
abbrev id_impl_SameCatalog : Nat := 25
abbrev id_laws_eqInt64SS : Nat := 31
abbrev id_laws_eqObject : Nat := 99
abbrev id_laws_eqItem : Nat := 83
abbrev id_laws_eqItemS : Nat := 52
abbrev id_laws_eqCatalog : Nat := 26
abbrev id_laws_FnExactSameCatalog : Nat := 6
abbrev id_spec_l00In : Nat := 57
abbrev id_spec_l26Ok : Nat := 54
abbrev id_spec_l09Budget : Nat := 55
abbrev id_spec_l26Lambda : Nat := 56
abbrev id_spec_l00Own : Nat := 101
abbrev id_spec_l26Find_on : Nat := 102
abbrev id_spec_l26Find_run : Nat := 84
abbrev id_spec_l26Search : Nat := 58
abbrev id_spec_CountChoices : Nat := 28
abbrev id_impl_within : Nat := 63
abbrev id_impl_size_int64 : Nat := 85
abbrev id_slices_IndexFunc_int64_int64 : Nat := 103
abbrev id_slices_ContainsFunc_int64_int64 : Nat := 86
abbrev id_slices_IndexFunc_int64_int64_1 : Nat := 111
abbrev id_slices_ContainsFunc_int64_int64_1 : Nat := 104
abbrev id_impl_areIn_1 : Nat := 105
abbrev id_impl_areIn : Nat := 88
abbrev id_impl_isCounts_1 : Nat := 87
abbrev id_impl_isCounts : Nat := 60
abbrev id_impl_isBudget : Nat := 61
abbrev id_impl_isLambda : Nat := 62
abbrev id_impl_chooser_change : Nat := 89
abbrev id_impl_chooser_possible : Nat := 106
abbrev id_slices_Clone_int64_int64 : Nat := 107
abbrev id_impl_counter_node : Nat := 108
abbrev id_impl_chooser_search : Nat := 90
abbrev id_impl_choices : Nat := 64
abbrev id_impl_CountChoices : Nat := 30
abbrev id_laws_FnExactCountChoices : Nat := 7
abbrev id_spec_l26First : Nat := 65
abbrev id_spec_ChooseOrbits : Nat := 32
abbrev id_impl_ChooseOrbits : Nat := 33
abbrev id_laws_markInt64SS : Nat := 34
abbrev id_laws_FnExactChooseOrbits : Nat := 8
abbrev id_laws_szStringS : Nat := 109
abbrev id_laws_szRecipe : Nat := 91
abbrev id_laws_szRecipeS : Nat := 66
abbrev id_laws_szObjectS : Nat := 67
abbrev id_laws_szLab : Nat := 35
abbrev id_spec_l32Words : Nat := 69
abbrev id_spec_SameLab : Nat := 36
abbrev id_laws_toStringS : Nat := 110
abbrev id_laws_toRecipe : Nat := 94
abbrev id_laws_toRecipeS : Nat := 71
abbrev id_laws_toObjectS : Nat := 72
abbrev id_laws_toLab : Nat := 37
abbrev id_slices_EqualFunc_impl_Recipe_impl_Recipe_impl_Recipe_impl_Recipe : Nat := 73
abbrev id_slices_Equal_string_string : Nat := 97
abbrev id_impl_sameRecipe : Nat := 74
abbrev id_slices_EqualFunc_impl_Object_impl_Object_impl_Object_impl_Object : Nat := 75
abbrev id_impl_SameLab : Nat := 38
abbrev id_laws_eqRecipe : Nat := 98
abbrev id_laws_eqRecipeS : Nat := 76
abbrev id_laws_eqObjectS : Nat := 77
abbrev id_laws_eqLab : Nat := 39
abbrev id_laws_FnExactSameLab : Nat := 9
abbrev t_int64 : Nat := 2
abbrev t_int : Nat := 3
abbrev t_bool : Nat := 4
abbrev t_uint8 : Nat := 5
abbrev t_string : Nat := 9
abbrev t_S_string : Nat := 22
abbrev t_S_int64 : Nat := 27
abbrev t_S_laws_Item : Nat := 33
abbrev t_laws_Catalog : Nat := 35
abbrev t_S_impl_Item : Nat := 38
abbrev t_impl_Catalog : Nat := 40
abbrev t_S_S_int64 : Nat := 43
abbrev t_S_laws_Recipe : Nat := 53
abbrev t_S_laws_Object : Nat := 54
abbrev t_laws_Lab : Nat := 56
abbrev t_S_impl_Recipe : Nat := 59
abbrev t_S_impl_Object : Nat := 60
abbrev t_impl_Lab : Nat := 62
abbrev t_S_impl_shape : Nat := 66
abbrev t_impl_shape : Nat := 69
abbrev t_impl_Object : Nat := 77
abbrev t_impl_Item : Nat := 79
abbrev t_spec_l26Find : Nat := 91
abbrev t_impl_counter : Nat := 96
abbrev t_impl_chooser : Nat := 98
abbrev t_impl_Recipe : Nat := 102
abbrev t_S_uint8 : Nat := 110
abbrev t_laws_Object : Nat := 114
abbrev t_laws_Item : Nat := 116
abbrev t_laws_Recipe : Nat := 126
abbrev t_S_bool : Nat := 133
def tab : List (Nat × TE) := [(2, ⟨.int .i64, [.i .i64], [.int .i64 0], 8⟩),
  (3, ⟨.int .i64, [.i .i64], [.int .i64 0], 8⟩),
  (4, ⟨.bool, [.b], [.bool false], 1⟩),
  (5, ⟨.int .u8, [.i .u8], [.int .u8 0], 1⟩),
  (9, ⟨.str, [.s], [.string ⟨#[]⟩], 16⟩),
  (22, ⟨.slice 9, [.v], [.slice none 0 0], 24⟩),
  (27, ⟨.slice 2, [.v], [.slice none 0 0], 24⟩),
  (33, ⟨.slice 116, [.v], [.slice none 0 0], 24⟩),
  (35, ⟨.struct [(0, 1, false)], [.v], [.slice none 0 0], 24⟩),
  (38, ⟨.slice 79, [.v], [.slice none 0 0], 24⟩),
  (40, ⟨.struct [(0, 1, false)], [.v], [.slice none 0 0], 24⟩),
  (43, ⟨.slice 27, [.v], [.slice none 0 0], 24⟩),
  (53, ⟨.slice 126, [.v], [.slice none 0 0], 24⟩),
  (54, ⟨.slice 114, [.v], [.slice none 0 0], 24⟩),
  (56, ⟨.struct [(0, 1, false), (1, 1, false)], [.v, .v], [.slice none 0 0, .slice none 0 0], 48⟩),
  (59, ⟨.slice 102, [.v], [.slice none 0 0], 24⟩),
  (60, ⟨.slice 77, [.v], [.slice none 0 0], 24⟩),
  (62, ⟨.struct [(0, 1, false), (1, 1, false)], [.v, .v], [.slice none 0 0, .slice none 0 0], 48⟩),
  (66, ⟨.slice 69, [.v], [.slice none 0 0], 24⟩),
  (69, ⟨.struct [(0, 1, false), (1, 1, false), (2, 1, false), (3, 1, false)], [.s, .i .i64, .v, .i .i64], [.string ⟨#[]⟩, .int .i64 0, .slice none 0 0, .int .i64 0], 56⟩),
  (77, ⟨.struct [(0, 1, false), (1, 1, false), (2, 1, false)], [.i .i64, .i .i64, .v], [.int .i64 0, .int .i64 0, .slice none 0 0], 40⟩),
  (79, ⟨.struct [(0, 1, false), (1, 3, true), (4, 1, false)], [.s, .i .i64, .i .i64, .v, .s], [.string ⟨#[]⟩, .int .i64 0, .int .i64 0, .slice none 0 0, .string ⟨#[]⟩], 72⟩),
  (91, ⟨.struct [(0, 1, false), (1, 1, false), (2, 1, false), (3, 1, false), (4, 1, false), (5, 1, false), (6, 1, false), (7, 1, false), (8, 1, false), (9, 1, false)], [.v, .v, .i .i64, .v, .v, .i .i64, .i .i64, .i .i64, .i .i64, .b], [.slice none 0 0, .slice none 0 0, .int .i64 0, .slice none 0 0, .slice none 0 0, .int .i64 0, .int .i64 0, .int .i64 0, .int .i64 0, .bool false], 144⟩),
  (96, ⟨.struct [(0, 1, false), (1, 1, false)], [.i .i64, .b], [.int .i64 0, .bool false], 16⟩),
  (98, ⟨.struct [(0, 2, true), (2, 1, false), (3, 1, false), (4, 1, false), (5, 1, false), (6, 1, false), (7, 1, false), (8, 1, false), (9, 1, false)], [.i .i64, .b, .v, .i .i64, .i .i64, .v, .v, .v, .i .i64, .v], [.int .i64 0, .bool false, .slice none 0 0, .int .i64 0, .int .i64 0, .slice none 0 0, .slice none 0 0, .slice none 0 0, .int .i64 0, .slice none 0 0], 160⟩),
  (102, ⟨.struct [(0, 1, false), (1, 1, false), (2, 1, false), (3, 1, false)], [.s, .s, .v, .v], [.string ⟨#[]⟩, .string ⟨#[]⟩, .slice none 0 0, .slice none 0 0], 80⟩),
  (110, ⟨.slice 5, [.v], [.slice none 0 0], 24⟩),
  (114, ⟨.struct [(0, 1, false), (1, 1, false), (2, 1, false)], [.i .i64, .i .i64, .v], [.int .i64 0, .int .i64 0, .slice none 0 0], 40⟩),
  (116, ⟨.struct [(0, 1, false), (1, 3, true), (4, 1, false)], [.s, .i .i64, .i .i64, .v, .s], [.string ⟨#[]⟩, .int .i64 0, .int .i64 0, .slice none 0 0, .string ⟨#[]⟩], 72⟩),
  (126, ⟨.struct [(0, 1, false), (1, 1, false), (2, 1, false), (3, 1, false)], [.s, .s, .v, .v], [.string ⟨#[]⟩, .string ⟨#[]⟩, .slice none 0 0, .slice none 0 0], 80⟩),
  (133, ⟨.slice 4, [.v], [.slice none 0 0], 24⟩)]
def rst : List (Nat × RS) := [(0, ⟨true, []⟩),
  (2, ⟨false, [(false, [.i .i64])]⟩),
  (3, ⟨false, [(false, [.i .i64])]⟩),
  (4, ⟨false, [(false, [.b])]⟩),
  (9, ⟨false, [(false, [.s])]⟩),
  (22, ⟨false, [(false, [.v])]⟩),
  (27, ⟨false, [(false, [.v])]⟩),
  (28, ⟨true, [(false, [.i .i64]), (false, [.v]), (false, [.i .i64]), (false, [.b])]⟩),
  (38, ⟨false, [(false, [.v])]⟩),
  (40, ⟨false, [(true, [.v])]⟩),
  (43, ⟨false, [(false, [.v])]⟩),
  (45, ⟨true, [(false, [.i .i64]), (false, [.i .i64])]⟩),
  (50, ⟨true, [(false, [.v]), (false, [.i .i64])]⟩),
  (59, ⟨false, [(false, [.v])]⟩),
  (60, ⟨false, [(false, [.v])]⟩),
  (62, ⟨false, [(true, [.v, .v])]⟩),
  (66, ⟨false, [(false, [.v])]⟩),
  (71, ⟨true, [(false, [.i .i64]), (false, [.v]), (false, [.i .i64])]⟩),
  (77, ⟨false, [(true, [.i .i64, .i .i64, .v])]⟩),
  (79, ⟨false, [(true, [.s, .i .i64, .i .i64, .v, .s])]⟩),
  (88, ⟨false, [(false, [.p])]⟩),
  (93, ⟨false, [(false, [.p])]⟩),
  (102, ⟨false, [(true, [.s, .s, .v, .v])]⟩)]
noncomputable def ctx : Ctx := ⟨Try.prog, tab, rst, 3, 112⟩
theorem te2 : TeOk P 2 ⟨.int .i64, [.i .i64], [.int .i64 0], 8⟩ := ⟨by kernel_rfl, by kernel_rfl, by kernel_rfl⟩
theorem te3 : TeOk P 3 ⟨.int .i64, [.i .i64], [.int .i64 0], 8⟩ := ⟨by kernel_rfl, by kernel_rfl, by kernel_rfl⟩
theorem te4 : TeOk P 4 ⟨.bool, [.b], [.bool false], 1⟩ := ⟨by kernel_rfl, by kernel_rfl, by kernel_rfl⟩
theorem te5 : TeOk P 5 ⟨.int .u8, [.i .u8], [.int .u8 0], 1⟩ := ⟨by kernel_rfl, by kernel_rfl, by kernel_rfl⟩
theorem te9 : TeOk P 9 ⟨.str, [.s], [.string ⟨#[]⟩], 16⟩ := ⟨by kernel_rfl, by kernel_rfl, by kernel_rfl⟩
theorem te22 : TeOk P 22 ⟨.slice 9, [.v], [.slice none 0 0], 24⟩ := ⟨by kernel_rfl, by kernel_rfl, by kernel_rfl⟩
theorem te27 : TeOk P 27 ⟨.slice 2, [.v], [.slice none 0 0], 24⟩ := ⟨by kernel_rfl, by kernel_rfl, by kernel_rfl⟩
theorem te33 : TeOk P 33 ⟨.slice 116, [.v], [.slice none 0 0], 24⟩ := ⟨by kernel_rfl, by kernel_rfl, by kernel_rfl⟩
theorem te35 : TeOk P 35 ⟨.struct [(0, 1, false)], [.v], [.slice none 0 0], 24⟩ := ⟨by kernel_rfl, by kernel_rfl, by kernel_rfl⟩
theorem te38 : TeOk P 38 ⟨.slice 79, [.v], [.slice none 0 0], 24⟩ := ⟨by kernel_rfl, by kernel_rfl, by kernel_rfl⟩
theorem te40 : TeOk P 40 ⟨.struct [(0, 1, false)], [.v], [.slice none 0 0], 24⟩ := ⟨by kernel_rfl, by kernel_rfl, by kernel_rfl⟩
theorem te43 : TeOk P 43 ⟨.slice 27, [.v], [.slice none 0 0], 24⟩ := ⟨by kernel_rfl, by kernel_rfl, by kernel_rfl⟩
theorem te53 : TeOk P 53 ⟨.slice 126, [.v], [.slice none 0 0], 24⟩ := ⟨by kernel_rfl, by kernel_rfl, by kernel_rfl⟩
theorem te54 : TeOk P 54 ⟨.slice 114, [.v], [.slice none 0 0], 24⟩ := ⟨by kernel_rfl, by kernel_rfl, by kernel_rfl⟩
theorem te56 : TeOk P 56 ⟨.struct [(0, 1, false), (1, 1, false)], [.v, .v], [.slice none 0 0, .slice none 0 0], 48⟩ := ⟨by kernel_rfl, by kernel_rfl, by kernel_rfl⟩
theorem te59 : TeOk P 59 ⟨.slice 102, [.v], [.slice none 0 0], 24⟩ := ⟨by kernel_rfl, by kernel_rfl, by kernel_rfl⟩
theorem te60 : TeOk P 60 ⟨.slice 77, [.v], [.slice none 0 0], 24⟩ := ⟨by kernel_rfl, by kernel_rfl, by kernel_rfl⟩
theorem te62 : TeOk P 62 ⟨.struct [(0, 1, false), (1, 1, false)], [.v, .v], [.slice none 0 0, .slice none 0 0], 48⟩ := ⟨by kernel_rfl, by kernel_rfl, by kernel_rfl⟩
theorem te66 : TeOk P 66 ⟨.slice 69, [.v], [.slice none 0 0], 24⟩ := ⟨by kernel_rfl, by kernel_rfl, by kernel_rfl⟩
theorem te69 : TeOk P 69 ⟨.struct [(0, 1, false), (1, 1, false), (2, 1, false), (3, 1, false)], [.s, .i .i64, .v, .i .i64], [.string ⟨#[]⟩, .int .i64 0, .slice none 0 0, .int .i64 0], 56⟩ := ⟨by kernel_rfl, by kernel_rfl, by kernel_rfl⟩
theorem te77 : TeOk P 77 ⟨.struct [(0, 1, false), (1, 1, false), (2, 1, false)], [.i .i64, .i .i64, .v], [.int .i64 0, .int .i64 0, .slice none 0 0], 40⟩ := ⟨by kernel_rfl, by kernel_rfl, by kernel_rfl⟩
theorem te79 : TeOk P 79 ⟨.struct [(0, 1, false), (1, 3, true), (4, 1, false)], [.s, .i .i64, .i .i64, .v, .s], [.string ⟨#[]⟩, .int .i64 0, .int .i64 0, .slice none 0 0, .string ⟨#[]⟩], 72⟩ := ⟨by kernel_rfl, by kernel_rfl, by kernel_rfl⟩
theorem te91 : TeOk P 91 ⟨.struct [(0, 1, false), (1, 1, false), (2, 1, false), (3, 1, false), (4, 1, false), (5, 1, false), (6, 1, false), (7, 1, false), (8, 1, false), (9, 1, false)], [.v, .v, .i .i64, .v, .v, .i .i64, .i .i64, .i .i64, .i .i64, .b], [.slice none 0 0, .slice none 0 0, .int .i64 0, .slice none 0 0, .slice none 0 0, .int .i64 0, .int .i64 0, .int .i64 0, .int .i64 0, .bool false], 144⟩ := ⟨by kernel_rfl, by kernel_rfl, by kernel_rfl⟩
theorem te96 : TeOk P 96 ⟨.struct [(0, 1, false), (1, 1, false)], [.i .i64, .b], [.int .i64 0, .bool false], 16⟩ := ⟨by kernel_rfl, by kernel_rfl, by kernel_rfl⟩
theorem te98 : TeOk P 98 ⟨.struct [(0, 2, true), (2, 1, false), (3, 1, false), (4, 1, false), (5, 1, false), (6, 1, false), (7, 1, false), (8, 1, false), (9, 1, false)], [.i .i64, .b, .v, .i .i64, .i .i64, .v, .v, .v, .i .i64, .v], [.int .i64 0, .bool false, .slice none 0 0, .int .i64 0, .int .i64 0, .slice none 0 0, .slice none 0 0, .slice none 0 0, .int .i64 0, .slice none 0 0], 160⟩ := ⟨by kernel_rfl, by kernel_rfl, by kernel_rfl⟩
theorem te102 : TeOk P 102 ⟨.struct [(0, 1, false), (1, 1, false), (2, 1, false), (3, 1, false)], [.s, .s, .v, .v], [.string ⟨#[]⟩, .string ⟨#[]⟩, .slice none 0 0, .slice none 0 0], 80⟩ := ⟨by kernel_rfl, by kernel_rfl, by kernel_rfl⟩
theorem te110 : TeOk P 110 ⟨.slice 5, [.v], [.slice none 0 0], 24⟩ := ⟨by kernel_rfl, by kernel_rfl, by kernel_rfl⟩
theorem te114 : TeOk P 114 ⟨.struct [(0, 1, false), (1, 1, false), (2, 1, false)], [.i .i64, .i .i64, .v], [.int .i64 0, .int .i64 0, .slice none 0 0], 40⟩ := ⟨by kernel_rfl, by kernel_rfl, by kernel_rfl⟩
theorem te116 : TeOk P 116 ⟨.struct [(0, 1, false), (1, 3, true), (4, 1, false)], [.s, .i .i64, .i .i64, .v, .s], [.string ⟨#[]⟩, .int .i64 0, .int .i64 0, .slice none 0 0, .string ⟨#[]⟩], 72⟩ := ⟨by kernel_rfl, by kernel_rfl, by kernel_rfl⟩
theorem te126 : TeOk P 126 ⟨.struct [(0, 1, false), (1, 1, false), (2, 1, false), (3, 1, false)], [.s, .s, .v, .v], [.string ⟨#[]⟩, .string ⟨#[]⟩, .slice none 0 0, .slice none 0 0], 80⟩ := ⟨by kernel_rfl, by kernel_rfl, by kernel_rfl⟩
theorem te133 : TeOk P 133 ⟨.slice 4, [.v], [.slice none 0 0], 24⟩ := ⟨by kernel_rfl, by kernel_rfl, by kernel_rfl⟩
theorem tabOk_all : ∀ p ∈ tab, TeOk P p.1 p.2 := by
  unfold tab
  simp only [List.forall_mem_cons]
  exact ⟨te2, te3, te4, te5, te9, te22, te27, te33, te35, te38, te40, te43, te53, te54, te56, te59, te60, te62, te66, te69, te77, te79, te91, te96, te98, te102, te110, te114, te116, te126, te133, fun p hp => by cases hp⟩
theorem tab_mem : ∀ (l : List (Nat × TE)) (t : Nat) (te : TE), tabGet l t = some te → (t, te) ∈ l
  | [], t, te, h => by cases h
  | (k, x) :: r, t, te, h => by
    unfold tabGet at h
    cases hb : Nat.beq k t with
    | true => rw [hb] at h; have := Nat.eq_of_beq_eq_true hb; subst this; cases h; exact List.mem_cons_self ..
    | false => rw [hb] at h; exact List.mem_cons_of_mem _ (tab_mem r t te h)
noncomputable def fnB (f : Nat) : Bool := match P.funcs[f]? with | some fn => fn.body.isSome && !(fn.name == "runtime.NumGoroutine") | none => false
theorem fns_all : (List.range' 3 109).all fnB = true := by kernel_rfl
theorem ctxOk : CtxOk ctx where
  tab := fun t te h => tabOk_all (t, te) (tab_mem _ t te h)
  fns := fun f hf => by
    simp only [Ctx.okf, Bool.and_eq_true] at hf
    have h1 : 3 ≤ f := Nat.le_of_ble_eq_true hf.1
    have h2 : f < 112 := Nat.blt_eq.mp hf.2
    have h := List.all_eq_true.1 fns_all f (List.mem_range'_1.2 ⟨h1, by omega⟩)
    unfold fnB at h
    split at h
    · rename_i fn hfn; simp only [Bool.and_eq_true, Bool.not_eq_true'] at h; exact ⟨fn, hfn, h.1, h.2⟩
    · cases h
  mixed := by kernel_rfl
/-- spec.CommandNames -/
def F_spec_CommandNames (R : Value → Heap → Prop) (h : Heap) : Prop :=
  vNewS h (.cells #[.string ⟨#[99, 97, 116, 97, 108, 111, 103]⟩, .string ⟨#[100, 114, 111, 112]⟩, .string ⟨#[102, 97, 99, 116, 115]⟩, .string ⟨#[104, 101, 108, 112]⟩, .string ⟨#[105, 116, 101, 109, 115]⟩, .string ⟨#[108, 97, 98]⟩, .string ⟨#[108, 105, 107, 101]⟩, .string ⟨#[109, 97, 107, 101]⟩, .string ⟨#[110, 101, 101, 100]⟩, .string ⟨#[114, 101, 109, 111, 118, 101]⟩, .string ⟨#[115, 104, 111, 119]⟩, .string ⟨#[115, 116, 111, 114, 101]⟩, .string ⟨#[117, 115, 101, 114, 115]⟩] t_string) 13 fun v1 h_2 =>
  R v1 h_2
theorem w_spec_CommandNames {R : Value → Heap → Prop} {h : Heap} (hv : F_spec_CommandNames R h) : CallsH P id_spec_CommandNames #[] h R :=
  callsH_of_vc ctxOk ⟨[], []⟩ Try.func10 [] h R (by kernel_rfl) (Eq.mpr (by kernel_rfl) hv)
/-- impl.CommandNames -/
def F_impl_CommandNames (R : Value → Heap → Prop) (h : Heap) : Prop :=
  vNewS h (.cells #[.string ⟨#[99, 97, 116, 97, 108, 111, 103]⟩, .string ⟨#[100, 114, 111, 112]⟩, .string ⟨#[102, 97, 99, 116, 115]⟩, .string ⟨#[104, 101, 108, 112]⟩, .string ⟨#[105, 116, 101, 109, 115]⟩, .string ⟨#[108, 97, 98]⟩, .string ⟨#[108, 105, 107, 101]⟩, .string ⟨#[109, 97, 107, 101]⟩, .string ⟨#[110, 101, 101, 100]⟩, .string ⟨#[114, 101, 109, 111, 118, 101]⟩, .string ⟨#[115, 104, 111, 119]⟩, .string ⟨#[115, 116, 111, 114, 101]⟩, .string ⟨#[117, 115, 101, 114, 115]⟩] t_string) 13 fun v1 h_2 =>
  R v1 h_2
theorem w_impl_CommandNames {R : Value → Heap → Prop} {h : Heap} (hv : F_impl_CommandNames R h) : CallsH P id_impl_CommandNames #[] h R :=
  callsH_of_vc ctxOk ⟨[], []⟩ Try.func11 [] h R (by kernel_rfl) (Eq.mpr (by kernel_rfl) hv)
/-- laws.eqStringS -/
def F_laws_eqStringS (R : Value → Heap → Prop) (v0 : Value) (v1 : Value) (h : Heap) : Prop :=
  vLen v0 fun n7 =>
  vLen v1 fun n9 =>
  bif ((n7 : Int) : Int) != (n9 : Int) then
    R (.bool false) h
  else
    ∃ J : Nat → Int → Heap → Prop, (∃ n_2, J n_2 0 h) ∧ ∀ (n : Nat) (_ : Env) (x5 : Int) (h_2 : Heap), J n x5 h_2 →
    vLen v0 fun n13 =>
    bif decide ((x5 : Int) < (n13 : Int)) then
      vIdx v0 x5 1 fun p19 =>
      ldS h_2 p19 fun s20 =>
      vIdx v1 x5 1 fun p23 =>
      ldS h_2 p23 fun s24 =>
      bif !(s20.toList == s24.toList) then
        R (.bool false) h_2
      else
        ∃ m, m < n ∧ J m (IntKind.i64.wrap (x5 + 1)) h_2
    else
      R (.bool true) h_2
theorem w_laws_eqStringS {R : Value → Heap → Prop} {v0 : Value} {v1 : Value} {h : Heap} (hv : F_laws_eqStringS R v0 v1 h) : CallsH P id_laws_eqStringS #[v0, v1] h R :=
  callsH_of_vc ctxOk ⟨[(4, [(5, .i .i64)])], []⟩ Try.func12 [v0, v1] h R (by kernel_rfl) (Eq.mpr (by kernel_rfl) hv)
/-- laws.markText -/
def F_laws_markText (R : Value → Heap → Prop) (x0 : Int) (h : Heap) : Prop :=
  bif decide ((x0 : Int) ≤ 0) then
    R (.string ⟨#[109, 48]⟩) h
  else
    ∃ J : Nat → Int → ByteArray → Heap → Prop, (∃ n_2, J n_2 x0 ⟨#[]⟩ h) ∧ ∀ (n : Nat) (_ : Env) (x0_2 : Int) (s3 : ByteArray) (h_2 : Heap), J n x0_2 s3 h_2 →
    bif decide ((x0_2 : Int) > 0) then
      (10 : Int) ≠ 0 ∧
      vNewS h_2 (.cells #[.int .u8 (IntKind.u8.wrap (IntKind.i64.wrap (48 + (Int.tmod x0_2 10))))] t_uint8) 1 fun v12 h_3 =>
      vB2S v12 h_3 fun s13 =>
      (((s13 : ByteArray).size + (s3 : ByteArray).size : Nat) : Int) ≤ IntKind.i64.max ∧
      (10 : Int) ≠ 0 ∧
      ∃ m, m < n ∧ J m (IntKind.i64.wrap (Int.tdiv x0_2 10)) ((s13 : ByteArray) ++ (s3 : ByteArray)) h_3
    else
      (((⟨#[109]⟩ : ByteArray).size + (s3 : ByteArray).size : Nat) : Int) ≤ IntKind.i64.max ∧
      R (.string ((⟨#[109]⟩ : ByteArray) ++ (s3 : ByteArray))) h_2
theorem w_laws_markText {R : Value → Heap → Prop} {x0 : Int} {h : Heap} (hv : F_laws_markText R x0 h) : CallsH P id_laws_markText #[.int .i64 x0] h R :=
  callsH_of_vc ctxOk ⟨[(4, [(0, .i .i64), (3, .s)])], []⟩ Try.func40 [.int .i64 x0] h R (by kernel_rfl) (Eq.mpr (by kernel_rfl) hv)
/-- laws.markStringS -/
def F_laws_markStringS (R : Value → Heap → Prop) (v0 : Value) (x1 : Int) (h : Heap) : Prop :=
  ∃ J : Nat → Int → Int → Heap → Prop, (∃ n_2, J n_2 x1 0 h) ∧ ∀ (n : Nat) (_ : Env) (x1_2 : Int) (x5 : Int) (h_2 : Heap), J n x1_2 x5 h_2 →
  vLen v0 fun n8 =>
  bif decide ((x5 : Int) < (n8 : Int)) then
    CallsH P id_laws_markText #[.int .i64 x1_2] h_2 fun r15 h_3 => ∃ (s15 : ByteArray), r15 = .string s15 ∧
    vIdx v0 x5 1 fun p16 =>
    vStore1 h_3 p16 (.string s15) fun h_4 =>
    ∃ m, m < n ∧ J m (IntKind.i64.wrap (x1_2 + 1)) (IntKind.i64.wrap (x5 + 1)) h_4
  else
    R (.int .i64 x1_2) h_2
theorem w_laws_markStringS {R : Value → Heap → Prop} {v0 : Value} {x1 : Int} {h : Heap} (hv : F_laws_markStringS R v0 x1 h) : CallsH P id_laws_markStringS #[v0, .int .i64 x1] h R :=
  callsH_of_vc ctxOk ⟨[(2, [(1, .i .i64), (5, .i .i64)])], []⟩ Try.func13 [v0, .int .i64 x1] h R (by kernel_rfl) (Eq.mpr (by kernel_rfl) hv)
/-- laws.heldStringS -/
def F_laws_heldStringS (R : Value → Heap → Prop) (v0 : Value) (x1 : Int) (h : Heap) : Prop :=
  ∃ J : Nat → Int → Int → Heap → Prop, (∃ n_2, J n_2 x1 0 h) ∧ ∀ (n : Nat) (_ : Env) (x1_2 : Int) (x5 : Int) (h_2 : Heap), J n x1_2 x5 h_2 →
  vLen v0 fun n8 =>
  bif decide ((x5 : Int) < (n8 : Int)) then
    CallsH P id_laws_markText #[.int .i64 x1_2] h_2 fun r17 h_3 => ∃ (s17 : ByteArray), r17 = .string s17 ∧
    ExtH h_2 h_3 ∧
    vIdx v0 x5 1 fun p14 =>
    ldS h_2 p14 fun s15 =>
    bif !(s15.toList == s17.toList) then
      R (.int .i64 (-1)) h_3
    else
      ∃ m, m < n ∧ J m (IntKind.i64.wrap (x1_2 + 1)) (IntKind.i64.wrap (x5 + 1)) h_3
  else
    R (.int .i64 x1_2) h_2
theorem w_laws_heldStringS {R : Value → Heap → Prop} {v0 : Value} {x1 : Int} {h : Heap} (hv : F_laws_heldStringS R v0 x1 h) : CallsH P id_laws_heldStringS #[v0, .int .i64 x1] h R :=
  callsH_of_vc ctxOk ⟨[(2, [(1, .i .i64), (5, .i .i64)])], []⟩ Try.func14 [v0, .int .i64 x1] h R (by kernel_rfl) (Eq.mpr (by kernel_rfl) hv)
/-- laws.FnExactCommandNames -/
def F_laws_FnExactCommandNames (R : Value → Heap → Prop) (h : Heap) : Prop :=
  CallsH P id_spec_CommandNames #[] h fun r6 h_2 => ∃ (v6 : Value), r6 = v6 ∧
  CallsH P id_impl_CommandNames #[] h_2 fun r7 h_3 => ∃ (v7 : Value), r7 = v7 ∧
  CallsH P id_laws_eqStringS #[v7, v6] h_3 fun r10 h_4 => ∃ (b10 : Bool), r10 = .bool b10 ∧
  bif !b10 then
    R (.bool false) h_4
  else
    CallsH P id_laws_markStringS #[v7, .int .i64 1] h_4 fun r14 h_5 => ∃ (x14 : Int), r14 = .int .i64 x14 ∧
    CallsH P id_laws_heldStringS #[v7, .int .i64 1] h_5 fun r17 h_6 => ∃ (x17 : Int), r17 = .int .i64 x17 ∧
    bif decide ((x17 : Int) < 0) then
      R (.bool false) h_6
    else
      bif (x17 : Int) != x14 then
        R (.bool false) h_6
      else
        CallsH P id_impl_CommandNames #[] h_6 fun r23 h_7 => ∃ (v23 : Value), r23 = v23 ∧
        CallsH P id_laws_eqStringS #[v23, v6] h_7 fun r26 h_8 => ∃ (b26 : Bool), r26 = .bool b26 ∧
        bif !b26 then
          R (.bool false) h_8
        else
          CallsH P id_laws_heldStringS #[v7, .int .i64 1] h_8 fun r30 h_9 => ∃ (x30 : Int), r30 = .int .i64 x30 ∧
          bif decide ((x30 : Int) < 0) then
            R (.bool false) h_9
          else
            bif (x30 : Int) != x14 then
              R (.bool false) h_9
            else
              R (.bool true) h_9
theorem w_laws_FnExactCommandNames {R : Value → Heap → Prop} {h : Heap} (hv : F_laws_FnExactCommandNames R h) : CallsH P id_laws_FnExactCommandNames #[] h R :=
  callsH_of_vc ctxOk ⟨[], []⟩ Try.func3 [] h R (by kernel_rfl) (Eq.mpr (by kernel_rfl) hv)
/-- spec.l32Verbs -/
def F_spec_l32Verbs (R : Value → Heap → Prop) (h : Heap) : Prop :=
  vNewS h (.cells #[.string ⟨#[99, 121, 99, 108, 105, 99]⟩, .string ⟨#[102, 105, 101, 108, 100]⟩, .string ⟨#[112, 114, 111, 100, 117, 99, 116]⟩, .string ⟨#[99, 111, 110, 106, 117, 103, 97, 116, 101]⟩, .string ⟨#[109, 97, 116, 101]⟩, .string ⟨#[97, 102, 102, 105, 110, 101]⟩, .string ⟨#[112, 114, 111, 106, 101, 99, 116, 105, 118, 101]⟩, .string ⟨#[99, 111, 110, 115, 116, 114, 117, 99, 116]⟩, .string ⟨#[112, 114, 101, 115, 99, 114, 105, 98, 101, 100]⟩, .string ⟨#[99, 111, 109, 112, 108, 101, 109, 101, 110, 116]⟩, .string ⟨#[100, 117, 97, 108]⟩, .string ⟨#[100, 101, 114, 105, 118, 101, 100]⟩, .string ⟨#[114, 101, 115, 105, 100, 117, 97, 108]⟩, .string ⟨#[115, 117, 109]⟩, .string ⟨#[115, 121, 108, 118, 101, 115, 116, 101, 114]⟩, .string ⟨#[112, 97, 108, 101, 121]⟩, .string ⟨#[98, 108, 111, 99, 107, 115]⟩, .string ⟨#[118, 97, 108, 117, 101, 115]⟩, .string ⟨#[99, 111, 118, 101, 114]⟩, .string ⟨#[104, 97, 109, 109, 105, 110, 103]⟩, .string ⟨#[115, 111, 108, 111, 109, 111, 110]⟩, .string ⟨#[111, 114, 116, 104, 111, 103, 111, 110, 97, 108]⟩, .string ⟨#[102, 114, 111, 98, 101, 110, 105, 117, 115]⟩] t_string) 23 fun v1 h_2 =>
  R v1 h_2
theorem w_spec_l32Verbs {R : Value → Heap → Prop} {h : Heap} (hv : F_spec_l32Verbs R h) : CallsH P id_spec_l32Verbs #[] h R :=
  callsH_of_vc ctxOk ⟨[], []⟩ Try.func41 [] h R (by kernel_rfl) (Eq.mpr (by kernel_rfl) hv)
/-- spec.VerbNames -/
def F_spec_VerbNames (R : Value → Heap → Prop) (h : Heap) : Prop :=
  CallsH P id_spec_l32Verbs #[] h fun r1 h_2 => ∃ (v1 : Value), r1 = v1 ∧
  R v1 h_2
theorem w_spec_VerbNames {R : Value → Heap → Prop} {h : Heap} (hv : F_spec_VerbNames R h) : CallsH P id_spec_VerbNames #[] h R :=
  callsH_of_vc ctxOk ⟨[], []⟩ Try.func15 [] h R (by kernel_rfl) (Eq.mpr (by kernel_rfl) hv)
/-- impl.shapes -/
def F_impl_shapes (R : Value → Heap → Prop) (h : Heap) : Prop :=
  vNewS h (.cells #[.int .i64 1, .int .i64 1] t_int64) 2 fun v3 h_2 =>
  vOne v3 <|
  vNewS h_2 (.cells #[.int .i64 1] t_int64) 1 fun v5 h_3 =>
  vOne v5 <|
  vNewS h_3 (.cells #[.int .i64 1] t_int64) 1 fun v7 h_4 =>
  vOne v7 <|
  vNewS h_4 (.cells #[.int .i64 2] t_int64) 1 fun v13 h_5 =>
  vOne v13 <|
  vNewS h_5 (.cells #[.int .i64 2] t_int64) 1 fun v15 h_6 =>
  vOne v15 <|
  vNewS h_6 (.cells #[.int .i64 2] t_int64) 1 fun v17 h_7 =>
  vOne v17 <|
  vNewS h_7 (.cells #[.int .i64 2] t_int64) 1 fun v19 h_8 =>
  vOne v19 <|
  vNewS h_8 (.cells #[.int .i64 2, .int .i64 2] t_int64) 2 fun v21 h_9 =>
  vOne v21 <|
  vNewS h_9 (.cells #[.int .i64 3] t_int64) 1 fun v25 h_10 =>
  vOne v25 <|
  vNewS h_10 (.cells #[.int .i64 5] t_int64) 1 fun v31 h_11 =>
  vOne v31 <|
  vNewS h_11 (.cells #[.string ⟨#[99, 121, 99, 108, 105, 99]⟩, .int .i64 1, (.slice none 0 0), .int .i64 1, .string ⟨#[102, 105, 101, 108, 100]⟩, .int .i64 2, (.slice none 0 0), .int .i64 1, .string ⟨#[112, 114, 111, 100, 117, 99, 116]⟩, .int .i64 0, v3, .int .i64 1, .string ⟨#[99, 111, 110, 106, 117, 103, 97, 116, 101]⟩, .int .i64 1, v5, .int .i64 1, .string ⟨#[109, 97, 116, 101]⟩, .int .i64 1, v7, .int .i64 1, .string ⟨#[97, 102, 102, 105, 110, 101]⟩, .int .i64 1, (.slice none 0 0), .int .i64 2, .string ⟨#[112, 114, 111, 106, 101, 99, 116, 105, 118, 101]⟩, .int .i64 1, (.slice none 0 0), .int .i64 2, .string ⟨#[99, 111, 110, 115, 116, 114, 117, 99, 116]⟩, .int .i64 3, (.slice none 0 0), .int .i64 2, .string ⟨#[112, 114, 101, 115, 99, 114, 105, 98, 101, 100]⟩, .int .i64 5, (.slice none 0 0), .int .i64 2, .string ⟨#[99, 111, 109, 112, 108, 101, 109, 101, 110, 116]⟩, .int .i64 0, v13, .int .i64 2, .string ⟨#[100, 117, 97, 108]⟩, .int .i64 0, v15, .int .i64 2, .string ⟨#[100, 101, 114, 105, 118, 101, 100]⟩, .int .i64 1, v17, .int .i64 2, .string ⟨#[114, 101, 115, 105, 100, 117, 97, 108]⟩, .int .i64 1, v19, .int .i64 2, .string ⟨#[115, 117, 109]⟩, .int .i64 0, v21, .int .i64 2, .string ⟨#[115, 121, 108, 118, 101, 115, 116, 101, 114]⟩, .int .i64 1, (.slice none 0 0), .int .i64 3, .string ⟨#[112, 97, 108, 101, 121]⟩, .int .i64 1, (.slice none 0 0), .int .i64 3, .string ⟨#[98, 108, 111, 99, 107, 115]⟩, .int .i64 0, v25, .int .i64 2, .string ⟨#[118, 97, 108, 117, 101, 115]⟩, .int .i64 3, (.slice none 0 0), .int .i64 4, .string ⟨#[99, 111, 118, 101, 114]⟩, .int .i64 2, (.slice none 0 0), .int .i64 4, .string ⟨#[104, 97, 109, 109, 105, 110, 103]⟩, .int .i64 2, (.slice none 0 0), .int .i64 5, .string ⟨#[115, 111, 108, 111, 109, 111, 110]⟩, .int .i64 3, (.slice none 0 0), .int .i64 5, .string ⟨#[111, 114, 116, 104, 111, 103, 111, 110, 97, 108]⟩, .int .i64 0, v31, .int .i64 5, .string ⟨#[102, 114, 111, 98, 101, 110, 105, 117, 115]⟩, .int .i64 2, (.slice none 0 0), .int .i64 7] t_impl_shape) 23 fun v34 h_12 =>
  R v34 h_12
theorem w_impl_shapes {R : Value → Heap → Prop} {h : Heap} (hv : F_impl_shapes R h) : CallsH P id_impl_shapes #[] h R :=
  callsH_of_vc ctxOk ⟨[], []⟩ Try.func42 [] h R (by kernel_rfl) (Eq.mpr (by kernel_rfl) hv)
/-- impl.VerbNames -/
def F_impl_VerbNames (R : Value → Heap → Prop) (h : Heap) : Prop :=
  CallsH P id_impl_shapes #[] h fun r4 h_2 => ∃ (v4 : Value), r4 = v4 ∧
  vLen v4 fun n5 =>
  ∃ J : Nat → Value → Int → Heap → Prop, (∃ n_2, J n_2 (.slice none 0 0) 0 h_2) ∧ ∀ (n : Nat) (_ : Env) (v1 : Value) (x6 : Int) (h_3 : Heap), J n v1 x6 h_3 →
  bif decide ((x6 : Int) < (n5 : Int)) then
    vIdx v4 x6 4 fun p8 =>
    ldS h_3 p8 fun s9_0 =>
    ldI .i64 h_3 (p8.add 1) fun x9_1 =>
    ldV h_3 (p8.add 2) fun v9_2 =>
    ldI .i64 h_3 (p8.add 3) fun x9_3 =>
    vNew h_3 (.cells #[.string ⟨#[]⟩, .int .i64 0, .slice none 0 0, .int .i64 0] t_impl_shape) fun p3 h_4 =>
    vStore1 h_4 p3 (.string s9_0) fun h_5 =>
    vStore1 h_5 (p3.add 1) (.int .i64 x9_1) fun h_6 =>
    vStore1 h_6 (p3.add 2) v9_2 fun h_7 =>
    vStore1 h_7 (p3.add 3) (.int .i64 x9_3) fun h_8 =>
    ldS h_8 p3 fun s12 =>
    vNewS h_8 (.cells #[.string s12] t_string) 1 fun v13 h_9 =>
    vAppend 1 16 [.string ⟨#[]⟩] t_string v1 v13 h_9 fun v14 h_10 =>
    ∃ m, m < n ∧ J m v14 (IntKind.i64.wrap (x6 + 1)) h_10
  else
    R v1 h_3
theorem w_impl_VerbNames {R : Value → Heap → Prop} {h : Heap} (hv : F_impl_VerbNames R h) : CallsH P id_impl_VerbNames #[] h R :=
  callsH_of_vc ctxOk ⟨[(3, [(1, .v), (6, .i .i64)])], []⟩ Try.func16 [] h R (by kernel_rfl) (Eq.mpr (by kernel_rfl) hv)
/-- laws.FnExactVerbNames -/
def F_laws_FnExactVerbNames (R : Value → Heap → Prop) (h : Heap) : Prop :=
  CallsH P id_spec_VerbNames #[] h fun r6 h_2 => ∃ (v6 : Value), r6 = v6 ∧
  CallsH P id_impl_VerbNames #[] h_2 fun r7 h_3 => ∃ (v7 : Value), r7 = v7 ∧
  CallsH P id_laws_eqStringS #[v7, v6] h_3 fun r10 h_4 => ∃ (b10 : Bool), r10 = .bool b10 ∧
  bif !b10 then
    R (.bool false) h_4
  else
    CallsH P id_laws_markStringS #[v7, .int .i64 1] h_4 fun r14 h_5 => ∃ (x14 : Int), r14 = .int .i64 x14 ∧
    CallsH P id_laws_heldStringS #[v7, .int .i64 1] h_5 fun r17 h_6 => ∃ (x17 : Int), r17 = .int .i64 x17 ∧
    bif decide ((x17 : Int) < 0) then
      R (.bool false) h_6
    else
      bif (x17 : Int) != x14 then
        R (.bool false) h_6
      else
        CallsH P id_impl_VerbNames #[] h_6 fun r23 h_7 => ∃ (v23 : Value), r23 = v23 ∧
        CallsH P id_laws_eqStringS #[v23, v6] h_7 fun r26 h_8 => ∃ (b26 : Bool), r26 = .bool b26 ∧
        bif !b26 then
          R (.bool false) h_8
        else
          CallsH P id_laws_heldStringS #[v7, .int .i64 1] h_8 fun r30 h_9 => ∃ (x30 : Int), r30 = .int .i64 x30 ∧
          bif decide ((x30 : Int) < 0) then
            R (.bool false) h_9
          else
            bif (x30 : Int) != x14 then
              R (.bool false) h_9
            else
              R (.bool true) h_9
theorem w_laws_FnExactVerbNames {R : Value → Heap → Prop} {h : Heap} (hv : F_laws_FnExactVerbNames R h) : CallsH P id_laws_FnExactVerbNames #[] h R :=
  callsH_of_vc ctxOk ⟨[], []⟩ Try.func4 [] h R (by kernel_rfl) (Eq.mpr (by kernel_rfl) hv)
/-- spec.l32Verb -/
def F_spec_l32Verb (R : Value → Heap → Prop) (s0 : ByteArray) (h : Heap) : Prop :=
  CallsH P id_spec_l32Verbs #[] h fun r5 h_2 => ∃ (v5 : Value), r5 = v5 ∧
  ∃ J : Nat → Int → Heap → Prop, (∃ n_2, J n_2 0 h_2) ∧ ∀ (n : Nat) (_ : Env) (x4 : Int) (h_3 : Heap), J n x4 h_3 →
  vLen v5 fun n8 =>
  bif decide ((x4 : Int) < (n8 : Int)) then
    vIdx v5 x4 1 fun p14 =>
    ldS h_3 p14 fun s15 =>
    bif s15.toList == s0.toList then
      R (.int .i64 x4) h_3
    else
      ∃ m, m < n ∧ J m (IntKind.i64.wrap (x4 + 1)) h_3
  else
    R (.int .i64 (-1)) h_3
theorem w_spec_l32Verb {R : Value → Heap → Prop} {s0 : ByteArray} {h : Heap} (hv : F_spec_l32Verb R s0 h) : CallsH P id_spec_l32Verb #[.string s0] h R :=
  callsH_of_vc ctxOk ⟨[(3, [(4, .i .i64)])], []⟩ Try.func43 [.string s0] h R (by kernel_rfl) (Eq.mpr (by kernel_rfl) hv)
/-- spec.l32Shape -/
def F_spec_l32Shape (R : Value → Heap → Prop) (x0 : Int) (h : Heap) : Prop :=
  vNewS h (.cells #[.int .i64 1, .int .i64 2, .int .i64 0, .int .i64 1, .int .i64 1, .int .i64 1, .int .i64 1, .int .i64 3, .int .i64 5, .int .i64 0, .int .i64 0, .int .i64 1, .int .i64 1, .int .i64 0, .int .i64 1, .int .i64 1, .int .i64 0, .int .i64 3, .int .i64 2, .int .i64 2, .int .i64 3, .int .i64 0, .int .i64 2] t_int64) 23 fun v9 h_2 =>
  vNewS h_2 (.cells #[.int .i64 0, .int .i64 0, .int .i64 11, .int .i64 1, .int .i64 1, .int .i64 0, .int .i64 0, .int .i64 0, .int .i64 0, .int .i64 2, .int .i64 2, .int .i64 2, .int .i64 2, .int .i64 22, .int .i64 0, .int .i64 0, .int .i64 3, .int .i64 0, .int .i64 0, .int .i64 0, .int .i64 0, .int .i64 5, .int .i64 0] t_int64) 23 fun v10 h_3 =>
  vNewS h_3 (.cells #[.int .i64 1, .int .i64 1, .int .i64 1, .int .i64 1, .int .i64 1, .int .i64 2, .int .i64 2, .int .i64 2, .int .i64 2, .int .i64 2, .int .i64 2, .int .i64 2, .int .i64 2, .int .i64 2, .int .i64 3, .int .i64 3, .int .i64 2, .int .i64 4, .int .i64 4, .int .i64 5, .int .i64 5, .int .i64 5, .int .i64 7] t_int64) 23 fun v11 h_4 =>
  vNewS h_4 (.cells #[] t_int64) 0 fun v12 h_5 =>
  ∃ J : Value → Heap → Prop, (
    vIdx v10 x0 1 fun p15 =>
    ldI .i64 h_5 p15 fun x16 =>
    bif decide ((x16 : Int) > 9) then
      vIdx v10 x0 1 fun p21 =>
      ldI .i64 h_5 p21 fun x22 =>
      (10 : Int) ≠ 0 ∧
      vNewS h_5 (.cells #[.int .i64 (IntKind.i64.wrap (Int.tdiv x22 10))] t_int64) 1 fun v24 h_6 =>
      vAppend 1 8 [.int .i64 0] t_int64 v12 v24 h_6 fun v25 h_7 =>
      J v25 h_7
    else
      J v12 h_5
  ) ∧ ∀ (_ : Env) (v8 : Value) (h_8 : Heap), J v8 h_8 →
  ∃ J_2 : Value → Heap → Prop, (
    vIdx v10 x0 1 fun p28 =>
    ldI .i64 h_8 p28 fun x29 =>
    bif decide ((x29 : Int) > 0) then
      vIdx v10 x0 1 fun p34 =>
      ldI .i64 h_8 p34 fun x35 =>
      (10 : Int) ≠ 0 ∧
      vNewS h_8 (.cells #[.int .i64 (Int.tmod x35 10)] t_int64) 1 fun v37 h_9 =>
      vAppend 1 8 [.int .i64 0] t_int64 v8 v37 h_9 fun v38 h_10 =>
      J_2 v38 h_10
    else
      J_2 v8 h_8
  ) ∧ ∀ (_ : Env) (v8_2 : Value) (h_11 : Heap), J_2 v8_2 h_11 →
  vIdx v9 x0 1 fun p41 =>
  ldI .i64 h_11 p41 fun x42 =>
  vIdx v11 x0 1 fun p46 =>
  ldI .i64 h_11 p46 fun x47 =>
  R (.tuple #[.int .i64 x42, v8_2, .int .i64 x47]) h_11
theorem w_spec_l32Shape {R : Value → Heap → Prop} {x0 : Int} {h : Heap} (hv : F_spec_l32Shape R x0 h) : CallsH P id_spec_l32Shape #[.int .i64 x0] h R :=
  callsH_of_vc ctxOk ⟨[], [(7, [(8, .v)]), (9, [(8, .v)])]⟩ Try.func44 [.int .i64 x0] h R (by kernel_rfl) (Eq.mpr (by kernel_rfl) hv)
/-- spec.VerbShape -/
def F_spec_VerbShape (R : Value → Heap → Prop) (s0 : ByteArray) (h : Heap) : Prop :=
  CallsH P id_spec_l32Verb #[.string s0] h fun r11 h_2 => ∃ (x11 : Int), r11 = .int .i64 x11 ∧
  bif decide ((x11 : Int) < 0) then
    R (.tuple #[.int .i64 0, (.slice none 0 0), .int .i64 0, .bool false]) h_2
  else
    CallsH P id_spec_l32Shape #[.int .i64 x11] h_2 fun r16 h_3 => ∃ (x16_0 : Int), ∃ (v16_1 : Value), ∃ (x16_2 : Int), r16 = .tuple #[.int .i64 x16_0, v16_1, .int .i64 x16_2] ∧
    R (.tuple #[.int .i64 x16_0, v16_1, .int .i64 x16_2, .bool true]) h_3
theorem w_spec_VerbShape {R : Value → Heap → Prop} {s0 : ByteArray} {h : Heap} (hv : F_spec_VerbShape R s0 h) : CallsH P id_spec_VerbShape #[.string s0] h R :=
  callsH_of_vc ctxOk ⟨[], []⟩ Try.func17 [.string s0] h R (by kernel_rfl) (Eq.mpr (by kernel_rfl) hv)
/-- slices.IndexFunc[[]impl.shape,impl.shape] -/
def F_slices_IndexFunc_impl_shape_impl_shape (R : Value → Heap → Prop) (v0 : Value) (g1 : Nat) (cap1 : List Value) (h : Heap) : Prop :=
  vLen v0 fun n7 =>
  ∃ J : Nat → Int → Heap → Prop, (∃ n_2, J n_2 0 h) ∧ ∀ (n : Nat) (_ : Env) (x8 : Int) (h_2 : Heap), J n x8 h_2 →
  bif decide ((x8 : Int) < (n7 : Int)) then
    vIdx v0 x8 4 fun p14 =>
    ldS h_2 p14 fun s15_0 =>
    ldI .i64 h_2 (p14.add 1) fun x15_1 =>
    ldV h_2 (p14.add 2) fun v15_2 =>
    ldI .i64 h_2 (p14.add 3) fun x15_3 =>
    vOkf ctx g1 <|
    CallsH P g1 (([.agg #[.string s15_0, .int .i64 x15_1, v15_2, .int .i64 x15_3]] : List Value) ++ cap1).toArray h_2 fun r16 h_3 => ∃ (b16 : Bool), r16 = .bool b16 ∧
    bif b16 then
      R (.int .i64 x8) h_3
    else
      ∃ m, m < n ∧ J m (IntKind.i64.wrap (x8 + 1)) h_3
  else
    R (.int .i64 (-1)) h_2
theorem w_slices_IndexFunc_impl_shape_impl_shape {R : Value → Heap → Prop} {v0 : Value} {g1 : Nat} {cap1 : List Value} {h : Heap} (hv : F_slices_IndexFunc_impl_shape_impl_shape R v0 g1 cap1 h) : CallsH P id_slices_IndexFunc_impl_shape_impl_shape #[v0, .func (.func g1) #[] cap1.toArray] h R :=
  callsH_of_vc ctxOk ⟨[(2, [(8, .i .i64)])], []⟩ Try.func78 [v0, .func (.func g1) #[] cap1.toArray] h R (by kernel_rfl) (Eq.mpr (by kernel_rfl) hv)
/-- impl.shapeOf$1 -/
def F_impl_shapeOf_1 (R : Value → Heap → Prop) (s0_0 : ByteArray) (x0_1 : Int) (v0_2 : Value) (x0_3 : Int) (p1 : Addr) (h : Heap) : Prop :=
  vNew h (.cells #[.string s0_0, .int .i64 x0_1, v0_2, .int .i64 x0_3] t_impl_shape) fun p2 h_2 =>
  ldS h_2 p2 fun s5 =>
  ldS h_2 p1 fun s6 =>
  R (.bool (s5.toList == s6.toList)) h_2
theorem w_impl_shapeOf_1 {R : Value → Heap → Prop} {s0_0 : ByteArray} {x0_1 : Int} {v0_2 : Value} {x0_3 : Int} {p1 : Addr} {h : Heap} (hv : F_impl_shapeOf_1 R s0_0 x0_1 v0_2 x0_3 p1 h) : CallsH P id_impl_shapeOf_1 #[.agg #[.string s0_0, .int .i64 x0_1, v0_2, .int .i64 x0_3], .pointer (some p1)] h R :=
  callsH_of_vc ctxOk ⟨[], []⟩ Try.func79 [.agg #[.string s0_0, .int .i64 x0_1, v0_2, .int .i64 x0_3], .pointer (some p1)] h R (by kernel_rfl) (Eq.mpr (by kernel_rfl) hv)
/-- impl.shapeOf -/
def F_impl_shapeOf (R : Value → Heap → Prop) (s0 : ByteArray) (h : Heap) : Prop :=
  vNew h (.cells #[.string s0] t_string) fun p1 h_2 =>
  CallsH P id_impl_shapes #[] h_2 fun r3 h_3 => ∃ (v3 : Value), r3 = v3 ∧
  CallsH P id_slices_IndexFunc_impl_shape_impl_shape #[v3, .func (.func id_impl_shapeOf_1) #[] #[.pointer (some p1)]] h_3 fun r5 h_4 => ∃ (x5 : Int), r5 = .int .i64 x5 ∧
  R (.int .i64 x5) h_4
theorem w_impl_shapeOf {R : Value → Heap → Prop} {s0 : ByteArray} {h : Heap} (hv : F_impl_shapeOf R s0 h) : CallsH P id_impl_shapeOf #[.string s0] h R :=
  callsH_of_vc ctxOk ⟨[], []⟩ Try.func45 [.string s0] h R (by kernel_rfl) (Eq.mpr (by kernel_rfl) hv)
/-- impl.VerbShape -/
def F_impl_VerbShape (R : Value → Heap → Prop) (s0 : ByteArray) (h : Heap) : Prop :=
  CallsH P id_impl_shapeOf #[.string s0] h fun r9 h_2 => ∃ (x9 : Int), r9 = .int .i64 x9 ∧
  bif decide ((x9 : Int) < 0) then
    R (.tuple #[.int .i64 0, (.slice none 0 0), .int .i64 0, .bool false]) h_2
  else
    CallsH P id_impl_shapes #[] h_2 fun r12 h_3 => ∃ (v12 : Value), r12 = v12 ∧
    vIdx v12 x9 4 fun p14 =>
    ldS h_3 p14 fun s15_0 =>
    ldI .i64 h_3 (p14.add 1) fun x15_1 =>
    ldV h_3 (p14.add 2) fun v15_2 =>
    ldI .i64 h_3 (p14.add 3) fun x15_3 =>
    vNew h_3 (.cells #[.string ⟨#[]⟩, .int .i64 0, .slice none 0 0, .int .i64 0] t_impl_shape) fun p7 h_4 =>
    vStore1 h_4 p7 (.string s15_0) fun h_5 =>
    vStore1 h_5 (p7.add 1) (.int .i64 x15_1) fun h_6 =>
    vStore1 h_6 (p7.add 2) v15_2 fun h_7 =>
    vStore1 h_7 (p7.add 3) (.int .i64 x15_3) fun h_8 =>
    ldI .i64 h_8 (p7.add 1) fun x17 =>
    ldV h_8 (p7.add 2) fun v19 =>
    ldI .i64 h_8 (p7.add 3) fun x21 =>
    R (.tuple #[.int .i64 x17, v19, .int .i64 x21, .bool true]) h_8
theorem w_impl_VerbShape {R : Value → Heap → Prop} {s0 : ByteArray} {h : Heap} (hv : F_impl_VerbShape R s0 h) : CallsH P id_impl_VerbShape #[.string s0] h R :=
  callsH_of_vc ctxOk ⟨[], []⟩ Try.func18 [.string s0] h R (by kernel_rfl) (Eq.mpr (by kernel_rfl) hv)
/-- laws.eqInt64S -/
def F_laws_eqInt64S (R : Value → Heap → Prop) (v0 : Value) (v1 : Value) (h : Heap) : Prop :=
  vLen v0 fun n7 =>
  vLen v1 fun n9 =>
  bif ((n7 : Int) : Int) != (n9 : Int) then
    R (.bool false) h
  else
    ∃ J : Nat → Int → Heap → Prop, (∃ n_2, J n_2 0 h) ∧ ∀ (n : Nat) (_ : Env) (x5 : Int) (h_2 : Heap), J n x5 h_2 →
    vLen v0 fun n13 =>
    bif decide ((x5 : Int) < (n13 : Int)) then
      vIdx v0 x5 1 fun p19 =>
      ldI .i64 h_2 p19 fun x20 =>
      vIdx v1 x5 1 fun p23 =>
      ldI .i64 h_2 p23 fun x24 =>
      bif (x20 : Int) != x24 then
        R (.bool false) h_2
      else
        ∃ m, m < n ∧ J m (IntKind.i64.wrap (x5 + 1)) h_2
    else
      R (.bool true) h_2
theorem w_laws_eqInt64S {R : Value → Heap → Prop} {v0 : Value} {v1 : Value} {h : Heap} (hv : F_laws_eqInt64S R v0 v1 h) : CallsH P id_laws_eqInt64S #[v0, v1] h R :=
  callsH_of_vc ctxOk ⟨[(4, [(5, .i .i64)])], []⟩ Try.func19 [v0, v1] h R (by kernel_rfl) (Eq.mpr (by kernel_rfl) hv)
/-- laws.markInt64S -/
def F_laws_markInt64S (R : Value → Heap → Prop) (v0 : Value) (x1 : Int) (h : Heap) : Prop :=
  ∃ J : Nat → Int → Int → Heap → Prop, (∃ n_2, J n_2 x1 0 h) ∧ ∀ (n : Nat) (_ : Env) (x1_2 : Int) (x5 : Int) (h_2 : Heap), J n x1_2 x5 h_2 →
  vLen v0 fun n8 =>
  bif decide ((x5 : Int) < (n8 : Int)) then
    vIdx v0 x5 1 fun p15 =>
    vStore1 h_2 p15 (.int .i64 x1_2) fun h_3 =>
    ∃ m, m < n ∧ J m (IntKind.i64.wrap (x1_2 + 1)) (IntKind.i64.wrap (x5 + 1)) h_3
  else
    R (.int .i64 x1_2) h_2
theorem w_laws_markInt64S {R : Value → Heap → Prop} {v0 : Value} {x1 : Int} {h : Heap} (hv : F_laws_markInt64S R v0 x1 h) : CallsH P id_laws_markInt64S #[v0, .int .i64 x1] h R :=
  callsH_of_vc ctxOk ⟨[(2, [(1, .i .i64), (5, .i .i64)])], []⟩ Try.func20 [v0, .int .i64 x1] h R (by kernel_rfl) (Eq.mpr (by kernel_rfl) hv)
/-- laws.heldInt64S -/
def F_laws_heldInt64S (R : Value → Heap → Prop) (v0 : Value) (x1 : Int) (h : Heap) : Prop :=
  ∃ J : Nat → Int → Int → Heap → Prop, (∃ n_2, J n_2 x1 0 h) ∧ ∀ (n : Nat) (_ : Env) (x1_2 : Int) (x5 : Int) (h_2 : Heap), J n x1_2 x5 h_2 →
  vLen v0 fun n8 =>
  bif decide ((x5 : Int) < (n8 : Int)) then
    vIdx v0 x5 1 fun p14 =>
    ldI .i64 h_2 p14 fun x15 =>
    bif (x15 : Int) != x1_2 then
      R (.int .i64 (-1)) h_2
    else
      ∃ m, m < n ∧ J m (IntKind.i64.wrap (x1_2 + 1)) (IntKind.i64.wrap (x5 + 1)) h_2
  else
    R (.int .i64 x1_2) h_2
theorem w_laws_heldInt64S {R : Value → Heap → Prop} {v0 : Value} {x1 : Int} {h : Heap} (hv : F_laws_heldInt64S R v0 x1 h) : CallsH P id_laws_heldInt64S #[v0, .int .i64 x1] h R :=
  callsH_of_vc ctxOk ⟨[(2, [(1, .i .i64), (5, .i .i64)])], []⟩ Try.func21 [v0, .int .i64 x1] h R (by kernel_rfl) (Eq.mpr (by kernel_rfl) hv)
/-- laws.FnExactVerbShape -/
def F_laws_FnExactVerbShape (R : Value → Heap → Prop) (s0 : ByteArray) (h : Heap) : Prop :=
  bif decide (((s0.size : Int) : Int) > 1048576) then
    R (.bool true) h
  else
    CallsH P id_spec_VerbShape #[.string s0] h fun r22 h_2 => ∃ (x22_0 : Int), ∃ (v22_1 : Value), ∃ (x22_2 : Int), ∃ (b22_3 : Bool), r22 = .tuple #[.int .i64 x22_0, v22_1, .int .i64 x22_2, .bool b22_3] ∧
    CallsH P id_impl_VerbShape #[.string s0] h_2 fun r29 h_3 => ∃ (x29_0 : Int), ∃ (v29_1 : Value), ∃ (x29_2 : Int), ∃ (b29_3 : Bool), r29 = .tuple #[.int .i64 x29_0, v29_1, .int .i64 x29_2, .bool b29_3] ∧
    ∃ J : Heap → Prop, (
      bif (x29_0 : Int) != x22_0 then
        R (.bool false) h_3
      else
        CallsH P id_laws_eqInt64S #[v29_1, v22_1] h_3 fun r40 h_4 => ∃ (b40 : Bool), r40 = .bool b40 ∧
        bif !b40 then
          R (.bool false) h_4
        else
          bif (x29_2 : Int) != x22_2 then
            R (.bool false) h_4
          else
            bif !(b29_3 == b22_3) then
              R (.bool false) h_4
            else
              J h_4
    ) ∧ ∀ (_ : Env) (h_5 : Heap), J h_5 →
    CallsH P id_laws_markInt64S #[v29_1, .int .i64 1] h_5 fun r55 h_6 => ∃ (x55 : Int), r55 = .int .i64 x55 ∧
    CallsH P id_laws_heldInt64S #[v29_1, .int .i64 1] h_6 fun r58 h_7 => ∃ (x58 : Int), r58 = .int .i64 x58 ∧
    bif decide ((x58 : Int) < 0) then
      R (.bool false) h_7
    else
      bif (x58 : Int) != x55 then
        R (.bool false) h_7
      else
        CallsH P id_impl_VerbShape #[.string s0] h_7 fun r66 h_8 => ∃ (x66_0 : Int), ∃ (v66_1 : Value), ∃ (x66_2 : Int), ∃ (b66_3 : Bool), r66 = .tuple #[.int .i64 x66_0, v66_1, .int .i64 x66_2, .bool b66_3] ∧
        ∃ J_2 : Heap → Prop, (
          bif (x66_0 : Int) != x22_0 then
            R (.bool false) h_8
          else
            CallsH P id_laws_eqInt64S #[v66_1, v22_1] h_8 fun r77 h_9 => ∃ (b77 : Bool), r77 = .bool b77 ∧
            bif !b77 then
              R (.bool false) h_9
            else
              bif (x66_2 : Int) != x22_2 then
                R (.bool false) h_9
              else
                bif !(b66_3 == b22_3) then
                  R (.bool false) h_9
                else
                  J_2 h_9
        ) ∧ ∀ (_ : Env) (h_10 : Heap), J_2 h_10 →
        CallsH P id_laws_heldInt64S #[v29_1, .int .i64 1] h_10 fun r92 h_11 => ∃ (x92 : Int), r92 = .int .i64 x92 ∧
        bif decide ((x92 : Int) < 0) then
          R (.bool false) h_11
        else
          bif (x92 : Int) != x55 then
            R (.bool false) h_11
          else
            R (.bool true) h_11
theorem w_laws_FnExactVerbShape {R : Value → Heap → Prop} {s0 : ByteArray} {h : Heap} (hv : F_laws_FnExactVerbShape R s0 h) : CallsH P id_laws_FnExactVerbShape #[.string s0] h R :=
  callsH_of_vc ctxOk ⟨[], [(7, []), (18, [])]⟩ Try.func5 [.string s0] h R (by kernel_rfl) (Eq.mpr (by kernel_rfl) hv)
/-- laws.szInt64S -/
def F_laws_szInt64S (R : Value → Heap → Prop) (v0 : Value) (x1 : Int) (h : Heap) : Prop :=
  vLen v0 fun n7 =>
  bif decide ((IntKind.i64.wrap (x1 - (n7 : Int)) : Int) < 0) then
    R (.int .i64 (-1)) h
  else
    R (.int .i64 (IntKind.i64.wrap (x1 - (n7 : Int)))) h
theorem w_laws_szInt64S {R : Value → Heap → Prop} {v0 : Value} {x1 : Int} {h : Heap} (hv : F_laws_szInt64S R v0 x1 h) : CallsH P id_laws_szInt64S #[v0, .int .i64 x1] h R :=
  callsH_of_vc ctxOk ⟨[], []⟩ Try.func53 [v0, .int .i64 x1] h R (by kernel_rfl) (Eq.mpr (by kernel_rfl) hv)
/-- laws.szInt64SS -/
def F_laws_szInt64SS (R : Value → Heap → Prop) (v0 : Value) (x1 : Int) (h : Heap) : Prop :=
  vLen v0 fun n8 =>
  bif decide ((IntKind.i64.wrap (x1 - (n8 : Int)) : Int) < 0) then
    R (.int .i64 (-1)) h
  else
    ∃ J : Nat → Int → Int → Heap → Prop, (∃ n_2, J n_2 (IntKind.i64.wrap (x1 - (n8 : Int))) 0 h) ∧ ∀ (n : Nat) (_ : Env) (x1_2 : Int) (x5 : Int) (h_2 : Heap), J n x1_2 x5 h_2 →
    vLen v0 fun n14 =>
    bif decide ((x5 : Int) < (n14 : Int)) then
      vIdx v0 x5 1 fun p20 =>
      ldV h_2 p20 fun v21 =>
      CallsH P id_laws_szInt64S #[v21, .int .i64 x1_2] h_2 fun r23 h_3 => ∃ (x23 : Int), r23 = .int .i64 x23 ∧
      bif decide ((x23 : Int) < 0) then
        R (.int .i64 (-1)) h_3
      else
        ∃ m, m < n ∧ J m x23 (IntKind.i64.wrap (x5 + 1)) h_3
    else
      R (.int .i64 x1_2) h_2
theorem w_laws_szInt64SS {R : Value → Heap → Prop} {v0 : Value} {x1 : Int} {h : Heap} (hv : F_laws_szInt64SS R v0 x1 h) : CallsH P id_laws_szInt64SS #[v0, .int .i64 x1] h R :=
  callsH_of_vc ctxOk ⟨[(5, [(1, .i .i64), (5, .i .i64)])], []⟩ Try.func27 [v0, .int .i64 x1] h R (by kernel_rfl) (Eq.mpr (by kernel_rfl) hv)
/-- laws.szObject -/
def F_laws_szObject (R : Value → Heap → Prop) (x0_0 : Int) (x0_1 : Int) (v0_2 : Value) (x1 : Int) (h : Heap) : Prop :=
  vNew h (.cells #[.int .i64 x0_0, .int .i64 x0_1, v0_2] t_laws_Object) fun p2 h_2 =>
  ldV h_2 (p2.add 2) fun v6 =>
  CallsH P id_laws_szInt64SS #[v6, .int .i64 x1] h_2 fun r8 h_3 => ∃ (x8 : Int), r8 = .int .i64 x8 ∧
  bif decide ((x8 : Int) < 0) then
    R (.int .i64 (-1)) h_3
  else
    R (.int .i64 x8) h_3
theorem w_laws_szObject {R : Value → Heap → Prop} {x0_0 : Int} {x0_1 : Int} {v0_2 : Value} {x1 : Int} {h : Heap} (hv : F_laws_szObject R x0_0 x0_1 v0_2 x1 h) : CallsH P id_laws_szObject #[.agg #[.int .i64 x0_0, .int .i64 x0_1, v0_2], .int .i64 x1] h R :=
  callsH_of_vc ctxOk ⟨[], []⟩ Try.func92 [.agg #[.int .i64 x0_0, .int .i64 x0_1, v0_2], .int .i64 x1] h R (by kernel_rfl) (Eq.mpr (by kernel_rfl) hv)
/-- laws.szItem -/
def F_laws_szItem (R : Value → Heap → Prop) (s0_0 : ByteArray) (x0_1 : Int) (x0_2 : Int) (v0_3 : Value) (s0_4 : ByteArray) (x1 : Int) (h : Heap) : Prop :=
  vNew h (.cells #[.string s0_0, .int .i64 x0_1, .int .i64 x0_2, v0_3, .string s0_4] t_laws_Item) fun p2 h_2 =>
  ldS h_2 p2 fun s7 =>
  bif decide ((IntKind.i64.wrap (x1 - (s7.size : Int)) : Int) < 0) then
    R (.int .i64 (-1)) h_2
  else
    ldI .i64 h_2 (p2.add 1) fun x13_0 =>
    ldI .i64 h_2 ((p2.add 1).add 1) fun x13_1 =>
    ldV h_2 ((p2.add 1).add 2) fun v13_2 =>
    CallsH P id_laws_szObject #[.agg #[.int .i64 x13_0, .int .i64 x13_1, v13_2], .int .i64 (IntKind.i64.wrap (x1 - (s7.size : Int)))] h_2 fun r15 h_3 => ∃ (x15 : Int), r15 = .int .i64 x15 ∧
    bif decide ((x15 : Int) < 0) then
      R (.int .i64 (-1)) h_3
    else
      ldS h_3 (p2.add 4) fun s20 =>
      bif decide ((IntKind.i64.wrap (x15 - (s20.size : Int)) : Int) < 0) then
        R (.int .i64 (-1)) h_3
      else
        R (.int .i64 (IntKind.i64.wrap (x15 - (s20.size : Int)))) h_3
theorem w_laws_szItem {R : Value → Heap → Prop} {s0_0 : ByteArray} {x0_1 : Int} {x0_2 : Int} {v0_3 : Value} {s0_4 : ByteArray} {x1 : Int} {h : Heap} (hv : F_laws_szItem R s0_0 x0_1 x0_2 v0_3 s0_4 x1 h) : CallsH P id_laws_szItem #[.agg #[.string s0_0, .int .i64 x0_1, .int .i64 x0_2, v0_3, .string s0_4], .int .i64 x1] h R :=
  callsH_of_vc ctxOk ⟨[], []⟩ Try.func80 [.agg #[.string s0_0, .int .i64 x0_1, .int .i64 x0_2, v0_3, .string s0_4], .int .i64 x1] h R (by kernel_rfl) (Eq.mpr (by kernel_rfl) hv)
/-- laws.szItemS -/
def F_laws_szItemS (R : Value → Heap → Prop) (v0 : Value) (x1 : Int) (h : Heap) : Prop :=
  vLen v0 fun n8 =>
  bif decide ((IntKind.i64.wrap (x1 - (n8 : Int)) : Int) < 0) then
    R (.int .i64 (-1)) h
  else
    ∃ J : Nat → Int → Int → Heap → Prop, (∃ n_2, J n_2 (IntKind.i64.wrap (x1 - (n8 : Int))) 0 h) ∧ ∀ (n : Nat) (_ : Env) (x1_2 : Int) (x5 : Int) (h_2 : Heap), J n x1_2 x5 h_2 →
    vLen v0 fun n14 =>
    bif decide ((x5 : Int) < (n14 : Int)) then
      vIdx v0 x5 5 fun p20 =>
      ldS h_2 p20 fun s21_0 =>
      ldI .i64 h_2 (p20.add 1) fun x21_1 =>
      ldI .i64 h_2 (p20.add 2) fun x21_2 =>
      ldV h_2 (p20.add 3) fun v21_3 =>
      ldS h_2 (p20.add 4) fun s21_4 =>
      CallsH P id_laws_szItem #[.agg #[.string s21_0, .int .i64 x21_1, .int .i64 x21_2, v21_3, .string s21_4], .int .i64 x1_2] h_2 fun r23 h_3 => ∃ (x23 : Int), r23 = .int .i64 x23 ∧
      bif decide ((x23 : Int) < 0) then
        R (.int .i64 (-1)) h_3
      else
        ∃ m, m < n ∧ J m x23 (IntKind.i64.wrap (x5 + 1)) h_3
    else
      R (.int .i64 x1_2) h_2
theorem w_laws_szItemS {R : Value → Heap → Prop} {v0 : Value} {x1 : Int} {h : Heap} (hv : F_laws_szItemS R v0 x1 h) : CallsH P id_laws_szItemS #[v0, .int .i64 x1] h R :=
  callsH_of_vc ctxOk ⟨[(5, [(1, .i .i64), (5, .i .i64)])], []⟩ Try.func46 [v0, .int .i64 x1] h R (by kernel_rfl) (Eq.mpr (by kernel_rfl) hv)
/-- laws.szCatalog -/
def F_laws_szCatalog (R : Value → Heap → Prop) (v0_0 : Value) (x1 : Int) (h : Heap) : Prop :=
  vNew h (.cells #[v0_0] t_laws_Catalog) fun p2 h_2 =>
  ldV h_2 p2 fun v6 =>
  CallsH P id_laws_szItemS #[v6, .int .i64 x1] h_2 fun r8 h_3 => ∃ (x8 : Int), r8 = .int .i64 x8 ∧
  bif decide ((x8 : Int) < 0) then
    R (.int .i64 (-1)) h_3
  else
    R (.int .i64 x8) h_3
theorem w_laws_szCatalog {R : Value → Heap → Prop} {v0_0 : Value} {x1 : Int} {h : Heap} (hv : F_laws_szCatalog R v0_0 x1 h) : CallsH P id_laws_szCatalog #[.agg #[v0_0], .int .i64 x1] h R :=
  callsH_of_vc ctxOk ⟨[], []⟩ Try.func22 [.agg #[v0_0], .int .i64 x1] h R (by kernel_rfl) (Eq.mpr (by kernel_rfl) hv)
/-- spec.l00Same -/
def F_spec_l00Same (R : Value → Heap → Prop) (v0 : Value) (v1 : Value) (h : Heap) : Prop :=
  vLen v0 fun n7 =>
  vLen v1 fun n9 =>
  bif ((n7 : Int) : Int) != (n9 : Int) then
    R (.bool false) h
  else
    ∃ J : Nat → Int → Heap → Prop, (∃ n_2, J n_2 0 h) ∧ ∀ (n : Nat) (_ : Env) (x5 : Int) (h_2 : Heap), J n x5 h_2 →
    vLen v0 fun n13 =>
    bif decide ((x5 : Int) < (n13 : Int)) then
      vIdx v0 x5 1 fun p19 =>
      ldI .i64 h_2 p19 fun x20 =>
      vIdx v1 x5 1 fun p23 =>
      ldI .i64 h_2 p23 fun x24 =>
      bif (x20 : Int) != x24 then
        R (.bool false) h_2
      else
        ∃ m, m < n ∧ J m (IntKind.i64.wrap (x5 + 1)) h_2
    else
      R (.bool true) h_2
theorem w_spec_l00Same {R : Value → Heap → Prop} {v0 : Value} {v1 : Value} {h : Heap} (hv : F_spec_l00Same R v0 v1 h) : CallsH P id_spec_l00Same #[v0, v1] h R :=
  callsH_of_vc ctxOk ⟨[(4, [(5, .i .i64)])], []⟩ Try.func68 [v0, v1] h R (by kernel_rfl) (Eq.mpr (by kernel_rfl) hv)
/-- spec.l10Same -/
def F_spec_l10Same (R : Value → Heap → Prop) (v0 : Value) (v1 : Value) (h : Heap) : Prop :=
  vLen v0 fun n7 =>
  vLen v1 fun n9 =>
  bif ((n7 : Int) : Int) != (n9 : Int) then
    R (.bool false) h
  else
    ∃ J : Nat → Int → Heap → Prop, (∃ n_2, J n_2 0 h) ∧ ∀ (n : Nat) (_ : Env) (x5 : Int) (h_2 : Heap), J n x5 h_2 →
    vLen v0 fun n13 =>
    bif decide ((x5 : Int) < (n13 : Int)) then
      vIdx v0 x5 1 fun p19 =>
      ldV h_2 p19 fun v20 =>
      vIdx v1 x5 1 fun p23 =>
      ldV h_2 p23 fun v24 =>
      CallsH P id_spec_l00Same #[v20, v24] h_2 fun r25 h_3 => ∃ (b25 : Bool), r25 = .bool b25 ∧
      bif !b25 then
        R (.bool false) h_3
      else
        ∃ m, m < n ∧ J m (IntKind.i64.wrap (x5 + 1)) h_3
    else
      R (.bool true) h_2
theorem w_spec_l10Same {R : Value → Heap → Prop} {v0 : Value} {v1 : Value} {h : Heap} (hv : F_spec_l10Same R v0 v1 h) : CallsH P id_spec_l10Same #[v0, v1] h R :=
  callsH_of_vc ctxOk ⟨[(4, [(5, .i .i64)])], []⟩ Try.func93 [v0, v1] h R (by kernel_rfl) (Eq.mpr (by kernel_rfl) hv)
/-- spec.SameObject -/
def F_spec_SameObject (R : Value → Heap → Prop) (x0_0 : Int) (x0_1 : Int) (v0_2 : Value) (x1_0 : Int) (x1_1 : Int) (v1_2 : Value) (h : Heap) : Prop :=
  vNew h (.cells #[.int .i64 x0_0, .int .i64 x0_1, v0_2] t_impl_Object) fun p2 h_2 =>
  vNew h_2 (.cells #[.int .i64 x1_0, .int .i64 x1_1, v1_2] t_impl_Object) fun p3 h_3 =>
  ldI .i64 h_3 p2 fun x6 =>
  ldI .i64 h_3 p3 fun x8 =>
  bif (x6 : Int) == x8 then
    ldI .i64 h_3 (p2.add 1) fun x12 =>
    ldI .i64 h_3 (p3.add 1) fun x14 =>
    bif (x12 : Int) == x14 then
      ldV h_3 (p2.add 2) fun v19 =>
      ldV h_3 (p3.add 2) fun v21 =>
      CallsH P id_spec_l10Same #[v19, v21] h_3 fun r22 h_4 => ∃ (b22 : Bool), r22 = .bool b22 ∧
      R (.bool b22) h_4
    else
      R (.bool false) h_3
  else
    R (.bool false) h_3
theorem w_spec_SameObject {R : Value → Heap → Prop} {x0_0 : Int} {x0_1 : Int} {v0_2 : Value} {x1_0 : Int} {x1_1 : Int} {v1_2 : Value} {h : Heap} (hv : F_spec_SameObject R x0_0 x0_1 v0_2 x1_0 x1_1 v1_2 h) : CallsH P id_spec_SameObject #[.agg #[.int .i64 x0_0, .int .i64 x0_1, v0_2], .agg #[.int .i64 x1_0, .int .i64 x1_1, v1_2]] h R :=
  callsH_of_vc ctxOk ⟨[], []⟩ Try.func70 [.agg #[.int .i64 x0_0, .int .i64 x0_1, v0_2], .agg #[.int .i64 x1_0, .int .i64 x1_1, v1_2]] h R (by kernel_rfl) (Eq.mpr (by kernel_rfl) hv)
/-- spec.l31Same -/
def F_spec_l31Same (R : Value → Heap → Prop) (p0 : Addr) (p1 : Addr) (h : Heap) : Prop :=
  ldS h p0 fun s8 =>
  ldS h p1 fun s12 =>
  bif s8.toList == s12.toList then
    ldS h (p0.add 4) fun s18 =>
    ldS h (p1.add 4) fun s22 =>
    bif s18.toList == s22.toList then
      ldI .i64 h (p0.add 1) fun x29_0 =>
      ldI .i64 h ((p0.add 1).add 1) fun x29_1 =>
      ldV h ((p0.add 1).add 2) fun v29_2 =>
      ldI .i64 h (p1.add 1) fun x33_0 =>
      ldI .i64 h ((p1.add 1).add 1) fun x33_1 =>
      ldV h ((p1.add 1).add 2) fun v33_2 =>
      CallsH P id_spec_SameObject #[.agg #[.int .i64 x29_0, .int .i64 x29_1, v29_2], .agg #[.int .i64 x33_0, .int .i64 x33_1, v33_2]] h fun r34 h_2 => ∃ (b34 : Bool), r34 = .bool b34 ∧
      R (.bool b34) h_2
    else
      R (.bool false) h
  else
    R (.bool false) h
theorem w_spec_l31Same {R : Value → Heap → Prop} {p0 : Addr} {p1 : Addr} {h : Heap} (hv : F_spec_l31Same R p0 p1 h) : CallsH P id_spec_l31Same #[.pointer (some p0), .pointer (some p1)] h R :=
  callsH_of_vc ctxOk ⟨[], []⟩ Try.func47 [.pointer (some p0), .pointer (some p1)] h R (by kernel_rfl) (Eq.mpr (by kernel_rfl) hv)
/-- spec.SameCatalog -/
def F_spec_SameCatalog (R : Value → Heap → Prop) (v0_0 : Value) (v1_0 : Value) (h : Heap) : Prop :=
  vNew h (.cells #[v0_0] t_impl_Catalog) fun p2 h_2 =>
  vNew h_2 (.cells #[v1_0] t_impl_Catalog) fun p3 h_3 =>
  ldV h_3 p2 fun v7 =>
  vLen v7 fun n8 =>
  ldV h_3 p3 fun v10 =>
  vLen v10 fun n11 =>
  bif ((n8 : Int) : Int) != (n11 : Int) then
    R (.bool false) h_3
  else
    ∃ J : Nat → Int → Heap → Prop, (∃ n_2, J n_2 0 h_3) ∧ ∀ (n : Nat) (_ : Env) (x5 : Int) (h_4 : Heap), J n x5 h_4 →
    ldV h_4 p2 fun v15 =>
    vLen v15 fun n16 =>
    bif decide ((x5 : Int) < (n16 : Int)) then
      ldV h_4 p2 fun v21 =>
      vIdx v21 x5 5 fun p23 =>
      ldV h_4 p3 fun v25 =>
      vIdx v25 x5 5 fun p27 =>
      CallsH P id_spec_l31Same #[.pointer (some p23), .pointer (some p27)] h_4 fun r28 h_5 => ∃ (b28 : Bool), r28 = .bool b28 ∧
      bif !b28 then
        R (.bool false) h_5
      else
        ∃ m, m < n ∧ J m (IntKind.i64.wrap (x5 + 1)) h_5
    else
      R (.bool true) h_4
theorem w_spec_SameCatalog {R : Value → Heap → Prop} {v0_0 : Value} {v1_0 : Value} {h : Heap} (hv : F_spec_SameCatalog R v0_0 v1_0 h) : CallsH P id_spec_SameCatalog #[.agg #[v0_0], .agg #[v1_0]] h R :=
  callsH_of_vc ctxOk ⟨[(4, [(5, .i .i64)])], []⟩ Try.func23 [.agg #[v0_0], .agg #[v1_0]] h R (by kernel_rfl) (Eq.mpr (by kernel_rfl) hv)
/-- laws.toInt64S -/
def F_laws_toInt64S (R : Value → Heap → Prop) (v0 : Value) (h : Heap) : Prop :=
  vLen v0 fun n6 =>
  vMake 8 [.int .i64 0] t_int64 (n6 : Int) (n6 : Int) h fun v7 h_2 =>
  ∃ J : Nat → Int → Heap → Prop, (∃ n_2, J n_2 0 h_2) ∧ ∀ (n : Nat) (_ : Env) (x4 : Int) (h_3 : Heap), J n x4 h_3 →
  vLen v0 fun n10 =>
  bif decide ((x4 : Int) < (n10 : Int)) then
    vIdx v0 x4 1 fun p18 =>
    ldI .i64 h_3 p18 fun x19 =>
    vIdx v7 x4 1 fun p20 =>
    vStore1 h_3 p20 (.int .i64 x19) fun h_4 =>
    ∃ m, m < n ∧ J m (IntKind.i64.wrap (x4 + 1)) h_4
  else
    R v7 h_3
theorem w_laws_toInt64S {R : Value → Heap → Prop} {v0 : Value} {h : Heap} (hv : F_laws_toInt64S R v0 h) : CallsH P id_laws_toInt64S #[v0] h R :=
  callsH_of_vc ctxOk ⟨[(3, [(4, .i .i64)])], []⟩ Try.func59 [v0] h R (by kernel_rfl) (Eq.mpr (by kernel_rfl) hv)
/-- laws.toInt64SS -/
def F_laws_toInt64SS (R : Value → Heap → Prop) (v0 : Value) (h : Heap) : Prop :=
  vLen v0 fun n6 =>
  vMake 24 [.slice none 0 0] t_S_int64 (n6 : Int) (n6 : Int) h fun v7 h_2 =>
  ∃ J : Nat → Int → Heap → Prop, (∃ n_2, J n_2 0 h_2) ∧ ∀ (n : Nat) (_ : Env) (x4 : Int) (h_3 : Heap), J n x4 h_3 →
  vLen v0 fun n10 =>
  bif decide ((x4 : Int) < (n10 : Int)) then
    vIdx v0 x4 1 fun p18 =>
    ldV h_3 p18 fun v19 =>
    CallsH P id_laws_toInt64S #[v19] h_3 fun r20 h_4 => ∃ (v20 : Value), r20 = v20 ∧
    vIdx v7 x4 1 fun p21 =>
    vStore1 h_4 p21 v20 fun h_5 =>
    ∃ m, m < n ∧ J m (IntKind.i64.wrap (x4 + 1)) h_5
  else
    R v7 h_3
theorem w_laws_toInt64SS {R : Value → Heap → Prop} {v0 : Value} {h : Heap} (hv : F_laws_toInt64SS R v0 h) : CallsH P id_laws_toInt64SS #[v0] h R :=
  callsH_of_vc ctxOk ⟨[(3, [(4, .i .i64)])], []⟩ Try.func29 [v0] h R (by kernel_rfl) (Eq.mpr (by kernel_rfl) hv)
/-- laws.toObject -/
def F_laws_toObject (R : Value → Heap → Prop) (x0_0 : Int) (x0_1 : Int) (v0_2 : Value) (h : Heap) : Prop :=
  vNew h (.cells #[.int .i64 x0_0, .int .i64 x0_1, v0_2] t_laws_Object) fun p1 h_2 =>
  vNew h_2 (.cells #[.int .i64 0, .int .i64 0, .slice none 0 0] t_impl_Object) fun p2 h_3 =>
  vNew h_3 (.cells #[.int .i64 0, .int .i64 0, .slice none 0 0] t_impl_Object) fun p3 h_4 =>
  ldI .i64 h_4 p1 fun x5 =>
  vStore1 h_4 p3 (.int .i64 x5) fun h_5 =>
  ldI .i64 h_5 (p1.add 1) fun x8 =>
  vStore1 h_5 (p3.add 1) (.int .i64 x8) fun h_6 =>
  ldV h_6 (p1.add 2) fun v11 =>
  CallsH P id_laws_toInt64SS #[v11] h_6 fun r12 h_7 => ∃ (v12 : Value), r12 = v12 ∧
  vStore1 h_7 (p3.add 2) v12 fun h_8 =>
  ldI .i64 h_8 p3 fun x14_0 =>
  ldI .i64 h_8 (p3.add 1) fun x14_1 =>
  ldV h_8 (p3.add 2) fun v14_2 =>
  vStore1 h_8 p2 (.int .i64 x14_0) fun h_9 =>
  vStore1 h_9 (p2.add 1) (.int .i64 x14_1) fun h_10 =>
  vStore1 h_10 (p2.add 2) v14_2 fun h_11 =>
  ldI .i64 h_11 p2 fun xres0_0 =>
  ldI .i64 h_11 (p2.add 1) fun xres0_1 =>
  ldV h_11 (p2.add 2) fun vres0_2 =>
  R (.agg #[.int .i64 xres0_0, .int .i64 xres0_1, vres0_2]) h_11
theorem w_laws_toObject {R : Value → Heap → Prop} {x0_0 : Int} {x0_1 : Int} {v0_2 : Value} {h : Heap} (hv : F_laws_toObject R x0_0 x0_1 v0_2 h) : CallsH P id_laws_toObject #[.agg #[.int .i64 x0_0, .int .i64 x0_1, v0_2]] h R :=
  callsH_of_vc ctxOk ⟨[], []⟩ Try.func95 [.agg #[.int .i64 x0_0, .int .i64 x0_1, v0_2]] h R (by kernel_rfl) (Eq.mpr (by kernel_rfl) hv)
/-- laws.toItem -/
def F_laws_toItem (R : Value → Heap → Prop) (s0_0 : ByteArray) (x0_1 : Int) (x0_2 : Int) (v0_3 : Value) (s0_4 : ByteArray) (h : Heap) : Prop :=
  vNew h (.cells #[.string s0_0, .int .i64 x0_1, .int .i64 x0_2, v0_3, .string s0_4] t_laws_Item) fun p1 h_2 =>
  vNew h_2 (.cells #[.string ⟨#[]⟩, .int .i64 0, .int .i64 0, .slice none 0 0, .string ⟨#[]⟩] t_impl_Item) fun p2 h_3 =>
  vNew h_3 (.cells #[.string ⟨#[]⟩, .int .i64 0, .int .i64 0, .slice none 0 0, .string ⟨#[]⟩] t_impl_Item) fun p3 h_4 =>
  ldS h_4 p1 fun s5 =>
  vStore1 h_4 p3 (.string s5) fun h_5 =>
  ldI .i64 h_5 (p1.add 1) fun x8_0 =>
  ldI .i64 h_5 ((p1.add 1).add 1) fun x8_1 =>
  ldV h_5 ((p1.add 1).add 2) fun v8_2 =>
  CallsH P id_laws_toObject #[.agg #[.int .i64 x8_0, .int .i64 x8_1, v8_2]] h_5 fun r9 h_6 => ∃ (x9_0_0 : Int), ∃ (x9_0_1 : Int), ∃ (v9_0_2 : Value), r9 = .agg #[.int .i64 x9_0_0, .int .i64 x9_0_1, v9_0_2] ∧
  vStore1 h_6 (p3.add 1) (.int .i64 x9_0_0) fun h_7 =>
  vStore1 h_7 ((p3.add 1).add 1) (.int .i64 x9_0_1) fun h_8 =>
  vStore1 h_8 ((p3.add 1).add 2) v9_0_2 fun h_9 =>
  ldS h_9 (p1.add 4) fun s12 =>
  vStore1 h_9 (p3.add 4) (.string s12) fun h_10 =>
  ldS h_10 p3 fun s14_0 =>
  ldI .i64 h_10 (p3.add 1) fun x14_1 =>
  ldI .i64 h_10 (p3.add 2) fun x14_2 =>
  ldV h_10 (p3.add 3) fun v14_3 =>
  ldS h_10 (p3.add 4) fun s14_4 =>
  vStore1 h_10 p2 (.string s14_0) fun h_11 =>
  vStore1 h_11 (p2.add 1) (.int .i64 x14_1) fun h_12 =>
  vStore1 h_12 (p2.add 2) (.int .i64 x14_2) fun h_13 =>
  vStore1 h_13 (p2.add 3) v14_3 fun h_14 =>
  vStore1 h_14 (p2.add 4) (.string s14_4) fun h_15 =>
  ldS h_15 p2 fun sres0_0 =>
  ldI .i64 h_15 (p2.add 1) fun xres0_1 =>
  ldI .i64 h_15 (p2.add 2) fun xres0_2 =>
  ldV h_15 (p2.add 3) fun vres0_3 =>
  ldS h_15 (p2.add 4) fun sres0_4 =>
  R (.agg #[.string sres0_0, .int .i64 xres0_1, .int .i64 xres0_2, vres0_3, .string sres0_4]) h_15
theorem w_laws_toItem {R : Value → Heap → Prop} {s0_0 : ByteArray} {x0_1 : Int} {x0_2 : Int} {v0_3 : Value} {s0_4 : ByteArray} {h : Heap} (hv : F_laws_toItem R s0_0 x0_1 x0_2 v0_3 s0_4 h) : CallsH P id_laws_toItem #[.agg #[.string s0_0, .int .i64 x0_1, .int .i64 x0_2, v0_3, .string s0_4]] h R :=
  callsH_of_vc ctxOk ⟨[], []⟩ Try.func81 [.agg #[.string s0_0, .int .i64 x0_1, .int .i64 x0_2, v0_3, .string s0_4]] h R (by kernel_rfl) (Eq.mpr (by kernel_rfl) hv)
/-- laws.toItemS -/
def F_laws_toItemS (R : Value → Heap → Prop) (v0 : Value) (h : Heap) : Prop :=
  vLen v0 fun n6 =>
  vMake 72 [.string ⟨#[]⟩, .int .i64 0, .int .i64 0, .slice none 0 0, .string ⟨#[]⟩] t_impl_Item (n6 : Int) (n6 : Int) h fun v7 h_2 =>
  ∃ J : Nat → Int → Heap → Prop, (∃ n_2, J n_2 0 h_2) ∧ ∀ (n : Nat) (_ : Env) (x4 : Int) (h_3 : Heap), J n x4 h_3 →
  vLen v0 fun n10 =>
  bif decide ((x4 : Int) < (n10 : Int)) then
    vIdx v0 x4 5 fun p18 =>
    ldS h_3 p18 fun s19_0 =>
    ldI .i64 h_3 (p18.add 1) fun x19_1 =>
    ldI .i64 h_3 (p18.add 2) fun x19_2 =>
    ldV h_3 (p18.add 3) fun v19_3 =>
    ldS h_3 (p18.add 4) fun s19_4 =>
    CallsH P id_laws_toItem #[.agg #[.string s19_0, .int .i64 x19_1, .int .i64 x19_2, v19_3, .string s19_4]] h_3 fun r20 h_4 => ∃ (s20_0_0 : ByteArray), ∃ (x20_0_1 : Int), ∃ (x20_0_2 : Int), ∃ (v20_0_3 : Value), ∃ (s20_0_4 : ByteArray), r20 = .agg #[.string s20_0_0, .int .i64 x20_0_1, .int .i64 x20_0_2, v20_0_3, .string s20_0_4] ∧
    vIdx v7 x4 5 fun p21 =>
    vStore1 h_4 p21 (.string s20_0_0) fun h_5 =>
    vStore1 h_5 (p21.add 1) (.int .i64 x20_0_1) fun h_6 =>
    vStore1 h_6 (p21.add 2) (.int .i64 x20_0_2) fun h_7 =>
    vStore1 h_7 (p21.add 3) v20_0_3 fun h_8 =>
    vStore1 h_8 (p21.add 4) (.string s20_0_4) fun h_9 =>
    ∃ m, m < n ∧ J m (IntKind.i64.wrap (x4 + 1)) h_9
  else
    R v7 h_3
theorem w_laws_toItemS {R : Value → Heap → Prop} {v0 : Value} {h : Heap} (hv : F_laws_toItemS R v0 h) : CallsH P id_laws_toItemS #[v0] h R :=
  callsH_of_vc ctxOk ⟨[(3, [(4, .i .i64)])], []⟩ Try.func48 [v0] h R (by kernel_rfl) (Eq.mpr (by kernel_rfl) hv)
/-- laws.toCatalog -/
def F_laws_toCatalog (R : Value → Heap → Prop) (v0_0 : Value) (h : Heap) : Prop :=
  vNew h (.cells #[v0_0] t_laws_Catalog) fun p1 h_2 =>
  vNew h_2 (.cells #[.slice none 0 0] t_impl_Catalog) fun p2 h_3 =>
  vNew h_3 (.cells #[.slice none 0 0] t_impl_Catalog) fun p3 h_4 =>
  ldV h_4 p1 fun v5 =>
  CallsH P id_laws_toItemS #[v5] h_4 fun r6 h_5 => ∃ (v6 : Value), r6 = v6 ∧
  vStore1 h_5 p3 v6 fun h_6 =>
  ldV h_6 p3 fun v8_0 =>
  vStore1 h_6 p2 v8_0 fun h_7 =>
  ldV h_7 p2 fun vres0_0 =>
  R (.agg #[vres0_0]) h_7
theorem w_laws_toCatalog {R : Value → Heap → Prop} {v0_0 : Value} {h : Heap} (hv : F_laws_toCatalog R v0_0 h) : CallsH P id_laws_toCatalog #[.agg #[v0_0]] h R :=
  callsH_of_vc ctxOk ⟨[], []⟩ Try.func24 [.agg #[v0_0]] h R (by kernel_rfl) (Eq.mpr (by kernel_rfl) hv)
/-- slices.EqualFunc[[]impl.Item,[]impl.Item,impl.Item,impl.Item] -/
def F_slices_EqualFunc_impl_Item_impl_Item_impl_Item_impl_Item (R : Value → Heap → Prop) (v0 : Value) (v1 : Value) (g2 : Nat) (cap2 : List Value) (h : Heap) : Prop :=
  vLen v0 fun n11 =>
  vLen v1 fun n13 =>
  bif ((n11 : Int) : Int) != (n13 : Int) then
    R (.bool false) h
  else
    vLen v0 fun n16 =>
    ∃ J : Nat → Int → Heap → Prop, (∃ n_2, J n_2 0 h) ∧ ∀ (n : Nat) (_ : Env) (x17 : Int) (h_2 : Heap), J n x17 h_2 →
    bif decide ((x17 : Int) < (n16 : Int)) then
      vIdx v0 x17 5 fun p20 =>
      ldS h_2 p20 fun s21_0 =>
      ldI .i64 h_2 (p20.add 1) fun x21_1 =>
      ldI .i64 h_2 (p20.add 2) fun x21_2 =>
      ldV h_2 (p20.add 3) fun v21_3 =>
      ldS h_2 (p20.add 4) fun s21_4 =>
      vNew h_2 (.cells #[.string ⟨#[]⟩, .int .i64 0, .int .i64 0, .slice none 0 0, .string ⟨#[]⟩] t_impl_Item) fun p8 h_3 =>
      vStore1 h_3 p8 (.string s21_0) fun h_4 =>
      vStore1 h_4 (p8.add 1) (.int .i64 x21_1) fun h_5 =>
      vStore1 h_5 (p8.add 2) (.int .i64 x21_2) fun h_6 =>
      vStore1 h_6 (p8.add 3) v21_3 fun h_7 =>
      vStore1 h_7 (p8.add 4) (.string s21_4) fun h_8 =>
      vIdx v1 x17 5 fun p24 =>
      ldS h_8 p24 fun s25_0 =>
      ldI .i64 h_8 (p24.add 1) fun x25_1 =>
      ldI .i64 h_8 (p24.add 2) fun x25_2 =>
      ldV h_8 (p24.add 3) fun v25_3 =>
      ldS h_8 (p24.add 4) fun s25_4 =>
      vNew h_8 (.cells #[.string ⟨#[]⟩, .int .i64 0, .int .i64 0, .slice none 0 0, .string ⟨#[]⟩] t_impl_Item) fun p9 h_9 =>
      vStore1 h_9 p9 (.string s25_0) fun h_10 =>
      vStore1 h_10 (p9.add 1) (.int .i64 x25_1) fun h_11 =>
      vStore1 h_11 (p9.add 2) (.int .i64 x25_2) fun h_12 =>
      vStore1 h_12 (p9.add 3) v25_3 fun h_13 =>
      vStore1 h_13 (p9.add 4) (.string s25_4) fun h_14 =>
      ldS h_14 p8 fun s27_0 =>
      ldI .i64 h_14 (p8.add 1) fun x27_1 =>
      ldI .i64 h_14 (p8.add 2) fun x27_2 =>
      ldV h_14 (p8.add 3) fun v27_3 =>
      ldS h_14 (p8.add 4) fun s27_4 =>
      ldS h_14 p9 fun s28_0 =>
      ldI .i64 h_14 (p9.add 1) fun x28_1 =>
      ldI .i64 h_14 (p9.add 2) fun x28_2 =>
      ldV h_14 (p9.add 3) fun v28_3 =>
      ldS h_14 (p9.add 4) fun s28_4 =>
      vOkf ctx g2 <|
      CallsH P g2 (([.agg #[.string s27_0, .int .i64 x27_1, .int .i64 x27_2, v27_3, .string s27_4], .agg #[.string s28_0, .int .i64 x28_1, .int .i64 x28_2, v28_3, .string s28_4]] : List Value) ++ cap2).toArray h_14 fun r29 h_15 => ∃ (b29 : Bool), r29 = .bool b29 ∧
      bif !b29 then
        R (.bool false) h_15
      else
        ∃ m, m < n ∧ J m (IntKind.i64.wrap (x17 + 1)) h_15
    else
      R (.bool true) h_2
theorem w_slices_EqualFunc_impl_Item_impl_Item_impl_Item_impl_Item {R : Value → Heap → Prop} {v0 : Value} {v1 : Value} {g2 : Nat} {cap2 : List Value} {h : Heap} (hv : F_slices_EqualFunc_impl_Item_impl_Item_impl_Item_impl_Item R v0 v1 g2 cap2 h) : CallsH P id_slices_EqualFunc_impl_Item_impl_Item_impl_Item_impl_Item #[v0, v1, .func (.func g2) #[] cap2.toArray] h R :=
  callsH_of_vc ctxOk ⟨[(4, [(17, .i .i64)])], []⟩ Try.func49 [v0, v1, .func (.func g2) #[] cap2.toArray] h R (by kernel_rfl) (Eq.mpr (by kernel_rfl) hv)
/-- slices.Equal[[]int64,int64] -/
def F_slices_Equal_int64_int64 (R : Value → Heap → Prop) (v0 : Value) (v1 : Value) (h : Heap) : Prop :=
  vLen v0 fun n7 =>
  vLen v1 fun n9 =>
  bif ((n7 : Int) : Int) != (n9 : Int) then
    R (.bool false) h
  else
    vLen v0 fun n12 =>
    ∃ J : Nat → Int → Heap → Prop, (∃ n_2, J n_2 0 h) ∧ ∀ (n : Nat) (_ : Env) (x13 : Int) (h_2 : Heap), J n x13 h_2 →
    bif decide ((x13 : Int) < (n12 : Int)) then
      vIdx v0 x13 1 fun p18 =>
      ldI .i64 h_2 p18 fun x19 =>
      vIdx v1 x13 1 fun p22 =>
      ldI .i64 h_2 p22 fun x23 =>
      bif (x19 : Int) != x23 then
        R (.bool false) h_2
      else
        ∃ m, m < n ∧ J m (IntKind.i64.wrap (x13 + 1)) h_2
    else
      R (.bool true) h_2
theorem w_slices_Equal_int64_int64 {R : Value → Heap → Prop} {v0 : Value} {v1 : Value} {h : Heap} (hv : F_slices_Equal_int64_int64 R v0 v1 h) : CallsH P id_slices_Equal_int64_int64 #[v0, v1] h R :=
  callsH_of_vc ctxOk ⟨[(4, [(13, .i .i64)])], []⟩ Try.func96 [v0, v1] h R (by kernel_rfl) (Eq.mpr (by kernel_rfl) hv)
/-- slices.EqualFunc[[][]int64,[][]int64,[]int64,[]int64] -/
def F_slices_EqualFunc_int64_int64_int64_int64 (R : Value → Heap → Prop) (v0 : Value) (v1 : Value) (g2 : Nat) (cap2 : List Value) (h : Heap) : Prop :=
  vLen v0 fun n11 =>
  vLen v1 fun n13 =>
  bif ((n11 : Int) : Int) != (n13 : Int) then
    R (.bool false) h
  else
    vLen v0 fun n16 =>
    ∃ J : Nat → Int → Heap → Prop, (∃ n_2, J n_2 0 h) ∧ ∀ (n : Nat) (_ : Env) (x17 : Int) (h_2 : Heap), J n x17 h_2 →
    bif decide ((x17 : Int) < (n16 : Int)) then
      vIdx v0 x17 1 fun p20 =>
      ldV h_2 p20 fun v21 =>
      vIdx v1 x17 1 fun p24 =>
      ldV h_2 p24 fun v25 =>
      vOkf ctx g2 <|
      CallsH P g2 (([v21, v25] : List Value) ++ cap2).toArray h_2 fun r29 h_3 => ∃ (b29 : Bool), r29 = .bool b29 ∧
      bif !b29 then
        R (.bool false) h_3
      else
        ∃ m, m < n ∧ J m (IntKind.i64.wrap (x17 + 1)) h_3
    else
      R (.bool true) h_2
theorem w_slices_EqualFunc_int64_int64_int64_int64 {R : Value → Heap → Prop} {v0 : Value} {v1 : Value} {g2 : Nat} {cap2 : List Value} {h : Heap} (hv : F_slices_EqualFunc_int64_int64_int64_int64 R v0 v1 g2 cap2 h) : CallsH P id_slices_EqualFunc_int64_int64_int64_int64 #[v0, v1, .func (.func g2) #[] cap2.toArray] h R :=
  callsH_of_vc ctxOk ⟨[(4, [(17, .i .i64)])], []⟩ Try.func100 [v0, v1, .func (.func g2) #[] cap2.toArray] h R (by kernel_rfl) (Eq.mpr (by kernel_rfl) hv)
/-- impl.areSame -/
def F_impl_areSame (R : Value → Heap → Prop) (v0 : Value) (v1 : Value) (h : Heap) : Prop :=
  CallsH P id_slices_EqualFunc_int64_int64_int64_int64 #[v0, v1, .func (.func id_slices_Equal_int64_int64) #[] #[]] h fun r7 h_2 => ∃ (b7 : Bool), r7 = .bool b7 ∧
  R (.bool b7) h_2
theorem w_impl_areSame {R : Value → Heap → Prop} {v0 : Value} {v1 : Value} {h : Heap} (hv : F_impl_areSame R v0 v1 h) : CallsH P id_impl_areSame #[v0, v1] h R :=
  callsH_of_vc ctxOk ⟨[], []⟩ Try.func82 [v0, v1] h R (by kernel_rfl) (Eq.mpr (by kernel_rfl) hv)
/-- impl.SameObject -/
def F_impl_SameObject (R : Value → Heap → Prop) (x0_0 : Int) (x0_1 : Int) (v0_2 : Value) (x1_0 : Int) (x1_1 : Int) (v1_2 : Value) (h : Heap) : Prop :=
  vNew h (.cells #[.int .i64 x0_0, .int .i64 x0_1, v0_2] t_impl_Object) fun p2 h_2 =>
  vNew h_2 (.cells #[.int .i64 x1_0, .int .i64 x1_1, v1_2] t_impl_Object) fun p3 h_3 =>
  ldI .i64 h_3 p2 fun x6 =>
  ldI .i64 h_3 p3 fun x8 =>
  bif (x6 : Int) == x8 then
    ldI .i64 h_3 (p2.add 1) fun x12 =>
    ldI .i64 h_3 (p3.add 1) fun x14 =>
    bif (x12 : Int) == x14 then
      ldV h_3 (p2.add 2) fun v19 =>
      ldV h_3 (p3.add 2) fun v21 =>
      CallsH P id_impl_areSame #[v19, v21] h_3 fun r22 h_4 => ∃ (b22 : Bool), r22 = .bool b22 ∧
      R (.bool b22) h_4
    else
      R (.bool false) h_3
  else
    R (.bool false) h_3
theorem w_impl_SameObject {R : Value → Heap → Prop} {x0_0 : Int} {x0_1 : Int} {v0_2 : Value} {x1_0 : Int} {x1_1 : Int} {v1_2 : Value} {h : Heap} (hv : F_impl_SameObject R x0_0 x0_1 v0_2 x1_0 x1_1 v1_2 h) : CallsH P id_impl_SameObject #[.agg #[.int .i64 x0_0, .int .i64 x0_1, v0_2], .agg #[.int .i64 x1_0, .int .i64 x1_1, v1_2]] h R :=
  callsH_of_vc ctxOk ⟨[], []⟩ Try.func51 [.agg #[.int .i64 x0_0, .int .i64 x0_1, v0_2], .agg #[.int .i64 x1_0, .int .i64 x1_1, v1_2]] h R (by kernel_rfl) (Eq.mpr (by kernel_rfl) hv)
/-- impl.SameCatalog$1 -/
def F_impl_SameCatalog_1 (R : Value → Heap → Prop) (s0_0 : ByteArray) (x0_1 : Int) (x0_2 : Int) (v0_3 : Value) (s0_4 : ByteArray) (s1_0 : ByteArray) (x1_1 : Int) (x1_2 : Int) (v1_3 : Value) (s1_4 : ByteArray) (h : Heap) : Prop :=
  vNew h (.cells #[.string s0_0, .int .i64 x0_1, .int .i64 x0_2, v0_3, .string s0_4] t_impl_Item) fun p2 h_2 =>
  vNew h_2 (.cells #[.string s1_0, .int .i64 x1_1, .int .i64 x1_2, v1_3, .string s1_4] t_impl_Item) fun p3 h_3 =>
  ldS h_3 p2 fun s6 =>
  ldS h_3 p3 fun s8 =>
  bif s6.toList == s8.toList then
    ldS h_3 (p2.add 4) fun s12 =>
    ldS h_3 (p3.add 4) fun s14 =>
    bif s12.toList == s14.toList then
      ldI .i64 h_3 (p2.add 1) fun x19_0 =>
      ldI .i64 h_3 ((p2.add 1).add 1) fun x19_1 =>
      ldV h_3 ((p2.add 1).add 2) fun v19_2 =>
      ldI .i64 h_3 (p3.add 1) fun x21_0 =>
      ldI .i64 h_3 ((p3.add 1).add 1) fun x21_1 =>
      ldV h_3 ((p3.add 1).add 2) fun v21_2 =>
      CallsH P id_impl_SameObject #[.agg #[.int .i64 x19_0, .int .i64 x19_1, v19_2], .agg #[.int .i64 x21_0, .int .i64 x21_1, v21_2]] h_3 fun r22 h_4 => ∃ (b22 : Bool), r22 = .bool b22 ∧
      R (.bool b22) h_4
    else
      R (.bool false) h_3
  else
    R (.bool false) h_3
theorem w_impl_SameCatalog_1 {R : Value → Heap → Prop} {s0_0 : ByteArray} {x0_1 : Int} {x0_2 : Int} {v0_3 : Value} {s0_4 : ByteArray} {s1_0 : ByteArray} {x1_1 : Int} {x1_2 : Int} {v1_3 : Value} {s1_4 : ByteArray} {h : Heap} (hv : F_impl_SameCatalog_1 R s0_0 x0_1 x0_2 v0_3 s0_4 s1_0 x1_1 x1_2 v1_3 s1_4 h) : CallsH P id_impl_SameCatalog_1 #[.agg #[.string s0_0, .int .i64 x0_1, .int .i64 x0_2, v0_3, .string s0_4], .agg #[.string s1_0, .int .i64 x1_1, .int .i64 x1_2, v1_3, .string s1_4]] h R :=
  callsH_of_vc ctxOk ⟨[], []⟩ Try.func50 [.agg #[.string s0_0, .int .i64 x0_1, .int .i64 x0_2, v0_3, .string s0_4], .agg #[.string s1_0, .int .i64 x1_1, .int .i64 x1_2, v1_3, .string s1_4]] h R (by kernel_rfl) (Eq.mpr (by kernel_rfl) hv)
/-- impl.SameCatalog -/
def F_impl_SameCatalog (R : Value → Heap → Prop) (v0_0 : Value) (v1_0 : Value) (h : Heap) : Prop :=
  vNew h (.cells #[v0_0] t_impl_Catalog) fun p2 h_2 =>
  vNew h_2 (.cells #[v1_0] t_impl_Catalog) fun p3 h_3 =>
  ldV h_3 p2 fun v6 =>
  ldV h_3 p3 fun v8 =>
  CallsH P id_slices_EqualFunc_impl_Item_impl_Item_impl_Item_impl_Item #[v6, v8, .func (.func id_impl_SameCatalog_1) #[] #[]] h_3 fun r9 h_4 => ∃ (b9 : Bool), r9 = .bool b9 ∧
  R (.bool b9) h_4
theorem w_impl_SameCatalog {R : Value → Heap → Prop} {v0_0 : Value} {v1_0 : Value} {h : Heap} (hv : F_impl_SameCatalog R v0_0 v1_0 h) : CallsH P id_impl_SameCatalog #[.agg #[v0_0], .agg #[v1_0]] h R :=
  callsH_of_vc ctxOk ⟨[], []⟩ Try.func25 [.agg #[v0_0], .agg #[v1_0]] h R (by kernel_rfl) (Eq.mpr (by kernel_rfl) hv)
/-- laws.eqInt64SS -/
def F_laws_eqInt64SS (R : Value → Heap → Prop) (v0 : Value) (v1 : Value) (h : Heap) : Prop :=
  vLen v0 fun n7 =>
  vLen v1 fun n9 =>
  bif ((n7 : Int) : Int) != (n9 : Int) then
    R (.bool false) h
  else
    ∃ J : Nat → Int → Heap → Prop, (∃ n_2, J n_2 0 h) ∧ ∀ (n : Nat) (_ : Env) (x5 : Int) (h_2 : Heap), J n x5 h_2 →
    vLen v0 fun n13 =>
    bif decide ((x5 : Int) < (n13 : Int)) then
      vIdx v0 x5 1 fun p19 =>
      ldV h_2 p19 fun v20 =>
      vIdx v1 x5 1 fun p23 =>
      ldV h_2 p23 fun v24 =>
      CallsH P id_laws_eqInt64S #[v20, v24] h_2 fun r25 h_3 => ∃ (b25 : Bool), r25 = .bool b25 ∧
      bif !b25 then
        R (.bool false) h_3
      else
        ∃ m, m < n ∧ J m (IntKind.i64.wrap (x5 + 1)) h_3
    else
      R (.bool true) h_2
theorem w_laws_eqInt64SS {R : Value → Heap → Prop} {v0 : Value} {v1 : Value} {h : Heap} (hv : F_laws_eqInt64SS R v0 v1 h) : CallsH P id_laws_eqInt64SS #[v0, v1] h R :=
  callsH_of_vc ctxOk ⟨[(4, [(5, .i .i64)])], []⟩ Try.func31 [v0, v1] h R (by kernel_rfl) (Eq.mpr (by kernel_rfl) hv)
/-- laws.eqObject -/
def F_laws_eqObject (R : Value → Heap → Prop) (x0_0 : Int) (x0_1 : Int) (v0_2 : Value) (x1_0 : Int) (x1_1 : Int) (v1_2 : Value) (h : Heap) : Prop :=
  vNew h (.cells #[.int .i64 x0_0, .int .i64 x0_1, v0_2] t_impl_Object) fun p2 h_2 =>
  vNew h_2 (.cells #[.int .i64 x1_0, .int .i64 x1_1, v1_2] t_impl_Object) fun p3 h_3 =>
  ldI .i64 h_3 p2 fun x6 =>
  ldI .i64 h_3 p3 fun x8 =>
  bif (x6 : Int) != x8 then
    R (.bool false) h_3
  else
    ldI .i64 h_3 (p2.add 1) fun x11 =>
    ldI .i64 h_3 (p3.add 1) fun x13 =>
    bif (x11 : Int) != x13 then
      R (.bool false) h_3
    else
      ldV h_3 (p2.add 2) fun v16 =>
      ldV h_3 (p3.add 2) fun v18 =>
      CallsH P id_laws_eqInt64SS #[v16, v18] h_3 fun r19 h_4 => ∃ (b19 : Bool), r19 = .bool b19 ∧
      bif !b19 then
        R (.bool false) h_4
      else
        R (.bool true) h_4
theorem w_laws_eqObject {R : Value → Heap → Prop} {x0_0 : Int} {x0_1 : Int} {v0_2 : Value} {x1_0 : Int} {x1_1 : Int} {v1_2 : Value} {h : Heap} (hv : F_laws_eqObject R x0_0 x0_1 v0_2 x1_0 x1_1 v1_2 h) : CallsH P id_laws_eqObject #[.agg #[.int .i64 x0_0, .int .i64 x0_1, v0_2], .agg #[.int .i64 x1_0, .int .i64 x1_1, v1_2]] h R :=
  callsH_of_vc ctxOk ⟨[], []⟩ Try.func99 [.agg #[.int .i64 x0_0, .int .i64 x0_1, v0_2], .agg #[.int .i64 x1_0, .int .i64 x1_1, v1_2]] h R (by kernel_rfl) (Eq.mpr (by kernel_rfl) hv)
/-- laws.eqItem -/
def F_laws_eqItem (R : Value → Heap → Prop) (s0_0 : ByteArray) (x0_1 : Int) (x0_2 : Int) (v0_3 : Value) (s0_4 : ByteArray) (s1_0 : ByteArray) (x1_1 : Int) (x1_2 : Int) (v1_3 : Value) (s1_4 : ByteArray) (h : Heap) : Prop :=
  vNew h (.cells #[.string s0_0, .int .i64 x0_1, .int .i64 x0_2, v0_3, .string s0_4] t_impl_Item) fun p2 h_2 =>
  vNew h_2 (.cells #[.string s1_0, .int .i64 x1_1, .int .i64 x1_2, v1_3, .string s1_4] t_impl_Item) fun p3 h_3 =>
  ldS h_3 p2 fun s6 =>
  ldS h_3 p3 fun s8 =>
  bif !(s6.toList == s8.toList) then
    R (.bool false) h_3
  else
    ldI .i64 h_3 (p2.add 1) fun x11_0 =>
    ldI .i64 h_3 ((p2.add 1).add 1) fun x11_1 =>
    ldV h_3 ((p2.add 1).add 2) fun v11_2 =>
    ldI .i64 h_3 (p3.add 1) fun x13_0 =>
    ldI .i64 h_3 ((p3.add 1).add 1) fun x13_1 =>
    ldV h_3 ((p3.add 1).add 2) fun v13_2 =>
    CallsH P id_laws_eqObject #[.agg #[.int .i64 x11_0, .int .i64 x11_1, v11_2], .agg #[.int .i64 x13_0, .int .i64 x13_1, v13_2]] h_3 fun r14 h_4 => ∃ (b14 : Bool), r14 = .bool b14 ∧
    bif !b14 then
      R (.bool false) h_4
    else
      ldS h_4 (p2.add 4) fun s17 =>
      ldS h_4 (p3.add 4) fun s19 =>
      bif !(s17.toList == s19.toList) then
        R (.bool false) h_4
      else
        R (.bool true) h_4
theorem w_laws_eqItem {R : Value → Heap → Prop} {s0_0 : ByteArray} {x0_1 : Int} {x0_2 : Int} {v0_3 : Value} {s0_4 : ByteArray} {s1_0 : ByteArray} {x1_1 : Int} {x1_2 : Int} {v1_3 : Value} {s1_4 : ByteArray} {h : Heap} (hv : F_laws_eqItem R s0_0 x0_1 x0_2 v0_3 s0_4 s1_0 x1_1 x1_2 v1_3 s1_4 h) : CallsH P id_laws_eqItem #[.agg #[.string s0_0, .int .i64 x0_1, .int .i64 x0_2, v0_3, .string s0_4], .agg #[.string s1_0, .int .i64 x1_1, .int .i64 x1_2, v1_3, .string s1_4]] h R :=
  callsH_of_vc ctxOk ⟨[], []⟩ Try.func83 [.agg #[.string s0_0, .int .i64 x0_1, .int .i64 x0_2, v0_3, .string s0_4], .agg #[.string s1_0, .int .i64 x1_1, .int .i64 x1_2, v1_3, .string s1_4]] h R (by kernel_rfl) (Eq.mpr (by kernel_rfl) hv)
/-- laws.eqItemS -/
def F_laws_eqItemS (R : Value → Heap → Prop) (v0 : Value) (v1 : Value) (h : Heap) : Prop :=
  vLen v0 fun n7 =>
  vLen v1 fun n9 =>
  bif ((n7 : Int) : Int) != (n9 : Int) then
    R (.bool false) h
  else
    ∃ J : Nat → Int → Heap → Prop, (∃ n_2, J n_2 0 h) ∧ ∀ (n : Nat) (_ : Env) (x5 : Int) (h_2 : Heap), J n x5 h_2 →
    vLen v0 fun n13 =>
    bif decide ((x5 : Int) < (n13 : Int)) then
      vIdx v0 x5 5 fun p19 =>
      ldS h_2 p19 fun s20_0 =>
      ldI .i64 h_2 (p19.add 1) fun x20_1 =>
      ldI .i64 h_2 (p19.add 2) fun x20_2 =>
      ldV h_2 (p19.add 3) fun v20_3 =>
      ldS h_2 (p19.add 4) fun s20_4 =>
      vIdx v1 x5 5 fun p23 =>
      ldS h_2 p23 fun s24_0 =>
      ldI .i64 h_2 (p23.add 1) fun x24_1 =>
      ldI .i64 h_2 (p23.add 2) fun x24_2 =>
      ldV h_2 (p23.add 3) fun v24_3 =>
      ldS h_2 (p23.add 4) fun s24_4 =>
      CallsH P id_laws_eqItem #[.agg #[.string s20_0, .int .i64 x20_1, .int .i64 x20_2, v20_3, .string s20_4], .agg #[.string s24_0, .int .i64 x24_1, .int .i64 x24_2, v24_3, .string s24_4]] h_2 fun r25 h_3 => ∃ (b25 : Bool), r25 = .bool b25 ∧
      bif !b25 then
        R (.bool false) h_3
      else
        ∃ m, m < n ∧ J m (IntKind.i64.wrap (x5 + 1)) h_3
    else
      R (.bool true) h_2
theorem w_laws_eqItemS {R : Value → Heap → Prop} {v0 : Value} {v1 : Value} {h : Heap} (hv : F_laws_eqItemS R v0 v1 h) : CallsH P id_laws_eqItemS #[v0, v1] h R :=
  callsH_of_vc ctxOk ⟨[(4, [(5, .i .i64)])], []⟩ Try.func52 [v0, v1] h R (by kernel_rfl) (Eq.mpr (by kernel_rfl) hv)
/-- laws.eqCatalog -/
def F_laws_eqCatalog (R : Value → Heap → Prop) (v0_0 : Value) (v1_0 : Value) (h : Heap) : Prop :=
  vNew h (.cells #[v0_0] t_impl_Catalog) fun p2 h_2 =>
  vNew h_2 (.cells #[v1_0] t_impl_Catalog) fun p3 h_3 =>
  ldV h_3 p2 fun v6 =>
  ldV h_3 p3 fun v8 =>
  CallsH P id_laws_eqItemS #[v6, v8] h_3 fun r9 h_4 => ∃ (b9 : Bool), r9 = .bool b9 ∧
  bif !b9 then
    R (.bool false) h_4
  else
    R (.bool true) h_4
theorem w_laws_eqCatalog {R : Value → Heap → Prop} {v0_0 : Value} {v1_0 : Value} {h : Heap} (hv : F_laws_eqCatalog R v0_0 v1_0 h) : CallsH P id_laws_eqCatalog #[.agg #[v0_0], .agg #[v1_0]] h R :=
  callsH_of_vc ctxOk ⟨[], []⟩ Try.func26 [.agg #[v0_0], .agg #[v1_0]] h R (by kernel_rfl) (Eq.mpr (by kernel_rfl) hv)
/-- laws.FnExactSameCatalog -/
def F_laws_FnExactSameCatalog (R : Value → Heap → Prop) (v0_0 : Value) (v1_0 : Value) (h : Heap) : Prop :=
  vNew h (.cells #[v0_0] t_laws_Catalog) fun p2 h_2 =>
  vNew h_2 (.cells #[v1_0] t_laws_Catalog) fun p3 h_3 =>
  ldV h_3 p2 fun v10_0 =>
  CallsH P id_laws_szCatalog #[.agg #[v10_0], .int .i64 1048576] h_3 fun r12 h_4 => ∃ (x12 : Int), r12 = .int .i64 x12 ∧
  bif decide ((x12 : Int) < 0) then
    R (.bool true) h_4
  else
    ldV h_4 p3 fun v15_0 =>
    CallsH P id_laws_szCatalog #[.agg #[v15_0], .int .i64 x12] h_4 fun r17 h_5 => ∃ (x17 : Int), r17 = .int .i64 x17 ∧
    bif decide ((x17 : Int) < 0) then
      R (.bool true) h_5
    else
      ldV h_5 p2 fun v20_0 =>
      CallsH P id_laws_toCatalog #[.agg #[v20_0]] h_5 fun r21 h_6 => ∃ (v21 : Value), r21 = .agg #[v21] ∧
      ExtH h_5 h_6 ∧
      ldV h_5 p3 fun v22_0 =>
      CallsH P id_laws_toCatalog #[.agg #[v22_0]] h_6 fun r23 h_7 => ∃ (v23 : Value), r23 = .agg #[v23] ∧
      CallsH P id_spec_SameCatalog #[.agg #[v21], .agg #[v23]] h_7 fun r24 h_8 => ∃ (b24 : Bool), r24 = .bool b24 ∧
      ldV h_8 p2 fun v25_0 =>
      CallsH P id_laws_toCatalog #[.agg #[v25_0]] h_8 fun r26 h_9 => ∃ (v26 : Value), r26 = .agg #[v26] ∧
      vNew h_9 (.cells #[.slice none 0 0] t_impl_Catalog) fun p7 h_10 =>
      vStore1 h_10 p7 v26 fun h_11 =>
      ldV h_11 p3 fun v27_0 =>
      CallsH P id_laws_toCatalog #[.agg #[v27_0]] h_11 fun r28 h_12 => ∃ (v28 : Value), r28 = .agg #[v28] ∧
      vNew h_12 (.cells #[.slice none 0 0] t_impl_Catalog) fun p8 h_13 =>
      vStore1 h_13 p8 v28 fun h_14 =>
      ldV h_14 p7 fun v29_0 =>
      ldV h_14 p8 fun v30_0 =>
      CallsH P id_impl_SameCatalog #[.agg #[v29_0], .agg #[v30_0]] h_14 fun r31 h_15 => ∃ (b31 : Bool), r31 = .bool b31 ∧
      bif !(b31 == b24) then
        R (.bool false) h_15
      else
        ldV h_15 p2 fun v36_0 =>
        CallsH P id_laws_toCatalog #[.agg #[v36_0]] h_15 fun r37 h_16 => ∃ (v37 : Value), r37 = .agg #[v37] ∧
        ExtH h_15 h_16 ∧
        ldV h_15 p7 fun v35_0 =>
        CallsH P id_laws_eqCatalog #[.agg #[v35_0], .agg #[v37]] h_16 fun r38 h_17 => ∃ (b38 : Bool), r38 = .bool b38 ∧
        bif !b38 then
          R (.bool false) h_17
        else
          ldV h_17 p3 fun v41_0 =>
          CallsH P id_laws_toCatalog #[.agg #[v41_0]] h_17 fun r42 h_18 => ∃ (v42 : Value), r42 = .agg #[v42] ∧
          ExtH h_17 h_18 ∧
          ldV h_17 p8 fun v40_0 =>
          CallsH P id_laws_eqCatalog #[.agg #[v40_0], .agg #[v42]] h_18 fun r43 h_19 => ∃ (b43 : Bool), r43 = .bool b43 ∧
          bif !b43 then
            R (.bool false) h_19
          else
            R (.bool true) h_19
theorem w_laws_FnExactSameCatalog {R : Value → Heap → Prop} {v0_0 : Value} {v1_0 : Value} {h : Heap} (hv : F_laws_FnExactSameCatalog R v0_0 v1_0 h) : CallsH P id_laws_FnExactSameCatalog #[.agg #[v0_0], .agg #[v1_0]] h R :=
  callsH_of_vc ctxOk ⟨[], []⟩ Try.func6 [.agg #[v0_0], .agg #[v1_0]] h R (by kernel_rfl) (Eq.mpr (by kernel_rfl) hv)
/-- spec.l00In -/
def F_spec_l00In (R : Value → Heap → Prop) (x0 : Int) (x1 : Int) (x2 : Int) (h : Heap) : Prop :=
  bif decide ((x0 : Int) ≥ x1) then
    R (.bool (decide ((x0 : Int) ≤ x2))) h
  else
    R (.bool false) h
theorem w_spec_l00In {R : Value → Heap → Prop} {x0 : Int} {x1 : Int} {x2 : Int} {h : Heap} (hv : F_spec_l00In R x0 x1 x2 h) : CallsH P id_spec_l00In #[.int .i64 x0, .int .i64 x1, .int .i64 x2] h R :=
  callsH_of_vc ctxOk ⟨[], []⟩ Try.func57 [.int .i64 x0, .int .i64 x1, .int .i64 x2] h R (by kernel_rfl) (Eq.mpr (by kernel_rfl) hv)
/-- spec.l26Ok -/
def F_spec_l26Ok (R : Value → Heap → Prop) (v0 : Value) (h : Heap) : Prop :=
  ∃ J : Heap → Prop, (
    vLen v0 fun n6 =>
    bif decide (((n6 : Int) : Int) < 1) then
      R (.bool false) h
    else
      vLen v0 fun n10 =>
      bif decide (((n10 : Int) : Int) > 2000) then
        R (.bool false) h
      else
        J h
  ) ∧ ∀ (_ : Env) (h_2 : Heap), J h_2 →
  ∃ J_2 : Nat → Int → Heap → Prop, (∃ n_2, J_2 n_2 0 h_2) ∧ ∀ (n : Nat) (_ : Env) (x3 : Int) (h_3 : Heap), J_2 n x3 h_3 →
  vLen v0 fun n15 =>
  bif decide ((x3 : Int) < (n15 : Int)) then
    ∃ J_3 : Heap → Prop, (
      vIdx v0 x3 1 fun p21 =>
      ldV h_3 p21 fun v22 =>
      vLen v22 fun n23 =>
      vIdx v0 0 1 fun p25 =>
      ldV h_3 p25 fun v26 =>
      vLen v26 fun n27 =>
      bif ((n23 : Int) : Int) != (n27 : Int) then
        R (.bool false) h_3
      else
        vIdx v0 x3 1 fun p32 =>
        ldV h_3 p32 fun v33 =>
        vLen v33 fun n34 =>
        bif decide (((n34 : Int) : Int) > 2000) then
          R (.bool false) h_3
        else
          J_3 h_3
    ) ∧ ∀ (_ : Env) (h_4 : Heap), J_3 h_4 →
    ∃ J_4 : Nat → Int → Heap → Prop, (∃ n_4, J_4 n_4 0 h_4) ∧ ∀ (n_3 : Nat) (_ : Env) (x4 : Int) (h_5 : Heap), J_4 n_3 x4 h_5 →
    vIdx v0 x3 1 fun p40 =>
    ldV h_5 p40 fun v41 =>
    vLen v41 fun n42 =>
    bif decide ((x4 : Int) < (n42 : Int)) then
      vIdx v0 x3 1 fun p48 =>
      ldV h_5 p48 fun v49 =>
      vIdx v49 x4 1 fun p51 =>
      ldI .i64 h_5 p51 fun x52 =>
      CallsH P id_spec_l00In #[.int .i64 x52, .int .i64 0, .int .i64 2000] h_5 fun r53 h_6 => ∃ (b53 : Bool), r53 = .bool b53 ∧
      bif !b53 then
        R (.bool false) h_6
      else
        ∃ m_2, m_2 < n_3 ∧ J_4 m_2 (IntKind.i64.wrap (x4 + 1)) h_6
    else
      ∃ m, m < n ∧ J_2 m (IntKind.i64.wrap (x3 + 1)) h_5
  else
    R (.bool true) h_3
theorem w_spec_l26Ok {R : Value → Heap → Prop} {v0 : Value} {h : Heap} (hv : F_spec_l26Ok R v0 h) : CallsH P id_spec_l26Ok #[v0] h R :=
  callsH_of_vc ctxOk ⟨[(4, [(3, .i .i64)]), (9, [(4, .i .i64)])], [(3, []), (8, [])]⟩ Try.func54 [v0] h R (by kernel_rfl) (Eq.mpr (by kernel_rfl) hv)
/-- spec.l09Budget -/
def F_spec_l09Budget (R : Value → Heap → Prop) (x0 : Int) (h : Heap) : Prop :=
  CallsH P id_spec_l00In #[.int .i64 x0, .int .i64 1, .int .i64 20000] h fun r4 h_2 => ∃ (b4 : Bool), r4 = .bool b4 ∧
  R (.bool b4) h_2
theorem w_spec_l09Budget {R : Value → Heap → Prop} {x0 : Int} {h : Heap} (hv : F_spec_l09Budget R x0 h) : CallsH P id_spec_l09Budget #[.int .i64 x0] h R :=
  callsH_of_vc ctxOk ⟨[], []⟩ Try.func55 [.int .i64 x0] h R (by kernel_rfl) (Eq.mpr (by kernel_rfl) hv)
/-- spec.l26Lambda -/
def F_spec_l26Lambda (R : Value → Heap → Prop) (x0 : Int) (h : Heap) : Prop :=
  CallsH P id_spec_l00In #[.int .i64 x0, .int .i64 1, .int .i64 2000] h fun r4 h_2 => ∃ (b4 : Bool), r4 = .bool b4 ∧
  R (.bool b4) h_2
theorem w_spec_l26Lambda {R : Value → Heap → Prop} {x0 : Int} {h : Heap} (hv : F_spec_l26Lambda R x0 h) : CallsH P id_spec_l26Lambda #[.int .i64 x0] h R :=
  callsH_of_vc ctxOk ⟨[], []⟩ Try.func56 [.int .i64 x0] h R (by kernel_rfl) (Eq.mpr (by kernel_rfl) hv)
/-- spec.l00Own -/
def F_spec_l00Own (R : Value → Heap → Prop) (v0 : Value) (h : Heap) : Prop :=
  vNewS h (.cells #[] t_int64) 0 fun v3 h_2 =>
  vAppend 1 8 [.int .i64 0] t_int64 v3 v0 h_2 fun v5 h_3 =>
  R v5 h_3
theorem w_spec_l00Own {R : Value → Heap → Prop} {v0 : Value} {h : Heap} (hv : F_spec_l00Own R v0 h) : CallsH P id_spec_l00Own #[v0] h R :=
  callsH_of_vc ctxOk ⟨[], []⟩ Try.func101 [v0] h R (by kernel_rfl) (Eq.mpr (by kernel_rfl) hv)
/-- (*spec.l26Find).on -/
def F_spec_l26Find_on (R : Value → Heap → Prop) (p0 : Addr) (v1 : Value) (x2 : Int) (h : Heap) : Prop :=
  ∃ J : Nat → Int → Heap → Prop, (∃ n_2, J n_2 0 h) ∧ ∀ (n : Nat) (_ : Env) (x6 : Int) (h_2 : Heap), J n x6 h_2 →
  vLen v1 fun n9 =>
  bif decide ((x6 : Int) < (n9 : Int)) then
    vIdx v1 x6 1 fun p15 =>
    ldI .i64 h_2 p15 fun x16 =>
    ldV h_2 (p0.add 1) fun v20 =>
    vIdx v20 x6 1 fun p22 =>
    ldV h_2 p22 fun v23 =>
    vIdx v23 x2 1 fun p25 =>
    ldI .i64 h_2 p25 fun x26 =>
    ldI .i64 h_2 (p0.add 2) fun x31 =>
    bif decide ((IntKind.i64.wrap (x16 + x26) : Int) < x31) then
      R (.tuple #[]) h_2
    else
      ∃ m, m < n ∧ J m (IntKind.i64.wrap (x6 + 1)) h_2
  else
    ∃ J_2 : Heap → Prop, (
      ldB h_2 (p0.add 9) fun b36 =>
      bif b36 then
        R (.tuple #[]) h_2
      else
        ldI .i64 h_2 (p0.add 5) fun x41 =>
        ldI .i64 h_2 (p0.add 6) fun x45 =>
        bif (x41 : Int) == x45 then
          R (.tuple #[]) h_2
        else
          J_2 h_2
    ) ∧ ∀ (_ : Env) (h_3 : Heap), J_2 h_3 →
    ldI .i64 h_3 (p0.add 7) fun x51 =>
    ldI .i64 h_3 (p0.add 8) fun x55 =>
    bif (x51 : Int) == x55 then
      vStore1 h_3 (p0.add 9) (.bool true) fun h_4 =>
      R (.tuple #[]) h_4
    else
      ldI .i64 h_3 (p0.add 7) fun x63 =>
      vStore1 h_3 (p0.add 7) (.int .i64 (IntKind.i64.wrap (x63 + 1))) fun h_5 =>
      CallsH P id_spec_l26Find_run #[.pointer (some p0), v1, .int .i64 x2] h_5 fun r70 h_6 => r70 = .tuple #[] ∧
      R (.tuple #[]) h_6
theorem w_spec_l26Find_on {R : Value → Heap → Prop} {p0 : Addr} {v1 : Value} {x2 : Int} {h : Heap} (hv : F_spec_l26Find_on R p0 v1 x2 h) : CallsH P id_spec_l26Find_on #[.pointer (some p0), v1, .int .i64 x2] h R :=
  callsH_of_vc ctxOk ⟨[(1, [(6, .i .i64)])], [(5, [])]⟩ Try.func102 [.pointer (some p0), v1, .int .i64 x2] h R (by kernel_rfl) (Eq.mpr (by kernel_rfl) hv)
/-- (*spec.l26Find).run -/
def F_spec_l26Find_run (R : Value → Heap → Prop) (p0 : Addr) (v1 : Value) (x2 : Int) (h : Heap) : Prop :=
  ldV h p0 fun v14 =>
  vIdx v14 0 1 fun p15 =>
  ldV h p15 fun v16 =>
  vLen v16 fun n17 =>
  bif (x2 : Int) == (n17 : Int) then
    ∃ J : Heap → Prop, (
      ldI .i64 h (p0.add 5) fun x22 =>
      bif (x22 : Int) == 0 then
        ldV h (p0.add 3) fun v28 =>
        CallsH P id_spec_l00Own #[v28] h fun r29 h_2 => ∃ (v29 : Value), r29 = v29 ∧
        vStore1 h_2 (p0.add 4) v29 fun h_3 =>
        J h_3
      else
        J h
    ) ∧ ∀ (_ : Env) (h_4 : Heap), J h_4 →
    ldI .i64 h_4 (p0.add 5) fun x35 =>
    vStore1 h_4 (p0.add 5) (.int .i64 (IntKind.i64.wrap (x35 + 1))) fun h_5 =>
    R (.tuple #[]) h_5
  else
    vNewS h (.cells #[] t_int64) 0 fun v39 h_6 =>
    ∃ J_2 : Nat → Bool → Value → Int → Heap → Prop, (∃ n_2, J_2 n_2 true v39 0 h_6) ∧ ∀ (n : Nat) (_ : Env) (b6 : Bool) (v7 : Value) (x8 : Int) (h_7 : Heap), J_2 n b6 v7 x8 h_7 →
    vLen v1 fun n42 =>
    bif decide ((x8 : Int) < (n42 : Int)) then
      vIdx v1 x8 1 fun p49 =>
      ldI .i64 h_7 p49 fun x50 =>
      ldV h_7 p0 fun v54 =>
      vIdx v54 x8 1 fun p56 =>
      ldV h_7 p56 fun v57 =>
      vIdx v57 x2 1 fun p59 =>
      ldI .i64 h_7 p59 fun x60 =>
      vNewS h_7 (.cells #[.int .i64 (IntKind.i64.wrap (x50 + x60))] t_int64) 1 fun v62 h_8 =>
      vAppend 1 8 [.int .i64 0] t_int64 v7 v62 h_8 fun v63 h_9 =>
      vIdx v63 x8 1 fun p66 =>
      ldI .i64 h_9 p66 fun x67 =>
      ldI .i64 h_9 (p0.add 2) fun x71 =>
      bif decide ((x67 : Int) > x71) then
        ∃ m, m < n ∧ J_2 m false v63 (IntKind.i64.wrap (x8 + 1)) h_9
      else
        ∃ m, m < n ∧ J_2 m b6 v63 (IntKind.i64.wrap (x8 + 1)) h_9
    else
      ∃ J_3 : Heap → Prop, (
        bif b6 then
          ldV h_7 (p0.add 3) fun v77 =>
          vLen v77 fun n78 =>
          ldV h_7 (p0.add 3) fun v83 =>
          vNewS h_7 (.cells #[.int .i64 x2] t_int64) 1 fun v85 h_10 =>
          vAppend 1 8 [.int .i64 0] t_int64 v83 v85 h_10 fun v86 h_11 =>
          vStore1 h_11 (p0.add 3) v86 fun h_12 =>
          CallsH P id_spec_l26Find_on #[.pointer (some p0), v7, .int .i64 (IntKind.i64.wrap (x2 + 1))] h_12 fun r93 h_13 => r93 = .tuple #[] ∧
          ldV h_13 (p0.add 3) fun v98 =>
          vSliceS v98 1 none (some (.int .i64 (n78 : Int))) none fun v100 =>
          vStore1 h_13 (p0.add 3) v100 fun h_14 =>
          J_3 h_14
        else
          J_3 h_7
      ) ∧ ∀ (_ : Env) (h_15 : Heap), J_3 h_15 →
      CallsH P id_spec_l26Find_on #[.pointer (some p0), v1, .int .i64 (IntKind.i64.wrap (x2 + 1))] h_15 fun r107 h_16 => r107 = .tuple #[] ∧
      R (.tuple #[]) h_16
theorem w_spec_l26Find_run {R : Value → Heap → Prop} {p0 : Addr} {v1 : Value} {x2 : Int} {h : Heap} (hv : F_spec_l26Find_run R p0 v1 x2 h) : CallsH P id_spec_l26Find_run #[.pointer (some p0), v1, .int .i64 x2] h R :=
  callsH_of_vc ctxOk ⟨[(7, [(6, .b), (7, .v), (8, .i .i64)])], [(3, []), (17, [])]⟩ Try.func84 [.pointer (some p0), v1, .int .i64 x2] h R (by kernel_rfl) (Eq.mpr (by kernel_rfl) hv)
/-- spec.l26Search -/
def F_spec_l26Search (R : Value → Heap → Prop) (v0 : Value) (x1 : Int) (x2 : Int) (x3 : Int) (h : Heap) : Prop :=
  vOne v0 <|
  vNew h (.cells #[v0, (.slice none 0 0), .int .i64 x1, (.slice none 0 0), (.slice none 0 0), .int .i64 0, .int .i64 x2, .int .i64 0, .int .i64 x3, .bool false] t_spec_l26Find) fun p19 h_2 =>
  ∃ J : Nat → Bool → Int → Heap → Prop, (∃ n_2, J n_2 true 0 h_2) ∧ ∀ (n : Nat) (_ : Env) (b10 : Bool) (x11 : Int) (h_3 : Heap), J n b10 x11 h_3 →
  vLen v0 fun n22 =>
  bif decide ((x11 : Int) < (n22 : Int)) then
    vIdx v0 x11 1 fun p28 =>
    ldV h_3 p28 fun v29 =>
    vLen v29 fun n30 =>
    vMake 8 [.int .i64 0] t_int64 (IntKind.i64.wrap ((n30 : Int) + 1)) (IntKind.i64.wrap ((n30 : Int) + 1)) h_3 fun v32 h_4 =>
    vIdx v0 x11 1 fun p35 =>
    ldV h_4 p35 fun v36 =>
    vLen v36 fun n37 =>
    ∃ J_2 : Nat → Int → Heap → Prop, (∃ n_4, J_2 n_4 (IntKind.i64.wrap ((n37 : Int) - 1)) h_4) ∧ ∀ (n_3 : Nat) (_ : Env) (x13 : Int) (h_5 : Heap), J_2 n_3 x13 h_5 →
    bif decide ((x13 : Int) ≥ 0) then
      vIdx v32 (IntKind.i64.wrap (x13 + 1)) 1 fun p48 =>
      ldI .i64 h_5 p48 fun x49 =>
      vIdx v0 x11 1 fun p52 =>
      ldV h_5 p52 fun v53 =>
      vIdx v53 x13 1 fun p55 =>
      ldI .i64 h_5 p55 fun x56 =>
      vIdx v32 x13 1 fun p58 =>
      vStore1 h_5 p58 (.int .i64 (IntKind.i64.wrap (x49 + x56))) fun h_6 =>
      ∃ m_2, m_2 < n_3 ∧ J_2 m_2 (IntKind.i64.wrap (x13 - 1)) h_6
    else
      ldV h_5 (p19.add 1) fun v63 =>
      vOne v32 <|
      vNewS h_5 (.cells #[v32] t_S_int64) 1 fun v65 h_7 =>
      vAppend 1 24 [.slice none 0 0] t_S_int64 v63 v65 h_7 fun v66 h_8 =>
      vStore1 h_8 (p19.add 1) v66 fun h_9 =>
      vIdx v32 0 1 fun p70 =>
      ldI .i64 h_9 p70 fun x71 =>
      bif decide ((x71 : Int) < x1) then
        ∃ m, m < n ∧ J m false (IntKind.i64.wrap (x11 + 1)) h_9
      else
        ∃ m, m < n ∧ J m b10 (IntKind.i64.wrap (x11 + 1)) h_9
  else
    bif b10 then
      vLen v0 fun n77 =>
      vMake 8 [.int .i64 0] t_int64 (n77 : Int) (n77 : Int) h_3 fun v78 h_10 =>
      CallsH P id_spec_l26Find_run #[.pointer (some p19), v78, .int .i64 0] h_10 fun r79 h_11 => r79 = .tuple #[] ∧
      R (.pointer (some p19)) h_11
    else
      R (.pointer (some p19)) h_3
theorem w_spec_l26Search {R : Value → Heap → Prop} {v0 : Value} {x1 : Int} {x2 : Int} {x3 : Int} {h : Heap} (hv : F_spec_l26Search R v0 x1 x2 x3 h) : CallsH P id_spec_l26Search #[v0, .int .i64 x1, .int .i64 x2, .int .i64 x3] h R :=
  callsH_of_vc ctxOk ⟨[(4, [(10, .b), (11, .i .i64)]), (8, [(13, .i .i64)])], []⟩ Try.func58 [v0, .int .i64 x1, .int .i64 x2, .int .i64 x3] h R (by kernel_rfl) (Eq.mpr (by kernel_rfl) hv)
/-- spec.CountChoices -/
def F_spec_CountChoices (R : Value → Heap → Prop) (v0 : Value) (x1 : Int) (x2 : Int) (x3 : Int) (h : Heap) : Prop :=
  CallsH P id_spec_l26Ok #[v0] h fun r12 h_2 => ∃ (b12 : Bool), r12 = .bool b12 ∧
  bif !b12 then
    R (.tuple #[.int .i64 0, .int .i64 1]) h_2
  else
    ∃ J : Heap → Prop, (
      CallsH P id_spec_l09Budget #[.int .i64 x3] h_2 fun r15 h_3 => ∃ (b15 : Bool), r15 = .bool b15 ∧
      bif !b15 then
        R (.tuple #[.int .i64 0, .int .i64 2]) h_3
      else
        CallsH P id_spec_l26Lambda #[.int .i64 x1] h_3 fun r19 h_4 => ∃ (b19 : Bool), r19 = .bool b19 ∧
        bif !b19 then
          R (.tuple #[.int .i64 0, .int .i64 2]) h_4
        else
          CallsH P id_spec_l00In #[.int .i64 x2, .int .i64 1, .int .i64 1000] h_4 fun r24 h_5 => ∃ (b24 : Bool), r24 = .bool b24 ∧
          bif !b24 then
            R (.tuple #[.int .i64 0, .int .i64 2]) h_5
          else
            J h_5
    ) ∧ ∀ (_ : Env) (h_6 : Heap), J h_6 →
    CallsH P id_spec_l26Search #[v0, .int .i64 x1, .int .i64 x2, .int .i64 x3] h_6 fun r31 h_7 => ∃ (p31 : Addr), r31 = .pointer (some p31) ∧
    ∃ J_2 : Heap → Prop, (
      ldI .i64 h_7 (p31.add 5) fun x35 =>
      bif decide ((x35 : Int) < x2) then
        ldB h_7 (p31.add 9) fun b42 =>
        bif b42 then
          R (.tuple #[.int .i64 0, .int .i64 5]) h_7
        else
          J_2 h_7
      else
        J_2 h_7
    ) ∧ ∀ (_ : Env) (h_8 : Heap), J_2 h_8 →
    ldI .i64 h_8 (p31.add 5) fun x47 =>
    R (.tuple #[.int .i64 x47, .int .i64 0]) h_8
theorem w_spec_CountChoices {R : Value → Heap → Prop} {v0 : Value} {x1 : Int} {x2 : Int} {x3 : Int} {h : Heap} (hv : F_spec_CountChoices R v0 x1 x2 x3 h) : CallsH P id_spec_CountChoices #[v0, .int .i64 x1, .int .i64 x2, .int .i64 x3] h R :=
  callsH_of_vc ctxOk ⟨[], [(5, []), (8, [])]⟩ Try.func28 [v0, .int .i64 x1, .int .i64 x2, .int .i64 x3] h R (by kernel_rfl) (Eq.mpr (by kernel_rfl) hv)
/-- impl.within -/
def F_impl_within (R : Value → Heap → Prop) (x0 : Int) (x1 : Int) (x2 : Int) (h : Heap) : Prop :=
  bif decide ((x0 : Int) ≥ x1) then
    R (.bool (decide ((x0 : Int) ≤ x2))) h
  else
    R (.bool false) h
theorem w_impl_within {R : Value → Heap → Prop} {x0 : Int} {x1 : Int} {x2 : Int} {h : Heap} (hv : F_impl_within R x0 x1 x2 h) : CallsH P id_impl_within #[.int .i64 x0, .int .i64 x1, .int .i64 x2] h R :=
  callsH_of_vc ctxOk ⟨[], []⟩ Try.func63 [.int .i64 x0, .int .i64 x1, .int .i64 x2] h R (by kernel_rfl) (Eq.mpr (by kernel_rfl) hv)
/-- impl.size[[]int64] -/
def F_impl_size_int64 (R : Value → Heap → Prop) (v0 : Value) (h : Heap) : Prop :=
  vLen v0 fun n4 =>
  R (.int .i64 (n4 : Int)) h
theorem w_impl_size_int64 {R : Value → Heap → Prop} {v0 : Value} {h : Heap} (hv : F_impl_size_int64 R v0 h) : CallsH P id_impl_size_int64 #[v0] h R :=
  callsH_of_vc ctxOk ⟨[], []⟩ Try.func85 [v0] h R (by kernel_rfl) (Eq.mpr (by kernel_rfl) hv)
/-- slices.IndexFunc[[][]int64,[]int64] -/
def F_slices_IndexFunc_int64_int64 (R : Value → Heap → Prop) (v0 : Value) (g1 : Nat) (cap1 : List Value) (h : Heap) : Prop :=
  vLen v0 fun n7 =>
  ∃ J : Nat → Int → Heap → Prop, (∃ n_2, J n_2 0 h) ∧ ∀ (n : Nat) (_ : Env) (x8 : Int) (h_2 : Heap), J n x8 h_2 →
  bif decide ((x8 : Int) < (n7 : Int)) then
    vIdx v0 x8 1 fun p14 =>
    ldV h_2 p14 fun v15 =>
    vOkf ctx g1 <|
    CallsH P g1 (([v15] : List Value) ++ cap1).toArray h_2 fun r16 h_3 => ∃ (b16 : Bool), r16 = .bool b16 ∧
    bif b16 then
      R (.int .i64 x8) h_3
    else
      ∃ m, m < n ∧ J m (IntKind.i64.wrap (x8 + 1)) h_3
  else
    R (.int .i64 (-1)) h_2
theorem w_slices_IndexFunc_int64_int64 {R : Value → Heap → Prop} {v0 : Value} {g1 : Nat} {cap1 : List Value} {h : Heap} (hv : F_slices_IndexFunc_int64_int64 R v0 g1 cap1 h) : CallsH P id_slices_IndexFunc_int64_int64 #[v0, .func (.func g1) #[] cap1.toArray] h R :=
  callsH_of_vc ctxOk ⟨[(2, [(8, .i .i64)])], []⟩ Try.func103 [v0, .func (.func g1) #[] cap1.toArray] h R (by kernel_rfl) (Eq.mpr (by kernel_rfl) hv)
/-- slices.ContainsFunc[[][]int64,[]int64] -/
def F_slices_ContainsFunc_int64_int64 (R : Value → Heap → Prop) (v0 : Value) (g1 : Nat) (cap1 : List Value) (h : Heap) : Prop :=
  CallsH P id_slices_IndexFunc_int64_int64 #[v0, .func (.func g1) #[] cap1.toArray] h fun r7 h_2 => ∃ (x7 : Int), r7 = .int .i64 x7 ∧
  R (.bool (decide ((x7 : Int) ≥ 0))) h_2
theorem w_slices_ContainsFunc_int64_int64 {R : Value → Heap → Prop} {v0 : Value} {g1 : Nat} {cap1 : List Value} {h : Heap} (hv : F_slices_ContainsFunc_int64_int64 R v0 g1 cap1 h) : CallsH P id_slices_ContainsFunc_int64_int64 #[v0, .func (.func g1) #[] cap1.toArray] h R :=
  callsH_of_vc ctxOk ⟨[], []⟩ Try.func86 [v0, .func (.func g1) #[] cap1.toArray] h R (by kernel_rfl) (Eq.mpr (by kernel_rfl) hv)
/-- slices.IndexFunc[[]int64,int64] -/
def F_slices_IndexFunc_int64_int64_1 (R : Value → Heap → Prop) (v0 : Value) (g1 : Nat) (cap1 : List Value) (h : Heap) : Prop :=
  vLen v0 fun n7 =>
  ∃ J : Nat → Int → Heap → Prop, (∃ n_2, J n_2 0 h) ∧ ∀ (n : Nat) (_ : Env) (x8 : Int) (h_2 : Heap), J n x8 h_2 →
  bif decide ((x8 : Int) < (n7 : Int)) then
    vIdx v0 x8 1 fun p14 =>
    ldI .i64 h_2 p14 fun x15 =>
    vOkf ctx g1 <|
    CallsH P g1 (([.int .i64 x15] : List Value) ++ cap1).toArray h_2 fun r16 h_3 => ∃ (b16 : Bool), r16 = .bool b16 ∧
    bif b16 then
      R (.int .i64 x8) h_3
    else
      ∃ m, m < n ∧ J m (IntKind.i64.wrap (x8 + 1)) h_3
  else
    R (.int .i64 (-1)) h_2
theorem w_slices_IndexFunc_int64_int64_1 {R : Value → Heap → Prop} {v0 : Value} {g1 : Nat} {cap1 : List Value} {h : Heap} (hv : F_slices_IndexFunc_int64_int64_1 R v0 g1 cap1 h) : CallsH P id_slices_IndexFunc_int64_int64_1 #[v0, .func (.func g1) #[] cap1.toArray] h R :=
  callsH_of_vc ctxOk ⟨[(2, [(8, .i .i64)])], []⟩ Try.func111 [v0, .func (.func g1) #[] cap1.toArray] h R (by kernel_rfl) (Eq.mpr (by kernel_rfl) hv)
/-- slices.ContainsFunc[[]int64,int64] -/
def F_slices_ContainsFunc_int64_int64_1 (R : Value → Heap → Prop) (v0 : Value) (g1 : Nat) (cap1 : List Value) (h : Heap) : Prop :=
  CallsH P id_slices_IndexFunc_int64_int64_1 #[v0, .func (.func g1) #[] cap1.toArray] h fun r7 h_2 => ∃ (x7 : Int), r7 = .int .i64 x7 ∧
  R (.bool (decide ((x7 : Int) ≥ 0))) h_2
theorem w_slices_ContainsFunc_int64_int64_1 {R : Value → Heap → Prop} {v0 : Value} {g1 : Nat} {cap1 : List Value} {h : Heap} (hv : F_slices_ContainsFunc_int64_int64_1 R v0 g1 cap1 h) : CallsH P id_slices_ContainsFunc_int64_int64_1 #[v0, .func (.func g1) #[] cap1.toArray] h R :=
  callsH_of_vc ctxOk ⟨[], []⟩ Try.func104 [v0, .func (.func g1) #[] cap1.toArray] h R (by kernel_rfl) (Eq.mpr (by kernel_rfl) hv)
/-- impl.areIn$1 -/
def F_impl_areIn_1 (R : Value → Heap → Prop) (x0 : Int) (p1 : Addr) (h : Heap) : Prop :=
  ldI .i64 h p1 fun x5 =>
  CallsH P id_impl_within #[.int .i64 x0, .int .i64 0, .int .i64 (IntKind.i64.wrap (x5 - 1))] h fun r7 h_2 => ∃ (b7 : Bool), r7 = .bool b7 ∧
  R (.bool (!b7)) h_2
theorem w_impl_areIn_1 {R : Value → Heap → Prop} {x0 : Int} {p1 : Addr} {h : Heap} (hv : F_impl_areIn_1 R x0 p1 h) : CallsH P id_impl_areIn_1 #[.int .i64 x0, .pointer (some p1)] h R :=
  callsH_of_vc ctxOk ⟨[], []⟩ Try.func105 [.int .i64 x0, .pointer (some p1)] h R (by kernel_rfl) (Eq.mpr (by kernel_rfl) hv)
/-- impl.areIn -/
def F_impl_areIn (R : Value → Heap → Prop) (x0 : Int) (v1 : Value) (h : Heap) : Prop :=
  vNew h (.cells #[.int .i64 x0] t_int64) fun p2 h_2 =>
  CallsH P id_slices_ContainsFunc_int64_int64_1 #[v1, .func (.func id_impl_areIn_1) #[] #[.pointer (some p2)]] h_2 fun r7 h_3 => ∃ (b7 : Bool), r7 = .bool b7 ∧
  R (.bool (!b7)) h_3
theorem w_impl_areIn {R : Value → Heap → Prop} {x0 : Int} {v1 : Value} {h : Heap} (hv : F_impl_areIn R x0 v1 h) : CallsH P id_impl_areIn #[.int .i64 x0, v1] h R :=
  callsH_of_vc ctxOk ⟨[], []⟩ Try.func88 [.int .i64 x0, v1] h R (by kernel_rfl) (Eq.mpr (by kernel_rfl) hv)
/-- impl.isCounts$1 -/
def F_impl_isCounts_1 (R : Value → Heap → Prop) (v0 : Value) (p1 : Addr) (h : Heap) : Prop :=
  vLen v0 fun n5 =>
  ldV h p1 fun v6 =>
  vIdx v6 0 1 fun p7 =>
  ldV h p7 fun v8 =>
  vLen v8 fun n9 =>
  bif ((n5 : Int) : Int) != (n9 : Int) then
    R (.bool true) h
  else
    CallsH P id_impl_areIn #[.int .i64 2001, v0] h fun r13 h_2 => ∃ (b13 : Bool), r13 = .bool b13 ∧
    R (.bool (!b13)) h_2
theorem w_impl_isCounts_1 {R : Value → Heap → Prop} {v0 : Value} {p1 : Addr} {h : Heap} (hv : F_impl_isCounts_1 R v0 p1 h) : CallsH P id_impl_isCounts_1 #[v0, .pointer (some p1)] h R :=
  callsH_of_vc ctxOk ⟨[], []⟩ Try.func87 [v0, .pointer (some p1)] h R (by kernel_rfl) (Eq.mpr (by kernel_rfl) hv)
/-- impl.isCounts -/
def F_impl_isCounts (R : Value → Heap → Prop) (v0 : Value) (h : Heap) : Prop :=
  vOne v0 <|
  vNew h (.cells #[v0] t_S_S_int64) fun p1 h_2 =>
  ∃ J : Heap → Prop, (
    ldV h_2 p1 fun v3 =>
    CallsH P id_impl_size_int64 #[v3] h_2 fun r4 h_3 => ∃ (x4 : Int), r4 = .int .i64 x4 ∧
    CallsH P id_impl_within #[.int .i64 x4, .int .i64 1, .int .i64 2000] h_3 fun r5 h_4 => ∃ (b5 : Bool), r5 = .bool b5 ∧
    bif !b5 then
      R (.bool false) h_4
    else
      ldV h_4 p1 fun v8 =>
      vIdx v8 0 1 fun p9 =>
      ldV h_4 p9 fun v10 =>
      vLen v10 fun n11 =>
      bif decide (((n11 : Int) : Int) > 2000) then
        R (.bool false) h_4
      else
        J h_4
  ) ∧ ∀ (_ : Env) (h_5 : Heap), J h_5 →
  ldV h_5 p1 fun v14 =>
  CallsH P id_slices_ContainsFunc_int64_int64 #[v14, .func (.func id_impl_isCounts_1) #[] #[.pointer (some p1)]] h_5 fun r16 h_6 => ∃ (b16 : Bool), r16 = .bool b16 ∧
  R (.bool (!b16)) h_6
theorem w_impl_isCounts {R : Value → Heap → Prop} {v0 : Value} {h : Heap} (hv : F_impl_isCounts R v0 h) : CallsH P id_impl_isCounts #[v0] h R :=
  callsH_of_vc ctxOk ⟨[], [(3, [])]⟩ Try.func60 [v0] h R (by kernel_rfl) (Eq.mpr (by kernel_rfl) hv)
/-- impl.isBudget -/
def F_impl_isBudget (R : Value → Heap → Prop) (x0 : Int) (h : Heap) : Prop :=
  CallsH P id_impl_within #[.int .i64 x0, .int .i64 1, .int .i64 20000] h fun r4 h_2 => ∃ (b4 : Bool), r4 = .bool b4 ∧
  R (.bool b4) h_2
theorem w_impl_isBudget {R : Value → Heap → Prop} {x0 : Int} {h : Heap} (hv : F_impl_isBudget R x0 h) : CallsH P id_impl_isBudget #[.int .i64 x0] h R :=
  callsH_of_vc ctxOk ⟨[], []⟩ Try.func61 [.int .i64 x0] h R (by kernel_rfl) (Eq.mpr (by kernel_rfl) hv)
/-- impl.isLambda -/
def F_impl_isLambda (R : Value → Heap → Prop) (x0 : Int) (h : Heap) : Prop :=
  CallsH P id_impl_within #[.int .i64 x0, .int .i64 1, .int .i64 2000] h fun r4 h_2 => ∃ (b4 : Bool), r4 = .bool b4 ∧
  R (.bool b4) h_2
theorem w_impl_isLambda {R : Value → Heap → Prop} {x0 : Int} {h : Heap} (hv : F_impl_isLambda R x0 h) : CallsH P id_impl_isLambda #[.int .i64 x0] h R :=
  callsH_of_vc ctxOk ⟨[], []⟩ Try.func62 [.int .i64 x0] h R (by kernel_rfl) (Eq.mpr (by kernel_rfl) hv)
/-- (*impl.chooser).change -/
def F_impl_chooser_change (R : Value → Heap → Prop) (p0 : Addr) (v1 : Value) (x2 : Int) (x3 : Int) (h : Heap) : Prop :=
  ldV h (p0.add 2) fun v13 =>
  vLen v13 fun n14 =>
  ∃ J : Nat → Int → Heap → Prop, (∃ n_2, J n_2 0 h) ∧ ∀ (n : Nat) (_ : Env) (x15 : Int) (h_2 : Heap), J n x15 h_2 →
  bif decide ((x15 : Int) < (n14 : Int)) then
    vIdx v13 x15 1 fun p18 =>
    ldV h_2 p18 fun v19 =>
    vIdx v1 x15 1 fun p22 =>
    ldI .i64 h_2 p22 fun x23 =>
    vIdx v19 x2 1 fun p27 =>
    ldI .i64 h_2 p27 fun x28 =>
    vIdx v1 x15 1 fun p31 =>
    vStore1 h_2 p31 (.int .i64 (IntKind.i64.wrap (x23 + (IntKind.i64.wrap (x3 * x28))))) fun h_3 =>
    ∃ m, m < n ∧ J m (IntKind.i64.wrap (x15 + 1)) h_3
  else
    R (.tuple #[]) h_2
theorem w_impl_chooser_change {R : Value → Heap → Prop} {p0 : Addr} {v1 : Value} {x2 : Int} {x3 : Int} {h : Heap} (hv : F_impl_chooser_change R p0 v1 x2 x3 h) : CallsH P id_impl_chooser_change #[.pointer (some p0), v1, .int .i64 x2, .int .i64 x3] h R :=
  callsH_of_vc ctxOk ⟨[(1, [(15, .i .i64)])], []⟩ Try.func89 [.pointer (some p0), v1, .int .i64 x2, .int .i64 x3] h R (by kernel_rfl) (Eq.mpr (by kernel_rfl) hv)
/-- (*impl.chooser).possible -/
def F_impl_chooser_possible (R : Value → Heap → Prop) (p0 : Addr) (h : Heap) : Prop :=
  ldV h (p0.add 5) fun v8 =>
  vLen v8 fun n9 =>
  ∃ J : Nat → Int → Heap → Prop, (∃ n_2, J n_2 0 h) ∧ ∀ (n : Nat) (_ : Env) (x10 : Int) (h_2 : Heap), J n x10 h_2 →
  bif decide ((x10 : Int) < (n9 : Int)) then
    vIdx v8 x10 1 fun p13 =>
    ldI .i64 h_2 p13 fun x14 =>
    ldI .i64 h_2 (p0.add 3) fun x19 =>
    bif decide ((x14 : Int) > x19) then
      R (.bool false) h_2
    else
      ldV h_2 (p0.add 6) fun v26 =>
      vIdx v26 x10 1 fun p28 =>
      ldI .i64 h_2 p28 fun x29 =>
      ldI .i64 h_2 (p0.add 3) fun x34 =>
      bif decide ((IntKind.i64.wrap (x14 + x29) : Int) < x34) then
        R (.bool false) h_2
      else
        ∃ m, m < n ∧ J m (IntKind.i64.wrap (x10 + 1)) h_2
  else
    R (.bool true) h_2
theorem w_impl_chooser_possible {R : Value → Heap → Prop} {p0 : Addr} {h : Heap} (hv : F_impl_chooser_possible R p0 h) : CallsH P id_impl_chooser_possible #[.pointer (some p0)] h R :=
  callsH_of_vc ctxOk ⟨[(2, [(10, .i .i64)])], []⟩ Try.func106 [.pointer (some p0)] h R (by kernel_rfl) (Eq.mpr (by kernel_rfl) hv)
/-- slices.Clone[[]int64,int64] -/
def F_slices_Clone_int64_int64 (R : Value → Heap → Prop) (v0 : Value) (h : Heap) : Prop :=
  vNilS false v0 fun b4 =>
  bif b4 then
    R (.slice none 0 0) h
  else
    vNewS h (.cells #[] t_int64) 0 fun v5 h_2 =>
    vAppend 1 8 [.int .i64 0] t_int64 v5 v0 h_2 fun v7 h_3 =>
    R v7 h_3
theorem w_slices_Clone_int64_int64 {R : Value → Heap → Prop} {v0 : Value} {h : Heap} (hv : F_slices_Clone_int64_int64 R v0 h) : CallsH P id_slices_Clone_int64_int64 #[v0] h R :=
  callsH_of_vc ctxOk ⟨[], []⟩ Try.func107 [v0] h R (by kernel_rfl) (Eq.mpr (by kernel_rfl) hv)
/-- (*impl.counter).node -/
def F_impl_counter_node (R : Value → Heap → Prop) (p0 : Addr) (h : Heap) : Prop :=
  ldI .i64 h p0 fun x6 =>
  bif (x6 : Int) == 0 then
    vStore1 h (p0.add 1) (.bool true) fun h_2 =>
    R (.bool false) h_2
  else
    ldI .i64 h p0 fun x14 =>
    vStore1 h p0 (.int .i64 (IntKind.i64.wrap (x14 - 1))) fun h_3 =>
    R (.bool true) h_3
theorem w_impl_counter_node {R : Value → Heap → Prop} {p0 : Addr} {h : Heap} (hv : F_impl_counter_node R p0 h) : CallsH P id_impl_counter_node #[.pointer (some p0)] h R :=
  callsH_of_vc ctxOk ⟨[], []⟩ Try.func108 [.pointer (some p0)] h R (by kernel_rfl) (Eq.mpr (by kernel_rfl) hv)
/-- (*impl.chooser).search -/
def F_impl_chooser_search (R : Value → Heap → Prop) (p0 : Addr) (x1 : Int) (h : Heap) : Prop :=
  ldV h (p0.add 2) fun v10 =>
  vIdx v10 0 1 fun p11 =>
  ldV h p11 fun v12 =>
  vLen v12 fun n13 =>
  bif (x1 : Int) == (n13 : Int) then
    CallsH P id_impl_chooser_possible #[.pointer (some p0)] h fun r16 h_2 => ∃ (b16 : Bool), r16 = .bool b16 ∧
    bif b16 then
      ∃ J : Heap → Prop, (
        ldI .i64 h_2 (p0.add 8) fun x20 =>
        bif (x20 : Int) == 0 then
          ldV h_2 (p0.add 7) fun v26 =>
          CallsH P id_slices_Clone_int64_int64 #[v26] h_2 fun r27 h_3 => ∃ (v27 : Value), r27 = v27 ∧
          vStore1 h_3 (p0.add 9) v27 fun h_4 =>
          J h_4
        else
          J h_2
      ) ∧ ∀ (_ : Env) (h_5 : Heap), J h_5 →
      ldI .i64 h_5 (p0.add 8) fun x33 =>
      vStore1 h_5 (p0.add 8) (.int .i64 (IntKind.i64.wrap (x33 + 1))) fun h_6 =>
      R (.tuple #[]) h_6
    else
      R (.tuple #[]) h_2
  else
    ldV h (p0.add 6) fun v41 =>
    CallsH P id_impl_chooser_change #[.pointer (some p0), v41, .int .i64 x1, .int .i64 (-1)] h fun r43 h_7 => r43 = .tuple #[] ∧
    vNewS h_7 (.cells #[.bool true, .bool false] t_bool) 2 fun v44 h_8 =>
    vLen v44 fun n45 =>
    ∃ J_2 : Nat → Int → Heap → Prop, (∃ n_2, J_2 n_2 0 h_8) ∧ ∀ (n : Nat) (_ : Env) (x46 : Int) (h_9 : Heap), J_2 n x46 h_9 →
    bif decide ((x46 : Int) < (n45 : Int)) then
      vIdx v44 x46 1 fun p48 =>
      ldB h_9 p48 fun b49 =>
      ∃ J_3 : Heap → Prop, (
        bif b49 then
          ldV h_9 (p0.add 5) fun v55 =>
          CallsH P id_impl_chooser_change #[.pointer (some p0), v55, .int .i64 x1, .int .i64 1] h_9 fun r57 h_10 => r57 = .tuple #[] ∧
          ldV h_10 (p0.add 7) fun v62 =>
          vNewS h_10 (.cells #[.int .i64 x1] t_int64) 1 fun v64 h_11 =>
          vAppend 1 8 [.int .i64 0] t_int64 v62 v64 h_11 fun v65 h_12 =>
          vStore1 h_12 (p0.add 7) v65 fun h_13 =>
          J_3 h_13
        else
          J_3 h_9
      ) ∧ ∀ (_ : Env) (h_14 : Heap), J_3 h_14 →
      ∃ J_4 : Heap → Prop, (
        CallsH P id_impl_chooser_possible #[.pointer (some p0)] h_14 fun r69 h_15 => ∃ (b69 : Bool), r69 = .bool b69 ∧
        bif b69 then
          ldI .i64 h_15 (p0.add 8) fun x74 =>
          ldI .i64 h_15 (p0.add 4) fun x78 =>
          bif decide ((x74 : Int) < x78) then
            ldB h_15 (p0.add 1) fun b86 =>
            bif !b86 then
              CallsH P id_impl_counter_node #[.pointer (some p0)] h_15 fun r93 h_16 => ∃ (b93 : Bool), r93 = .bool b93 ∧
              bif b93 then
                CallsH P id_impl_chooser_search #[.pointer (some p0), .int .i64 (IntKind.i64.wrap (x1 + 1))] h_16 fun r98 h_17 => r98 = .tuple #[] ∧
                J_4 h_17
              else
                J_4 h_16
            else
              J_4 h_15
          else
            J_4 h_15
        else
          J_4 h_15
      ) ∧ ∀ (_ : Env) (h_18 : Heap), J_4 h_18 →
      bif b49 then
        ldV h_18 (p0.add 5) fun v104 =>
        CallsH P id_impl_chooser_change #[.pointer (some p0), v104, .int .i64 x1, .int .i64 (-1)] h_18 fun r106 h_19 => r106 = .tuple #[] ∧
        ldV h_19 (p0.add 7) fun v111 =>
        ldV h_19 (p0.add 7) fun v115 =>
        vLen v115 fun n116 =>
        vSliceS v111 1 none (some (.int .i64 (IntKind.i64.wrap ((n116 : Int) - 1)))) none fun v118 =>
        vStore1 h_19 (p0.add 7) v118 fun h_20 =>
        ∃ m, m < n ∧ J_2 m (IntKind.i64.wrap (x46 + 1)) h_20
      else
        ∃ m, m < n ∧ J_2 m (IntKind.i64.wrap (x46 + 1)) h_18
    else
      ldV h_9 (p0.add 6) fun v126 =>
      CallsH P id_impl_chooser_change #[.pointer (some p0), v126, .int .i64 x1, .int .i64 1] h_9 fun r128 h_21 => r128 = .tuple #[] ∧
      R (.tuple #[]) h_21
theorem w_impl_chooser_search {R : Value → Heap → Prop} {p0 : Addr} {x1 : Int} {h : Heap} (hv : F_impl_chooser_search R p0 x1 h) : CallsH P id_impl_chooser_search #[.pointer (some p0), .int .i64 x1] h R :=
  callsH_of_vc ctxOk ⟨[(7, [(46, .i .i64)])], [(4, []), (12, []), (14, [])]⟩ Try.func90 [.pointer (some p0), .int .i64 x1] h R (by kernel_rfl) (Eq.mpr (by kernel_rfl) hv)
/-- impl.choices -/
def F_impl_choices (R : Value → Heap → Prop) (v0 : Value) (x1 : Int) (x2 : Int) (x3 : Int) (h : Heap) : Prop :=
  ∃ J : Addr → Heap → Prop, (
    (
      vLen v0 fun n17 =>
      vMake 8 [.int .i64 0] t_int64 (n17 : Int) (n17 : Int) h fun v18 h_2 =>
      vLen v0 fun n20 =>
      vMake 8 [.int .i64 0] t_int64 (n20 : Int) (n20 : Int) h_2 fun v21 h_3 =>
      vOne v0 <|
      vOne v18 <|
      vOne v21 <|
      vNew h_3 (.cells #[.int .i64 x3, .bool false, v0, .int .i64 x1, .int .i64 x2, v18, v21, (.slice none 0 0), .int .i64 0, (.slice none 0 0)] t_impl_chooser) fun p23 h_4 =>
      J p23 h_4
    ) ∧
    (
      vLen v0 fun n20_2 =>
      vMake 8 [.int .i64 0] t_int64 (n20_2 : Int) (n20_2 : Int) h fun v21_2 h_5 =>
      vLen v0 fun n17_2 =>
      vMake 8 [.int .i64 0] t_int64 (n17_2 : Int) (n17_2 : Int) h_5 fun v18_2 h_6 =>
      vOne v0 <|
      vOne v18_2 <|
      vOne v21_2 <|
      vNew h_6 (.cells #[.int .i64 x3, .bool false, v0, .int .i64 x1, .int .i64 x2, v18_2, v21_2, (.slice none 0 0), .int .i64 0, (.slice none 0 0)] t_impl_chooser) fun p23_2 h_7 =>
      J p23_2 h_7
    )
  ) ∧ ∀ (_ : Env) (p9 : Addr) (h_8 : Heap), J p9 h_8 →
  vIdx v0 0 1 fun p25 =>
  ldV h_8 p25 fun v26 =>
  vLen v26 fun n27 =>
  ∃ J_2 : Nat → Int → Heap → Prop, (∃ n_2, J_2 n_2 0 h_8) ∧ ∀ (n : Nat) (_ : Env) (x28 : Int) (h_9 : Heap), J_2 n x28 h_9 →
  bif decide ((x28 : Int) < (n27 : Int)) then
    ldV h_9 (p9.add 6) fun v35 =>
    CallsH P id_impl_chooser_change #[.pointer (some p9), v35, .int .i64 x28, .int .i64 1] h_9 fun r37 h_10 => r37 = .tuple #[] ∧
    ∃ m, m < n ∧ J_2 m (IntKind.i64.wrap (x28 + 1)) h_10
  else
    CallsH P id_impl_chooser_search #[.pointer (some p9), .int .i64 0] h_9 fun r40 h_11 => r40 = .tuple #[] ∧
    R (.pointer (some p9)) h_11
theorem w_impl_choices {R : Value → Heap → Prop} {v0 : Value} {x1 : Int} {x2 : Int} {x3 : Int} {h : Heap} (hv : F_impl_choices R v0 x1 x2 x3 h) : CallsH P id_impl_choices #[v0, .int .i64 x1, .int .i64 x2, .int .i64 x3] h R :=
  callsH_of_vc ctxOk ⟨[(3, [(28, .i .i64)])], [(2, [(9, .p)])]⟩ Try.func64 [v0, .int .i64 x1, .int .i64 x2, .int .i64 x3] h R (by kernel_rfl) (Eq.mpr (by kernel_rfl) hv)
/-- impl.CountChoices -/
def F_impl_CountChoices (R : Value → Heap → Prop) (v0 : Value) (x1 : Int) (x2 : Int) (x3 : Int) (h : Heap) : Prop :=
  CallsH P id_impl_isCounts #[v0] h fun r12 h_2 => ∃ (b12 : Bool), r12 = .bool b12 ∧
  bif !b12 then
    R (.tuple #[.int .i64 0, .int .i64 1]) h_2
  else
    ∃ J : Heap → Prop, (
      CallsH P id_impl_isBudget #[.int .i64 x3] h_2 fun r15 h_3 => ∃ (b15 : Bool), r15 = .bool b15 ∧
      bif !b15 then
        R (.tuple #[.int .i64 0, .int .i64 2]) h_3
      else
        CallsH P id_impl_isLambda #[.int .i64 x1] h_3 fun r19 h_4 => ∃ (b19 : Bool), r19 = .bool b19 ∧
        bif !b19 then
          R (.tuple #[.int .i64 0, .int .i64 2]) h_4
        else
          CallsH P id_impl_within #[.int .i64 x2, .int .i64 1, .int .i64 1000] h_4 fun r24 h_5 => ∃ (b24 : Bool), r24 = .bool b24 ∧
          bif !b24 then
            R (.tuple #[.int .i64 0, .int .i64 2]) h_5
          else
            J h_5
    ) ∧ ∀ (_ : Env) (h_6 : Heap), J h_6 →
    CallsH P id_impl_choices #[v0, .int .i64 x1, .int .i64 x2, .int .i64 x3] h_6 fun r31 h_7 => ∃ (p31 : Addr), r31 = .pointer (some p31) ∧
    ldB h_7 (p31.add 1) fun b36 =>
    bif b36 then
      R (.tuple #[.int .i64 0, .int .i64 5]) h_7
    else
      ldI .i64 h_7 (p31.add 8) fun x40 =>
      R (.tuple #[.int .i64 x40, .int .i64 0]) h_7
theorem w_impl_CountChoices {R : Value → Heap → Prop} {v0 : Value} {x1 : Int} {x2 : Int} {x3 : Int} {h : Heap} (hv : F_impl_CountChoices R v0 x1 x2 x3 h) : CallsH P id_impl_CountChoices #[v0, .int .i64 x1, .int .i64 x2, .int .i64 x3] h R :=
  callsH_of_vc ctxOk ⟨[], [(5, [])]⟩ Try.func30 [v0, .int .i64 x1, .int .i64 x2, .int .i64 x3] h R (by kernel_rfl) (Eq.mpr (by kernel_rfl) hv)
/-- laws.FnExactCountChoices -/
def F_laws_FnExactCountChoices (R : Value → Heap → Prop) (v0 : Value) (x1 : Int) (x2 : Int) (x3 : Int) (h : Heap) : Prop :=
  CallsH P id_laws_szInt64SS #[v0, .int .i64 1048576] h fun r17 h_2 => ∃ (x17 : Int), r17 = .int .i64 x17 ∧
  bif decide ((x17 : Int) < 0) then
    R (.bool true) h_2
  else
    CallsH P id_laws_toInt64SS #[v0] h_2 fun r22 h_3 => ∃ (v22 : Value), r22 = v22 ∧
    CallsH P id_spec_CountChoices #[v22, .int .i64 x1, .int .i64 x2, .int .i64 x3] h_3 fun r26 h_4 => ∃ (x26_0 : Int), ∃ (x26_1 : Int), r26 = .tuple #[.int .i64 x26_0, .int .i64 x26_1] ∧
    CallsH P id_laws_toInt64SS #[v0] h_4 fun r30 h_5 => ∃ (v30 : Value), r30 = v30 ∧
    CallsH P id_impl_CountChoices #[v30, .int .i64 x1, .int .i64 x2, .int .i64 x3] h_5 fun r36 h_6 => ∃ (x36_0 : Int), ∃ (x36_1 : Int), r36 = .tuple #[.int .i64 x36_0, .int .i64 x36_1] ∧
    ∃ J : Heap → Prop, (
      bif (x36_0 : Int) != x26_0 then
        R (.bool false) h_6
      else
        bif (x36_1 : Int) != x26_1 then
          R (.bool false) h_6
        else
          J h_6
    ) ∧ ∀ (_ : Env) (h_7 : Heap), J h_7 →
    CallsH P id_laws_toInt64SS #[v0] h_7 fun r49 h_8 => ∃ (v49 : Value), r49 = v49 ∧
    CallsH P id_laws_eqInt64SS #[v30, v49] h_8 fun r50 h_9 => ∃ (b50 : Bool), r50 = .bool b50 ∧
    bif !b50 then
      R (.bool false) h_9
    else
      R (.bool true) h_9
theorem w_laws_FnExactCountChoices {R : Value → Heap → Prop} {v0 : Value} {x1 : Int} {x2 : Int} {x3 : Int} {h : Heap} (hv : F_laws_FnExactCountChoices R v0 x1 x2 x3 h) : CallsH P id_laws_FnExactCountChoices #[v0, .int .i64 x1, .int .i64 x2, .int .i64 x3] h R :=
  callsH_of_vc ctxOk ⟨[], [(10, [])]⟩ Try.func7 [v0, .int .i64 x1, .int .i64 x2, .int .i64 x3] h R (by kernel_rfl) (Eq.mpr (by kernel_rfl) hv)
/-- spec.l26First -/
def F_spec_l26First (R : Value → Heap → Prop) (v0 : Value) (x1 : Int) (x2 : Int) (h : Heap) : Prop :=
  CallsH P id_spec_l26Search #[v0, .int .i64 x1, .int .i64 1, .int .i64 x2] h fun r12 h_2 => ∃ (p12 : Addr), r12 = .pointer (some p12) ∧
  ldI .i64 h_2 (p12.add 5) fun x16 =>
  bif decide ((x16 : Int) > 0) then
    ldV h_2 (p12.add 4) fun v21 =>
    R (.tuple #[v21, .int .i64 0]) h_2
  else
    ldB h_2 (p12.add 9) fun b25 =>
    bif b25 then
      R (.tuple #[(.slice none 0 0), .int .i64 5]) h_2
    else
      R (.tuple #[(.slice none 0 0), .int .i64 3]) h_2
theorem w_spec_l26First {R : Value → Heap → Prop} {v0 : Value} {x1 : Int} {x2 : Int} {h : Heap} (hv : F_spec_l26First R v0 x1 x2 h) : CallsH P id_spec_l26First #[v0, .int .i64 x1, .int .i64 x2] h R :=
  callsH_of_vc ctxOk ⟨[], []⟩ Try.func65 [v0, .int .i64 x1, .int .i64 x2] h R (by kernel_rfl) (Eq.mpr (by kernel_rfl) hv)
/-- spec.ChooseOrbits -/
def F_spec_ChooseOrbits (R : Value → Heap → Prop) (v0 : Value) (x1 : Int) (x2 : Int) (h : Heap) : Prop :=
  CallsH P id_spec_l26Ok #[v0] h fun r9 h_2 => ∃ (b9 : Bool), r9 = .bool b9 ∧
  bif !b9 then
    R (.tuple #[(.slice none 0 0), .int .i64 1]) h_2
  else
    ∃ J : Heap → Prop, (
      CallsH P id_spec_l09Budget #[.int .i64 x2] h_2 fun r12 h_3 => ∃ (b12 : Bool), r12 = .bool b12 ∧
      bif !b12 then
        R (.tuple #[(.slice none 0 0), .int .i64 2]) h_3
      else
        CallsH P id_spec_l26Lambda #[.int .i64 x1] h_3 fun r16 h_4 => ∃ (b16 : Bool), r16 = .bool b16 ∧
        bif !b16 then
          R (.tuple #[(.slice none 0 0), .int .i64 2]) h_4
        else
          J h_4
    ) ∧ ∀ (_ : Env) (h_5 : Heap), J h_5 →
    CallsH P id_spec_l26First #[v0, .int .i64 x1, .int .i64 x2] h_5 fun r22 h_6 => ∃ (v22_0 : Value), ∃ (x22_1 : Int), r22 = .tuple #[v22_0, .int .i64 x22_1] ∧
    R (.tuple #[v22_0, .int .i64 x22_1]) h_6
theorem w_spec_ChooseOrbits {R : Value → Heap → Prop} {v0 : Value} {x1 : Int} {x2 : Int} {h : Heap} (hv : F_spec_ChooseOrbits R v0 x1 x2 h) : CallsH P id_spec_ChooseOrbits #[v0, .int .i64 x1, .int .i64 x2] h R :=
  callsH_of_vc ctxOk ⟨[], [(5, [])]⟩ Try.func32 [v0, .int .i64 x1, .int .i64 x2] h R (by kernel_rfl) (Eq.mpr (by kernel_rfl) hv)
/-- impl.ChooseOrbits -/
def F_impl_ChooseOrbits (R : Value → Heap → Prop) (v0 : Value) (x1 : Int) (x2 : Int) (h : Heap) : Prop :=
  CallsH P id_impl_isCounts #[v0] h fun r10 h_2 => ∃ (b10 : Bool), r10 = .bool b10 ∧
  bif !b10 then
    R (.tuple #[(.slice none 0 0), .int .i64 1]) h_2
  else
    ∃ J : Heap → Prop, (
      CallsH P id_impl_isBudget #[.int .i64 x2] h_2 fun r13 h_3 => ∃ (b13 : Bool), r13 = .bool b13 ∧
      bif !b13 then
        R (.tuple #[(.slice none 0 0), .int .i64 2]) h_3
      else
        CallsH P id_impl_isLambda #[.int .i64 x1] h_3 fun r17 h_4 => ∃ (b17 : Bool), r17 = .bool b17 ∧
        bif !b17 then
          R (.tuple #[(.slice none 0 0), .int .i64 2]) h_4
        else
          J h_4
    ) ∧ ∀ (_ : Env) (h_5 : Heap), J h_5 →
    CallsH P id_impl_choices #[v0, .int .i64 x1, .int .i64 1, .int .i64 x2] h_5 fun r23 h_6 => ∃ (p23 : Addr), r23 = .pointer (some p23) ∧
    ldB h_6 (p23.add 1) fun b33 =>
    bif b33 then
      R (.tuple #[(.slice none 0 0), .int .i64 5]) h_6
    else
      ldI .i64 h_6 (p23.add 8) fun x38 =>
      bif (x38 : Int) == 0 then
        R (.tuple #[(.slice none 0 0), .int .i64 3]) h_6
      else
        ldV h_6 (p23.add 9) fun v27 =>
        R (.tuple #[v27, .int .i64 0]) h_6
theorem w_impl_ChooseOrbits {R : Value → Heap → Prop} {v0 : Value} {x1 : Int} {x2 : Int} {h : Heap} (hv : F_impl_ChooseOrbits R v0 x1 x2 h) : CallsH P id_impl_ChooseOrbits #[v0, .int .i64 x1, .int .i64 x2] h R :=
  callsH_of_vc ctxOk ⟨[], [(5, [])]⟩ Try.func33 [v0, .int .i64 x1, .int .i64 x2] h R (by kernel_rfl) (Eq.mpr (by kernel_rfl) hv)
/-- laws.markInt64SS -/
def F_laws_markInt64SS (R : Value → Heap → Prop) (v0 : Value) (x1 : Int) (h : Heap) : Prop :=
  ∃ J : Nat → Int → Int → Heap → Prop, (∃ n_2, J n_2 x1 0 h) ∧ ∀ (n : Nat) (_ : Env) (x1_2 : Int) (x5 : Int) (h_2 : Heap), J n x1_2 x5 h_2 →
  vLen v0 fun n8 =>
  bif decide ((x5 : Int) < (n8 : Int)) then
    vIdx v0 x5 1 fun p14 =>
    ldV h_2 p14 fun v15 =>
    CallsH P id_laws_markInt64S #[v15, .int .i64 x1_2] h_2 fun r17 h_3 => ∃ (x17 : Int), r17 = .int .i64 x17 ∧
    ∃ m, m < n ∧ J m x17 (IntKind.i64.wrap (x5 + 1)) h_3
  else
    R (.int .i64 x1_2) h_2
theorem w_laws_markInt64SS {R : Value → Heap → Prop} {v0 : Value} {x1 : Int} {h : Heap} (hv : F_laws_markInt64SS R v0 x1 h) : CallsH P id_laws_markInt64SS #[v0, .int .i64 x1] h R :=
  callsH_of_vc ctxOk ⟨[(2, [(1, .i .i64), (5, .i .i64)])], []⟩ Try.func34 [v0, .int .i64 x1] h R (by kernel_rfl) (Eq.mpr (by kernel_rfl) hv)
/-- laws.FnExactChooseOrbits -/
def F_laws_FnExactChooseOrbits (R : Value → Heap → Prop) (v0 : Value) (x1 : Int) (x2 : Int) (h : Heap) : Prop :=
  CallsH P id_laws_szInt64SS #[v0, .int .i64 1048576] h fun r20 h_2 => ∃ (x20 : Int), r20 = .int .i64 x20 ∧
  bif decide ((x20 : Int) < 0) then
    R (.bool true) h_2
  else
    CallsH P id_laws_toInt64SS #[v0] h_2 fun r25 h_3 => ∃ (v25 : Value), r25 = v25 ∧
    CallsH P id_spec_ChooseOrbits #[v25, .int .i64 x1, .int .i64 x2] h_3 fun r28 h_4 => ∃ (v28_0 : Value), ∃ (x28_1 : Int), r28 = .tuple #[v28_0, .int .i64 x28_1] ∧
    CallsH P id_laws_toInt64SS #[v0] h_4 fun r32 h_5 => ∃ (v32 : Value), r32 = v32 ∧
    CallsH P id_impl_ChooseOrbits #[v32, .int .i64 x1, .int .i64 x2] h_5 fun r37 h_6 => ∃ (v37_0 : Value), ∃ (x37_1 : Int), r37 = .tuple #[v37_0, .int .i64 x37_1] ∧
    ∃ J : Heap → Prop, (
      CallsH P id_laws_eqInt64S #[v37_0, v28_0] h_6 fun r42 h_7 => ∃ (b42 : Bool), r42 = .bool b42 ∧
      bif !b42 then
        R (.bool false) h_7
      else
        bif (x37_1 : Int) != x28_1 then
          R (.bool false) h_7
        else
          J h_7
    ) ∧ ∀ (_ : Env) (h_8 : Heap), J h_8 →
    CallsH P id_laws_toInt64SS #[v0] h_8 fun r51 h_9 => ∃ (v51 : Value), r51 = v51 ∧
    CallsH P id_laws_eqInt64SS #[v32, v51] h_9 fun r52 h_10 => ∃ (b52 : Bool), r52 = .bool b52 ∧
    bif !b52 then
      R (.bool false) h_10
    else
      CallsH P id_laws_markInt64SS #[v32, .int .i64 1] h_10 fun r56 h_11 => ∃ (x56 : Int), r56 = .int .i64 x56 ∧
      ∃ J_2 : Heap → Prop, (
        bif decide ((x56 : Int) < 0) then
          R (.bool false) h_11
        else
          CallsH P id_laws_eqInt64S #[v37_0, v28_0] h_11 fun r62 h_12 => ∃ (b62 : Bool), r62 = .bool b62 ∧
          bif !b62 then
            R (.bool false) h_12
          else
            bif (x37_1 : Int) != x28_1 then
              R (.bool false) h_12
            else
              J_2 h_12
      ) ∧ ∀ (_ : Env) (h_13 : Heap), J_2 h_13 →
      CallsH P id_laws_markInt64S #[v37_0, .int .i64 1] h_13 fun r72 h_14 => ∃ (x72 : Int), r72 = .int .i64 x72 ∧
      CallsH P id_laws_heldInt64S #[v37_0, .int .i64 1] h_14 fun r75 h_15 => ∃ (x75 : Int), r75 = .int .i64 x75 ∧
      bif decide ((x75 : Int) < 0) then
        R (.bool false) h_15
      else
        bif (x75 : Int) != x72 then
          R (.bool false) h_15
        else
          CallsH P id_laws_toInt64SS #[v0] h_15 fun r83 h_16 => ∃ (v83 : Value), r83 = v83 ∧
          CallsH P id_impl_ChooseOrbits #[v83, .int .i64 x1, .int .i64 x2] h_16 fun r86 h_17 => ∃ (v86_0 : Value), ∃ (x86_1 : Int), r86 = .tuple #[v86_0, .int .i64 x86_1] ∧
          ∃ J_3 : Heap → Prop, (
            CallsH P id_laws_eqInt64S #[v86_0, v28_0] h_17 fun r91 h_18 => ∃ (b91 : Bool), r91 = .bool b91 ∧
            bif !b91 then
              R (.bool false) h_18
            else
              bif (x86_1 : Int) != x28_1 then
                R (.bool false) h_18
              else
                J_3 h_18
          ) ∧ ∀ (_ : Env) (h_19 : Heap), J_3 h_19 →
          CallsH P id_laws_heldInt64S #[v37_0, .int .i64 1] h_19 fun r100 h_20 => ∃ (x100 : Int), r100 = .int .i64 x100 ∧
          bif decide ((x100 : Int) < 0) then
            R (.bool false) h_20
          else
            bif (x100 : Int) != x72 then
              R (.bool false) h_20
            else
              R (.bool true) h_20
theorem w_laws_FnExactChooseOrbits {R : Value → Heap → Prop} {v0 : Value} {x1 : Int} {x2 : Int} {h : Heap} (hv : F_laws_FnExactChooseOrbits R v0 x1 x2 h) : CallsH P id_laws_FnExactChooseOrbits #[v0, .int .i64 x1, .int .i64 x2] h R :=
  callsH_of_vc ctxOk ⟨[], [(10, []), (16, []), (27, [])]⟩ Try.func8 [v0, .int .i64 x1, .int .i64 x2] h R (by kernel_rfl) (Eq.mpr (by kernel_rfl) hv)
/-- laws.szStringS -/
def F_laws_szStringS (R : Value → Heap → Prop) (v0 : Value) (x1 : Int) (h : Heap) : Prop :=
  vLen v0 fun n8 =>
  bif decide ((IntKind.i64.wrap (x1 - (n8 : Int)) : Int) < 0) then
    R (.int .i64 (-1)) h
  else
    ∃ J : Nat → Int → Int → Heap → Prop, (∃ n_2, J n_2 (IntKind.i64.wrap (x1 - (n8 : Int))) 0 h) ∧ ∀ (n : Nat) (_ : Env) (x1_2 : Int) (x5 : Int) (h_2 : Heap), J n x1_2 x5 h_2 →
    vLen v0 fun n14 =>
    bif decide ((x5 : Int) < (n14 : Int)) then
      vIdx v0 x5 1 fun p21 =>
      ldS h_2 p21 fun s22 =>
      bif decide ((IntKind.i64.wrap (x1_2 - (s22.size : Int)) : Int) < 0) then
        R (.int .i64 (-1)) h_2
      else
        ∃ m, m < n ∧ J m (IntKind.i64.wrap (x1_2 - (s22.size : Int))) (IntKind.i64.wrap (x5 + 1)) h_2
    else
      R (.int .i64 x1_2) h_2
theorem w_laws_szStringS {R : Value → Heap → Prop} {v0 : Value} {x1 : Int} {h : Heap} (hv : F_laws_szStringS R v0 x1 h) : CallsH P id_laws_szStringS #[v0, .int .i64 x1] h R :=
  callsH_of_vc ctxOk ⟨[(5, [(1, .i .i64), (5, .i .i64)])], []⟩ Try.func109 [v0, .int .i64 x1] h R (by kernel_rfl) (Eq.mpr (by kernel_rfl) hv)
/-- laws.szRecipe -/
def F_laws_szRecipe (R : Value → Heap → Prop) (s0_0 : ByteArray) (s0_1 : ByteArray) (v0_2 : Value) (v0_3 : Value) (x1 : Int) (h : Heap) : Prop :=
  vNew h (.cells #[.string s0_0, .string s0_1, v0_2, v0_3] t_laws_Recipe) fun p2 h_2 =>
  ldS h_2 p2 fun s7 =>
  bif decide ((IntKind.i64.wrap (x1 - (s7.size : Int)) : Int) < 0) then
    R (.int .i64 (-1)) h_2
  else
    ldS h_2 (p2.add 1) fun s14 =>
    bif decide ((IntKind.i64.wrap ((IntKind.i64.wrap (x1 - (s7.size : Int))) - (s14.size : Int)) : Int) < 0) then
      R (.int .i64 (-1)) h_2
    else
      ldV h_2 (p2.add 2) fun v20 =>
      CallsH P id_laws_szInt64S #[v20, .int .i64 (IntKind.i64.wrap ((IntKind.i64.wrap (x1 - (s7.size : Int))) - (s14.size : Int)))] h_2 fun r22 h_3 => ∃ (x22 : Int), r22 = .int .i64 x22 ∧
      bif decide ((x22 : Int) < 0) then
        R (.int .i64 (-1)) h_3
      else
        ldV h_3 (p2.add 3) fun v26 =>
        CallsH P id_laws_szStringS #[v26, .int .i64 x22] h_3 fun r28 h_4 => ∃ (x28 : Int), r28 = .int .i64 x28 ∧
        bif decide ((x28 : Int) < 0) then
          R (.int .i64 (-1)) h_4
        else
          R (.int .i64 x28) h_4
theorem w_laws_szRecipe {R : Value → Heap → Prop} {s0_0 : ByteArray} {s0_1 : ByteArray} {v0_2 : Value} {v0_3 : Value} {x1 : Int} {h : Heap} (hv : F_laws_szRecipe R s0_0 s0_1 v0_2 v0_3 x1 h) : CallsH P id_laws_szRecipe #[.agg #[.string s0_0, .string s0_1, v0_2, v0_3], .int .i64 x1] h R :=
  callsH_of_vc ctxOk ⟨[], []⟩ Try.func91 [.agg #[.string s0_0, .string s0_1, v0_2, v0_3], .int .i64 x1] h R (by kernel_rfl) (Eq.mpr (by kernel_rfl) hv)
/-- laws.szRecipeS -/
def F_laws_szRecipeS (R : Value → Heap → Prop) (v0 : Value) (x1 : Int) (h : Heap) : Prop :=
  vLen v0 fun n8 =>
  bif decide ((IntKind.i64.wrap (x1 - (n8 : Int)) : Int) < 0) then
    R (.int .i64 (-1)) h
  else
    ∃ J : Nat → Int → Int → Heap → Prop, (∃ n_2, J n_2 (IntKind.i64.wrap (x1 - (n8 : Int))) 0 h) ∧ ∀ (n : Nat) (_ : Env) (x1_2 : Int) (x5 : Int) (h_2 : Heap), J n x1_2 x5 h_2 →
    vLen v0 fun n14 =>
    bif decide ((x5 : Int) < (n14 : Int)) then
      vIdx v0 x5 4 fun p20 =>
      ldS h_2 p20 fun s21_0 =>
      ldS h_2 (p20.add 1) fun s21_1 =>
      ldV h_2 (p20.add 2) fun v21_2 =>
      ldV h_2 (p20.add 3) fun v21_3 =>
      CallsH P id_laws_szRecipe #[.agg #[.string s21_0, .string s21_1, v21_2, v21_3], .int .i64 x1_2] h_2 fun r23 h_3 => ∃ (x23 : Int), r23 = .int .i64 x23 ∧
      bif decide ((x23 : Int) < 0) then
        R (.int .i64 (-1)) h_3
      else
        ∃ m, m < n ∧ J m x23 (IntKind.i64.wrap (x5 + 1)) h_3
    else
      R (.int .i64 x1_2) h_2
theorem w_laws_szRecipeS {R : Value → Heap → Prop} {v0 : Value} {x1 : Int} {h : Heap} (hv : F_laws_szRecipeS R v0 x1 h) : CallsH P id_laws_szRecipeS #[v0, .int .i64 x1] h R :=
  callsH_of_vc ctxOk ⟨[(5, [(1, .i .i64), (5, .i .i64)])], []⟩ Try.func66 [v0, .int .i64 x1] h R (by kernel_rfl) (Eq.mpr (by kernel_rfl) hv)
/-- laws.szObjectS -/
def F_laws_szObjectS (R : Value → Heap → Prop) (v0 : Value) (x1 : Int) (h : Heap) : Prop :=
  vLen v0 fun n8 =>
  bif decide ((IntKind.i64.wrap (x1 - (n8 : Int)) : Int) < 0) then
    R (.int .i64 (-1)) h
  else
    ∃ J : Nat → Int → Int → Heap → Prop, (∃ n_2, J n_2 (IntKind.i64.wrap (x1 - (n8 : Int))) 0 h) ∧ ∀ (n : Nat) (_ : Env) (x1_2 : Int) (x5 : Int) (h_2 : Heap), J n x1_2 x5 h_2 →
    vLen v0 fun n14 =>
    bif decide ((x5 : Int) < (n14 : Int)) then
      vIdx v0 x5 3 fun p20 =>
      ldI .i64 h_2 p20 fun x21_0 =>
      ldI .i64 h_2 (p20.add 1) fun x21_1 =>
      ldV h_2 (p20.add 2) fun v21_2 =>
      CallsH P id_laws_szObject #[.agg #[.int .i64 x21_0, .int .i64 x21_1, v21_2], .int .i64 x1_2] h_2 fun r23 h_3 => ∃ (x23 : Int), r23 = .int .i64 x23 ∧
      bif decide ((x23 : Int) < 0) then
        R (.int .i64 (-1)) h_3
      else
        ∃ m, m < n ∧ J m x23 (IntKind.i64.wrap (x5 + 1)) h_3
    else
      R (.int .i64 x1_2) h_2
theorem w_laws_szObjectS {R : Value → Heap → Prop} {v0 : Value} {x1 : Int} {h : Heap} (hv : F_laws_szObjectS R v0 x1 h) : CallsH P id_laws_szObjectS #[v0, .int .i64 x1] h R :=
  callsH_of_vc ctxOk ⟨[(5, [(1, .i .i64), (5, .i .i64)])], []⟩ Try.func67 [v0, .int .i64 x1] h R (by kernel_rfl) (Eq.mpr (by kernel_rfl) hv)
/-- laws.szLab -/
def F_laws_szLab (R : Value → Heap → Prop) (v0_0 : Value) (v0_1 : Value) (x1 : Int) (h : Heap) : Prop :=
  vNew h (.cells #[v0_0, v0_1] t_laws_Lab) fun p2 h_2 =>
  ldV h_2 p2 fun v6 =>
  CallsH P id_laws_szRecipeS #[v6, .int .i64 x1] h_2 fun r8 h_3 => ∃ (x8 : Int), r8 = .int .i64 x8 ∧
  bif decide ((x8 : Int) < 0) then
    R (.int .i64 (-1)) h_3
  else
    ldV h_3 (p2.add 1) fun v12 =>
    CallsH P id_laws_szObjectS #[v12, .int .i64 x8] h_3 fun r14 h_4 => ∃ (x14 : Int), r14 = .int .i64 x14 ∧
    bif decide ((x14 : Int) < 0) then
      R (.int .i64 (-1)) h_4
    else
      R (.int .i64 x14) h_4
theorem w_laws_szLab {R : Value → Heap → Prop} {v0_0 : Value} {v0_1 : Value} {x1 : Int} {h : Heap} (hv : F_laws_szLab R v0_0 v0_1 x1 h) : CallsH P id_laws_szLab #[.agg #[v0_0, v0_1], .int .i64 x1] h R :=
  callsH_of_vc ctxOk ⟨[], []⟩ Try.func35 [.agg #[v0_0, v0_1], .int .i64 x1] h R (by kernel_rfl) (Eq.mpr (by kernel_rfl) hv)
/-- spec.l32Words -/
def F_spec_l32Words (R : Value → Heap → Prop) (v0 : Value) (v1 : Value) (h : Heap) : Prop :=
  vLen v0 fun n7 =>
  vLen v1 fun n9 =>
  bif ((n7 : Int) : Int) != (n9 : Int) then
    R (.bool false) h
  else
    ∃ J : Nat → Int → Heap → Prop, (∃ n_2, J n_2 0 h) ∧ ∀ (n : Nat) (_ : Env) (x5 : Int) (h_2 : Heap), J n x5 h_2 →
    vLen v0 fun n13 =>
    bif decide ((x5 : Int) < (n13 : Int)) then
      vIdx v0 x5 1 fun p19 =>
      ldS h_2 p19 fun s20 =>
      vIdx v1 x5 1 fun p23 =>
      ldS h_2 p23 fun s24 =>
      bif !(s20.toList == s24.toList) then
        R (.bool false) h_2
      else
        ∃ m, m < n ∧ J m (IntKind.i64.wrap (x5 + 1)) h_2
    else
      R (.bool true) h_2
theorem w_spec_l32Words {R : Value → Heap → Prop} {v0 : Value} {v1 : Value} {h : Heap} (hv : F_spec_l32Words R v0 v1 h) : CallsH P id_spec_l32Words #[v0, v1] h R :=
  callsH_of_vc ctxOk ⟨[(4, [(5, .i .i64)])], []⟩ Try.func69 [v0, v1] h R (by kernel_rfl) (Eq.mpr (by kernel_rfl) hv)
/-- spec.SameLab -/
def F_spec_SameLab (R : Value → Heap → Prop) (v0_0 : Value) (v0_1 : Value) (v1_0 : Value) (v1_1 : Value) (h : Heap) : Prop :=
  vNew h (.cells #[v0_0, v0_1] t_impl_Lab) fun p2 h_2 =>
  vNew h_2 (.cells #[v1_0, v1_1] t_impl_Lab) fun p3 h_3 =>
  ∃ J : Heap → Prop, (
    ldV h_3 p2 fun v10 =>
    vLen v10 fun n11 =>
    ldV h_3 p3 fun v13 =>
    vLen v13 fun n14 =>
    bif ((n11 : Int) : Int) != (n14 : Int) then
      R (.bool false) h_3
    else
      ldV h_3 (p2.add 1) fun v18 =>
      vLen v18 fun n19 =>
      ldV h_3 (p3.add 1) fun v21 =>
      vLen v21 fun n22 =>
      bif ((n19 : Int) : Int) != (n22 : Int) then
        R (.bool false) h_3
      else
        J h_3
  ) ∧ ∀ (_ : Env) (h_4 : Heap), J h_4 →
  ∃ J_2 : Nat → Int → Heap → Prop, (∃ n_2, J_2 n_2 0 h_4) ∧ ∀ (n : Nat) (_ : Env) (x5 : Int) (h_5 : Heap), J_2 n x5 h_5 →
  ldV h_5 p2 fun v27 =>
  vLen v27 fun n28 =>
  bif decide ((x5 : Int) < (n28 : Int)) then
    ldV h_5 p2 fun v33 =>
    vIdx v33 x5 4 fun p35 =>
    ldS h_5 p35 fun s36_0 =>
    ldS h_5 (p35.add 1) fun s36_1 =>
    ldV h_5 (p35.add 2) fun v36_2 =>
    ldV h_5 (p35.add 3) fun v36_3 =>
    vNew h_5 (.cells #[.string ⟨#[]⟩, .string ⟨#[]⟩, .slice none 0 0, .slice none 0 0] t_impl_Recipe) fun p6 h_6 =>
    vStore1 h_6 p6 (.string s36_0) fun h_7 =>
    vStore1 h_7 (p6.add 1) (.string s36_1) fun h_8 =>
    vStore1 h_8 (p6.add 2) v36_2 fun h_9 =>
    vStore1 h_9 (p6.add 3) v36_3 fun h_10 =>
    ldV h_10 p3 fun v38 =>
    vIdx v38 x5 4 fun p40 =>
    ldS h_10 p40 fun s41_0 =>
    ldS h_10 (p40.add 1) fun s41_1 =>
    ldV h_10 (p40.add 2) fun v41_2 =>
    ldV h_10 (p40.add 3) fun v41_3 =>
    vNew h_10 (.cells #[.string ⟨#[]⟩, .string ⟨#[]⟩, .slice none 0 0, .slice none 0 0] t_impl_Recipe) fun p7 h_11 =>
    vStore1 h_11 p7 (.string s41_0) fun h_12 =>
    vStore1 h_12 (p7.add 1) (.string s41_1) fun h_13 =>
    vStore1 h_13 (p7.add 2) v41_2 fun h_14 =>
    vStore1 h_14 (p7.add 3) v41_3 fun h_15 =>
    ldS h_15 p6 fun s43 =>
    ldS h_15 p7 fun s45 =>
    bif !(s43.toList == s45.toList) then
      R (.bool false) h_15
    else
      ldS h_15 (p6.add 1) fun s49 =>
      ldS h_15 (p7.add 1) fun s51 =>
      bif !(s49.toList == s51.toList) then
        R (.bool false) h_15
      else
        ldV h_15 (p6.add 2) fun v56 =>
        ldV h_15 (p7.add 2) fun v58 =>
        CallsH P id_spec_l00Same #[v56, v58] h_15 fun r59 h_16 => ∃ (b59 : Bool), r59 = .bool b59 ∧
        bif !b59 then
          R (.bool false) h_16
        else
          ldV h_16 (p6.add 3) fun v64 =>
          ldV h_16 (p7.add 3) fun v66 =>
          CallsH P id_spec_l32Words #[v64, v66] h_16 fun r67 h_17 => ∃ (b67 : Bool), r67 = .bool b67 ∧
          bif !b67 then
            R (.bool false) h_17
          else
            ∃ m, m < n ∧ J_2 m (IntKind.i64.wrap (x5 + 1)) h_17
  else
    ∃ J_3 : Nat → Int → Heap → Prop, (∃ n_4, J_3 n_4 0 h_5) ∧ ∀ (n_3 : Nat) (_ : Env) (x8 : Int) (h_18 : Heap), J_3 n_3 x8 h_18 →
    ldV h_18 (p2.add 1) fun v72 =>
    vLen v72 fun n73 =>
    bif decide ((x8 : Int) < (n73 : Int)) then
      ldV h_18 (p2.add 1) fun v78 =>
      vIdx v78 x8 3 fun p80 =>
      ldI .i64 h_18 p80 fun x81_0 =>
      ldI .i64 h_18 (p80.add 1) fun x81_1 =>
      ldV h_18 (p80.add 2) fun v81_2 =>
      ldV h_18 (p3.add 1) fun v83 =>
      vIdx v83 x8 3 fun p85 =>
      ldI .i64 h_18 p85 fun x86_0 =>
      ldI .i64 h_18 (p85.add 1) fun x86_1 =>
      ldV h_18 (p85.add 2) fun v86_2 =>
      CallsH P id_spec_SameObject #[.agg #[.int .i64 x81_0, .int .i64 x81_1, v81_2], .agg #[.int .i64 x86_0, .int .i64 x86_1, v86_2]] h_18 fun r87 h_19 => ∃ (b87 : Bool), r87 = .bool b87 ∧
      bif !b87 then
        R (.bool false) h_19
      else
        ∃ m_2, m_2 < n_3 ∧ J_3 m_2 (IntKind.i64.wrap (x8 + 1)) h_19
    else
      R (.bool true) h_18
theorem w_spec_SameLab {R : Value → Heap → Prop} {v0_0 : Value} {v0_1 : Value} {v1_0 : Value} {v1_1 : Value} {h : Heap} (hv : F_spec_SameLab R v0_0 v0_1 v1_0 v1_1 h) : CallsH P id_spec_SameLab #[.agg #[v0_0, v0_1], .agg #[v1_0, v1_1]] h R :=
  callsH_of_vc ctxOk ⟨[(4, [(5, .i .i64)]), (11, [(8, .i .i64)])], [(3, [])]⟩ Try.func36 [.agg #[v0_0, v0_1], .agg #[v1_0, v1_1]] h R (by kernel_rfl) (Eq.mpr (by kernel_rfl) hv)
/-- laws.toStringS -/
def F_laws_toStringS (R : Value → Heap → Prop) (v0 : Value) (h : Heap) : Prop :=
  vLen v0 fun n6 =>
  vMake 16 [.string ⟨#[]⟩] t_string (n6 : Int) (n6 : Int) h fun v7 h_2 =>
  ∃ J : Nat → Int → Heap → Prop, (∃ n_2, J n_2 0 h_2) ∧ ∀ (n : Nat) (_ : Env) (x4 : Int) (h_3 : Heap), J n x4 h_3 →
  vLen v0 fun n10 =>
  bif decide ((x4 : Int) < (n10 : Int)) then
    vIdx v0 x4 1 fun p18 =>
    ldS h_3 p18 fun s19 =>
    vIdx v7 x4 1 fun p20 =>
    vStore1 h_3 p20 (.string s19) fun h_4 =>
    ∃ m, m < n ∧ J m (IntKind.i64.wrap (x4 + 1)) h_4
  else
    R v7 h_3
theorem w_laws_toStringS {R : Value → Heap → Prop} {v0 : Value} {h : Heap} (hv : F_laws_toStringS R v0 h) : CallsH P id_laws_toStringS #[v0] h R :=
  callsH_of_vc ctxOk ⟨[(3, [(4, .i .i64)])], []⟩ Try.func110 [v0] h R (by kernel_rfl) (Eq.mpr (by kernel_rfl) hv)
/-- laws.toRecipe -/
def F_laws_toRecipe (R : Value → Heap → Prop) (s0_0 : ByteArray) (s0_1 : ByteArray) (v0_2 : Value) (v0_3 : Value) (h : Heap) : Prop :=
  vNew h (.cells #[.string s0_0, .string s0_1, v0_2, v0_3] t_laws_Recipe) fun p1 h_2 =>
  vNew h_2 (.cells #[.string ⟨#[]⟩, .string ⟨#[]⟩, .slice none 0 0, .slice none 0 0] t_impl_Recipe) fun p2 h_3 =>
  vNew h_3 (.cells #[.string ⟨#[]⟩, .string ⟨#[]⟩, .slice none 0 0, .slice none 0 0] t_impl_Recipe) fun p3 h_4 =>
  ldS h_4 p1 fun s5 =>
  vStore1 h_4 p3 (.string s5) fun h_5 =>
  ldS h_5 (p1.add 1) fun s8 =>
  vStore1 h_5 (p3.add 1) (.string s8) fun h_6 =>
  ldV h_6 (p1.add 2) fun v11 =>
  CallsH P id_laws_toInt64S #[v11] h_6 fun r12 h_7 => ∃ (v12 : Value), r12 = v12 ∧
  vStore1 h_7 (p3.add 2) v12 fun h_8 =>
  ldV h_8 (p1.add 3) fun v15 =>
  CallsH P id_laws_toStringS #[v15] h_8 fun r16 h_9 => ∃ (v16 : Value), r16 = v16 ∧
  vStore1 h_9 (p3.add 3) v16 fun h_10 =>
  ldS h_10 p3 fun s18_0 =>
  ldS h_10 (p3.add 1) fun s18_1 =>
  ldV h_10 (p3.add 2) fun v18_2 =>
  ldV h_10 (p3.add 3) fun v18_3 =>
  vStore1 h_10 p2 (.string s18_0) fun h_11 =>
  vStore1 h_11 (p2.add 1) (.string s18_1) fun h_12 =>
  vStore1 h_12 (p2.add 2) v18_2 fun h_13 =>
  vStore1 h_13 (p2.add 3) v18_3 fun h_14 =>
  ldS h_14 p2 fun sres0_0 =>
  ldS h_14 (p2.add 1) fun sres0_1 =>
  ldV h_14 (p2.add 2) fun vres0_2 =>
  ldV h_14 (p2.add 3) fun vres0_3 =>
  R (.agg #[.string sres0_0, .string sres0_1, vres0_2, vres0_3]) h_14
theorem w_laws_toRecipe {R : Value → Heap → Prop} {s0_0 : ByteArray} {s0_1 : ByteArray} {v0_2 : Value} {v0_3 : Value} {h : Heap} (hv : F_laws_toRecipe R s0_0 s0_1 v0_2 v0_3 h) : CallsH P id_laws_toRecipe #[.agg #[.string s0_0, .string s0_1, v0_2, v0_3]] h R :=
  callsH_of_vc ctxOk ⟨[], []⟩ Try.func94 [.agg #[.string s0_0, .string s0_1, v0_2, v0_3]] h R (by kernel_rfl) (Eq.mpr (by kernel_rfl) hv)
/-- laws.toRecipeS -/
def F_laws_toRecipeS (R : Value → Heap → Prop) (v0 : Value) (h : Heap) : Prop :=
  vLen v0 fun n6 =>
  vMake 80 [.string ⟨#[]⟩, .string ⟨#[]⟩, .slice none 0 0, .slice none 0 0] t_impl_Recipe (n6 : Int) (n6 : Int) h fun v7 h_2 =>
  ∃ J : Nat → Int → Heap → Prop, (∃ n_2, J n_2 0 h_2) ∧ ∀ (n : Nat) (_ : Env) (x4 : Int) (h_3 : Heap), J n x4 h_3 →
  vLen v0 fun n10 =>
  bif decide ((x4 : Int) < (n10 : Int)) then
    vIdx v0 x4 4 fun p18 =>
    ldS h_3 p18 fun s19_0 =>
    ldS h_3 (p18.add 1) fun s19_1 =>
    ldV h_3 (p18.add 2) fun v19_2 =>
    ldV h_3 (p18.add 3) fun v19_3 =>
    CallsH P id_laws_toRecipe #[.agg #[.string s19_0, .string s19_1, v19_2, v19_3]] h_3 fun r20 h_4 => ∃ (s20_0_0 : ByteArray), ∃ (s20_0_1 : ByteArray), ∃ (v20_0_2 : Value), ∃ (v20_0_3 : Value), r20 = .agg #[.string s20_0_0, .string s20_0_1, v20_0_2, v20_0_3] ∧
    vIdx v7 x4 4 fun p21 =>
    vStore1 h_4 p21 (.string s20_0_0) fun h_5 =>
    vStore1 h_5 (p21.add 1) (.string s20_0_1) fun h_6 =>
    vStore1 h_6 (p21.add 2) v20_0_2 fun h_7 =>
    vStore1 h_7 (p21.add 3) v20_0_3 fun h_8 =>
    ∃ m, m < n ∧ J m (IntKind.i64.wrap (x4 + 1)) h_8
  else
    R v7 h_3
theorem w_laws_toRecipeS {R : Value → Heap → Prop} {v0 : Value} {h : Heap} (hv : F_laws_toRecipeS R v0 h) : CallsH P id_laws_toRecipeS #[v0] h R :=
  callsH_of_vc ctxOk ⟨[(3, [(4, .i .i64)])], []⟩ Try.func71 [v0] h R (by kernel_rfl) (Eq.mpr (by kernel_rfl) hv)
/-- laws.toObjectS -/
def F_laws_toObjectS (R : Value → Heap → Prop) (v0 : Value) (h : Heap) : Prop :=
  vLen v0 fun n6 =>
  vMake 40 [.int .i64 0, .int .i64 0, .slice none 0 0] t_impl_Object (n6 : Int) (n6 : Int) h fun v7 h_2 =>
  ∃ J : Nat → Int → Heap → Prop, (∃ n_2, J n_2 0 h_2) ∧ ∀ (n : Nat) (_ : Env) (x4 : Int) (h_3 : Heap), J n x4 h_3 →
  vLen v0 fun n10 =>
  bif decide ((x4 : Int) < (n10 : Int)) then
    vIdx v0 x4 3 fun p18 =>
    ldI .i64 h_3 p18 fun x19_0 =>
    ldI .i64 h_3 (p18.add 1) fun x19_1 =>
    ldV h_3 (p18.add 2) fun v19_2 =>
    CallsH P id_laws_toObject #[.agg #[.int .i64 x19_0, .int .i64 x19_1, v19_2]] h_3 fun r20 h_4 => ∃ (x20_0_0 : Int), ∃ (x20_0_1 : Int), ∃ (v20_0_2 : Value), r20 = .agg #[.int .i64 x20_0_0, .int .i64 x20_0_1, v20_0_2] ∧
    vIdx v7 x4 3 fun p21 =>
    vStore1 h_4 p21 (.int .i64 x20_0_0) fun h_5 =>
    vStore1 h_5 (p21.add 1) (.int .i64 x20_0_1) fun h_6 =>
    vStore1 h_6 (p21.add 2) v20_0_2 fun h_7 =>
    ∃ m, m < n ∧ J m (IntKind.i64.wrap (x4 + 1)) h_7
  else
    R v7 h_3
theorem w_laws_toObjectS {R : Value → Heap → Prop} {v0 : Value} {h : Heap} (hv : F_laws_toObjectS R v0 h) : CallsH P id_laws_toObjectS #[v0] h R :=
  callsH_of_vc ctxOk ⟨[(3, [(4, .i .i64)])], []⟩ Try.func72 [v0] h R (by kernel_rfl) (Eq.mpr (by kernel_rfl) hv)
/-- laws.toLab -/
def F_laws_toLab (R : Value → Heap → Prop) (v0_0 : Value) (v0_1 : Value) (h : Heap) : Prop :=
  vNew h (.cells #[v0_0, v0_1] t_laws_Lab) fun p1 h_2 =>
  vNew h_2 (.cells #[.slice none 0 0, .slice none 0 0] t_impl_Lab) fun p2 h_3 =>
  vNew h_3 (.cells #[.slice none 0 0, .slice none 0 0] t_impl_Lab) fun p3 h_4 =>
  ldV h_4 p1 fun v5 =>
  CallsH P id_laws_toRecipeS #[v5] h_4 fun r6 h_5 => ∃ (v6 : Value), r6 = v6 ∧
  vStore1 h_5 p3 v6 fun h_6 =>
  ldV h_6 (p1.add 1) fun v9 =>
  CallsH P id_laws_toObjectS #[v9] h_6 fun r10 h_7 => ∃ (v10 : Value), r10 = v10 ∧
  vStore1 h_7 (p3.add 1) v10 fun h_8 =>
  ldV h_8 p3 fun v12_0 =>
  ldV h_8 (p3.add 1) fun v12_1 =>
  vStore1 h_8 p2 v12_0 fun h_9 =>
  vStore1 h_9 (p2.add 1) v12_1 fun h_10 =>
  ldV h_10 p2 fun vres0_0 =>
  ldV h_10 (p2.add 1) fun vres0_1 =>
  R (.agg #[vres0_0, vres0_1]) h_10
theorem w_laws_toLab {R : Value → Heap → Prop} {v0_0 : Value} {v0_1 : Value} {h : Heap} (hv : F_laws_toLab R v0_0 v0_1 h) : CallsH P id_laws_toLab #[.agg #[v0_0, v0_1]] h R :=
  callsH_of_vc ctxOk ⟨[], []⟩ Try.func37 [.agg #[v0_0, v0_1]] h R (by kernel_rfl) (Eq.mpr (by kernel_rfl) hv)
/-- slices.EqualFunc[[]impl.Recipe,[]impl.Recipe,impl.Recipe,impl.Recipe] -/
def F_slices_EqualFunc_impl_Recipe_impl_Recipe_impl_Recipe_impl_Recipe (R : Value → Heap → Prop) (v0 : Value) (v1 : Value) (g2 : Nat) (cap2 : List Value) (h : Heap) : Prop :=
  vLen v0 fun n11 =>
  vLen v1 fun n13 =>
  bif ((n11 : Int) : Int) != (n13 : Int) then
    R (.bool false) h
  else
    vLen v0 fun n16 =>
    ∃ J : Nat → Int → Heap → Prop, (∃ n_2, J n_2 0 h) ∧ ∀ (n : Nat) (_ : Env) (x17 : Int) (h_2 : Heap), J n x17 h_2 →
    bif decide ((x17 : Int) < (n16 : Int)) then
      vIdx v0 x17 4 fun p20 =>
      ldS h_2 p20 fun s21_0 =>
      ldS h_2 (p20.add 1) fun s21_1 =>
      ldV h_2 (p20.add 2) fun v21_2 =>
      ldV h_2 (p20.add 3) fun v21_3 =>
      vNew h_2 (.cells #[.string ⟨#[]⟩, .string ⟨#[]⟩, .slice none 0 0, .slice none 0 0] t_impl_Recipe) fun p8 h_3 =>
      vStore1 h_3 p8 (.string s21_0) fun h_4 =>
      vStore1 h_4 (p8.add 1) (.string s21_1) fun h_5 =>
      vStore1 h_5 (p8.add 2) v21_2 fun h_6 =>
      vStore1 h_6 (p8.add 3) v21_3 fun h_7 =>
      vIdx v1 x17 4 fun p24 =>
      ldS h_7 p24 fun s25_0 =>
      ldS h_7 (p24.add 1) fun s25_1 =>
      ldV h_7 (p24.add 2) fun v25_2 =>
      ldV h_7 (p24.add 3) fun v25_3 =>
      vNew h_7 (.cells #[.string ⟨#[]⟩, .string ⟨#[]⟩, .slice none 0 0, .slice none 0 0] t_impl_Recipe) fun p9 h_8 =>
      vStore1 h_8 p9 (.string s25_0) fun h_9 =>
      vStore1 h_9 (p9.add 1) (.string s25_1) fun h_10 =>
      vStore1 h_10 (p9.add 2) v25_2 fun h_11 =>
      vStore1 h_11 (p9.add 3) v25_3 fun h_12 =>
      ldS h_12 p8 fun s27_0 =>
      ldS h_12 (p8.add 1) fun s27_1 =>
      ldV h_12 (p8.add 2) fun v27_2 =>
      ldV h_12 (p8.add 3) fun v27_3 =>
      ldS h_12 p9 fun s28_0 =>
      ldS h_12 (p9.add 1) fun s28_1 =>
      ldV h_12 (p9.add 2) fun v28_2 =>
      ldV h_12 (p9.add 3) fun v28_3 =>
      vOkf ctx g2 <|
      CallsH P g2 (([.agg #[.string s27_0, .string s27_1, v27_2, v27_3], .agg #[.string s28_0, .string s28_1, v28_2, v28_3]] : List Value) ++ cap2).toArray h_12 fun r29 h_13 => ∃ (b29 : Bool), r29 = .bool b29 ∧
      bif !b29 then
        R (.bool false) h_13
      else
        ∃ m, m < n ∧ J m (IntKind.i64.wrap (x17 + 1)) h_13
    else
      R (.bool true) h_2
theorem w_slices_EqualFunc_impl_Recipe_impl_Recipe_impl_Recipe_impl_Recipe {R : Value → Heap → Prop} {v0 : Value} {v1 : Value} {g2 : Nat} {cap2 : List Value} {h : Heap} (hv : F_slices_EqualFunc_impl_Recipe_impl_Recipe_impl_Recipe_impl_Recipe R v0 v1 g2 cap2 h) : CallsH P id_slices_EqualFunc_impl_Recipe_impl_Recipe_impl_Recipe_impl_Recipe #[v0, v1, .func (.func g2) #[] cap2.toArray] h R :=
  callsH_of_vc ctxOk ⟨[(4, [(17, .i .i64)])], []⟩ Try.func73 [v0, v1, .func (.func g2) #[] cap2.toArray] h R (by kernel_rfl) (Eq.mpr (by kernel_rfl) hv)
/-- slices.Equal[[]string,string] -/
def F_slices_Equal_string_string (R : Value → Heap → Prop) (v0 : Value) (v1 : Value) (h : Heap) : Prop :=
  vLen v0 fun n7 =>
  vLen v1 fun n9 =>
  bif ((n7 : Int) : Int) != (n9 : Int) then
    R (.bool false) h
  else
    vLen v0 fun n12 =>
    ∃ J : Nat → Int → Heap → Prop, (∃ n_2, J n_2 0 h) ∧ ∀ (n : Nat) (_ : Env) (x13 : Int) (h_2 : Heap), J n x13 h_2 →
    bif decide ((x13 : Int) < (n12 : Int)) then
      vIdx v0 x13 1 fun p18 =>
      ldS h_2 p18 fun s19 =>
      vIdx v1 x13 1 fun p22 =>
      ldS h_2 p22 fun s23 =>
      bif !(s19.toList == s23.toList) then
        R (.bool false) h_2
      else
        ∃ m, m < n ∧ J m (IntKind.i64.wrap (x13 + 1)) h_2
    else
      R (.bool true) h_2
theorem w_slices_Equal_string_string {R : Value → Heap → Prop} {v0 : Value} {v1 : Value} {h : Heap} (hv : F_slices_Equal_string_string R v0 v1 h) : CallsH P id_slices_Equal_string_string #[v0, v1] h R :=
  callsH_of_vc ctxOk ⟨[(4, [(13, .i .i64)])], []⟩ Try.func97 [v0, v1] h R (by kernel_rfl) (Eq.mpr (by kernel_rfl) hv)
/-- impl.sameRecipe -/
def F_impl_sameRecipe (R : Value → Heap → Prop) (s0_0 : ByteArray) (s0_1 : ByteArray) (v0_2 : Value) (v0_3 : Value) (s1_0 : ByteArray) (s1_1 : ByteArray) (v1_2 : Value) (v1_3 : Value) (h : Heap) : Prop :=
  vNew h (.cells #[.string s0_0, .string s0_1, v0_2, v0_3] t_impl_Recipe) fun p2 h_2 =>
  vNew h_2 (.cells #[.string s1_0, .string s1_1, v1_2, v1_3] t_impl_Recipe) fun p3 h_3 =>
  ldS h_3 p2 fun s6 =>
  ldS h_3 p3 fun s8 =>
  bif s6.toList == s8.toList then
    ldS h_3 (p2.add 1) fun s12 =>
    ldS h_3 (p3.add 1) fun s14 =>
    bif s12.toList == s14.toList then
      ldV h_3 (p2.add 2) fun v19 =>
      ldV h_3 (p3.add 2) fun v21 =>
      CallsH P id_slices_Equal_int64_int64 #[v19, v21] h_3 fun r22 h_4 => ∃ (b22 : Bool), r22 = .bool b22 ∧
      bif b22 then
        ldV h_4 (p2.add 3) fun v26 =>
        ldV h_4 (p3.add 3) fun v28 =>
        CallsH P id_slices_Equal_string_string #[v26, v28] h_4 fun r29 h_5 => ∃ (b29 : Bool), r29 = .bool b29 ∧
        R (.bool b29) h_5
      else
        R (.bool false) h_4
    else
      R (.bool false) h_3
  else
    R (.bool false) h_3
theorem w_impl_sameRecipe {R : Value → Heap → Prop} {s0_0 : ByteArray} {s0_1 : ByteArray} {v0_2 : Value} {v0_3 : Value} {s1_0 : ByteArray} {s1_1 : ByteArray} {v1_2 : Value} {v1_3 : Value} {h : Heap} (hv : F_impl_sameRecipe R s0_0 s0_1 v0_2 v0_3 s1_0 s1_1 v1_2 v1_3 h) : CallsH P id_impl_sameRecipe #[.agg #[.string s0_0, .string s0_1, v0_2, v0_3], .agg #[.string s1_0, .string s1_1, v1_2, v1_3]] h R :=
  callsH_of_vc ctxOk ⟨[], []⟩ Try.func74 [.agg #[.string s0_0, .string s0_1, v0_2, v0_3], .agg #[.string s1_0, .string s1_1, v1_2, v1_3]] h R (by kernel_rfl) (Eq.mpr (by kernel_rfl) hv)
/-- slices.EqualFunc[[]impl.Object,[]impl.Object,impl.Object,impl.Object] -/
def F_slices_EqualFunc_impl_Object_impl_Object_impl_Object_impl_Object (R : Value → Heap → Prop) (v0 : Value) (v1 : Value) (g2 : Nat) (cap2 : List Value) (h : Heap) : Prop :=
  vLen v0 fun n11 =>
  vLen v1 fun n13 =>
  bif ((n11 : Int) : Int) != (n13 : Int) then
    R (.bool false) h
  else
    vLen v0 fun n16 =>
    ∃ J : Nat → Int → Heap → Prop, (∃ n_2, J n_2 0 h) ∧ ∀ (n : Nat) (_ : Env) (x17 : Int) (h_2 : Heap), J n x17 h_2 →
    bif decide ((x17 : Int) < (n16 : Int)) then
      vIdx v0 x17 3 fun p20 =>
      ldI .i64 h_2 p20 fun x21_0 =>
      ldI .i64 h_2 (p20.add 1) fun x21_1 =>
      ldV h_2 (p20.add 2) fun v21_2 =>
      vNew h_2 (.cells #[.int .i64 0, .int .i64 0, .slice none 0 0] t_impl_Object) fun p8 h_3 =>
      vStore1 h_3 p8 (.int .i64 x21_0) fun h_4 =>
      vStore1 h_4 (p8.add 1) (.int .i64 x21_1) fun h_5 =>
      vStore1 h_5 (p8.add 2) v21_2 fun h_6 =>
      vIdx v1 x17 3 fun p24 =>
      ldI .i64 h_6 p24 fun x25_0 =>
      ldI .i64 h_6 (p24.add 1) fun x25_1 =>
      ldV h_6 (p24.add 2) fun v25_2 =>
      vNew h_6 (.cells #[.int .i64 0, .int .i64 0, .slice none 0 0] t_impl_Object) fun p9 h_7 =>
      vStore1 h_7 p9 (.int .i64 x25_0) fun h_8 =>
      vStore1 h_8 (p9.add 1) (.int .i64 x25_1) fun h_9 =>
      vStore1 h_9 (p9.add 2) v25_2 fun h_10 =>
      ldI .i64 h_10 p8 fun x27_0 =>
      ldI .i64 h_10 (p8.add 1) fun x27_1 =>
      ldV h_10 (p8.add 2) fun v27_2 =>
      ldI .i64 h_10 p9 fun x28_0 =>
      ldI .i64 h_10 (p9.add 1) fun x28_1 =>
      ldV h_10 (p9.add 2) fun v28_2 =>
      vOkf ctx g2 <|
      CallsH P g2 (([.agg #[.int .i64 x27_0, .int .i64 x27_1, v27_2], .agg #[.int .i64 x28_0, .int .i64 x28_1, v28_2]] : List Value) ++ cap2).toArray h_10 fun r29 h_11 => ∃ (b29 : Bool), r29 = .bool b29 ∧
      bif !b29 then
        R (.bool false) h_11
      else
        ∃ m, m < n ∧ J m (IntKind.i64.wrap (x17 + 1)) h_11
    else
      R (.bool true) h_2
theorem w_slices_EqualFunc_impl_Object_impl_Object_impl_Object_impl_Object {R : Value → Heap → Prop} {v0 : Value} {v1 : Value} {g2 : Nat} {cap2 : List Value} {h : Heap} (hv : F_slices_EqualFunc_impl_Object_impl_Object_impl_Object_impl_Object R v0 v1 g2 cap2 h) : CallsH P id_slices_EqualFunc_impl_Object_impl_Object_impl_Object_impl_Object #[v0, v1, .func (.func g2) #[] cap2.toArray] h R :=
  callsH_of_vc ctxOk ⟨[(4, [(17, .i .i64)])], []⟩ Try.func75 [v0, v1, .func (.func g2) #[] cap2.toArray] h R (by kernel_rfl) (Eq.mpr (by kernel_rfl) hv)
/-- impl.SameLab -/
def F_impl_SameLab (R : Value → Heap → Prop) (v0_0 : Value) (v0_1 : Value) (v1_0 : Value) (v1_1 : Value) (h : Heap) : Prop :=
  vNew h (.cells #[v0_0, v0_1] t_impl_Lab) fun p2 h_2 =>
  vNew h_2 (.cells #[v1_0, v1_1] t_impl_Lab) fun p3 h_3 =>
  ldV h_3 p2 fun v6 =>
  ldV h_3 p3 fun v8 =>
  CallsH P id_slices_EqualFunc_impl_Recipe_impl_Recipe_impl_Recipe_impl_Recipe #[v6, v8, .func (.func id_impl_sameRecipe) #[] #[]] h_3 fun r9 h_4 => ∃ (b9 : Bool), r9 = .bool b9 ∧
  bif b9 then
    ldV h_4 (p2.add 1) fun v12 =>
    ldV h_4 (p3.add 1) fun v14 =>
    CallsH P id_slices_EqualFunc_impl_Object_impl_Object_impl_Object_impl_Object #[v12, v14, .func (.func id_impl_SameObject) #[] #[]] h_4 fun r15 h_5 => ∃ (b15 : Bool), r15 = .bool b15 ∧
    R (.bool b15) h_5
  else
    R (.bool false) h_4
theorem w_impl_SameLab {R : Value → Heap → Prop} {v0_0 : Value} {v0_1 : Value} {v1_0 : Value} {v1_1 : Value} {h : Heap} (hv : F_impl_SameLab R v0_0 v0_1 v1_0 v1_1 h) : CallsH P id_impl_SameLab #[.agg #[v0_0, v0_1], .agg #[v1_0, v1_1]] h R :=
  callsH_of_vc ctxOk ⟨[], []⟩ Try.func38 [.agg #[v0_0, v0_1], .agg #[v1_0, v1_1]] h R (by kernel_rfl) (Eq.mpr (by kernel_rfl) hv)
/-- laws.eqRecipe -/
def F_laws_eqRecipe (R : Value → Heap → Prop) (s0_0 : ByteArray) (s0_1 : ByteArray) (v0_2 : Value) (v0_3 : Value) (s1_0 : ByteArray) (s1_1 : ByteArray) (v1_2 : Value) (v1_3 : Value) (h : Heap) : Prop :=
  vNew h (.cells #[.string s0_0, .string s0_1, v0_2, v0_3] t_impl_Recipe) fun p2 h_2 =>
  vNew h_2 (.cells #[.string s1_0, .string s1_1, v1_2, v1_3] t_impl_Recipe) fun p3 h_3 =>
  ldS h_3 p2 fun s6 =>
  ldS h_3 p3 fun s8 =>
  bif !(s6.toList == s8.toList) then
    R (.bool false) h_3
  else
    ldS h_3 (p2.add 1) fun s11 =>
    ldS h_3 (p3.add 1) fun s13 =>
    bif !(s11.toList == s13.toList) then
      R (.bool false) h_3
    else
      ldV h_3 (p2.add 2) fun v16 =>
      ldV h_3 (p3.add 2) fun v18 =>
      CallsH P id_laws_eqInt64S #[v16, v18] h_3 fun r19 h_4 => ∃ (b19 : Bool), r19 = .bool b19 ∧
      bif !b19 then
        R (.bool false) h_4
      else
        ldV h_4 (p2.add 3) fun v22 =>
        ldV h_4 (p3.add 3) fun v24 =>
        CallsH P id_laws_eqStringS #[v22, v24] h_4 fun r25 h_5 => ∃ (b25 : Bool), r25 = .bool b25 ∧
        bif !b25 then
          R (.bool false) h_5
        else
          R (.bool true) h_5
theorem w_laws_eqRecipe {R : Value → Heap → Prop} {s0_0 : ByteArray} {s0_1 : ByteArray} {v0_2 : Value} {v0_3 : Value} {s1_0 : ByteArray} {s1_1 : ByteArray} {v1_2 : Value} {v1_3 : Value} {h : Heap} (hv : F_laws_eqRecipe R s0_0 s0_1 v0_2 v0_3 s1_0 s1_1 v1_2 v1_3 h) : CallsH P id_laws_eqRecipe #[.agg #[.string s0_0, .string s0_1, v0_2, v0_3], .agg #[.string s1_0, .string s1_1, v1_2, v1_3]] h R :=
  callsH_of_vc ctxOk ⟨[], []⟩ Try.func98 [.agg #[.string s0_0, .string s0_1, v0_2, v0_3], .agg #[.string s1_0, .string s1_1, v1_2, v1_3]] h R (by kernel_rfl) (Eq.mpr (by kernel_rfl) hv)
/-- laws.eqRecipeS -/
def F_laws_eqRecipeS (R : Value → Heap → Prop) (v0 : Value) (v1 : Value) (h : Heap) : Prop :=
  vLen v0 fun n7 =>
  vLen v1 fun n9 =>
  bif ((n7 : Int) : Int) != (n9 : Int) then
    R (.bool false) h
  else
    ∃ J : Nat → Int → Heap → Prop, (∃ n_2, J n_2 0 h) ∧ ∀ (n : Nat) (_ : Env) (x5 : Int) (h_2 : Heap), J n x5 h_2 →
    vLen v0 fun n13 =>
    bif decide ((x5 : Int) < (n13 : Int)) then
      vIdx v0 x5 4 fun p19 =>
      ldS h_2 p19 fun s20_0 =>
      ldS h_2 (p19.add 1) fun s20_1 =>
      ldV h_2 (p19.add 2) fun v20_2 =>
      ldV h_2 (p19.add 3) fun v20_3 =>
      vIdx v1 x5 4 fun p23 =>
      ldS h_2 p23 fun s24_0 =>
      ldS h_2 (p23.add 1) fun s24_1 =>
      ldV h_2 (p23.add 2) fun v24_2 =>
      ldV h_2 (p23.add 3) fun v24_3 =>
      CallsH P id_laws_eqRecipe #[.agg #[.string s20_0, .string s20_1, v20_2, v20_3], .agg #[.string s24_0, .string s24_1, v24_2, v24_3]] h_2 fun r25 h_3 => ∃ (b25 : Bool), r25 = .bool b25 ∧
      bif !b25 then
        R (.bool false) h_3
      else
        ∃ m, m < n ∧ J m (IntKind.i64.wrap (x5 + 1)) h_3
    else
      R (.bool true) h_2
theorem w_laws_eqRecipeS {R : Value → Heap → Prop} {v0 : Value} {v1 : Value} {h : Heap} (hv : F_laws_eqRecipeS R v0 v1 h) : CallsH P id_laws_eqRecipeS #[v0, v1] h R :=
  callsH_of_vc ctxOk ⟨[(4, [(5, .i .i64)])], []⟩ Try.func76 [v0, v1] h R (by kernel_rfl) (Eq.mpr (by kernel_rfl) hv)
/-- laws.eqObjectS -/
def F_laws_eqObjectS (R : Value → Heap → Prop) (v0 : Value) (v1 : Value) (h : Heap) : Prop :=
  vLen v0 fun n7 =>
  vLen v1 fun n9 =>
  bif ((n7 : Int) : Int) != (n9 : Int) then
    R (.bool false) h
  else
    ∃ J : Nat → Int → Heap → Prop, (∃ n_2, J n_2 0 h) ∧ ∀ (n : Nat) (_ : Env) (x5 : Int) (h_2 : Heap), J n x5 h_2 →
    vLen v0 fun n13 =>
    bif decide ((x5 : Int) < (n13 : Int)) then
      vIdx v0 x5 3 fun p19 =>
      ldI .i64 h_2 p19 fun x20_0 =>
      ldI .i64 h_2 (p19.add 1) fun x20_1 =>
      ldV h_2 (p19.add 2) fun v20_2 =>
      vIdx v1 x5 3 fun p23 =>
      ldI .i64 h_2 p23 fun x24_0 =>
      ldI .i64 h_2 (p23.add 1) fun x24_1 =>
      ldV h_2 (p23.add 2) fun v24_2 =>
      CallsH P id_laws_eqObject #[.agg #[.int .i64 x20_0, .int .i64 x20_1, v20_2], .agg #[.int .i64 x24_0, .int .i64 x24_1, v24_2]] h_2 fun r25 h_3 => ∃ (b25 : Bool), r25 = .bool b25 ∧
      bif !b25 then
        R (.bool false) h_3
      else
        ∃ m, m < n ∧ J m (IntKind.i64.wrap (x5 + 1)) h_3
    else
      R (.bool true) h_2
theorem w_laws_eqObjectS {R : Value → Heap → Prop} {v0 : Value} {v1 : Value} {h : Heap} (hv : F_laws_eqObjectS R v0 v1 h) : CallsH P id_laws_eqObjectS #[v0, v1] h R :=
  callsH_of_vc ctxOk ⟨[(4, [(5, .i .i64)])], []⟩ Try.func77 [v0, v1] h R (by kernel_rfl) (Eq.mpr (by kernel_rfl) hv)
/-- laws.eqLab -/
def F_laws_eqLab (R : Value → Heap → Prop) (v0_0 : Value) (v0_1 : Value) (v1_0 : Value) (v1_1 : Value) (h : Heap) : Prop :=
  vNew h (.cells #[v0_0, v0_1] t_impl_Lab) fun p2 h_2 =>
  vNew h_2 (.cells #[v1_0, v1_1] t_impl_Lab) fun p3 h_3 =>
  ldV h_3 p2 fun v6 =>
  ldV h_3 p3 fun v8 =>
  CallsH P id_laws_eqRecipeS #[v6, v8] h_3 fun r9 h_4 => ∃ (b9 : Bool), r9 = .bool b9 ∧
  bif !b9 then
    R (.bool false) h_4
  else
    ldV h_4 (p2.add 1) fun v12 =>
    ldV h_4 (p3.add 1) fun v14 =>
    CallsH P id_laws_eqObjectS #[v12, v14] h_4 fun r15 h_5 => ∃ (b15 : Bool), r15 = .bool b15 ∧
    bif !b15 then
      R (.bool false) h_5
    else
      R (.bool true) h_5
theorem w_laws_eqLab {R : Value → Heap → Prop} {v0_0 : Value} {v0_1 : Value} {v1_0 : Value} {v1_1 : Value} {h : Heap} (hv : F_laws_eqLab R v0_0 v0_1 v1_0 v1_1 h) : CallsH P id_laws_eqLab #[.agg #[v0_0, v0_1], .agg #[v1_0, v1_1]] h R :=
  callsH_of_vc ctxOk ⟨[], []⟩ Try.func39 [.agg #[v0_0, v0_1], .agg #[v1_0, v1_1]] h R (by kernel_rfl) (Eq.mpr (by kernel_rfl) hv)
/-- laws.FnExactSameLab -/
def F_laws_FnExactSameLab (R : Value → Heap → Prop) (v0_0 : Value) (v0_1 : Value) (v1_0 : Value) (v1_1 : Value) (h : Heap) : Prop :=
  vNew h (.cells #[v0_0, v0_1] t_laws_Lab) fun p2 h_2 =>
  vNew h_2 (.cells #[v1_0, v1_1] t_laws_Lab) fun p3 h_3 =>
  ldV h_3 p2 fun v10_0 =>
  ldV h_3 (p2.add 1) fun v10_1 =>
  CallsH P id_laws_szLab #[.agg #[v10_0, v10_1], .int .i64 1048576] h_3 fun r12 h_4 => ∃ (x12 : Int), r12 = .int .i64 x12 ∧
  bif decide ((x12 : Int) < 0) then
    R (.bool true) h_4
  else
    ldV h_4 p3 fun v15_0 =>
    ldV h_4 (p3.add 1) fun v15_1 =>
    CallsH P id_laws_szLab #[.agg #[v15_0, v15_1], .int .i64 x12] h_4 fun r17 h_5 => ∃ (x17 : Int), r17 = .int .i64 x17 ∧
    bif decide ((x17 : Int) < 0) then
      R (.bool true) h_5
    else
      ldV h_5 p2 fun v20_0 =>
      ldV h_5 (p2.add 1) fun v20_1 =>
      CallsH P id_laws_toLab #[.agg #[v20_0, v20_1]] h_5 fun r21 h_6 => ∃ (v21_0_0 : Value), ∃ (v21_0_1 : Value), r21 = .agg #[v21_0_0, v21_0_1] ∧
      ExtH h_5 h_6 ∧
      ldV h_5 p3 fun v22_0 =>
      ldV h_5 (p3.add 1) fun v22_1 =>
      CallsH P id_laws_toLab #[.agg #[v22_0, v22_1]] h_6 fun r23 h_7 => ∃ (v23_0_0 : Value), ∃ (v23_0_1 : Value), r23 = .agg #[v23_0_0, v23_0_1] ∧
      CallsH P id_spec_SameLab #[.agg #[v21_0_0, v21_0_1], .agg #[v23_0_0, v23_0_1]] h_7 fun r24 h_8 => ∃ (b24 : Bool), r24 = .bool b24 ∧
      ldV h_8 p2 fun v25_0 =>
      ldV h_8 (p2.add 1) fun v25_1 =>
      CallsH P id_laws_toLab #[.agg #[v25_0, v25_1]] h_8 fun r26 h_9 => ∃ (v26_0_0 : Value), ∃ (v26_0_1 : Value), r26 = .agg #[v26_0_0, v26_0_1] ∧
      vNew h_9 (.cells #[.slice none 0 0, .slice none 0 0] t_impl_Lab) fun p7 h_10 =>
      vStore1 h_10 p7 v26_0_0 fun h_11 =>
      vStore1 h_11 (p7.add 1) v26_0_1 fun h_12 =>
      ldV h_12 p3 fun v27_0 =>
      ldV h_12 (p3.add 1) fun v27_1 =>
      CallsH P id_laws_toLab #[.agg #[v27_0, v27_1]] h_12 fun r28 h_13 => ∃ (v28_0_0 : Value), ∃ (v28_0_1 : Value), r28 = .agg #[v28_0_0, v28_0_1] ∧
      vNew h_13 (.cells #[.slice none 0 0, .slice none 0 0] t_impl_Lab) fun p8 h_14 =>
      vStore1 h_14 p8 v28_0_0 fun h_15 =>
      vStore1 h_15 (p8.add 1) v28_0_1 fun h_16 =>
      ldV h_16 p7 fun v29_0 =>
      ldV h_16 (p7.add 1) fun v29_1 =>
      ldV h_16 p8 fun v30_0 =>
      ldV h_16 (p8.add 1) fun v30_1 =>
      CallsH P id_impl_SameLab #[.agg #[v29_0, v29_1], .agg #[v30_0, v30_1]] h_16 fun r31 h_17 => ∃ (b31 : Bool), r31 = .bool b31 ∧
      bif !(b31 == b24) then
        R (.bool false) h_17
      else
        ldV h_17 p2 fun v36_0 =>
        ldV h_17 (p2.add 1) fun v36_1 =>
        CallsH P id_laws_toLab #[.agg #[v36_0, v36_1]] h_17 fun r37 h_18 => ∃ (v37_0_0 : Value), ∃ (v37_0_1 : Value), r37 = .agg #[v37_0_0, v37_0_1] ∧
        ExtH h_17 h_18 ∧
        ldV h_17 p7 fun v35_0 =>
        ldV h_17 (p7.add 1) fun v35_1 =>
        CallsH P id_laws_eqLab #[.agg #[v35_0, v35_1], .agg #[v37_0_0, v37_0_1]] h_18 fun r38 h_19 => ∃ (b38 : Bool), r38 = .bool b38 ∧
        bif !b38 then
          R (.bool false) h_19
        else
          ldV h_19 p3 fun v41_0 =>
          ldV h_19 (p3.add 1) fun v41_1 =>
          CallsH P id_laws_toLab #[.agg #[v41_0, v41_1]] h_19 fun r42 h_20 => ∃ (v42_0_0 : Value), ∃ (v42_0_1 : Value), r42 = .agg #[v42_0_0, v42_0_1] ∧
          ExtH h_19 h_20 ∧
          ldV h_19 p8 fun v40_0 =>
          ldV h_19 (p8.add 1) fun v40_1 =>
          CallsH P id_laws_eqLab #[.agg #[v40_0, v40_1], .agg #[v42_0_0, v42_0_1]] h_20 fun r43 h_21 => ∃ (b43 : Bool), r43 = .bool b43 ∧
          bif !b43 then
            R (.bool false) h_21
          else
            R (.bool true) h_21
theorem w_laws_FnExactSameLab {R : Value → Heap → Prop} {v0_0 : Value} {v0_1 : Value} {v1_0 : Value} {v1_1 : Value} {h : Heap} (hv : F_laws_FnExactSameLab R v0_0 v0_1 v1_0 v1_1 h) : CallsH P id_laws_FnExactSameLab #[.agg #[v0_0, v0_1], .agg #[v1_0, v1_1]] h R :=
  callsH_of_vc ctxOk ⟨[], []⟩ Try.func9 [.agg #[v0_0, v0_1], .agg #[v1_0, v1_1]] h R (by kernel_rfl) (Eq.mpr (by kernel_rfl) hv)
end Go.Proofs.Ytieehpcgmjbceaa
