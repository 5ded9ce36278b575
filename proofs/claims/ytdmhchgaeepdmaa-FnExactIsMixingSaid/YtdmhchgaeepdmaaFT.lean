/- The table of types. No claim is stated here. -/
import Derived.Test.YtdmhchgaeepdmaaProg
import Derived.Test.YtdmhchgaeepdmaaFa1
import Derived.KernelRfl
/- The table of types and the numbers of the functions. Printed by program. No claim is stated here. -/
set_option linter.unusedVariables false
namespace Go.Proofs.Ytdmhchgaeepdmaa.Cl
open Go
abbrev U : AVal := .undef
def tab : Tab := [
  .none,
  ⟨.func, 1, 8, [.nilFunc]⟩,
  ⟨.int .i64, 1, 8, [.int .i64 (0)]⟩,
  ⟨.int .i64, 1, 8, [.int .i64 (0)]⟩,
  ⟨.bool, 1, 1, [.bool false]⟩,
  ⟨.int .u8, 1, 1, [.int .u8 (0)]⟩,
  ⟨.int .u8, 1, 1, [.int .u8 (0)]⟩,
  ⟨.struct [(0, 2), (1, 3), (2, 4), (3, 6)], 4, 24, [.int .i64 (0), .int .i64 (0), .bool false, .int .u8 (0)]⟩,
  ⟨.struct [(0, 2), (1, 3), (2, 4), (3, 6)], 4, 24, [.int .i64 (0), .int .i64 (0), .bool false, .int .u8 (0)]⟩,
  ⟨.str, 1, 16, [.str ByteArray.empty]⟩,
  ⟨.str, 1, 16, [.str ByteArray.empty]⟩,
  ⟨.str, 1, 16, [.str ByteArray.empty]⟩,
  ⟨.int .u64, 1, 8, [.int .u64 (0)]⟩,
  ⟨.struct [(0, 9), (1, 12)], 2, 24, [.str ByteArray.empty, .int .u64 (0)]⟩,
  ⟨.struct [(0, 9), (1, 12)], 2, 24, [.str ByteArray.empty, .int .u64 (0)]⟩,
  ⟨.ptr, 1, 8, [.ptr Pt.nil]⟩,
  ⟨.ptr, 1, 8, [.ptr Pt.nil]⟩,
  ⟨.ptr, 1, 8, [.ptr Pt.nil]⟩,
  ⟨.struct [(0, 17)], 1, 8, [.ptr Pt.nil]⟩,
  ⟨.struct [(0, 17)], 1, 8, [.ptr Pt.nil]⟩,
  .none,
  ⟨.int .i32, 1, 4, [.int .i32 (0)]⟩,
  ⟨.sl 71, 1, 24, [.sl Sl.nil]⟩,
  ⟨.struct [(0, 2), (1, 22)], 2, 32, [.int .i64 (0), .sl Sl.nil]⟩,
  ⟨.struct [(0, 2), (1, 22)], 2, 32, [.int .i64 (0), .sl Sl.nil]⟩,
  ⟨.func, 1, 8, [.nilFunc]⟩,
  .none,
  ⟨.func, 1, 8, [.nilFunc]⟩,
  ⟨.sl 72, 1, 24, [.sl Sl.nil]⟩,
  ⟨.struct [(0, 2), (1, 28)], 2, 32, [.int .i64 (0), .sl Sl.nil]⟩,
  ⟨.struct [(0, 2), (1, 28)], 2, 32, [.int .i64 (0), .sl Sl.nil]⟩,
  ⟨.func, 1, 8, [.nilFunc]⟩,
  ⟨.func, 1, 8, [.nilFunc]⟩,
  ⟨.func, 1, 8, [.nilFunc]⟩,
  ⟨.sl 2, 1, 24, [.sl Sl.nil]⟩,
  .none,
  ⟨.func, 1, 8, [.nilFunc]⟩,
  ⟨.func, 1, 8, [.nilFunc]⟩,
  ⟨.func, 1, 8, [.nilFunc]⟩,
  ⟨.func, 1, 8, [.nilFunc]⟩,
  ⟨.func, 1, 8, [.nilFunc]⟩,
  ⟨.func, 1, 8, [.nilFunc]⟩,
  ⟨.func, 1, 8, [.nilFunc]⟩,
  ⟨.sl 34, 1, 24, [.sl Sl.nil]⟩,
  .none,
  ⟨.func, 1, 8, [.nilFunc]⟩,
  ⟨.func, 1, 8, [.nilFunc]⟩,
  ⟨.func, 1, 8, [.nilFunc]⟩,
  ⟨.func, 1, 8, [.nilFunc]⟩,
  .none,
  ⟨.func, 1, 8, [.nilFunc]⟩,
  ⟨.sl 5, 1, 24, [.sl Sl.nil]⟩,
  ⟨.func, 1, 8, [.nilFunc]⟩,
  .none,
  ⟨.func, 1, 8, [.nilFunc]⟩,
  .none,
  ⟨.func, 1, 8, [.nilFunc]⟩,
  ⟨.func, 1, 8, [.nilFunc]⟩,
  ⟨.sl 4, 1, 24, [.sl Sl.nil]⟩,
  ⟨.func, 1, 8, [.nilFunc]⟩,
  ⟨.func, 1, 8, [.nilFunc]⟩,
  ⟨.ptr, 1, 8, [.ptr Pt.nil]⟩,
  .none,
  ⟨.func, 1, 8, [.nilFunc]⟩,
  ⟨.sl 90, 1, 24, [.sl Sl.nil]⟩,
  ⟨.struct [(0, 30), (2, 2), (3, 2), (4, 64)], 5, 72, [.int .i64 (0), .sl Sl.nil, .int .i64 (0), .int .i64 (0), .sl Sl.nil]⟩,
  ⟨.struct [(0, 30), (2, 2), (3, 2), (4, 64)], 5, 72, [.int .i64 (0), .sl Sl.nil, .int .i64 (0), .int .i64 (0), .sl Sl.nil]⟩,
  ⟨.func, 1, 8, [.nilFunc]⟩,
  ⟨.func, 1, 8, [.nilFunc]⟩,
  ⟨.func, 1, 8, [.nilFunc]⟩,
  ⟨.func, 1, 8, [.nilFunc]⟩,
  ⟨.arr 4 2, 4, 32, [.int .i64 (0), .int .i64 (0), .int .i64 (0), .int .i64 (0)]⟩,
  ⟨.arr 4 2, 4, 32, [.int .i64 (0), .int .i64 (0), .int .i64 (0), .int .i64 (0)]⟩,
  ⟨.func, 1, 8, [.nilFunc]⟩,
  ⟨.func, 1, 8, [.nilFunc]⟩,
  ⟨.func, 1, 8, [.nilFunc]⟩,
  ⟨.func, 1, 8, [.nilFunc]⟩,
  ⟨.func, 1, 8, [.nilFunc]⟩,
  ⟨.func, 1, 8, [.nilFunc]⟩,
  ⟨.func, 1, 8, [.nilFunc]⟩,
  ⟨.func, 1, 8, [.nilFunc]⟩,
  ⟨.func, 1, 8, [.nilFunc]⟩,
  ⟨.func, 1, 8, [.nilFunc]⟩,
  .none,
  ⟨.func, 1, 8, [.nilFunc]⟩,
  .none,
  ⟨.func, 1, 8, [.nilFunc]⟩,
  ⟨.func, 1, 8, [.nilFunc]⟩,
  ⟨.func, 1, 8, [.nilFunc]⟩,
  ⟨.map 2 4, 1, 8, [.map none]⟩,
  ⟨.arr 3 2, 3, 24, [.int .i64 (0), .int .i64 (0), .int .i64 (0)]⟩,
  ⟨.func, 1, 8, [.nilFunc]⟩,
  .none,
  ⟨.func, 1, 8, [.nilFunc]⟩,
  ⟨.func, 1, 8, [.nilFunc]⟩,
  ⟨.func, 1, 8, [.nilFunc]⟩,
  ⟨.func, 1, 8, [.nilFunc]⟩,
  .none,
  ⟨.func, 1, 8, [.nilFunc]⟩,
  ⟨.func, 1, 8, [.nilFunc]⟩,
  .none,
  ⟨.func, 1, 8, [.nilFunc]⟩,
  ⟨.func, 1, 8, [.nilFunc]⟩,
  ⟨.func, 1, 8, [.nilFunc]⟩,
  ⟨.func, 1, 8, [.nilFunc]⟩,
  ⟨.func, 1, 8, [.nilFunc]⟩,
  ⟨.func, 1, 8, [.nilFunc]⟩,
  ⟨.func, 1, 8, [.nilFunc]⟩,
  ⟨.func, 1, 8, [.nilFunc]⟩,
  ⟨.func, 1, 8, [.nilFunc]⟩,
  .none,
  ⟨.func, 1, 8, [.nilFunc]⟩,
  ⟨.func, 1, 8, [.nilFunc]⟩,
  ⟨.sl 58, 1, 24, [.sl Sl.nil]⟩,
  ⟨.func, 1, 8, [.nilFunc]⟩,
  ⟨.sl 3, 1, 24, [.sl Sl.nil]⟩,
  ⟨.func, 1, 8, [.nilFunc]⟩,
  ⟨.func, 1, 8, [.nilFunc]⟩,
  ⟨.ptr, 1, 8, [.ptr Pt.nil]⟩,
  ⟨.func, 1, 8, [.nilFunc]⟩,
  ⟨.func, 1, 8, [.nilFunc]⟩,
  ⟨.func, 1, 8, [.nilFunc]⟩,
  ⟨.func, 1, 8, [.nilFunc]⟩,
  ⟨.func, 1, 8, [.nilFunc]⟩,
  ⟨.func, 1, 8, [.nilFunc]⟩,
  ⟨.int .u64, 1, 8, [.int .u64 (0)]⟩,
  .none,
  ⟨.func, 1, 8, [.nilFunc]⟩,
  ⟨.func, 1, 8, [.nilFunc]⟩,
  ⟨.int .u64, 1, 8, [.int .u64 (0)]⟩,
  ⟨.struct [(0, 51), (1, 3), (2, 129)], 3, 40, [.sl Sl.nil, .int .i64 (0), .int .u64 (0)]⟩,
  ⟨.struct [(0, 51), (1, 3), (2, 129)], 3, 40, [.sl Sl.nil, .int .i64 (0), .int .u64 (0)]⟩,
  ⟨.func, 1, 8, [.nilFunc]⟩,
  ⟨.func, 1, 8, [.nilFunc]⟩,
  ⟨.int .u32, 1, 4, [.int .u32 (0)]⟩,
  .none,
  ⟨.func, 1, 8, [.nilFunc]⟩,
  .none,
  ⟨.func, 1, 8, [.nilFunc]⟩,
  ⟨.func, 1, 8, [.nilFunc]⟩,
  ⟨.func, 1, 8, [.nilFunc]⟩,
  ⟨.sl 9, 1, 24, [.sl Sl.nil]⟩,
  ⟨.func, 1, 8, [.nilFunc]⟩,
  .none,
  ⟨.func, 1, 8, [.nilFunc]⟩,
  ⟨.func, 1, 8, [.nilFunc]⟩,
  ⟨.func, 1, 8, [.nilFunc]⟩,
  ⟨.func, 1, 8, [.nilFunc]⟩,
  ⟨.func, 1, 8, [.nilFunc]⟩,
  ⟨.func, 1, 8, [.nilFunc]⟩,
  ⟨.func, 1, 8, [.nilFunc]⟩,
  ⟨.func, 1, 8, [.nilFunc]⟩,
  ⟨.func, 1, 8, [.nilFunc]⟩,
  ⟨.func, 1, 8, [.nilFunc]⟩,
  ⟨.struct [(0, 17), (1, 17), (2, 17), (3, 9)], 4, 40, [.ptr Pt.nil, .ptr Pt.nil, .ptr Pt.nil, .str ByteArray.empty]⟩,
  ⟨.struct [(0, 17), (1, 17), (2, 17), (3, 9)], 4, 40, [.ptr Pt.nil, .ptr Pt.nil, .ptr Pt.nil, .str ByteArray.empty]⟩,
  ⟨.arr 0 16, 0, 0, []⟩,
  ⟨.other, 0, 0, []⟩,
  ⟨.other, 0, 0, []⟩,
  ⟨.func, 1, 8, [.nilFunc]⟩,
  ⟨.int .u8, 1, 1, [.int .u8 (0)]⟩,
  ⟨.int .u8, 1, 1, [.int .u8 (0)]⟩,
  ⟨.func, 1, 8, [.nilFunc]⟩,
  ⟨.ptr, 1, 8, [.ptr Pt.nil]⟩,
  ⟨.int .i32, 1, 4, [.int .i32 (0)]⟩,
  ⟨.int .i32, 1, 4, [.int .i32 (0)]⟩,
  ⟨.struct [(0, 12), (1, 12), (2, 134), (3, 160), (4, 5), (5, 5), (6, 161), (7, 162), (8, 163), (9, 164), (10, 165)], 11, 48, [.int .u64 (0), .int .u64 (0), .int .u32 (0), .int .u8 (0), .int .u8 (0), .int .u8 (0), .int .u8 (0), .nilFunc, .ptr Pt.nil, .int .i32 (0), .int .i32 (0)]⟩,
  ⟨.struct [(0, 12), (1, 12), (2, 134), (3, 160), (4, 5), (5, 5), (6, 161), (7, 162), (8, 163), (9, 164), (10, 165)], 11, 48, [.int .u64 (0), .int .u64 (0), .int .u32 (0), .int .u8 (0), .int .u8 (0), .int .u8 (0), .int .u8 (0), .nilFunc, .ptr Pt.nil, .int .i32 (0), .int .i32 (0)]⟩,
  ⟨.func, 1, 8, [.nilFunc]⟩,
  ⟨.func, 1, 8, [.nilFunc]⟩,
  ⟨.other, 1, 8, [.ptr Pt.nil]⟩]
def ntypes : Nat := 171
abbrev i_main_main : Nat := 0
abbrev i_gosem_cut : Nat := 1
abbrev i_gosem_cut_init : Nat := 2
abbrev i_laws_FnExactCountColumns : Nat := 3
abbrev i_laws_FnExactLastingTiles : Nat := 4
abbrev i_laws_FnExactStripSequence : Nat := 5
abbrev i_laws_FnExactColumnTable : Nat := 6
abbrev i_laws_FnExactColumnWords : Nat := 7
abbrev i_laws_FnExactRecurrenceOf : Nat := 8
abbrev i_laws_FnExactStrongParts : Nat := 9
abbrev i_laws_FnExactIsMixing : Nat := 10
abbrev i_laws_FnExactPeriodOfHeight : Nat := 11
abbrev i_laws_FnColumns : Nat := 12
abbrev i_laws_FnColumnGraphs : Nat := 13
abbrev i_laws_szSet : Nat := 14
abbrev i_spec_CountColumns : Nat := 15
abbrev i_laws_toSet : Nat := 16
abbrev i_impl_CountColumns : Nat := 17
abbrev i_laws_eqSet : Nat := 18
abbrev i_spec_LastingTiles : Nat := 19
abbrev i_impl_LastingTiles : Nat := 20
abbrev i_laws_eqInt64S : Nat := 21
abbrev i_laws_markSet : Nat := 22
abbrev i_laws_markInt64S : Nat := 23
abbrev i_laws_heldInt64S : Nat := 24
abbrev i_spec_StripSequence : Nat := 25
abbrev i_impl_StripSequence : Nat := 26
abbrev i_spec_ColumnTable : Nat := 27
abbrev i_impl_ColumnTable : Nat := 28
abbrev i_laws_eqInt64SS : Nat := 29
abbrev i_laws_markInt64SS : Nat := 30
abbrev i_laws_heldInt64SS : Nat := 31
abbrev i_spec_ColumnWords : Nat := 32
abbrev i_impl_ColumnWords : Nat := 33
abbrev i_spec_RecurrenceOf : Nat := 34
abbrev i_impl_RecurrenceOf : Nat := 35
abbrev i_spec_StrongParts : Nat := 36
abbrev i_impl_StrongParts : Nat := 37
abbrev i_spec_IsMixing : Nat := 38
abbrev i_impl_IsMixing : Nat := 39
abbrev i_spec_PeriodOfHeight : Nat := 40
abbrev i_impl_PeriodOfHeight : Nat := 41
abbrev i_laws_big : Nat := 42
abbrev i_spec_DrawColumnTable : Nat := 43
abbrev i_laws_rows9 : Nat := 44
abbrev i_spec_DrawStripSequence : Nat := 45
abbrev i_laws_likeInts : Nat := 46
abbrev i_impl_CountRows : Nat := 47
abbrev i_laws_sum : Nat := 48
abbrev i_spec_DrawStrongParts : Nat := 49
abbrev i_spec_DrawRecurrenceOf : Nat := 50
abbrev i_laws_szTileS : Nat := 51
abbrev i_spec_l06Code : Nat := 52
abbrev i_laws_toTileS : Nat := 53
abbrev i_impl_stripOf : Nat := 54
abbrev i_laws_eqTileS : Nat := 55
abbrev i_spec_l01Is : Nat := 56
abbrev i_spec_l02Lasting : Nat := 57
abbrev i_impl_IsSet : Nat := 58
abbrev i_impl_Set_endless : Nat := 59
abbrev i_laws_markTileS : Nat := 60
abbrev i_spec_l01In : Nat := 61
abbrev i_spec_l02Each : Nat := 62
abbrev i_spec_l06Size : Nat := 63
abbrev i_spec_l06Step : Nat := 64
abbrev i_spec_l02Total : Nat := 65
abbrev i_impl_setCode : Nat := 66
abbrev i_impl_StripSequence_1 : Nat := 67
abbrev i_impl_within : Nat := 68
abbrev i_impl_strip_sequence : Nat := 69
abbrev i_impl_StripSequence_2 : Nat := 70
abbrev i_impl_StripSequence_3 : Nat := 71
abbrev i_spec_l06Lasting : Nat := 72
abbrev i_impl_lastingOf : Nat := 73
abbrev i_spec_l06Word : Nat := 74
abbrev i_spec_l04Sorted : Nat := 75
abbrev i_spec_l06Shortest : Nat := 76
abbrev i_impl_modulo : Nat := 77
abbrev i_impl_RecurrenceOf_1 : Nat := 78
abbrev i_impl_shortest : Nat := 79
abbrev i_spec_l06Parts : Nat := 80
abbrev i_impl_strongParts : Nat := 81
abbrev i_spec_l06Period : Nat := 82
abbrev i_impl_period : Nat := 83
abbrev i_spec_DrawCountColumns : Nat := 84
abbrev i_spec_l06With : Nat := 85
abbrev i_impl_CountRows_1 : Nat := 86
abbrev i_impl_Set_ways : Nat := 87
abbrev i_impl_counted : Nat := 88
abbrev i_spec_l06Columns : Nat := 89
abbrev i_laws_toTile : Nat := 90
abbrev i_impl_stripOf_1 : Nat := 91
abbrev i_impl_newStrip : Nat := 92
abbrev i_laws_eqTile : Nat := 93
abbrev i_spec_l01Tile : Nat := 94
abbrev i_spec_l01Before : Nat := 95
abbrev i_impl_isTile : Nat := 96
abbrev i_impl_compare : Nat := 97
abbrev i_slices_Repeat_s_bool_bool_ : Nat := 98
abbrev i_slices_Repeat_s_int64_int64_ : Nat := 99
abbrev i_spec_l06Keep : Nat := 100
abbrev i_spec_l04Find : Nat := 101
abbrev i_impl_strip_lasting : Nat := 102
abbrev i_spec_l01Own : Nat := 103
abbrev i_spec_l06Inverse : Nat := 104
abbrev i_impl_at : Nat := 105
abbrev i_impl_inverse : Nat := 106
abbrev i_slices_Clone_s_int64_int64_ : Nat := 107
abbrev i_spec_l06Reach : Nat := 108
abbrev i_impl_reach : Nat := 109
abbrev i_spec_l06Gcd : Nat := 110
abbrev i_impl_divisor : Nat := 111
abbrev i_spec_l06Draw : Nat := 112
abbrev i_spec_l01From : Nat := 113
abbrev i_spec_l01Pick : Nat := 114
abbrev i_spec_l01Near : Nat := 115
abbrev i_impl_newStrip_1 : Nat := 116
abbrev i_slices_ContainsFunc_s_int64_int64_ : Nat := 117
abbrev i_impl_isTile_1 : Nat := 118
abbrev i_slices_Compare_s_int64_int64_ : Nat := 119
abbrev i_math_bits_Mul : Nat := 120
abbrev i_impl_strip_endless : Nat := 121
abbrev i_spec_l01Next : Nat := 122
abbrev i_spec_l01Spoil : Nat := 123
abbrev i_spec_l01Small : Nat := 124
abbrev i_slices_IndexFunc_s_int64_int64_ : Nat := 125
abbrev i_cmp_Compare_int64_ : Nat := 126
abbrev i_math_bits_Mul32 : Nat := 127
abbrev i_math_bits_Mul64 : Nat := 128
abbrev i_slices_Equal_s_bool_bool_ : Nat := 129
abbrev i_spec_l01Bad : Nat := 130
abbrev i_spec_l01Draw : Nat := 131
abbrev i_spec_l01Names : Nat := 132
abbrev i_spec_l01Named : Nat := 133
abbrev i_spec_l01Renamed : Nat := 134
abbrev i_spec_l01DrawOrder : Nat := 135
abbrev i_spec_l01DrawOf : Nat := 136
abbrev i_cmp_isNaN_int64_ : Nat := 137
abbrev i_spec_l01DrawTile : Nat := 138
abbrev i_spec_l01Made : Nat := 139
abbrev i_spec_l01Read : Nat := 140
abbrev i_spec_l01Sort : Nat := 141
abbrev i_spec_l01Split : Nat := 142
abbrev i_spec_l01Number : Nat := 143
abbrev i_runtime_boundsError_Error : Nat := 144
abbrev i_runtime_boundsError_RuntimeError : Nat := 145
abbrev i_runtime_errorString_Error : Nat := 146
abbrev i_runtime_errorString_RuntimeError : Nat := 147
abbrev i_runtime_plainError_Error : Nat := 148
abbrev i_runtime_plainError_RuntimeError : Nat := 149
abbrev i_runtime_errorAddressString_Error : Nat := 150
abbrev i_runtime_errorAddressString_RuntimeError : Nat := 151
abbrev i_runtime_TypeAssertionError_Error : Nat := 152
abbrev i_runtime_TypeAssertionError_RuntimeError : Nat := 153
abbrev i_runtime_PanicNilError_Error : Nat := 154
abbrev i_runtime_PanicNilError_RuntimeError : Nat := 155
abbrev i_internal_abi_Type_Align : Nat := 156
abbrev i_internal_runtime_maps_unhashableTypeError_Error : Nat := 157
abbrev i_internal_runtime_maps_unhashableTypeError_RuntimeError : Nat := 158
abbrev i_impl_Set_isNumber : Nat := 159
abbrev i_impl_strip_isTrace : Nat := 160
abbrev i_impl_Tile_class : Nat := 161
abbrev i_internal_abi_Kind_String : Nat := 162
theorem tok : TOK Try.prog tab := ⟨171, by kernel_rfl⟩
theorem mixed : Try.prog.follows .mixedOrders = true := by kernel_rfl
end Go.Proofs.Ytdmhchgaeepdmaa.Cl
