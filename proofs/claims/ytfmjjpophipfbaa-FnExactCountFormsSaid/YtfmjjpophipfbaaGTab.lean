/- The table of types and the numbers of the functions. Printed by program. No claim is stated here. -/
import Derived.Test.YtfmjjpophipfbaaProg
import Derived.Test.YtfmjjpophipfbaaClM
import Derived.KernelRfl
set_option linter.unusedVariables false
namespace Go.Proofs.Ytfmjjpophipfbaa.Cl
open Go
abbrev U : AVal := .undef
def tab : Tab := [
  .none,
  ⟨.func, 1, 8, [.nilFunc]⟩,
  ⟨.int .i64, 1, 8, [.int .i64 (0)]⟩,
  ⟨.int .i64, 1, 8, [.int .i64 (0)]⟩,
  ⟨.bool, 1, 1, [.bool false]⟩,
  ⟨.int .u8, 1, 1, [.int .u8 (0)]⟩,
  ⟨.int .u8, 1, 1, [.int .u8 (0)]⟩,
  ⟨.struct [(0, 2), (1, 3), (2, 4), (3, 6)], 4, 24, [.int .i64 (0), .int .i64 (0), .bool false, .int .u8 (0)]⟩,
  ⟨.struct [(0, 2), (1, 3), (2, 4), (3, 6)], 4, 24, [.int .i64 (0), .int .i64 (0), .bool false, .int .u8 (0)]⟩,
  ⟨.str, 1, 16, [.str ByteArray.empty]⟩,
  ⟨.str, 1, 16, [.str ByteArray.empty]⟩,
  ⟨.str, 1, 16, [.str ByteArray.empty]⟩,
  ⟨.int .u64, 1, 8, [.int .u64 (0)]⟩,
  ⟨.struct [(0, 9), (1, 12)], 2, 24, [.str ByteArray.empty, .int .u64 (0)]⟩,
  ⟨.struct [(0, 9), (1, 12)], 2, 24, [.str ByteArray.empty, .int .u64 (0)]⟩,
  ⟨.ptr, 1, 8, [.ptr Pt.nil]⟩,
  ⟨.ptr, 1, 8, [.ptr Pt.nil]⟩,
  ⟨.ptr, 1, 8, [.ptr Pt.nil]⟩,
  ⟨.struct [(0, 17)], 1, 8, [.ptr Pt.nil]⟩,
  ⟨.struct [(0, 17)], 1, 8, [.ptr Pt.nil]⟩,
  .none,
  ⟨.int .i32, 1, 4, [.int .i32 (0)]⟩,
  ⟨.sl 88, 1, 24, [.sl Sl.nil]⟩,
  ⟨.struct [(0, 2), (1, 22)], 2, 32, [.int .i64 (0), .sl Sl.nil]⟩,
  ⟨.struct [(0, 2), (1, 22)], 2, 32, [.int .i64 (0), .sl Sl.nil]⟩,
  ⟨.func, 1, 8, [.nilFunc]⟩,
  .none,
  ⟨.func, 1, 8, [.nilFunc]⟩,
  ⟨.sl 89, 1, 24, [.sl Sl.nil]⟩,
  ⟨.struct [(0, 2), (1, 28)], 2, 32, [.int .i64 (0), .sl Sl.nil]⟩,
  ⟨.struct [(0, 2), (1, 28)], 2, 32, [.int .i64 (0), .sl Sl.nil]⟩,
  ⟨.func, 1, 8, [.nilFunc]⟩,
  ⟨.func, 1, 8, [.nilFunc]⟩,
  ⟨.func, 1, 8, [.nilFunc]⟩,
  ⟨.sl 52, 1, 24, [.sl Sl.nil]⟩,
  ⟨.func, 1, 8, [.nilFunc]⟩,
  .none,
  ⟨.func, 1, 8, [.nilFunc]⟩,
  ⟨.func, 1, 8, [.nilFunc]⟩,
  ⟨.func, 1, 8, [.nilFunc]⟩,
  ⟨.func, 1, 8, [.nilFunc]⟩,
  .none,
  ⟨.func, 1, 8, [.nilFunc]⟩,
  ⟨.func, 1, 8, [.nilFunc]⟩,
  ⟨.func, 1, 8, [.nilFunc]⟩,
  ⟨.func, 1, 8, [.nilFunc]⟩,
  ⟨.func, 1, 8, [.nilFunc]⟩,
  ⟨.func, 1, 8, [.nilFunc]⟩,
  ⟨.func, 1, 8, [.nilFunc]⟩,
  ⟨.func, 1, 8, [.nilFunc]⟩,
  ⟨.func, 1, 8, [.nilFunc]⟩,
  ⟨.func, 1, 8, [.nilFunc]⟩,
  ⟨.sl 2, 1, 24, [.sl Sl.nil]⟩,
  .none,
  ⟨.func, 1, 8, [.nilFunc]⟩,
  ⟨.func, 1, 8, [.nilFunc]⟩,
  ⟨.func, 1, 8, [.nilFunc]⟩,
  ⟨.func, 1, 8, [.nilFunc]⟩,
  ⟨.func, 1, 8, [.nilFunc]⟩,
  ⟨.func, 1, 8, [.nilFunc]⟩,
  ⟨.func, 1, 8, [.nilFunc]⟩,
  ⟨.sl 64, 1, 24, [.sl Sl.nil]⟩,
  ⟨.func, 1, 8, [.nilFunc]⟩,
  ⟨.map 2 2, 1, 8, [.map none]⟩,
  ⟨.arr 2 2, 2, 16, [.int .i64 (0), .int .i64 (0)]⟩,
  ⟨.func, 1, 8, [.nilFunc]⟩,
  ⟨.func, 1, 8, [.nilFunc]⟩,
  ⟨.func, 1, 8, [.nilFunc]⟩,
  ⟨.func, 1, 8, [.nilFunc]⟩,
  ⟨.func, 1, 8, [.nilFunc]⟩,
  ⟨.func, 1, 8, [.nilFunc]⟩,
  ⟨.func, 1, 8, [.nilFunc]⟩,
  ⟨.func, 1, 8, [.nilFunc]⟩,
  ⟨.func, 1, 8, [.nilFunc]⟩,
  ⟨.func, 1, 8, [.nilFunc]⟩,
  ⟨.func, 1, 8, [.nilFunc]⟩,
  ⟨.func, 1, 8, [.nilFunc]⟩,
  ⟨.func, 1, 8, [.nilFunc]⟩,
  .none,
  ⟨.func, 1, 8, [.nilFunc]⟩,
  ⟨.func, 1, 8, [.nilFunc]⟩,
  ⟨.sl 34, 1, 24, [.sl Sl.nil]⟩,
  ⟨.func, 1, 8, [.nilFunc]⟩,
  ⟨.func, 1, 8, [.nilFunc]⟩,
  ⟨.func, 1, 8, [.nilFunc]⟩,
  ⟨.func, 1, 8, [.nilFunc]⟩,
  ⟨.func, 1, 8, [.nilFunc]⟩,
  ⟨.func, 1, 8, [.nilFunc]⟩,
  ⟨.arr 4 2, 4, 32, [.int .i64 (0), .int .i64 (0), .int .i64 (0), .int .i64 (0)]⟩,
  ⟨.arr 4 2, 4, 32, [.int .i64 (0), .int .i64 (0), .int .i64 (0), .int .i64 (0)]⟩,
  ⟨.func, 1, 8, [.nilFunc]⟩,
  ⟨.func, 1, 8, [.nilFunc]⟩,
  ⟨.func, 1, 8, [.nilFunc]⟩,
  ⟨.func, 1, 8, [.nilFunc]⟩,
  ⟨.func, 1, 8, [.nilFunc]⟩,
  ⟨.func, 1, 8, [.nilFunc]⟩,
  ⟨.func, 1, 8, [.nilFunc]⟩,
  ⟨.func, 1, 8, [.nilFunc]⟩,
  ⟨.func, 1, 8, [.nilFunc]⟩,
  ⟨.func, 1, 8, [.nilFunc]⟩,
  ⟨.func, 1, 8, [.nilFunc]⟩,
  ⟨.func, 1, 8, [.nilFunc]⟩,
  ⟨.func, 1, 8, [.nilFunc]⟩,
  ⟨.func, 1, 8, [.nilFunc]⟩,
  ⟨.func, 1, 8, [.nilFunc]⟩,
  ⟨.func, 1, 8, [.nilFunc]⟩,
  ⟨.func, 1, 8, [.nilFunc]⟩,
  ⟨.struct [(0, 17), (1, 17), (2, 17), (3, 9)], 4, 40, [.ptr Pt.nil, .ptr Pt.nil, .ptr Pt.nil, .str ByteArray.empty]⟩,
  ⟨.struct [(0, 17), (1, 17), (2, 17), (3, 9)], 4, 40, [.ptr Pt.nil, .ptr Pt.nil, .ptr Pt.nil, .str ByteArray.empty]⟩,
  ⟨.arr 0 16, 0, 0, []⟩,
  ⟨.other, 0, 0, []⟩,
  ⟨.other, 0, 0, []⟩,
  ⟨.func, 1, 8, [.nilFunc]⟩,
  ⟨.int .u32, 1, 4, [.int .u32 (0)]⟩,
  ⟨.int .u8, 1, 1, [.int .u8 (0)]⟩,
  ⟨.int .u8, 1, 1, [.int .u8 (0)]⟩,
  ⟨.func, 1, 8, [.nilFunc]⟩,
  ⟨.ptr, 1, 8, [.ptr Pt.nil]⟩,
  ⟨.int .i32, 1, 4, [.int .i32 (0)]⟩,
  ⟨.int .i32, 1, 4, [.int .i32 (0)]⟩,
  ⟨.struct [(0, 12), (1, 12), (2, 113), (3, 114), (4, 5), (5, 5), (6, 115), (7, 116), (8, 117), (9, 118), (10, 119)], 11, 48, [.int .u64 (0), .int .u64 (0), .int .u32 (0), .int .u8 (0), .int .u8 (0), .int .u8 (0), .int .u8 (0), .nilFunc, .ptr Pt.nil, .int .i32 (0), .int .i32 (0)]⟩,
  ⟨.struct [(0, 12), (1, 12), (2, 113), (3, 114), (4, 5), (5, 5), (6, 115), (7, 116), (8, 117), (9, 118), (10, 119)], 11, 48, [.int .u64 (0), .int .u64 (0), .int .u32 (0), .int .u8 (0), .int .u8 (0), .int .u8 (0), .int .u8 (0), .nilFunc, .ptr Pt.nil, .int .i32 (0), .int .i32 (0)]⟩,
  ⟨.func, 1, 8, [.nilFunc]⟩,
  ⟨.other, 1, 8, [.ptr Pt.nil]⟩]
def ntypes : Nat := 124
abbrev i_main_main : Nat := 0
abbrev i_gosem_cut : Nat := 1
abbrev i_gosem_cut_init : Nat := 2
abbrev i_laws_FnExactCountCylinders : Nat := 3
abbrev i_laws_FnExactCountTori : Nat := 4
abbrev i_laws_FnExactIsCylinder : Nat := 5
abbrev i_laws_FnExactIsTorus : Nat := 6
abbrev i_laws_FnExactTorusTable : Nat := 7
abbrev i_laws_FnExactLeastTorus : Nat := 8
abbrev i_laws_FnExactFirstTorus : Nat := 9
abbrev i_laws_FnExactCountForms : Nat := 10
abbrev i_laws_FnExactShiftTorus : Nat := 11
abbrev i_laws_FnExactShiftNumber : Nat := 12
abbrev i_laws_FnExactLeastForm : Nat := 13
abbrev i_laws_FnExactShiftsKept : Nat := 14
abbrev i_laws_szSet : Nat := 15
abbrev i_spec_CountCylinders : Nat := 16
abbrev i_laws_toSet : Nat := 17
abbrev i_impl_CountCylinders : Nat := 18
abbrev i_laws_eqSet : Nat := 19
abbrev i_spec_CountTori : Nat := 20
abbrev i_impl_CountTori : Nat := 21
abbrev i_laws_szInt64SS : Nat := 22
abbrev i_spec_IsCylinder : Nat := 23
abbrev i_laws_toInt64SS : Nat := 24
abbrev i_impl_IsCylinder : Nat := 25
abbrev i_laws_eqInt64SS : Nat := 26
abbrev i_spec_IsTorus : Nat := 27
abbrev i_impl_IsTorus : Nat := 28
abbrev i_spec_TorusTable : Nat := 29
abbrev i_impl_TorusTable : Nat := 30
abbrev i_laws_markSet : Nat := 31
abbrev i_laws_markInt64SS : Nat := 32
abbrev i_laws_heldInt64SS : Nat := 33
abbrev i_spec_LeastTorus : Nat := 34
abbrev i_impl_LeastTorus : Nat := 35
abbrev i_spec_FirstTorus : Nat := 36
abbrev i_impl_FirstTorus : Nat := 37
abbrev i_spec_CountForms : Nat := 38
abbrev i_impl_CountForms : Nat := 39
abbrev i_spec_ShiftTorus : Nat := 40
abbrev i_impl_ShiftTorus : Nat := 41
abbrev i_spec_ShiftNumber : Nat := 42
abbrev i_impl_ShiftNumber : Nat := 43
abbrev i_spec_LeastForm : Nat := 44
abbrev i_impl_LeastForm : Nat := 45
abbrev i_spec_ShiftsKept : Nat := 46
abbrev i_impl_ShiftsKept : Nat := 47
abbrev i_laws_szTileS : Nat := 48
abbrev i_spec_l05Code : Nat := 49
abbrev i_spec_l05Words : Nat := 50
abbrev i_spec_l05Paths : Nat := 51
abbrev i_spec_l03Power : Nat := 52
abbrev i_laws_toTileS : Nat := 53
abbrev i_impl_setCode : Nat := 54
abbrev i_impl_CountCylinders_1 : Nat := 55
abbrev i_impl_within : Nat := 56
abbrev i_impl_Set_rounds : Nat := 57
abbrev i_impl_counted : Nat := 58
abbrev i_laws_eqTileS : Nat := 59
abbrev i_spec_l05Count : Nat := 60
abbrev i_impl_CountTori_1 : Nat := 61
abbrev i_impl_areSizes : Nat := 62
abbrev i_impl_Set_countTori : Nat := 63
abbrev i_laws_szInt64S : Nat := 64
abbrev i_spec_l01Rows : Nat := 65
abbrev i_spec_l01Good : Nat := 66
abbrev i_spec_l05Cylinder : Nat := 67
abbrev i_laws_toInt64S : Nat := 68
abbrev i_impl_IsCylinder_1 : Nat := 69
abbrev i_impl_Set_areNumbers : Nat := 70
abbrev i_impl_Set_isCylinder : Nat := 71
abbrev i_laws_eqInt64S : Nat := 72
abbrev i_spec_l05Torus : Nat := 73
abbrev i_impl_IsTorus_1 : Nat := 74
abbrev i_impl_Set_isTorus : Nat := 75
abbrev i_spec_l01Is : Nat := 76
abbrev i_impl_IsSet : Nat := 77
abbrev i_laws_markTileS : Nat := 78
abbrev i_laws_markInt64S : Nat := 79
abbrev i_laws_heldInt64S : Nat := 80
abbrev i_spec_l05First : Nat := 81
abbrev i_impl_Set_firstTorus : Nat := 82
abbrev i_impl_FirstTorus_1 : Nat := 83
abbrev i_spec_l05All : Nat := 84
abbrev i_spec_l05Least : Nat := 85
abbrev i_spec_l05Less : Nat := 86
abbrev i_impl_CountForms_1 : Nat := 87
abbrev i_impl_Set_tori : Nat := 88
abbrev i_impl_CountForms_2 : Nat := 89
abbrev i_impl_compareRows : Nat := 90
abbrev i_impl_leastForm : Nat := 91
abbrev i_spec_l01In : Nat := 92
abbrev i_spec_l05Given : Nat := 93
abbrev i_spec_l05Shift : Nat := 94
abbrev i_impl_ShiftTorus_1 : Nat := 95
abbrev i_impl_shifted : Nat := 96
abbrev i_spec_l05Kept : Nat := 97
abbrev i_impl_torusCode : Nat := 98
abbrev i_impl_keeping : Nat := 99
abbrev i_spec_l05Rounds : Nat := 100
abbrev i_spec_l05Side : Nat := 101
abbrev i_laws_toTile : Nat := 102
abbrev i_impl_Set_rounds_1 : Nat := 103
abbrev i_laws_eqTile : Nat := 104
abbrev i_impl_Set_countTori_1 : Nat := 105
abbrev i_impl_Set_isNumber : Nat := 106
abbrev i_impl_isTable : Nat := 107
abbrev i_impl_Set_isFilling : Nat := 108
abbrev i_spec_l01Tile : Nat := 109
abbrev i_spec_l01Before : Nat := 110
abbrev i_impl_isTile : Nat := 111
abbrev i_impl_compare : Nat := 112
abbrev i_spec_l01Own : Nat := 113
abbrev i_impl_Set_firstTorus_1 : Nat := 114
abbrev i_impl_Set_tori_1 : Nat := 115
abbrev i_slices_Clone_s_int64_int64_ : Nat := 116
abbrev i_slices_CompareFunc_ss_int64_s_s_int64_s_int64_s_int64_ : Nat := 117
abbrev i_impl_compareRows_1 : Nat := 118
abbrev i_slices_Compare_s_int64_int64_ : Nat := 119
abbrev i_impl_shifts : Nat := 120
abbrev i_impl_leastForm_1 : Nat := 121
abbrev i_impl_torusCode_1 : Nat := 122
abbrev i_impl_keeping_1 : Nat := 123
abbrev i_slices_ContainsFunc_s_int64_int64_ : Nat := 124
abbrev i_impl_isTile_1 : Nat := 125
abbrev i_cmp_Compare_int64_ : Nat := 126
abbrev i_slices_IndexFunc_s_int64_int64_ : Nat := 127
abbrev i_cmp_isNaN_int64_ : Nat := 128
abbrev i_runtime_boundsError_Error : Nat := 129
abbrev i_runtime_boundsError_RuntimeError : Nat := 130
abbrev i_runtime_errorString_Error : Nat := 131
abbrev i_runtime_errorString_RuntimeError : Nat := 132
abbrev i_runtime_plainError_Error : Nat := 133
abbrev i_runtime_plainError_RuntimeError : Nat := 134
abbrev i_runtime_errorAddressString_Error : Nat := 135
abbrev i_runtime_errorAddressString_RuntimeError : Nat := 136
abbrev i_runtime_TypeAssertionError_Error : Nat := 137
abbrev i_runtime_TypeAssertionError_RuntimeError : Nat := 138
abbrev i_runtime_PanicNilError_Error : Nat := 139
abbrev i_runtime_PanicNilError_RuntimeError : Nat := 140
abbrev i_internal_abi_Type_Align : Nat := 141
abbrev i_internal_runtime_maps_unhashableTypeError_Error : Nat := 142
abbrev i_internal_runtime_maps_unhashableTypeError_RuntimeError : Nat := 143
abbrev i_impl_Tile_class : Nat := 144
abbrev i_internal_abi_Kind_String : Nat := 145
theorem tok : TOK Try.prog tab := ⟨124, by kernel_rfl⟩
theorem mixed : Try.prog.follows .mixedOrders = true := by kernel_rfl
end Go.Proofs.Ytfmjjpophipfbaa.Cl
