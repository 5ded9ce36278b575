/- The table of types. No claim is stated here. -/
import Derived.Test.YtlbglfgienklfaaProg
import Derived.Test.YtlbglfgienklfaaFa2
import Derived.KernelRfl
/- The table of types and the numbers of the functions. Printed by program. No claim is stated here. -/
set_option linter.unusedVariables false
namespace Go.Proofs.Ytlbglfgienklfaa.Cl
open Go
abbrev U : AVal := .undef
def tab : Tab := [
  .none,
  ⟨.func, 1, 8, [.nilFunc]⟩,
  ⟨.int .i64, 1, 8, [.int .i64 (0)]⟩,
  ⟨.int .i64, 1, 8, [.int .i64 (0)]⟩,
  ⟨.bool, 1, 1, [.bool false]⟩,
  ⟨.int .u8, 1, 1, [.int .u8 (0)]⟩,
  ⟨.int .u8, 1, 1, [.int .u8 (0)]⟩,
  ⟨.struct [(0, 2), (1, 3), (2, 4), (3, 6)], 4, 24, [.int .i64 (0), .int .i64 (0), .bool false, .int .u8 (0)]⟩,
  ⟨.struct [(0, 2), (1, 3), (2, 4), (3, 6)], 4, 24, [.int .i64 (0), .int .i64 (0), .bool false, .int .u8 (0)]⟩,
  ⟨.str, 1, 16, [.str ByteArray.empty]⟩,
  ⟨.str, 1, 16, [.str ByteArray.empty]⟩,
  ⟨.str, 1, 16, [.str ByteArray.empty]⟩,
  ⟨.int .u64, 1, 8, [.int .u64 (0)]⟩,
  ⟨.struct [(0, 9), (1, 12)], 2, 24, [.str ByteArray.empty, .int .u64 (0)]⟩,
  ⟨.struct [(0, 9), (1, 12)], 2, 24, [.str ByteArray.empty, .int .u64 (0)]⟩,
  ⟨.ptr, 1, 8, [.ptr Pt.nil]⟩,
  ⟨.ptr, 1, 8, [.ptr Pt.nil]⟩,
  ⟨.ptr, 1, 8, [.ptr Pt.nil]⟩,
  ⟨.struct [(0, 17)], 1, 8, [.ptr Pt.nil]⟩,
  ⟨.struct [(0, 17)], 1, 8, [.ptr Pt.nil]⟩,
  .none,
  ⟨.int .i32, 1, 4, [.int .i32 (0)]⟩,
  ⟨.sl 54, 1, 24, [.sl Sl.nil]⟩,
  ⟨.struct [(0, 2), (1, 22)], 2, 32, [.int .i64 (0), .sl Sl.nil]⟩,
  ⟨.struct [(0, 2), (1, 22)], 2, 32, [.int .i64 (0), .sl Sl.nil]⟩,
  ⟨.func, 1, 8, [.nilFunc]⟩,
  ⟨.sl 55, 1, 24, [.sl Sl.nil]⟩,
  ⟨.struct [(0, 2), (1, 26)], 2, 32, [.int .i64 (0), .sl Sl.nil]⟩,
  ⟨.struct [(0, 2), (1, 26)], 2, 32, [.int .i64 (0), .sl Sl.nil]⟩,
  .none,
  ⟨.func, 1, 8, [.nilFunc]⟩,
  ⟨.func, 1, 8, [.nilFunc]⟩,
  ⟨.func, 1, 8, [.nilFunc]⟩,
  ⟨.func, 1, 8, [.nilFunc]⟩,
  ⟨.func, 1, 8, [.nilFunc]⟩,
  ⟨.sl 2, 1, 24, [.sl Sl.nil]⟩,
  .none,
  ⟨.func, 1, 8, [.nilFunc]⟩,
  ⟨.func, 1, 8, [.nilFunc]⟩,
  ⟨.func, 1, 8, [.nilFunc]⟩,
  ⟨.func, 1, 8, [.nilFunc]⟩,
  ⟨.func, 1, 8, [.nilFunc]⟩,
  ⟨.func, 1, 8, [.nilFunc]⟩,
  ⟨.func, 1, 8, [.nilFunc]⟩,
  .none,
  ⟨.func, 1, 8, [.nilFunc]⟩,
  ⟨.func, 1, 8, [.nilFunc]⟩,
  ⟨.func, 1, 8, [.nilFunc]⟩,
  ⟨.func, 1, 8, [.nilFunc]⟩,
  ⟨.func, 1, 8, [.nilFunc]⟩,
  ⟨.func, 1, 8, [.nilFunc]⟩,
  ⟨.func, 1, 8, [.nilFunc]⟩,
  ⟨.func, 1, 8, [.nilFunc]⟩,
  ⟨.func, 1, 8, [.nilFunc]⟩,
  ⟨.arr 4 2, 4, 32, [.int .i64 (0), .int .i64 (0), .int .i64 (0), .int .i64 (0)]⟩,
  ⟨.arr 4 2, 4, 32, [.int .i64 (0), .int .i64 (0), .int .i64 (0), .int .i64 (0)]⟩,
  ⟨.func, 1, 8, [.nilFunc]⟩,
  ⟨.func, 1, 8, [.nilFunc]⟩,
  ⟨.sl 62, 1, 24, [.sl Sl.nil]⟩,
  ⟨.func, 1, 8, [.nilFunc]⟩,
  .none,
  ⟨.func, 1, 8, [.nilFunc]⟩,
  ⟨.arr 2 3, 2, 16, [.int .i64 (0), .int .i64 (0)]⟩,
  ⟨.func, 1, 8, [.nilFunc]⟩,
  ⟨.func, 1, 8, [.nilFunc]⟩,
  ⟨.func, 1, 8, [.nilFunc]⟩,
  ⟨.func, 1, 8, [.nilFunc]⟩,
  ⟨.func, 1, 8, [.nilFunc]⟩,
  ⟨.func, 1, 8, [.nilFunc]⟩,
  ⟨.func, 1, 8, [.nilFunc]⟩,
  ⟨.func, 1, 8, [.nilFunc]⟩,
  ⟨.func, 1, 8, [.nilFunc]⟩,
  ⟨.func, 1, 8, [.nilFunc]⟩,
  ⟨.func, 1, 8, [.nilFunc]⟩,
  ⟨.func, 1, 8, [.nilFunc]⟩,
  ⟨.func, 1, 8, [.nilFunc]⟩,
  ⟨.func, 1, 8, [.nilFunc]⟩,
  ⟨.func, 1, 8, [.nilFunc]⟩,
  ⟨.func, 1, 8, [.nilFunc]⟩,
  ⟨.func, 1, 8, [.nilFunc]⟩,
  ⟨.sl 28, 1, 24, [.sl Sl.nil]⟩,
  ⟨.func, 1, 8, [.nilFunc]⟩,
  ⟨.func, 1, 8, [.nilFunc]⟩,
  ⟨.func, 1, 8, [.nilFunc]⟩,
  ⟨.func, 1, 8, [.nilFunc]⟩,
  ⟨.map 88 2, 1, 8, [.map none]⟩,
  ⟨.sl 88, 1, 24, [.sl Sl.nil]⟩,
  ⟨.func, 1, 8, [.nilFunc]⟩,
  ⟨.arr 2 2, 2, 16, [.int .i64 (0), .int .i64 (0)]⟩,
  ⟨.func, 1, 8, [.nilFunc]⟩,
  ⟨.sl 4, 1, 24, [.sl Sl.nil]⟩,
  ⟨.func, 1, 8, [.nilFunc]⟩,
  ⟨.map 2 4, 1, 8, [.map none]⟩,
  ⟨.arr 4 92, 4, 32, [.map none, .map none, .map none, .map none]⟩,
  ⟨.sl 35, 1, 24, [.sl Sl.nil]⟩,
  ⟨.struct [(0, 94)], 1, 24, [.sl Sl.nil]⟩,
  ⟨.struct [(0, 94)], 1, 24, [.sl Sl.nil]⟩,
  ⟨.func, 1, 8, [.nilFunc]⟩,
  ⟨.func, 1, 8, [.nilFunc]⟩,
  .none,
  ⟨.func, 1, 8, [.nilFunc]⟩,
  ⟨.func, 1, 8, [.nilFunc]⟩,
  ⟨.func, 1, 8, [.nilFunc]⟩,
  ⟨.func, 1, 8, [.nilFunc]⟩,
  ⟨.func, 1, 8, [.nilFunc]⟩,
  ⟨.func, 1, 8, [.nilFunc]⟩,
  ⟨.func, 1, 8, [.nilFunc]⟩,
  ⟨.func, 1, 8, [.nilFunc]⟩,
  ⟨.func, 1, 8, [.nilFunc]⟩,
  ⟨.func, 1, 8, [.nilFunc]⟩,
  .none,
  ⟨.func, 1, 8, [.nilFunc]⟩,
  ⟨.map 88 4, 1, 8, [.map none]⟩,
  ⟨.func, 1, 8, [.nilFunc]⟩,
  ⟨.func, 1, 8, [.nilFunc]⟩,
  ⟨.func, 1, 8, [.nilFunc]⟩,
  ⟨.func, 1, 8, [.nilFunc]⟩,
  ⟨.func, 1, 8, [.nilFunc]⟩,
  ⟨.int .u64, 1, 8, [.int .u64 (0)]⟩,
  ⟨.func, 1, 8, [.nilFunc]⟩,
  ⟨.func, 1, 8, [.nilFunc]⟩,
  ⟨.func, 1, 8, [.nilFunc]⟩,
  ⟨.func, 1, 8, [.nilFunc]⟩,
  ⟨.int .i64, 1, 8, [.int .i64 (0)]⟩,
  .none,
  ⟨.func, 1, 8, [.nilFunc]⟩,
  ⟨.func, 1, 8, [.nilFunc]⟩,
  ⟨.func, 1, 8, [.nilFunc]⟩,
  .none,
  ⟨.func, 1, 8, [.nilFunc]⟩,
  ⟨.func, 1, 8, [.nilFunc]⟩,
  ⟨.int .u32, 1, 4, [.int .u32 (0)]⟩,
  ⟨.func, 1, 8, [.nilFunc]⟩,
  ⟨.int .u64, 1, 8, [.int .u64 (0)]⟩,
  ⟨.func, 1, 8, [.nilFunc]⟩,
  ⟨.func, 1, 8, [.nilFunc]⟩,
  ⟨.func, 1, 8, [.nilFunc]⟩,
  ⟨.func, 1, 8, [.nilFunc]⟩,
  ⟨.func, 1, 8, [.nilFunc]⟩,
  ⟨.func, 1, 8, [.nilFunc]⟩,
  ⟨.int .u64, 1, 8, [.int .u64 (0)]⟩,
  ⟨.func, 1, 8, [.nilFunc]⟩,
  ⟨.func, 1, 8, [.nilFunc]⟩,
  ⟨.func, 1, 8, [.nilFunc]⟩,
  ⟨.ptr, 1, 8, [.ptr Pt.nil]⟩,
  ⟨.func, 1, 8, [.nilFunc]⟩,
  ⟨.func, 1, 8, [.nilFunc]⟩,
  ⟨.func, 1, 8, [.nilFunc]⟩,
  ⟨.ptr, 1, 8, [.ptr Pt.nil]⟩,
  .none,
  ⟨.func, 1, 8, [.nilFunc]⟩,
  ⟨.func, 1, 8, [.nilFunc]⟩,
  ⟨.func, 1, 8, [.nilFunc]⟩,
  ⟨.struct [(0, 17), (1, 17), (2, 17), (3, 9)], 4, 40, [.ptr Pt.nil, .ptr Pt.nil, .ptr Pt.nil, .str ByteArray.empty]⟩,
  ⟨.struct [(0, 17), (1, 17), (2, 17), (3, 9)], 4, 40, [.ptr Pt.nil, .ptr Pt.nil, .ptr Pt.nil, .str ByteArray.empty]⟩,
  ⟨.arr 0 16, 0, 0, []⟩,
  ⟨.other, 0, 0, []⟩,
  ⟨.other, 0, 0, []⟩,
  ⟨.func, 1, 8, [.nilFunc]⟩,
  ⟨.int .u8, 1, 1, [.int .u8 (0)]⟩,
  ⟨.int .u8, 1, 1, [.int .u8 (0)]⟩,
  ⟨.func, 1, 8, [.nilFunc]⟩,
  ⟨.ptr, 1, 8, [.ptr Pt.nil]⟩,
  ⟨.int .i32, 1, 4, [.int .i32 (0)]⟩,
  ⟨.int .i32, 1, 4, [.int .i32 (0)]⟩,
  ⟨.struct [(0, 12), (1, 12), (2, 131), (3, 159), (4, 5), (5, 5), (6, 160), (7, 161), (8, 162), (9, 163), (10, 164)], 11, 48, [.int .u64 (0), .int .u64 (0), .int .u32 (0), .int .u8 (0), .int .u8 (0), .int .u8 (0), .int .u8 (0), .nilFunc, .ptr Pt.nil, .int .i32 (0), .int .i32 (0)]⟩,
  ⟨.struct [(0, 12), (1, 12), (2, 131), (3, 159), (4, 5), (5, 5), (6, 160), (7, 161), (8, 162), (9, 163), (10, 164)], 11, 48, [.int .u64 (0), .int .u64 (0), .int .u32 (0), .int .u8 (0), .int .u8 (0), .int .u8 (0), .int .u8 (0), .nilFunc, .ptr Pt.nil, .int .i32 (0), .int .i32 (0)]⟩,
  ⟨.func, 1, 8, [.nilFunc]⟩,
  ⟨.other, 1, 8, [.ptr Pt.nil]⟩]
def ntypes : Nat := 169
abbrev i_main_main : Nat := 0
abbrev i_gosem_cut : Nat := 1
abbrev i_gosem_cut_init : Nat := 2
abbrev i_laws_FnExactStackSets : Nat := 3
abbrev i_laws_FnExactSplitRow : Nat := 4
abbrev i_laws_FnExactPowerOf : Nat := 5
abbrev i_laws_FnExactFailingHeight : Nat := 6
abbrev i_laws_FnExactFailingWidth : Nat := 7
abbrev i_laws_szSet : Nat := 8
abbrev i_spec_StackSets : Nat := 9
abbrev i_laws_toSet : Nat := 10
abbrev i_impl_StackSets : Nat := 11
abbrev i_laws_eqSet : Nat := 12
abbrev i_laws_markSet : Nat := 13
abbrev i_laws_heldSet : Nat := 14
abbrev i_spec_SplitRow : Nat := 15
abbrev i_laws_toInt64S : Nat := 16
abbrev i_impl_SplitRow : Nat := 17
abbrev i_laws_eqInt64S : Nat := 18
abbrev i_laws_markInt64S : Nat := 19
abbrev i_laws_heldInt64S : Nat := 20
abbrev i_spec_PowerOf : Nat := 21
abbrev i_impl_PowerOf : Nat := 22
abbrev i_spec_FailingHeight : Nat := 23
abbrev i_impl_FailingHeight : Nat := 24
abbrev i_spec_FailingWidth : Nat := 25
abbrev i_impl_FailingWidth : Nat := 26
abbrev i_laws_szTileS : Nat := 27
abbrev i_spec_l01Is : Nat := 28
abbrev i_spec_l04Made : Nat := 29
abbrev i_laws_toTileS : Nat := 30
abbrev i_impl_areSets : Nat := 31
abbrev i_impl_stack : Nat := 32
abbrev i_laws_eqTileS : Nat := 33
abbrev i_laws_markTileS : Nat := 34
abbrev i_laws_heldTileS : Nat := 35
abbrev i_spec_l02Row : Nat := 36
abbrev i_spec_l04Pairs : Nat := 37
abbrev i_spec_l04Tile : Nat := 38
abbrev i_impl_Set_isRow : Nat := 39
abbrev i_impl_stacked : Nat := 40
abbrev i_impl_stackTiles : Nat := 41
abbrev i_slices_Index_s_impl_Tile_impl_Tile_ : Nat := 42
abbrev i_spec_l01In : Nat := 43
abbrev i_spec_l04Kept : Nat := 44
abbrev i_impl_setCode : Nat := 45
abbrev i_impl_PowerOf_1 : Nat := 46
abbrev i_impl_within : Nat := 47
abbrev i_impl_kept : Nat := 48
abbrev i_spec_l04Code : Nat := 49
abbrev i_spec_l04Failing : Nat := 50
abbrev i_impl_FailingHeight_1 : Nat := 51
abbrev i_slices_Compact_s_impl_Tile_impl_Tile_ : Nat := 52
abbrev i_slices_SortedFunc_impl_Tile_ : Nat := 53
abbrev i_slices_Values_s_impl_Tile_impl_Tile_ : Nat := 54
abbrev i_impl_compare : Nat := 55
abbrev i_spec_l01Made : Nat := 56
abbrev i_impl_TransposedSet : Nat := 57
abbrev i_spec_l01Tile : Nat := 58
abbrev i_spec_l01Before : Nat := 59
abbrev i_spec_l01Sort : Nat := 60
abbrev i_laws_toTile : Nat := 61
abbrev i_slices_ContainsFunc_s_impl_Set_impl_Set_ : Nat := 62
abbrev i_impl_areSets_1 : Nat := 63
abbrev i_impl_IsSet : Nat := 64
abbrev i_impl_limited : Nat := 65
abbrev i_laws_eqTile : Nat := 66
abbrev i_spec_l04Sorted : Nat := 67
abbrev i_spec_l04Find : Nat := 68
abbrev i_impl_Set_isNumber : Nat := 69
abbrev i_impl_pairs : Nat := 70
abbrev i_impl_pairOf : Nat := 71
abbrev i_spec_l02Lasting : Nat := 72
abbrev i_spec_l04Keep : Nat := 73
abbrev i_spec_l04Open : Nat := 74
abbrev i_spec_l04Stack : Nat := 75
abbrev i_slices_Collect_impl_Tile_ : Nat := 76
abbrev i_slices_SortFunc_s_impl_Tile_impl_Tile_ : Nat := 77
abbrev i_slices_Values_s_impl_Tile_impl_Tile__1 : Nat := 78
abbrev i_slices_Compare_s_int64_int64_ : Nat := 79
abbrev i_impl_changed : Nat := 80
abbrev i_impl_TransposedSet_1 : Nat := 81
abbrev i_impl_Tile_sides : Nat := 82
abbrev i_slices_IndexFunc_s_impl_Set_impl_Set_ : Nat := 83
abbrev i_impl_isTile : Nat := 84
abbrev i_impl_setOf : Nat := 85
abbrev i_slices_SortFunc_s__2_int64__2_int64_ : Nat := 86
abbrev i_impl_pairs_1 : Nat := 87
abbrev i_slices_AppendSeq_s_impl_Tile_impl_Tile_ : Nat := 88
abbrev i_slices_pdqsortCmpFunc_impl_Tile_ : Nat := 89
abbrev i_math_bits_Len : Nat := 90
abbrev i_cmp_Compare_int64_ : Nat := 91
abbrev i_slices_ContainsFunc_s_int64_int64_ : Nat := 92
abbrev i_impl_isTile_1 : Nat := 93
abbrev i_slices_pdqsortCmpFunc__2_int64_ : Nat := 94
abbrev i_slices_insertionSortCmpFunc_impl_Tile_ : Nat := 95
abbrev i_slices_heapSortCmpFunc_impl_Tile_ : Nat := 96
abbrev i_slices_breakPatternsCmpFunc_impl_Tile_ : Nat := 97
abbrev i_slices_choosePivotCmpFunc_impl_Tile_ : Nat := 98
abbrev i_slices_reverseRangeCmpFunc_impl_Tile_ : Nat := 99
abbrev i_slices_partialInsertionSortCmpFunc_impl_Tile_ : Nat := 100
abbrev i_slices_partitionEqualCmpFunc_impl_Tile_ : Nat := 101
abbrev i_slices_partitionCmpFunc_impl_Tile_ : Nat := 102
abbrev i_math_bits_Len32 : Nat := 103
abbrev i_math_bits_Len64 : Nat := 104
abbrev i_cmp_isNaN_int64_ : Nat := 105
abbrev i_slices_IndexFunc_s_int64_int64_ : Nat := 106
abbrev i_slices_insertionSortCmpFunc__2_int64_ : Nat := 107
abbrev i_slices_heapSortCmpFunc__2_int64_ : Nat := 108
abbrev i_slices_breakPatternsCmpFunc__2_int64_ : Nat := 109
abbrev i_slices_choosePivotCmpFunc__2_int64_ : Nat := 110
abbrev i_slices_reverseRangeCmpFunc__2_int64_ : Nat := 111
abbrev i_slices_partialInsertionSortCmpFunc__2_int64_ : Nat := 112
abbrev i_slices_partitionEqualCmpFunc__2_int64_ : Nat := 113
abbrev i_slices_partitionCmpFunc__2_int64_ : Nat := 114
abbrev i_slices_siftDownCmpFunc_impl_Tile_ : Nat := 115
abbrev i_slices_nextPowerOfTwo : Nat := 116
abbrev i_slices_xorshift_Next : Nat := 117
abbrev i_slices_medianAdjacentCmpFunc_impl_Tile_ : Nat := 118
abbrev i_slices_medianCmpFunc_impl_Tile_ : Nat := 119
abbrev i_slices_siftDownCmpFunc__2_int64_ : Nat := 120
abbrev i_slices_medianAdjacentCmpFunc__2_int64_ : Nat := 121
abbrev i_slices_medianCmpFunc__2_int64_ : Nat := 122
abbrev i_slices_order2CmpFunc_impl_Tile_ : Nat := 123
abbrev i_slices_order2CmpFunc__2_int64_ : Nat := 124
abbrev i_runtime_boundsError_Error : Nat := 125
abbrev i_runtime_boundsError_RuntimeError : Nat := 126
abbrev i_runtime_errorString_Error : Nat := 127
abbrev i_runtime_errorString_RuntimeError : Nat := 128
abbrev i_runtime_plainError_Error : Nat := 129
abbrev i_runtime_plainError_RuntimeError : Nat := 130
abbrev i_runtime_errorAddressString_Error : Nat := 131
abbrev i_runtime_errorAddressString_RuntimeError : Nat := 132
abbrev i_runtime_TypeAssertionError_Error : Nat := 133
abbrev i_runtime_TypeAssertionError_RuntimeError : Nat := 134
abbrev i_runtime_PanicNilError_Error : Nat := 135
abbrev i_runtime_PanicNilError_RuntimeError : Nat := 136
abbrev i_internal_abi_Type_Align : Nat := 137
abbrev i_internal_runtime_maps_unhashableTypeError_Error : Nat := 138
abbrev i_internal_runtime_maps_unhashableTypeError_RuntimeError : Nat := 139
abbrev i_impl_Tile_class : Nat := 140
abbrev i_internal_abi_Kind_String : Nat := 141
theorem tok : TOK Try.prog tab := ⟨169, by kernel_rfl⟩
theorem mixed : Try.prog.follows .mixedOrders = true := by kernel_rfl
end Go.Proofs.Ytlbglfgienklfaa.Cl
