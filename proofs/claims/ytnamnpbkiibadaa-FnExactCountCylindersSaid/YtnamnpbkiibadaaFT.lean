/- The table of types. No claim is stated here. -/
import Derived.Test.YtnamnpbkiibadaaProg
import Derived.Test.YtnamnpbkiibadaaFa2
import Derived.KernelRfl
/- The table of types and the numbers of the functions. Printed by program. No claim is stated here. -/
set_option linter.unusedVariables false
namespace Go.Proofs.Ytnamnpbkiibadaa.Cl
open Go
abbrev U : AVal := .undef
def tab : Tab := [
  .none,
  ⟨.func, 1, 8, [.nilFunc]⟩,
  ⟨.int .i64, 1, 8, [.int .i64 (0)]⟩,
  ⟨.int .i64, 1, 8, [.int .i64 (0)]⟩,
  ⟨.bool, 1, 1, [.bool false]⟩,
  ⟨.int .u8, 1, 1, [.int .u8 (0)]⟩,
  ⟨.int .u8, 1, 1, [.int .u8 (0)]⟩,
  ⟨.struct [(0, 2), (1, 3), (2, 4), (3, 6)], 4, 24, [.int .i64 (0), .int .i64 (0), .bool false, .int .u8 (0)]⟩,
  ⟨.struct [(0, 2), (1, 3), (2, 4), (3, 6)], 4, 24, [.int .i64 (0), .int .i64 (0), .bool false, .int .u8 (0)]⟩,
  ⟨.str, 1, 16, [.str ByteArray.empty]⟩,
  ⟨.str, 1, 16, [.str ByteArray.empty]⟩,
  ⟨.str, 1, 16, [.str ByteArray.empty]⟩,
  ⟨.int .u64, 1, 8, [.int .u64 (0)]⟩,
  ⟨.struct [(0, 9), (1, 12)], 2, 24, [.str ByteArray.empty, .int .u64 (0)]⟩,
  ⟨.struct [(0, 9), (1, 12)], 2, 24, [.str ByteArray.empty, .int .u64 (0)]⟩,
  ⟨.ptr, 1, 8, [.ptr Pt.nil]⟩,
  ⟨.ptr, 1, 8, [.ptr Pt.nil]⟩,
  ⟨.ptr, 1, 8, [.ptr Pt.nil]⟩,
  ⟨.struct [(0, 17)], 1, 8, [.ptr Pt.nil]⟩,
  ⟨.struct [(0, 17)], 1, 8, [.ptr Pt.nil]⟩,
  .none,
  ⟨.int .i32, 1, 4, [.int .i32 (0)]⟩,
  ⟨.sl 78, 1, 24, [.sl Sl.nil]⟩,
  ⟨.struct [(0, 2), (1, 22)], 2, 32, [.int .i64 (0), .sl Sl.nil]⟩,
  ⟨.struct [(0, 2), (1, 22)], 2, 32, [.int .i64 (0), .sl Sl.nil]⟩,
  ⟨.func, 1, 8, [.nilFunc]⟩,
  ⟨.sl 2, 1, 24, [.sl Sl.nil]⟩,
  .none,
  ⟨.func, 1, 8, [.nilFunc]⟩,
  ⟨.sl 79, 1, 24, [.sl Sl.nil]⟩,
  ⟨.struct [(0, 2), (1, 29)], 2, 32, [.int .i64 (0), .sl Sl.nil]⟩,
  ⟨.struct [(0, 2), (1, 29)], 2, 32, [.int .i64 (0), .sl Sl.nil]⟩,
  ⟨.func, 1, 8, [.nilFunc]⟩,
  ⟨.func, 1, 8, [.nilFunc]⟩,
  ⟨.func, 1, 8, [.nilFunc]⟩,
  ⟨.func, 1, 8, [.nilFunc]⟩,
  ⟨.func, 1, 8, [.nilFunc]⟩,
  ⟨.func, 1, 8, [.nilFunc]⟩,
  .none,
  ⟨.func, 1, 8, [.nilFunc]⟩,
  ⟨.func, 1, 8, [.nilFunc]⟩,
  ⟨.func, 1, 8, [.nilFunc]⟩,
  ⟨.sl 26, 1, 24, [.sl Sl.nil]⟩,
  .none,
  ⟨.func, 1, 8, [.nilFunc]⟩,
  ⟨.func, 1, 8, [.nilFunc]⟩,
  ⟨.func, 1, 8, [.nilFunc]⟩,
  ⟨.func, 1, 8, [.nilFunc]⟩,
  ⟨.func, 1, 8, [.nilFunc]⟩,
  ⟨.ptr, 1, 8, [.ptr Pt.nil]⟩,
  .none,
  ⟨.func, 1, 8, [.nilFunc]⟩,
  ⟨.map 2 4, 1, 8, [.map none]⟩,
  ⟨.sl 56, 1, 24, [.sl Sl.nil]⟩,
  ⟨.struct [(0, 31), (2, 2), (3, 2), (4, 53)], 5, 72, [.int .i64 (0), .sl Sl.nil, .int .i64 (0), .int .i64 (0), .sl Sl.nil]⟩,
  ⟨.struct [(0, 31), (2, 2), (3, 2), (4, 53)], 5, 72, [.int .i64 (0), .sl Sl.nil, .int .i64 (0), .int .i64 (0), .sl Sl.nil]⟩,
  ⟨.arr 3 2, 3, 24, [.int .i64 (0), .int .i64 (0), .int .i64 (0)]⟩,
  ⟨.func, 1, 8, [.nilFunc]⟩,
  ⟨.func, 1, 8, [.nilFunc]⟩,
  ⟨.func, 1, 8, [.nilFunc]⟩,
  ⟨.func, 1, 8, [.nilFunc]⟩,
  ⟨.func, 1, 8, [.nilFunc]⟩,
  ⟨.func, 1, 8, [.nilFunc]⟩,
  .none,
  ⟨.func, 1, 8, [.nilFunc]⟩,
  ⟨.func, 1, 8, [.nilFunc]⟩,
  ⟨.func, 1, 8, [.nilFunc]⟩,
  ⟨.func, 1, 8, [.nilFunc]⟩,
  ⟨.func, 1, 8, [.nilFunc]⟩,
  ⟨.func, 1, 8, [.nilFunc]⟩,
  ⟨.sl 73, 1, 24, [.sl Sl.nil]⟩,
  ⟨.func, 1, 8, [.nilFunc]⟩,
  ⟨.map 2 2, 1, 8, [.map none]⟩,
  ⟨.arr 2 2, 2, 16, [.int .i64 (0), .int .i64 (0)]⟩,
  ⟨.func, 1, 8, [.nilFunc]⟩,
  ⟨.func, 1, 8, [.nilFunc]⟩,
  .none,
  ⟨.func, 1, 8, [.nilFunc]⟩,
  ⟨.arr 4 2, 4, 32, [.int .i64 (0), .int .i64 (0), .int .i64 (0), .int .i64 (0)]⟩,
  ⟨.arr 4 2, 4, 32, [.int .i64 (0), .int .i64 (0), .int .i64 (0), .int .i64 (0)]⟩,
  ⟨.func, 1, 8, [.nilFunc]⟩,
  .none,
  ⟨.func, 1, 8, [.nilFunc]⟩,
  ⟨.func, 1, 8, [.nilFunc]⟩,
  ⟨.func, 1, 8, [.nilFunc]⟩,
  ⟨.func, 1, 8, [.nilFunc]⟩,
  ⟨.func, 1, 8, [.nilFunc]⟩,
  ⟨.func, 1, 8, [.nilFunc]⟩,
  ⟨.func, 1, 8, [.nilFunc]⟩,
  ⟨.func, 1, 8, [.nilFunc]⟩,
  ⟨.func, 1, 8, [.nilFunc]⟩,
  ⟨.int .u64, 1, 8, [.int .u64 (0)]⟩,
  .none,
  ⟨.func, 1, 8, [.nilFunc]⟩,
  ⟨.func, 1, 8, [.nilFunc]⟩,
  ⟨.func, 1, 8, [.nilFunc]⟩,
  ⟨.int .u32, 1, 4, [.int .u32 (0)]⟩,
  .none,
  ⟨.func, 1, 8, [.nilFunc]⟩,
  ⟨.int .u64, 1, 8, [.int .u64 (0)]⟩,
  .none,
  ⟨.func, 1, 8, [.nilFunc]⟩,
  ⟨.func, 1, 8, [.nilFunc]⟩,
  ⟨.func, 1, 8, [.nilFunc]⟩,
  ⟨.func, 1, 8, [.nilFunc]⟩,
  ⟨.func, 1, 8, [.nilFunc]⟩,
  ⟨.func, 1, 8, [.nilFunc]⟩,
  ⟨.struct [(0, 17), (1, 17), (2, 17), (3, 9)], 4, 40, [.ptr Pt.nil, .ptr Pt.nil, .ptr Pt.nil, .str ByteArray.empty]⟩,
  ⟨.struct [(0, 17), (1, 17), (2, 17), (3, 9)], 4, 40, [.ptr Pt.nil, .ptr Pt.nil, .ptr Pt.nil, .str ByteArray.empty]⟩,
  ⟨.arr 0 16, 0, 0, []⟩,
  ⟨.other, 0, 0, []⟩,
  ⟨.other, 0, 0, []⟩,
  ⟨.func, 1, 8, [.nilFunc]⟩,
  ⟨.int .u8, 1, 1, [.int .u8 (0)]⟩,
  ⟨.int .u8, 1, 1, [.int .u8 (0)]⟩,
  ⟨.func, 1, 8, [.nilFunc]⟩,
  ⟨.ptr, 1, 8, [.ptr Pt.nil]⟩,
  ⟨.int .i32, 1, 4, [.int .i32 (0)]⟩,
  ⟨.int .i32, 1, 4, [.int .i32 (0)]⟩,
  ⟨.struct [(0, 12), (1, 12), (2, 96), (3, 113), (4, 5), (5, 5), (6, 114), (7, 115), (8, 116), (9, 117), (10, 118)], 11, 48, [.int .u64 (0), .int .u64 (0), .int .u32 (0), .int .u8 (0), .int .u8 (0), .int .u8 (0), .int .u8 (0), .nilFunc, .ptr Pt.nil, .int .i32 (0), .int .i32 (0)]⟩,
  ⟨.struct [(0, 12), (1, 12), (2, 96), (3, 113), (4, 5), (5, 5), (6, 114), (7, 115), (8, 116), (9, 117), (10, 118)], 11, 48, [.int .u64 (0), .int .u64 (0), .int .u32 (0), .int .u8 (0), .int .u8 (0), .int .u8 (0), .int .u8 (0), .nilFunc, .ptr Pt.nil, .int .i32 (0), .int .i32 (0)]⟩,
  ⟨.func, 1, 8, [.nilFunc]⟩,
  ⟨.func, 1, 8, [.nilFunc]⟩,
  ⟨.other, 1, 8, [.ptr Pt.nil]⟩]
def ntypes : Nat := 124
abbrev i_main_main : Nat := 0
abbrev i_gosem_cut : Nat := 1
abbrev i_gosem_cut_init : Nat := 2
abbrev i_laws_FnExactRecurrenceOf : Nat := 3
abbrev i_laws_FnExactCountCylinders : Nat := 4
abbrev i_laws_szSet : Nat := 5
abbrev i_spec_RecurrenceOf : Nat := 6
abbrev i_laws_toSet : Nat := 7
abbrev i_impl_RecurrenceOf : Nat := 8
abbrev i_laws_eqInt64S : Nat := 9
abbrev i_laws_eqSet : Nat := 10
abbrev i_laws_markSet : Nat := 11
abbrev i_laws_markInt64S : Nat := 12
abbrev i_laws_heldInt64S : Nat := 13
abbrev i_spec_CountCylinders : Nat := 14
abbrev i_impl_CountCylinders : Nat := 15
abbrev i_laws_szTileS : Nat := 16
abbrev i_spec_l06Code : Nat := 17
abbrev i_spec_l06Size : Nat := 18
abbrev i_spec_l04Sorted : Nat := 19
abbrev i_spec_l02Each : Nat := 20
abbrev i_spec_l06Shortest : Nat := 21
abbrev i_laws_toTileS : Nat := 22
abbrev i_impl_stripOf : Nat := 23
abbrev i_impl_strip_sequence : Nat := 24
abbrev i_impl_modulo : Nat := 25
abbrev i_impl_RecurrenceOf_1 : Nat := 26
abbrev i_impl_shortest : Nat := 27
abbrev i_laws_eqTileS : Nat := 28
abbrev i_laws_markTileS : Nat := 29
abbrev i_spec_l05Code : Nat := 30
abbrev i_spec_l05Words : Nat := 31
abbrev i_spec_l05Paths : Nat := 32
abbrev i_spec_l03Power : Nat := 33
abbrev i_impl_setCode : Nat := 34
abbrev i_impl_CountCylinders_1 : Nat := 35
abbrev i_impl_within : Nat := 36
abbrev i_impl_Set_rounds : Nat := 37
abbrev i_impl_counted : Nat := 38
abbrev i_spec_l01Is : Nat := 39
abbrev i_spec_l01In : Nat := 40
abbrev i_spec_l06Columns : Nat := 41
abbrev i_spec_l01Own : Nat := 42
abbrev i_spec_l06Inverse : Nat := 43
abbrev i_laws_toTile : Nat := 44
abbrev i_impl_stripOf_1 : Nat := 45
abbrev i_impl_newStrip : Nat := 46
abbrev i_slices_Repeat_s_int64_int64_ : Nat := 47
abbrev i_impl_at : Nat := 48
abbrev i_impl_inverse : Nat := 49
abbrev i_slices_Clone_s_int64_int64_ : Nat := 50
abbrev i_laws_eqTile : Nat := 51
abbrev i_spec_l05Rounds : Nat := 52
abbrev i_spec_l05Side : Nat := 53
abbrev i_impl_IsSet : Nat := 54
abbrev i_impl_Set_rounds_1 : Nat := 55
abbrev i_spec_l01Tile : Nat := 56
abbrev i_spec_l01Before : Nat := 57
abbrev i_impl_newStrip_1 : Nat := 58
abbrev i_math_bits_Mul : Nat := 59
abbrev i_impl_isTile : Nat := 60
abbrev i_impl_compare : Nat := 61
abbrev i_math_bits_Mul32 : Nat := 62
abbrev i_math_bits_Mul64 : Nat := 63
abbrev i_slices_ContainsFunc_s_int64_int64_ : Nat := 64
abbrev i_impl_isTile_1 : Nat := 65
abbrev i_slices_Compare_s_int64_int64_ : Nat := 66
abbrev i_slices_IndexFunc_s_int64_int64_ : Nat := 67
abbrev i_cmp_Compare_int64_ : Nat := 68
abbrev i_cmp_isNaN_int64_ : Nat := 69
abbrev i_runtime_boundsError_Error : Nat := 70
abbrev i_runtime_boundsError_RuntimeError : Nat := 71
abbrev i_runtime_errorString_Error : Nat := 72
abbrev i_runtime_errorString_RuntimeError : Nat := 73
abbrev i_runtime_plainError_Error : Nat := 74
abbrev i_runtime_plainError_RuntimeError : Nat := 75
abbrev i_runtime_errorAddressString_Error : Nat := 76
abbrev i_runtime_errorAddressString_RuntimeError : Nat := 77
abbrev i_runtime_TypeAssertionError_Error : Nat := 78
abbrev i_runtime_TypeAssertionError_RuntimeError : Nat := 79
abbrev i_runtime_PanicNilError_Error : Nat := 80
abbrev i_runtime_PanicNilError_RuntimeError : Nat := 81
abbrev i_internal_abi_Type_Align : Nat := 82
abbrev i_internal_runtime_maps_unhashableTypeError_Error : Nat := 83
abbrev i_internal_runtime_maps_unhashableTypeError_RuntimeError : Nat := 84
abbrev i_impl_Set_isNumber : Nat := 85
abbrev i_impl_strip_isTrace : Nat := 86
abbrev i_impl_Tile_class : Nat := 87
abbrev i_internal_abi_Kind_String : Nat := 88
theorem tok : TOK Try.prog tab := ⟨124, by kernel_rfl⟩
theorem mixed : Try.prog.follows .mixedOrders = true := by kernel_rfl
end Go.Proofs.Ytnamnpbkiibadaa.Cl
