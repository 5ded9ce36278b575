/- The table of types. No claim is stated here. -/
import Derived.Test.YtgeakkmpohjohaaProg
import Derived.Test.YtgeakkmpohjohaaFa1
import Derived.KernelRfl
/- The table of types and the numbers of the functions. Printed by program. No claim is stated here. -/
set_option linter.unusedVariables false
namespace Go.Proofs.Ytgeakkmpohjohaa.Cl
open Go
abbrev U : AVal := .undef
def tab : Tab := [
  .none,
  ⟨.func, 1, 8, [.nilFunc]⟩,
  ⟨.int .i64, 1, 8, [.int .i64 (0)]⟩,
  ⟨.int .i64, 1, 8, [.int .i64 (0)]⟩,
  ⟨.bool, 1, 1, [.bool false]⟩,
  ⟨.int .u8, 1, 1, [.int .u8 (0)]⟩,
  ⟨.int .u8, 1, 1, [.int .u8 (0)]⟩,
  ⟨.struct [(0, 2), (1, 3), (2, 4), (3, 6)], 4, 24, [.int .i64 (0), .int .i64 (0), .bool false, .int .u8 (0)]⟩,
  ⟨.struct [(0, 2), (1, 3), (2, 4), (3, 6)], 4, 24, [.int .i64 (0), .int .i64 (0), .bool false, .int .u8 (0)]⟩,
  ⟨.str, 1, 16, [.str ByteArray.empty]⟩,
  ⟨.str, 1, 16, [.str ByteArray.empty]⟩,
  ⟨.str, 1, 16, [.str ByteArray.empty]⟩,
  ⟨.int .u64, 1, 8, [.int .u64 (0)]⟩,
  ⟨.struct [(0, 9), (1, 12)], 2, 24, [.str ByteArray.empty, .int .u64 (0)]⟩,
  ⟨.struct [(0, 9), (1, 12)], 2, 24, [.str ByteArray.empty, .int .u64 (0)]⟩,
  ⟨.ptr, 1, 8, [.ptr Pt.nil]⟩,
  ⟨.ptr, 1, 8, [.ptr Pt.nil]⟩,
  ⟨.ptr, 1, 8, [.ptr Pt.nil]⟩,
  ⟨.struct [(0, 17)], 1, 8, [.ptr Pt.nil]⟩,
  ⟨.struct [(0, 17)], 1, 8, [.ptr Pt.nil]⟩,
  .none,
  ⟨.int .i32, 1, 4, [.int .i32 (0)]⟩,
  ⟨.sl 67, 1, 24, [.sl Sl.nil]⟩,
  ⟨.struct [(0, 2), (1, 22)], 2, 32, [.int .i64 (0), .sl Sl.nil]⟩,
  ⟨.struct [(0, 2), (1, 22)], 2, 32, [.int .i64 (0), .sl Sl.nil]⟩,
  ⟨.sl 28, 1, 24, [.sl Sl.nil]⟩,
  ⟨.func, 1, 8, [.nilFunc]⟩,
  ⟨.func, 1, 8, [.nilFunc]⟩,
  ⟨.sl 2, 1, 24, [.sl Sl.nil]⟩,
  .none,
  ⟨.func, 1, 8, [.nilFunc]⟩,
  ⟨.sl 68, 1, 24, [.sl Sl.nil]⟩,
  ⟨.struct [(0, 2), (1, 31)], 2, 32, [.int .i64 (0), .sl Sl.nil]⟩,
  ⟨.struct [(0, 2), (1, 31)], 2, 32, [.int .i64 (0), .sl Sl.nil]⟩,
  ⟨.func, 1, 8, [.nilFunc]⟩,
  ⟨.func, 1, 8, [.nilFunc]⟩,
  ⟨.func, 1, 8, [.nilFunc]⟩,
  ⟨.func, 1, 8, [.nilFunc]⟩,
  ⟨.func, 1, 8, [.nilFunc]⟩,
  ⟨.func, 1, 8, [.nilFunc]⟩,
  ⟨.func, 1, 8, [.nilFunc]⟩,
  ⟨.func, 1, 8, [.nilFunc]⟩,
  .none,
  ⟨.func, 1, 8, [.nilFunc]⟩,
  ⟨.func, 1, 8, [.nilFunc]⟩,
  ⟨.func, 1, 8, [.nilFunc]⟩,
  ⟨.func, 1, 8, [.nilFunc]⟩,
  ⟨.func, 1, 8, [.nilFunc]⟩,
  ⟨.func, 1, 8, [.nilFunc]⟩,
  ⟨.int .u64, 1, 8, [.int .u64 (0)]⟩,
  ⟨.func, 1, 8, [.nilFunc]⟩,
  ⟨.func, 1, 8, [.nilFunc]⟩,
  ⟨.ptr, 1, 8, [.ptr Pt.nil]⟩,
  ⟨.func, 1, 8, [.nilFunc]⟩,
  ⟨.func, 1, 8, [.nilFunc]⟩,
  ⟨.func, 1, 8, [.nilFunc]⟩,
  ⟨.func, 1, 8, [.nilFunc]⟩,
  ⟨.func, 1, 8, [.nilFunc]⟩,
  ⟨.sl 4, 1, 24, [.sl Sl.nil]⟩,
  ⟨.sl 58, 1, 24, [.sl Sl.nil]⟩,
  ⟨.struct [(0, 33), (2, 25), (3, 25), (4, 28), (5, 25), (6, 59)], 7, 152, [.int .i64 (0), .sl Sl.nil, .sl Sl.nil, .sl Sl.nil, .sl Sl.nil, .sl Sl.nil, .sl Sl.nil]⟩,
  ⟨.struct [(0, 33), (2, 25), (3, 25), (4, 28), (5, 25), (6, 59)], 7, 152, [.int .i64 (0), .sl Sl.nil, .sl Sl.nil, .sl Sl.nil, .sl Sl.nil, .sl Sl.nil, .sl Sl.nil]⟩,
  ⟨.func, 1, 8, [.nilFunc]⟩,
  ⟨.func, 1, 8, [.nilFunc]⟩,
  ⟨.func, 1, 8, [.nilFunc]⟩,
  ⟨.func, 1, 8, [.nilFunc]⟩,
  ⟨.func, 1, 8, [.nilFunc]⟩,
  ⟨.arr 4 2, 4, 32, [.int .i64 (0), .int .i64 (0), .int .i64 (0), .int .i64 (0)]⟩,
  ⟨.arr 4 2, 4, 32, [.int .i64 (0), .int .i64 (0), .int .i64 (0), .int .i64 (0)]⟩,
  ⟨.func, 1, 8, [.nilFunc]⟩,
  ⟨.func, 1, 8, [.nilFunc]⟩,
  ⟨.func, 1, 8, [.nilFunc]⟩,
  ⟨.func, 1, 8, [.nilFunc]⟩,
  ⟨.func, 1, 8, [.nilFunc]⟩,
  .none,
  ⟨.func, 1, 8, [.nilFunc]⟩,
  ⟨.func, 1, 8, [.nilFunc]⟩,
  ⟨.func, 1, 8, [.nilFunc]⟩,
  ⟨.func, 1, 8, [.nilFunc]⟩,
  ⟨.func, 1, 8, [.nilFunc]⟩,
  ⟨.func, 1, 8, [.nilFunc]⟩,
  ⟨.func, 1, 8, [.nilFunc]⟩,
  ⟨.func, 1, 8, [.nilFunc]⟩,
  ⟨.func, 1, 8, [.nilFunc]⟩,
  ⟨.func, 1, 8, [.nilFunc]⟩,
  ⟨.func, 1, 8, [.nilFunc]⟩,
  ⟨.func, 1, 8, [.nilFunc]⟩,
  ⟨.func, 1, 8, [.nilFunc]⟩,
  ⟨.func, 1, 8, [.nilFunc]⟩,
  ⟨.func, 1, 8, [.nilFunc]⟩,
  ⟨.func, 1, 8, [.nilFunc]⟩,
  ⟨.func, 1, 8, [.nilFunc]⟩,
  ⟨.func, 1, 8, [.nilFunc]⟩,
  ⟨.struct [(0, 17), (1, 17), (2, 17), (3, 9)], 4, 40, [.ptr Pt.nil, .ptr Pt.nil, .ptr Pt.nil, .str ByteArray.empty]⟩,
  ⟨.struct [(0, 17), (1, 17), (2, 17), (3, 9)], 4, 40, [.ptr Pt.nil, .ptr Pt.nil, .ptr Pt.nil, .str ByteArray.empty]⟩,
  ⟨.arr 0 16, 0, 0, []⟩,
  ⟨.other, 0, 0, []⟩,
  ⟨.other, 0, 0, []⟩,
  ⟨.int .u32, 1, 4, [.int .u32 (0)]⟩,
  ⟨.int .u8, 1, 1, [.int .u8 (0)]⟩,
  ⟨.int .u8, 1, 1, [.int .u8 (0)]⟩,
  ⟨.func, 1, 8, [.nilFunc]⟩,
  ⟨.ptr, 1, 8, [.ptr Pt.nil]⟩,
  ⟨.int .i32, 1, 4, [.int .i32 (0)]⟩,
  ⟨.int .i32, 1, 4, [.int .i32 (0)]⟩,
  ⟨.struct [(0, 12), (1, 12), (2, 98), (3, 99), (4, 5), (5, 5), (6, 100), (7, 101), (8, 102), (9, 103), (10, 104)], 11, 48, [.int .u64 (0), .int .u64 (0), .int .u32 (0), .int .u8 (0), .int .u8 (0), .int .u8 (0), .int .u8 (0), .nilFunc, .ptr Pt.nil, .int .i32 (0), .int .i32 (0)]⟩,
  ⟨.struct [(0, 12), (1, 12), (2, 98), (3, 99), (4, 5), (5, 5), (6, 100), (7, 101), (8, 102), (9, 103), (10, 104)], 11, 48, [.int .u64 (0), .int .u64 (0), .int .u32 (0), .int .u8 (0), .int .u8 (0), .int .u8 (0), .int .u8 (0), .nilFunc, .ptr Pt.nil, .int .i32 (0), .int .i32 (0)]⟩,
  ⟨.func, 1, 8, [.nilFunc]⟩,
  ⟨.func, 1, 8, [.nilFunc]⟩,
  ⟨.other, 1, 8, [.ptr Pt.nil]⟩]
def ntypes : Nat := 110
abbrev i_main_main : Nat := 0
abbrev i_gosem_cut : Nat := 1
abbrev i_gosem_cut_init : Nat := 2
abbrev i_laws_FnExactTilesAt : Nat := 3
abbrev i_laws_FnExactSamePlaces : Nat := 4
abbrev i_laws_szSet : Nat := 5
abbrev i_laws_szInt64SS : Nat := 6
abbrev i_spec_TilesAt : Nat := 7
abbrev i_laws_toSet : Nat := 8
abbrev i_laws_toInt64SS : Nat := 9
abbrev i_impl_TilesAt : Nat := 10
abbrev i_laws_eqInt64S : Nat := 11
abbrev i_laws_eqSet : Nat := 12
abbrev i_laws_eqInt64SS : Nat := 13
abbrev i_laws_markSet : Nat := 14
abbrev i_laws_markInt64SS : Nat := 15
abbrev i_laws_markInt64S : Nat := 16
abbrev i_laws_heldInt64S : Nat := 17
abbrev i_spec_SamePlaces : Nat := 18
abbrev i_impl_SamePlaces : Nat := 19
abbrev i_laws_heldInt64SS : Nat := 20
abbrev i_laws_szTileS : Nat := 21
abbrev i_laws_szInt64S : Nat := 22
abbrev i_spec_l03Plan : Nat := 23
abbrev i_spec_l01In : Nat := 24
abbrev i_spec_l03Stand : Nat := 25
abbrev i_laws_toTileS : Nat := 26
abbrev i_laws_toInt64S : Nat := 27
abbrev i_impl_planCode : Nat := 28
abbrev i_impl_within : Nat := 29
abbrev i_impl_newFiller : Nat := 30
abbrev i_impl_filler_at : Nat := 31
abbrev i_laws_eqTileS : Nat := 32
abbrev i_laws_markTileS : Nat := 33
abbrev i_spec_l03Cut : Nat := 34
abbrev i_spec_l01Is : Nat := 35
abbrev i_spec_l01Word : Nat := 36
abbrev i_spec_l03Layers : Nat := 37
abbrev i_spec_l03Can : Nat := 38
abbrev i_spec_l03Step : Nat := 39
abbrev i_laws_toTile : Nat := 40
abbrev i_impl_setCode : Nat := 41
abbrev i_impl_planCode_1 : Nat := 42
abbrev i_impl_Set_isPlan : Nat := 43
abbrev i_impl_Set_areBorders : Nat := 44
abbrev i_impl_filler_size : Nat := 45
abbrev i_impl_filler_fits : Nat := 46
abbrev i_laws_eqTile : Nat := 47
abbrev i_spec_l01Own : Nat := 48
abbrev i_spec_l01Tile : Nat := 49
abbrev i_spec_l01Before : Nat := 50
abbrev i_spec_l03Power : Nat := 51
abbrev i_spec_l03Fits : Nat := 52
abbrev i_spec_l03Digit : Nat := 53
abbrev i_impl_IsSet : Nat := 54
abbrev i_impl_Set_isNumber : Nat := 55
abbrev i_impl_isTable : Nat := 56
abbrev i_impl_Set_isWord : Nat := 57
abbrev i_impl_filler_fits_1 : Nat := 58
abbrev i_impl_filler_fits_2 : Nat := 59
abbrev i_impl_isTile : Nat := 60
abbrev i_impl_compare : Nat := 61
abbrev i_slices_ContainsFunc_s_int64_int64_ : Nat := 62
abbrev i_impl_Set_isWord_1 : Nat := 63
abbrev i_impl_isTile_1 : Nat := 64
abbrev i_slices_Compare_s_int64_int64_ : Nat := 65
abbrev i_slices_IndexFunc_s_int64_int64_ : Nat := 66
abbrev i_cmp_Compare_int64_ : Nat := 67
abbrev i_cmp_isNaN_int64_ : Nat := 68
abbrev i_runtime_boundsError_Error : Nat := 69
abbrev i_runtime_boundsError_RuntimeError : Nat := 70
abbrev i_runtime_errorString_Error : Nat := 71
abbrev i_runtime_errorString_RuntimeError : Nat := 72
abbrev i_runtime_plainError_Error : Nat := 73
abbrev i_runtime_plainError_RuntimeError : Nat := 74
abbrev i_runtime_errorAddressString_Error : Nat := 75
abbrev i_runtime_errorAddressString_RuntimeError : Nat := 76
abbrev i_runtime_TypeAssertionError_Error : Nat := 77
abbrev i_runtime_TypeAssertionError_RuntimeError : Nat := 78
abbrev i_runtime_PanicNilError_Error : Nat := 79
abbrev i_runtime_PanicNilError_RuntimeError : Nat := 80
abbrev i_internal_abi_Type_Align : Nat := 81
abbrev i_internal_runtime_maps_unhashableTypeError_Error : Nat := 82
abbrev i_internal_runtime_maps_unhashableTypeError_RuntimeError : Nat := 83
abbrev i_impl_filler_count : Nat := 84
abbrev i_impl_Tile_class : Nat := 85
abbrev i_internal_abi_Kind_String : Nat := 86
theorem tok : TOK Try.prog tab := ⟨110, by kernel_rfl⟩
theorem mixed : Try.prog.follows .mixedOrders = true := by kernel_rfl
end Go.Proofs.Ytgeakkmpohjohaa.Cl
