/- The table of types. No claim is stated here. -/
import Derived.Test.YtekfmmcolgjdmaaProg
import Derived.Test.YtekfmmcolgjdmaaFa1
import Derived.KernelRfl
/- The table of types and the numbers of the functions. Printed by program. No claim is stated here. -/
set_option linter.unusedVariables false
namespace Go.Proofs.Ytekfmmcolgjdmaa.Cl
open Go
abbrev U : AVal := .undef
def tab : Tab := [
  .none,
  ⟨.func, 1, 8, [.nilFunc]⟩,
  ⟨.int .i64, 1, 8, [.int .i64 (0)]⟩,
  ⟨.int .i64, 1, 8, [.int .i64 (0)]⟩,
  ⟨.bool, 1, 1, [.bool false]⟩,
  ⟨.int .u8, 1, 1, [.int .u8 (0)]⟩,
  ⟨.int .u8, 1, 1, [.int .u8 (0)]⟩,
  ⟨.struct [(0, 2), (1, 3), (2, 4), (3, 6)], 4, 24, [.int .i64 (0), .int .i64 (0), .bool false, .int .u8 (0)]⟩,
  ⟨.struct [(0, 2), (1, 3), (2, 4), (3, 6)], 4, 24, [.int .i64 (0), .int .i64 (0), .bool false, .int .u8 (0)]⟩,
  ⟨.str, 1, 16, [.str ByteArray.empty]⟩,
  ⟨.str, 1, 16, [.str ByteArray.empty]⟩,
  ⟨.str, 1, 16, [.str ByteArray.empty]⟩,
  ⟨.int .u64, 1, 8, [.int .u64 (0)]⟩,
  ⟨.struct [(0, 9), (1, 12)], 2, 24, [.str ByteArray.empty, .int .u64 (0)]⟩,
  ⟨.struct [(0, 9), (1, 12)], 2, 24, [.str ByteArray.empty, .int .u64 (0)]⟩,
  ⟨.ptr, 1, 8, [.ptr Pt.nil]⟩,
  ⟨.ptr, 1, 8, [.ptr Pt.nil]⟩,
  ⟨.ptr, 1, 8, [.ptr Pt.nil]⟩,
  ⟨.struct [(0, 17)], 1, 8, [.ptr Pt.nil]⟩,
  ⟨.struct [(0, 17)], 1, 8, [.ptr Pt.nil]⟩,
  .none,
  ⟨.int .i32, 1, 4, [.int .i32 (0)]⟩,
  .none,
  ⟨.func, 1, 8, [.nilFunc]⟩,
  ⟨.func, 1, 8, [.nilFunc]⟩,
  ⟨.arr 4 2, 4, 32, [.int .i64 (0), .int .i64 (0), .int .i64 (0), .int .i64 (0)]⟩,
  ⟨.sl 29, 1, 24, [.sl Sl.nil]⟩,
  .none,
  ⟨.func, 1, 8, [.nilFunc]⟩,
  ⟨.arr 4 2, 4, 32, [.int .i64 (0), .int .i64 (0), .int .i64 (0), .int .i64 (0)]⟩,
  ⟨.func, 1, 8, [.nilFunc]⟩,
  ⟨.func, 1, 8, [.nilFunc]⟩,
  ⟨.func, 1, 8, [.nilFunc]⟩,
  ⟨.func, 1, 8, [.nilFunc]⟩,
  ⟨.sl 25, 1, 24, [.sl Sl.nil]⟩,
  ⟨.func, 1, 8, [.nilFunc]⟩,
  ⟨.sl 2, 1, 24, [.sl Sl.nil]⟩,
  .none,
  ⟨.func, 1, 8, [.nilFunc]⟩,
  ⟨.func, 1, 8, [.nilFunc]⟩,
  ⟨.func, 1, 8, [.nilFunc]⟩,
  ⟨.func, 1, 8, [.nilFunc]⟩,
  ⟨.func, 1, 8, [.nilFunc]⟩,
  .none,
  ⟨.func, 1, 8, [.nilFunc]⟩,
  ⟨.func, 1, 8, [.nilFunc]⟩,
  .none,
  ⟨.func, 1, 8, [.nilFunc]⟩,
  ⟨.func, 1, 8, [.nilFunc]⟩,
  ⟨.func, 1, 8, [.nilFunc]⟩,
  ⟨.func, 1, 8, [.nilFunc]⟩,
  ⟨.func, 1, 8, [.nilFunc]⟩,
  ⟨.sl 79, 1, 24, [.sl Sl.nil]⟩,
  ⟨.func, 1, 8, [.nilFunc]⟩,
  .none,
  ⟨.func, 1, 8, [.nilFunc]⟩,
  ⟨.sl 76, 1, 24, [.sl Sl.nil]⟩,
  ⟨.func, 1, 8, [.nilFunc]⟩,
  ⟨.func, 1, 8, [.nilFunc]⟩,
  ⟨.func, 1, 8, [.nilFunc]⟩,
  .none,
  ⟨.func, 1, 8, [.nilFunc]⟩,
  ⟨.func, 1, 8, [.nilFunc]⟩,
  ⟨.func, 1, 8, [.nilFunc]⟩,
  ⟨.func, 1, 8, [.nilFunc]⟩,
  ⟨.func, 1, 8, [.nilFunc]⟩,
  ⟨.func, 1, 8, [.nilFunc]⟩,
  ⟨.func, 1, 8, [.nilFunc]⟩,
  ⟨.func, 1, 8, [.nilFunc]⟩,
  ⟨.func, 1, 8, [.nilFunc]⟩,
  ⟨.func, 1, 8, [.nilFunc]⟩,
  ⟨.func, 1, 8, [.nilFunc]⟩,
  ⟨.sl 26, 1, 24, [.sl Sl.nil]⟩,
  ⟨.func, 1, 8, [.nilFunc]⟩,
  ⟨.func, 1, 8, [.nilFunc]⟩,
  ⟨.func, 1, 8, [.nilFunc]⟩,
  ⟨.sl 91, 1, 24, [.sl Sl.nil]⟩,
  ⟨.func, 1, 8, [.nilFunc]⟩,
  ⟨.func, 1, 8, [.nilFunc]⟩,
  ⟨.sl 106, 1, 24, [.sl Sl.nil]⟩,
  ⟨.func, 1, 8, [.nilFunc]⟩,
  ⟨.func, 1, 8, [.nilFunc]⟩,
  ⟨.func, 1, 8, [.nilFunc]⟩,
  ⟨.func, 1, 8, [.nilFunc]⟩,
  ⟨.func, 1, 8, [.nilFunc]⟩,
  .none,
  ⟨.func, 1, 8, [.nilFunc]⟩,
  ⟨.func, 1, 8, [.nilFunc]⟩,
  ⟨.func, 1, 8, [.nilFunc]⟩,
  ⟨.func, 1, 8, [.nilFunc]⟩,
  ⟨.struct [(0, 2), (1, 2)], 2, 16, [.int .i64 (0), .int .i64 (0)]⟩,
  ⟨.struct [(0, 2), (1, 2)], 2, 16, [.int .i64 (0), .int .i64 (0)]⟩,
  ⟨.func, 1, 8, [.nilFunc]⟩,
  ⟨.func, 1, 8, [.nilFunc]⟩,
  ⟨.func, 1, 8, [.nilFunc]⟩,
  ⟨.func, 1, 8, [.nilFunc]⟩,
  ⟨.func, 1, 8, [.nilFunc]⟩,
  ⟨.func, 1, 8, [.nilFunc]⟩,
  ⟨.func, 1, 8, [.nilFunc]⟩,
  ⟨.int .u64, 1, 8, [.int .u64 (0)]⟩,
  ⟨.func, 1, 8, [.nilFunc]⟩,
  ⟨.sl 4, 1, 24, [.sl Sl.nil]⟩,
  ⟨.func, 1, 8, [.nilFunc]⟩,
  ⟨.func, 1, 8, [.nilFunc]⟩,
  ⟨.func, 1, 8, [.nilFunc]⟩,
  ⟨.func, 1, 8, [.nilFunc]⟩,
  ⟨.struct [(0, 2), (1, 2)], 2, 16, [.int .i64 (0), .int .i64 (0)]⟩,
  ⟨.func, 1, 8, [.nilFunc]⟩,
  ⟨.func, 1, 8, [.nilFunc]⟩,
  ⟨.func, 1, 8, [.nilFunc]⟩,
  ⟨.func, 1, 8, [.nilFunc]⟩,
  ⟨.func, 1, 8, [.nilFunc]⟩,
  ⟨.func, 1, 8, [.nilFunc]⟩,
  ⟨.arr 4 4, 4, 4, [.bool false, .bool false, .bool false, .bool false]⟩,
  ⟨.func, 1, 8, [.nilFunc]⟩,
  ⟨.func, 1, 8, [.nilFunc]⟩,
  ⟨.func, 1, 8, [.nilFunc]⟩,
  ⟨.func, 1, 8, [.nilFunc]⟩,
  ⟨.struct [(0, 17), (1, 17), (2, 17), (3, 9)], 4, 40, [.ptr Pt.nil, .ptr Pt.nil, .ptr Pt.nil, .str ByteArray.empty]⟩,
  ⟨.struct [(0, 17), (1, 17), (2, 17), (3, 9)], 4, 40, [.ptr Pt.nil, .ptr Pt.nil, .ptr Pt.nil, .str ByteArray.empty]⟩,
  ⟨.arr 0 16, 0, 0, []⟩,
  ⟨.other, 0, 0, []⟩,
  ⟨.other, 0, 0, []⟩,
  ⟨.func, 1, 8, [.nilFunc]⟩,
  ⟨.int .u32, 1, 4, [.int .u32 (0)]⟩,
  ⟨.int .u8, 1, 1, [.int .u8 (0)]⟩,
  ⟨.int .u8, 1, 1, [.int .u8 (0)]⟩,
  ⟨.func, 1, 8, [.nilFunc]⟩,
  ⟨.ptr, 1, 8, [.ptr Pt.nil]⟩,
  ⟨.int .i32, 1, 4, [.int .i32 (0)]⟩,
  ⟨.int .i32, 1, 4, [.int .i32 (0)]⟩,
  ⟨.struct [(0, 12), (1, 12), (2, 124), (3, 125), (4, 5), (5, 5), (6, 126), (7, 127), (8, 128), (9, 129), (10, 130)], 11, 48, [.int .u64 (0), .int .u64 (0), .int .u32 (0), .int .u8 (0), .int .u8 (0), .int .u8 (0), .int .u8 (0), .nilFunc, .ptr Pt.nil, .int .i32 (0), .int .i32 (0)]⟩,
  ⟨.struct [(0, 12), (1, 12), (2, 124), (3, 125), (4, 5), (5, 5), (6, 126), (7, 127), (8, 128), (9, 129), (10, 130)], 11, 48, [.int .u64 (0), .int .u64 (0), .int .u32 (0), .int .u8 (0), .int .u8 (0), .int .u8 (0), .int .u8 (0), .nilFunc, .ptr Pt.nil, .int .i32 (0), .int .i32 (0)]⟩,
  ⟨.other, 1, 8, [.ptr Pt.nil]⟩]
def ntypes : Nat := 134
abbrev i_main_main : Nat := 0
abbrev i_gosem_cut : Nat := 1
abbrev i_gosem_cut_init : Nat := 2
abbrev i_laws_FnExactCountClasses : Nat := 3
abbrev i_laws_FnExactTurnsOf : Nat := 4
abbrev i_laws_FnExactSidesByColour : Nat := 5
abbrev i_laws_FnExactAreAlike : Nat := 6
abbrev i_laws_FnExactClassOf : Nat := 7
abbrev i_laws_FnExactClassesOf : Nat := 8
abbrev i_laws_FnExactCountBoards : Nat := 9
abbrev i_laws_FnExactIsBoard : Nat := 10
abbrev i_laws_FnExactFirstBoard : Nat := 11
abbrev i_spec_CountClasses : Nat := 12
abbrev i_impl_CountClasses : Nat := 13
abbrev i_spec_TurnsOf : Nat := 14
abbrev i_laws_toTile : Nat := 15
abbrev i_impl_TurnsOf : Nat := 16
abbrev i_laws_eqTileS : Nat := 17
abbrev i_laws_markTileS : Nat := 18
abbrev i_laws_heldTileS : Nat := 19
abbrev i_laws_szTileS : Nat := 20
abbrev i_spec_SidesByColour : Nat := 21
abbrev i_laws_toTileS : Nat := 22
abbrev i_impl_SidesByColour : Nat := 23
abbrev i_laws_eqInt64S : Nat := 24
abbrev i_laws_markInt64S : Nat := 25
abbrev i_laws_heldInt64S : Nat := 26
abbrev i_spec_AreAlike : Nat := 27
abbrev i_impl_AreAlike : Nat := 28
abbrev i_spec_ClassOf : Nat := 29
abbrev i_impl_ClassOf : Nat := 30
abbrev i_laws_eqTile : Nat := 31
abbrev i_spec_ClassesOf : Nat := 32
abbrev i_impl_ClassesOf : Nat := 33
abbrev i_spec_CountBoards : Nat := 34
abbrev i_impl_CountBoards : Nat := 35
abbrev i_laws_szPlacedSS : Nat := 36
abbrev i_spec_IsBoard : Nat := 37
abbrev i_laws_toPlacedSS : Nat := 38
abbrev i_impl_IsBoard : Nat := 39
abbrev i_laws_eqPlacedSS : Nat := 40
abbrev i_spec_FirstBoard : Nat := 41
abbrev i_impl_FirstBoard : Nat := 42
abbrev i_laws_markPlacedSS : Nat := 43
abbrev i_laws_heldPlacedSS : Nat := 44
abbrev i_spec_l01In : Nat := 45
abbrev i_impl_within : Nat := 46
abbrev i_spec_l07Tiles : Nat := 47
abbrev i_spec_l07Turn : Nat := 48
abbrev i_impl_areTiles : Nat := 49
abbrev i_impl_Tile_turns : Nat := 50
abbrev i_spec_l07Class : Nat := 51
abbrev i_impl_Tile_sides : Nat := 52
abbrev i_impl_Tile_class : Nat := 53
abbrev i_spec_l07Board : Nat := 54
abbrev i_spec_l07Number : Nat := 55
abbrev i_impl_isBoardSize : Nat := 56
abbrev i_impl_boards : Nat := 57
abbrev i_impl_CountBoards_1 : Nat := 58
abbrev i_laws_szPlacedS : Nat := 59
abbrev i_spec_l07Sizes : Nat := 60
abbrev i_spec_l07Is : Nat := 61
abbrev i_laws_toPlacedS : Nat := 62
abbrev i_impl_isBoardOf : Nat := 63
abbrev i_impl_areRows : Nat := 64
abbrev i_impl_placed : Nat := 65
abbrev i_laws_eqPlacedS : Nat := 66
abbrev i_spec_l07Find : Nat := 67
abbrev i_impl_FirstBoard_1 : Nat := 68
abbrev i_slices_Clone_s_impl_Placed_impl_Placed_ : Nat := 69
abbrev i_laws_markPlacedS : Nat := 70
abbrev i_laws_heldPlacedS : Nat := 71
abbrev i_spec_l01Tile : Nat := 72
abbrev i_slices_ContainsFunc_s_impl_Tile_impl_Tile_ : Nat := 73
abbrev i_impl_areTiles_1 : Nat := 74
abbrev i_impl_isTile : Nat := 75
abbrev i_impl_Tile_turned : Nat := 76
abbrev i_spec_l01Before : Nat := 77
abbrev i_slices_MinFunc_s_impl_Tile_impl_Tile_ : Nat := 78
abbrev i_impl_compare : Nat := 79
abbrev i_spec_l07Fits : Nat := 80
abbrev i_impl_boards_1 : Nat := 81
abbrev i_impl_joins : Nat := 82
abbrev i_impl_edges : Nat := 83
abbrev i_laws_toPlaced : Nat := 84
abbrev i_slices_ContainsFunc_ss_impl_Placed_s_impl_Placed_ : Nat := 85
abbrev i_impl_areRows_1 : Nat := 86
abbrev i_laws_eqPlaced : Nat := 87
abbrev i_spec_l07Search : Nat := 88
abbrev i_slices_IndexFunc_s_impl_Tile_impl_Tile_ : Nat := 89
abbrev i_slices_ContainsFunc_s_int64_int64_ : Nat := 90
abbrev i_impl_isTile_1 : Nat := 91
abbrev i_slices_Compare_s_int64_int64_ : Nat := 92
abbrev i_slices_IndexFunc_ss_impl_Placed_s_impl_Placed_ : Nat := 93
abbrev i_slices_IndexFunc_s_int64_int64_ : Nat := 94
abbrev i_cmp_Compare_int64_ : Nat := 95
abbrev i_cmp_isNaN_int64_ : Nat := 96
abbrev i_runtime_boundsError_Error : Nat := 97
abbrev i_runtime_boundsError_RuntimeError : Nat := 98
abbrev i_runtime_errorString_Error : Nat := 99
abbrev i_runtime_errorString_RuntimeError : Nat := 100
abbrev i_runtime_plainError_Error : Nat := 101
abbrev i_runtime_plainError_RuntimeError : Nat := 102
abbrev i_runtime_errorAddressString_Error : Nat := 103
abbrev i_runtime_errorAddressString_RuntimeError : Nat := 104
abbrev i_runtime_TypeAssertionError_Error : Nat := 105
abbrev i_runtime_TypeAssertionError_RuntimeError : Nat := 106
abbrev i_runtime_PanicNilError_Error : Nat := 107
abbrev i_runtime_PanicNilError_RuntimeError : Nat := 108
abbrev i_internal_abi_Type_Align : Nat := 109
abbrev i_internal_runtime_maps_unhashableTypeError_Error : Nat := 110
abbrev i_internal_runtime_maps_unhashableTypeError_RuntimeError : Nat := 111
abbrev i_internal_abi_Kind_String : Nat := 112
theorem tok : TOK Try.prog tab := ⟨134, by kernel_rfl⟩
theorem mixed : Try.prog.follows .mixedOrders = true := by kernel_rfl
end Go.Proofs.Ytekfmmcolgjdmaa.Cl
