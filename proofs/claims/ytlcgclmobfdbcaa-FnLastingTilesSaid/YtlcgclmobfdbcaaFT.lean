/- The table of types. No claim is stated here. -/
import Derived.Test.YtlcgclmobfdbcaaProg
import Derived.Test.YtlcgclmobfdbcaaFa2
import Derived.KernelRfl
/- The table of types and the numbers of the functions. Printed by program. No claim is stated here. -/
set_option linter.unusedVariables false
namespace Go.Proofs.Ytlcgclmobfdbcaa.Cl
open Go
abbrev U : AVal := .undef
def tab : Tab := [
  .none,
  ⟨.func, 1, 8, [.nilFunc]⟩,
  ⟨.int .i64, 1, 8, [.int .i64 (0)]⟩,
  ⟨.int .i64, 1, 8, [.int .i64 (0)]⟩,
  ⟨.bool, 1, 1, [.bool false]⟩,
  ⟨.int .u8, 1, 1, [.int .u8 (0)]⟩,
  ⟨.int .u8, 1, 1, [.int .u8 (0)]⟩,
  ⟨.struct [(0, 2), (1, 3), (2, 4), (3, 6)], 4, 24, [.int .i64 (0), .int .i64 (0), .bool false, .int .u8 (0)]⟩,
  ⟨.struct [(0, 2), (1, 3), (2, 4), (3, 6)], 4, 24, [.int .i64 (0), .int .i64 (0), .bool false, .int .u8 (0)]⟩,
  ⟨.str, 1, 16, [.str ByteArray.empty]⟩,
  ⟨.str, 1, 16, [.str ByteArray.empty]⟩,
  ⟨.str, 1, 16, [.str ByteArray.empty]⟩,
  ⟨.int .u64, 1, 8, [.int .u64 (0)]⟩,
  ⟨.struct [(0, 9), (1, 12)], 2, 24, [.str ByteArray.empty, .int .u64 (0)]⟩,
  ⟨.struct [(0, 9), (1, 12)], 2, 24, [.str ByteArray.empty, .int .u64 (0)]⟩,
  ⟨.ptr, 1, 8, [.ptr Pt.nil]⟩,
  ⟨.ptr, 1, 8, [.ptr Pt.nil]⟩,
  ⟨.ptr, 1, 8, [.ptr Pt.nil]⟩,
  ⟨.struct [(0, 17)], 1, 8, [.ptr Pt.nil]⟩,
  ⟨.struct [(0, 17)], 1, 8, [.ptr Pt.nil]⟩,
  .none,
  ⟨.int .i32, 1, 4, [.int .i32 (0)]⟩,
  ⟨.sl 5, 1, 24, [.sl Sl.nil]⟩,
  ⟨.func, 1, 8, [.nilFunc]⟩,
  ⟨.sl 39, 1, 24, [.sl Sl.nil]⟩,
  ⟨.struct [(0, 2), (1, 24)], 2, 32, [.int .i64 (0), .sl Sl.nil]⟩,
  ⟨.struct [(0, 2), (1, 24)], 2, 32, [.int .i64 (0), .sl Sl.nil]⟩,
  ⟨.func, 1, 8, [.nilFunc]⟩,
  ⟨.sl 2, 1, 24, [.sl Sl.nil]⟩,
  .none,
  ⟨.func, 1, 8, [.nilFunc]⟩,
  ⟨.func, 1, 8, [.nilFunc]⟩,
  .none,
  ⟨.func, 1, 8, [.nilFunc]⟩,
  ⟨.func, 1, 8, [.nilFunc]⟩,
  ⟨.func, 1, 8, [.nilFunc]⟩,
  .none,
  ⟨.func, 1, 8, [.nilFunc]⟩,
  ⟨.arr 4 2, 4, 32, [.int .i64 (0), .int .i64 (0), .int .i64 (0), .int .i64 (0)]⟩,
  ⟨.arr 4 2, 4, 32, [.int .i64 (0), .int .i64 (0), .int .i64 (0), .int .i64 (0)]⟩,
  .none,
  ⟨.func, 1, 8, [.nilFunc]⟩,
  ⟨.func, 1, 8, [.nilFunc]⟩,
  ⟨.ptr, 1, 8, [.ptr Pt.nil]⟩,
  ⟨.func, 1, 8, [.nilFunc]⟩,
  ⟨.func, 1, 8, [.nilFunc]⟩,
  ⟨.sl 4, 1, 24, [.sl Sl.nil]⟩,
  ⟨.func, 1, 8, [.nilFunc]⟩,
  ⟨.func, 1, 8, [.nilFunc]⟩,
  ⟨.func, 1, 8, [.nilFunc]⟩,
  ⟨.func, 1, 8, [.nilFunc]⟩,
  ⟨.func, 1, 8, [.nilFunc]⟩,
  ⟨.func, 1, 8, [.nilFunc]⟩,
  ⟨.func, 1, 8, [.nilFunc]⟩,
  ⟨.func, 1, 8, [.nilFunc]⟩,
  ⟨.func, 1, 8, [.nilFunc]⟩,
  ⟨.func, 1, 8, [.nilFunc]⟩,
  ⟨.func, 1, 8, [.nilFunc]⟩,
  ⟨.func, 1, 8, [.nilFunc]⟩,
  ⟨.func, 1, 8, [.nilFunc]⟩,
  ⟨.func, 1, 8, [.nilFunc]⟩,
  ⟨.func, 1, 8, [.nilFunc]⟩,
  ⟨.func, 1, 8, [.nilFunc]⟩,
  ⟨.sl 28, 1, 24, [.sl Sl.nil]⟩,
  ⟨.func, 1, 8, [.nilFunc]⟩,
  ⟨.func, 1, 8, [.nilFunc]⟩,
  ⟨.func, 1, 8, [.nilFunc]⟩,
  ⟨.int .u64, 1, 8, [.int .u64 (0)]⟩,
  ⟨.struct [(0, 22), (1, 3), (2, 67)], 3, 40, [.sl Sl.nil, .int .i64 (0), .int .u64 (0)]⟩,
  ⟨.struct [(0, 22), (1, 3), (2, 67)], 3, 40, [.sl Sl.nil, .int .i64 (0), .int .u64 (0)]⟩,
  ⟨.func, 1, 8, [.nilFunc]⟩,
  ⟨.func, 1, 8, [.nilFunc]⟩,
  ⟨.func, 1, 8, [.nilFunc]⟩,
  ⟨.func, 1, 8, [.nilFunc]⟩,
  ⟨.func, 1, 8, [.nilFunc]⟩,
  ⟨.map 2 4, 1, 8, [.map none]⟩,
  ⟨.arr 4 75, 4, 32, [.map none, .map none, .map none, .map none]⟩,
  ⟨.int .u64, 1, 8, [.int .u64 (0)]⟩,
  ⟨.func, 1, 8, [.nilFunc]⟩,
  ⟨.func, 1, 8, [.nilFunc]⟩,
  ⟨.func, 1, 8, [.nilFunc]⟩,
  ⟨.func, 1, 8, [.nilFunc]⟩,
  ⟨.func, 1, 8, [.nilFunc]⟩,
  ⟨.func, 1, 8, [.nilFunc]⟩,
  ⟨.func, 1, 8, [.nilFunc]⟩,
  ⟨.func, 1, 8, [.nilFunc]⟩,
  .none,
  ⟨.func, 1, 8, [.nilFunc]⟩,
  .none,
  ⟨.func, 1, 8, [.nilFunc]⟩,
  ⟨.sl 9, 1, 24, [.sl Sl.nil]⟩,
  ⟨.func, 1, 8, [.nilFunc]⟩,
  ⟨.func, 1, 8, [.nilFunc]⟩,
  ⟨.func, 1, 8, [.nilFunc]⟩,
  ⟨.func, 1, 8, [.nilFunc]⟩,
  ⟨.func, 1, 8, [.nilFunc]⟩,
  ⟨.func, 1, 8, [.nilFunc]⟩,
  ⟨.int .u32, 1, 4, [.int .u32 (0)]⟩,
  .none,
  ⟨.func, 1, 8, [.nilFunc]⟩,
  .none,
  ⟨.func, 1, 8, [.nilFunc]⟩,
  ⟨.func, 1, 8, [.nilFunc]⟩,
  ⟨.func, 1, 8, [.nilFunc]⟩,
  ⟨.func, 1, 8, [.nilFunc]⟩,
  ⟨.func, 1, 8, [.nilFunc]⟩,
  ⟨.func, 1, 8, [.nilFunc]⟩,
  ⟨.func, 1, 8, [.nilFunc]⟩,
  ⟨.func, 1, 8, [.nilFunc]⟩,
  ⟨.func, 1, 8, [.nilFunc]⟩,
  ⟨.func, 1, 8, [.nilFunc]⟩,
  ⟨.func, 1, 8, [.nilFunc]⟩,
  ⟨.func, 1, 8, [.nilFunc]⟩,
  ⟨.func, 1, 8, [.nilFunc]⟩,
  ⟨.func, 1, 8, [.nilFunc]⟩,
  ⟨.int .i64, 1, 8, [.int .i64 (0)]⟩,
  .none,
  ⟨.func, 1, 8, [.nilFunc]⟩,
  ⟨.func, 1, 8, [.nilFunc]⟩,
  ⟨.func, 1, 8, [.nilFunc]⟩,
  .none,
  ⟨.func, 1, 8, [.nilFunc]⟩,
  ⟨.func, 1, 8, [.nilFunc]⟩,
  ⟨.func, 1, 8, [.nilFunc]⟩,
  ⟨.int .u64, 1, 8, [.int .u64 (0)]⟩,
  ⟨.func, 1, 8, [.nilFunc]⟩,
  ⟨.func, 1, 8, [.nilFunc]⟩,
  ⟨.func, 1, 8, [.nilFunc]⟩,
  ⟨.ptr, 1, 8, [.ptr Pt.nil]⟩,
  ⟨.func, 1, 8, [.nilFunc]⟩,
  ⟨.ptr, 1, 8, [.ptr Pt.nil]⟩,
  .none,
  ⟨.func, 1, 8, [.nilFunc]⟩,
  ⟨.func, 1, 8, [.nilFunc]⟩,
  ⟨.struct [(0, 17), (1, 17), (2, 17), (3, 9)], 4, 40, [.ptr Pt.nil, .ptr Pt.nil, .ptr Pt.nil, .str ByteArray.empty]⟩,
  ⟨.struct [(0, 17), (1, 17), (2, 17), (3, 9)], 4, 40, [.ptr Pt.nil, .ptr Pt.nil, .ptr Pt.nil, .str ByteArray.empty]⟩,
  ⟨.arr 0 16, 0, 0, []⟩,
  ⟨.other, 0, 0, []⟩,
  ⟨.other, 0, 0, []⟩,
  ⟨.func, 1, 8, [.nilFunc]⟩,
  ⟨.int .u8, 1, 1, [.int .u8 (0)]⟩,
  ⟨.int .u8, 1, 1, [.int .u8 (0)]⟩,
  ⟨.func, 1, 8, [.nilFunc]⟩,
  ⟨.ptr, 1, 8, [.ptr Pt.nil]⟩,
  ⟨.int .i32, 1, 4, [.int .i32 (0)]⟩,
  ⟨.int .i32, 1, 4, [.int .i32 (0)]⟩,
  ⟨.struct [(0, 12), (1, 12), (2, 97), (3, 140), (4, 5), (5, 5), (6, 141), (7, 142), (8, 143), (9, 144), (10, 145)], 11, 48, [.int .u64 (0), .int .u64 (0), .int .u32 (0), .int .u8 (0), .int .u8 (0), .int .u8 (0), .int .u8 (0), .nilFunc, .ptr Pt.nil, .int .i32 (0), .int .i32 (0)]⟩,
  ⟨.struct [(0, 12), (1, 12), (2, 97), (3, 140), (4, 5), (5, 5), (6, 141), (7, 142), (8, 143), (9, 144), (10, 145)], 11, 48, [.int .u64 (0), .int .u64 (0), .int .u32 (0), .int .u8 (0), .int .u8 (0), .int .u8 (0), .int .u8 (0), .nilFunc, .ptr Pt.nil, .int .i32 (0), .int .i32 (0)]⟩,
  ⟨.other, 1, 8, [.ptr Pt.nil]⟩]
abbrev i_laws_FnLastingTiles : Nat := 3
abbrev i_laws_big : Nat := 4
abbrev i_spec_DrawLastingTiles : Nat := 5
abbrev i_impl_LastingTiles : Nat := 6
abbrev i_spec_LastingTiles : Nat := 7
abbrev i_laws_likeInts : Nat := 8
abbrev i_impl_KeepLasting : Nat := 9
abbrev i_spec_KeepLasting : Nat := 10
abbrev i_laws_set9 : Nat := 11
abbrev i_spec_DrawTrimSet : Nat := 12
abbrev i_impl_TrimSet : Nat := 13
abbrev i_spec_TrimSet : Nat := 14
abbrev i_spec_DrawIsDetermined : Nat := 15
abbrev i_impl_IsDetermined : Nat := 16
abbrev i_spec_IsDetermined : Nat := 17
abbrev i_impl_TurnedSet : Nat := 18
abbrev i_impl_CountRows : Nat := 19
abbrev i_spec_l01Spoil : Nat := 20
abbrev i_spec_l01From : Nat := 21
abbrev i_impl_IsSet : Nat := 22
abbrev i_impl_Set_endless : Nat := 23
abbrev i_spec_l01Is : Nat := 24
abbrev i_spec_l02Lasting : Nat := 25
abbrev i_impl_kept : Nat := 26
abbrev i_spec_l04Kept : Nat := 27
abbrev i_slices_Clone_s_impl_Tile_impl_Tile_ : Nat := 28
abbrev i_slices_IndexFunc_s_impl_Tile_impl_Tile_ : Nat := 29
abbrev i_impl_TrimSet_1 : Nat := 30
abbrev i_impl_Set_with : Nat := 31
abbrev i_slices_Delete_s_impl_Tile_impl_Tile_ : Nat := 32
abbrev i_spec_l01Made : Nat := 33
abbrev i_spec_l01Next : Nat := 34
abbrev i_impl_setCode : Nat := 35
abbrev i_impl_IsDetermined_1 : Nat := 36
abbrev i_impl_within : Nat := 37
abbrev i_spec_l01In : Nat := 38
abbrev i_impl_changed : Nat := 39
abbrev i_impl_Tile_turned : Nat := 40
abbrev i_impl_CountRows_1 : Nat := 41
abbrev i_impl_Set_ways : Nat := 42
abbrev i_impl_counted : Nat := 43
abbrev i_spec_l01Bad : Nat := 44
abbrev i_spec_l01Draw : Nat := 45
abbrev i_impl_isTile : Nat := 46
abbrev i_impl_compare : Nat := 47
abbrev i_slices_Repeat_s_bool_bool_ : Nat := 48
abbrev i_spec_l01Tile : Nat := 49
abbrev i_spec_l01Before : Nat := 50
abbrev i_spec_l01Sort : Nat := 51
abbrev i_impl_limited : Nat := 52
abbrev i_impl_Tile_sides : Nat := 53
abbrev i_spec_l01Pick : Nat := 54
abbrev i_spec_l01DrawTile : Nat := 55
abbrev i_spec_l01Small : Nat := 56
abbrev i_spec_l01DrawOf : Nat := 57
abbrev i_slices_ContainsFunc_s_int64_int64_ : Nat := 58
abbrev i_impl_isTile_1 : Nat := 59
abbrev i_slices_Compare_s_int64_int64_ : Nat := 60
abbrev i_math_bits_Mul : Nat := 61
abbrev i_impl_setOf : Nat := 62
abbrev i_spec_l01Names : Nat := 63
abbrev i_spec_l01Named : Nat := 64
abbrev i_spec_l01Renamed : Nat := 65
abbrev i_spec_l01DrawOrder : Nat := 66
abbrev i_slices_IndexFunc_s_int64_int64_ : Nat := 67
abbrev i_cmp_Compare_int64_ : Nat := 68
abbrev i_math_bits_Mul64 : Nat := 70
abbrev i_slices_SortedFunc_impl_Tile_ : Nat := 71
abbrev i_slices_Values_s_impl_Tile_impl_Tile_ : Nat := 72
abbrev i_slices_Compact_s_impl_Tile_impl_Tile_ : Nat := 73
abbrev i_spec_l01Read : Nat := 74
abbrev i_spec_l01Own : Nat := 75
abbrev i_cmp_isNaN_int64_ : Nat := 76
abbrev i_slices_Collect_impl_Tile_ : Nat := 77
abbrev i_slices_SortFunc_s_impl_Tile_impl_Tile_ : Nat := 78
abbrev i_slices_Values_s_impl_Tile_impl_Tile__1 : Nat := 79
abbrev i_spec_l01Split : Nat := 80
abbrev i_spec_l01Number : Nat := 81
abbrev i_slices_AppendSeq_s_impl_Tile_impl_Tile_ : Nat := 82
theorem tok : TOK Try.prog tab := ⟨149, by kernel_rfl⟩
theorem mixed : Try.prog.follows .mixedOrders = true := by kernel_rfl
end Go.Proofs.Ytlcgclmobfdbcaa.Cl
