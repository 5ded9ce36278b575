/- The table of types. No claim is stated here. -/
import Derived.Test.YtcoampecbpiecaaGreatProg
import Derived.Test.YtcoampecbpiecaaGreatFa2
import Derived.KernelRfl
/- The table of types and the numbers of the functions. Printed by program. No claim is stated here. -/
set_option linter.unusedVariables false
namespace Go.Proofs.YtcoampecbpiecaaGreat.Cl
open Go
abbrev U : AVal := .undef
def tab : Tab := [
  .none,
  ⟨.func, 1, 8, [.nilFunc]⟩,
  ⟨.int .i64, 1, 8, [.int .i64 (0)]⟩,
  ⟨.int .i64, 1, 8, [.int .i64 (0)]⟩,
  ⟨.bool, 1, 1, [.bool false]⟩,
  ⟨.int .u8, 1, 1, [.int .u8 (0)]⟩,
  ⟨.int .u8, 1, 1, [.int .u8 (0)]⟩,
  ⟨.struct [(0, 2), (1, 3), (2, 4), (3, 6)], 4, 24, [.int .i64 (0), .int .i64 (0), .bool false, .int .u8 (0)]⟩,
  ⟨.struct [(0, 2), (1, 3), (2, 4), (3, 6)], 4, 24, [.int .i64 (0), .int .i64 (0), .bool false, .int .u8 (0)]⟩,
  ⟨.str, 1, 16, [.str ByteArray.empty]⟩,
  ⟨.str, 1, 16, [.str ByteArray.empty]⟩,
  ⟨.str, 1, 16, [.str ByteArray.empty]⟩,
  ⟨.int .u64, 1, 8, [.int .u64 (0)]⟩,
  ⟨.struct [(0, 9), (1, 12)], 2, 24, [.str ByteArray.empty, .int .u64 (0)]⟩,
  ⟨.struct [(0, 9), (1, 12)], 2, 24, [.str ByteArray.empty, .int .u64 (0)]⟩,
  ⟨.ptr, 1, 8, [.ptr Pt.nil]⟩,
  ⟨.ptr, 1, 8, [.ptr Pt.nil]⟩,
  ⟨.ptr, 1, 8, [.ptr Pt.nil]⟩,
  ⟨.struct [(0, 17)], 1, 8, [.ptr Pt.nil]⟩,
  ⟨.struct [(0, 17)], 1, 8, [.ptr Pt.nil]⟩,
  .none,
  ⟨.int .i32, 1, 4, [.int .i32 (0)]⟩,
  ⟨.sl 5, 1, 24, [.sl Sl.nil]⟩,
  ⟨.func, 1, 8, [.nilFunc]⟩,
  ⟨.sl 69, 1, 24, [.sl Sl.nil]⟩,
  ⟨.struct [(0, 2), (1, 24)], 2, 32, [.int .i64 (0), .sl Sl.nil]⟩,
  ⟨.struct [(0, 2), (1, 24)], 2, 32, [.int .i64 (0), .sl Sl.nil]⟩,
  ⟨.sl 2, 1, 24, [.sl Sl.nil]⟩,
  .none,
  ⟨.func, 1, 8, [.nilFunc]⟩,
  .none,
  ⟨.func, 1, 8, [.nilFunc]⟩,
  ⟨.func, 1, 8, [.nilFunc]⟩,
  .none,
  ⟨.func, 1, 8, [.nilFunc]⟩,
  .none,
  ⟨.func, 1, 8, [.nilFunc]⟩,
  ⟨.func, 1, 8, [.nilFunc]⟩,
  ⟨.sl 27, 1, 24, [.sl Sl.nil]⟩,
  .none,
  ⟨.func, 1, 8, [.nilFunc]⟩,
  ⟨.func, 1, 8, [.nilFunc]⟩,
  ⟨.func, 1, 8, [.nilFunc]⟩,
  ⟨.func, 1, 8, [.nilFunc]⟩,
  .none,
  ⟨.func, 1, 8, [.nilFunc]⟩,
  ⟨.func, 1, 8, [.nilFunc]⟩,
  .none,
  ⟨.func, 1, 8, [.nilFunc]⟩,
  ⟨.func, 1, 8, [.nilFunc]⟩,
  .none,
  ⟨.func, 1, 8, [.nilFunc]⟩,
  .none,
  ⟨.func, 1, 8, [.nilFunc]⟩,
  ⟨.func, 1, 8, [.nilFunc]⟩,
  .none,
  ⟨.func, 1, 8, [.nilFunc]⟩,
  ⟨.ptr, 1, 8, [.ptr Pt.nil]⟩,
  ⟨.func, 1, 8, [.nilFunc]⟩,
  ⟨.func, 1, 8, [.nilFunc]⟩,
  ⟨.func, 1, 8, [.nilFunc]⟩,
  ⟨.func, 1, 8, [.nilFunc]⟩,
  ⟨.sl 66, 1, 24, [.sl Sl.nil]⟩,
  ⟨.func, 1, 8, [.nilFunc]⟩,
  .none,
  ⟨.func, 1, 8, [.nilFunc]⟩,
  ⟨.arr 2 3, 2, 16, [.int .i64 (0), .int .i64 (0)]⟩,
  ⟨.func, 1, 8, [.nilFunc]⟩,
  ⟨.arr 4 2, 4, 32, [.int .i64 (0), .int .i64 (0), .int .i64 (0), .int .i64 (0)]⟩,
  ⟨.arr 4 2, 4, 32, [.int .i64 (0), .int .i64 (0), .int .i64 (0), .int .i64 (0)]⟩,
  ⟨.func, 1, 8, [.nilFunc]⟩,
  ⟨.func, 1, 8, [.nilFunc]⟩,
  ⟨.func, 1, 8, [.nilFunc]⟩,
  ⟨.sl 75, 1, 24, [.sl Sl.nil]⟩,
  ⟨.func, 1, 8, [.nilFunc]⟩,
  ⟨.arr 2 2, 2, 16, [.int .i64 (0), .int .i64 (0)]⟩,
  ⟨.func, 1, 8, [.nilFunc]⟩,
  ⟨.func, 1, 8, [.nilFunc]⟩,
  ⟨.func, 1, 8, [.nilFunc]⟩,
  ⟨.func, 1, 8, [.nilFunc]⟩,
  ⟨.func, 1, 8, [.nilFunc]⟩,
  ⟨.func, 1, 8, [.nilFunc]⟩,
  ⟨.func, 1, 8, [.nilFunc]⟩,
  ⟨.func, 1, 8, [.nilFunc]⟩,
  ⟨.func, 1, 8, [.nilFunc]⟩,
  ⟨.func, 1, 8, [.nilFunc]⟩,
  ⟨.func, 1, 8, [.nilFunc]⟩,
  ⟨.func, 1, 8, [.nilFunc]⟩,
  ⟨.func, 1, 8, [.nilFunc]⟩,
  ⟨.func, 1, 8, [.nilFunc]⟩,
  ⟨.func, 1, 8, [.nilFunc]⟩,
  ⟨.func, 1, 8, [.nilFunc]⟩,
  ⟨.func, 1, 8, [.nilFunc]⟩,
  .none,
  ⟨.func, 1, 8, [.nilFunc]⟩,
  ⟨.sl 38, 1, 24, [.sl Sl.nil]⟩,
  ⟨.func, 1, 8, [.nilFunc]⟩,
  ⟨.func, 1, 8, [.nilFunc]⟩,
  ⟨.int .u64, 1, 8, [.int .u64 (0)]⟩,
  ⟨.struct [(0, 22), (1, 3), (2, 98)], 3, 40, [.sl Sl.nil, .int .i64 (0), .int .u64 (0)]⟩,
  ⟨.struct [(0, 22), (1, 3), (2, 98)], 3, 40, [.sl Sl.nil, .int .i64 (0), .int .u64 (0)]⟩,
  ⟨.func, 1, 8, [.nilFunc]⟩,
  ⟨.func, 1, 8, [.nilFunc]⟩,
  ⟨.sl 26, 1, 24, [.sl Sl.nil]⟩,
  ⟨.func, 1, 8, [.nilFunc]⟩,
  ⟨.func, 1, 8, [.nilFunc]⟩,
  ⟨.func, 1, 8, [.nilFunc]⟩,
  ⟨.map 75 2, 1, 8, [.map none]⟩,
  ⟨.func, 1, 8, [.nilFunc]⟩,
  ⟨.func, 1, 8, [.nilFunc]⟩,
  ⟨.func, 1, 8, [.nilFunc]⟩,
  ⟨.func, 1, 8, [.nilFunc]⟩,
  ⟨.func, 1, 8, [.nilFunc]⟩,
  ⟨.func, 1, 8, [.nilFunc]⟩,
  ⟨.func, 1, 8, [.nilFunc]⟩,
  ⟨.map 75 4, 1, 8, [.map none]⟩,
  ⟨.func, 1, 8, [.nilFunc]⟩,
  ⟨.func, 1, 8, [.nilFunc]⟩,
  ⟨.func, 1, 8, [.nilFunc]⟩,
  ⟨.func, 1, 8, [.nilFunc]⟩,
  ⟨.func, 1, 8, [.nilFunc]⟩,
  .none,
  ⟨.func, 1, 8, [.nilFunc]⟩,
  ⟨.func, 1, 8, [.nilFunc]⟩,
  ⟨.func, 1, 8, [.nilFunc]⟩,
  ⟨.func, 1, 8, [.nilFunc]⟩,
  ⟨.func, 1, 8, [.nilFunc]⟩,
  ⟨.func, 1, 8, [.nilFunc]⟩,
  ⟨.func, 1, 8, [.nilFunc]⟩,
  ⟨.func, 1, 8, [.nilFunc]⟩,
  ⟨.func, 1, 8, [.nilFunc]⟩,
  ⟨.func, 1, 8, [.nilFunc]⟩,
  ⟨.func, 1, 8, [.nilFunc]⟩,
  ⟨.func, 1, 8, [.nilFunc]⟩,
  ⟨.int .u64, 1, 8, [.int .u64 (0)]⟩,
  ⟨.sl 9, 1, 24, [.sl Sl.nil]⟩,
  ⟨.func, 1, 8, [.nilFunc]⟩,
  .none,
  ⟨.func, 1, 8, [.nilFunc]⟩,
  ⟨.func, 1, 8, [.nilFunc]⟩,
  ⟨.func, 1, 8, [.nilFunc]⟩,
  ⟨.func, 1, 8, [.nilFunc]⟩,
  ⟨.func, 1, 8, [.nilFunc]⟩,
  ⟨.func, 1, 8, [.nilFunc]⟩,
  ⟨.func, 1, 8, [.nilFunc]⟩,
  ⟨.func, 1, 8, [.nilFunc]⟩,
  ⟨.func, 1, 8, [.nilFunc]⟩,
  ⟨.func, 1, 8, [.nilFunc]⟩,
  ⟨.func, 1, 8, [.nilFunc]⟩,
  ⟨.func, 1, 8, [.nilFunc]⟩,
  ⟨.func, 1, 8, [.nilFunc]⟩,
  ⟨.func, 1, 8, [.nilFunc]⟩,
  ⟨.func, 1, 8, [.nilFunc]⟩,
  ⟨.func, 1, 8, [.nilFunc]⟩,
  ⟨.int .i64, 1, 8, [.int .i64 (0)]⟩,
  .none,
  ⟨.func, 1, 8, [.nilFunc]⟩,
  ⟨.func, 1, 8, [.nilFunc]⟩,
  ⟨.func, 1, 8, [.nilFunc]⟩,
  .none,
  ⟨.func, 1, 8, [.nilFunc]⟩,
  ⟨.func, 1, 8, [.nilFunc]⟩,
  ⟨.int .u32, 1, 4, [.int .u32 (0)]⟩,
  ⟨.func, 1, 8, [.nilFunc]⟩,
  ⟨.func, 1, 8, [.nilFunc]⟩,
  ⟨.func, 1, 8, [.nilFunc]⟩,
  ⟨.func, 1, 8, [.nilFunc]⟩,
  ⟨.func, 1, 8, [.nilFunc]⟩,
  ⟨.func, 1, 8, [.nilFunc]⟩,
  ⟨.int .u64, 1, 8, [.int .u64 (0)]⟩,
  ⟨.func, 1, 8, [.nilFunc]⟩,
  ⟨.func, 1, 8, [.nilFunc]⟩,
  ⟨.func, 1, 8, [.nilFunc]⟩,
  ⟨.ptr, 1, 8, [.ptr Pt.nil]⟩,
  ⟨.func, 1, 8, [.nilFunc]⟩,
  ⟨.func, 1, 8, [.nilFunc]⟩,
  ⟨.func, 1, 8, [.nilFunc]⟩,
  ⟨.ptr, 1, 8, [.ptr Pt.nil]⟩,
  .none,
  ⟨.func, 1, 8, [.nilFunc]⟩,
  ⟨.func, 1, 8, [.nilFunc]⟩,
  ⟨.func, 1, 8, [.nilFunc]⟩,
  ⟨.func, 1, 8, [.nilFunc]⟩,
  ⟨.func, 1, 8, [.nilFunc]⟩,
  ⟨.func, 1, 8, [.nilFunc]⟩,
  ⟨.func, 1, 8, [.nilFunc]⟩,
  ⟨.func, 1, 8, [.nilFunc]⟩,
  ⟨.func, 1, 8, [.nilFunc]⟩,
  ⟨.func, 1, 8, [.nilFunc]⟩,
  ⟨.struct [(0, 17), (1, 17), (2, 17), (3, 9)], 4, 40, [.ptr Pt.nil, .ptr Pt.nil, .ptr Pt.nil, .str ByteArray.empty]⟩,
  ⟨.struct [(0, 17), (1, 17), (2, 17), (3, 9)], 4, 40, [.ptr Pt.nil, .ptr Pt.nil, .ptr Pt.nil, .str ByteArray.empty]⟩,
  ⟨.arr 0 16, 0, 0, []⟩,
  ⟨.other, 0, 0, []⟩,
  ⟨.other, 0, 0, []⟩,
  ⟨.func, 1, 8, [.nilFunc]⟩,
  ⟨.int .u8, 1, 1, [.int .u8 (0)]⟩,
  ⟨.int .u8, 1, 1, [.int .u8 (0)]⟩,
  ⟨.func, 1, 8, [.nilFunc]⟩,
  ⟨.ptr, 1, 8, [.ptr Pt.nil]⟩,
  ⟨.int .i32, 1, 4, [.int .i32 (0)]⟩,
  ⟨.int .i32, 1, 4, [.int .i32 (0)]⟩,
  ⟨.struct [(0, 12), (1, 12), (2, 162), (3, 195), (4, 5), (5, 5), (6, 196), (7, 197), (8, 198), (9, 199), (10, 200)], 11, 48, [.int .u64 (0), .int .u64 (0), .int .u32 (0), .int .u8 (0), .int .u8 (0), .int .u8 (0), .int .u8 (0), .nilFunc, .ptr Pt.nil, .int .i32 (0), .int .i32 (0)]⟩,
  ⟨.struct [(0, 12), (1, 12), (2, 162), (3, 195), (4, 5), (5, 5), (6, 196), (7, 197), (8, 198), (9, 199), (10, 200)], 11, 48, [.int .u64 (0), .int .u64 (0), .int .u32 (0), .int .u8 (0), .int .u8 (0), .int .u8 (0), .int .u8 (0), .nilFunc, .ptr Pt.nil, .int .i32 (0), .int .i32 (0)]⟩,
  ⟨.func, 1, 8, [.nilFunc]⟩,
  ⟨.other, 1, 8, [.ptr Pt.nil]⟩]
abbrev i_laws_FnStacks : Nat := 3
abbrev i_laws_big : Nat := 5
abbrev i_spec_DrawSplitRow : Nat := 6
abbrev i_impl_SplitRow : Nat := 7
abbrev i_spec_SplitRow : Nat := 8
abbrev i_laws_likeInts : Nat := 9
abbrev i_spec_DrawStackSets : Nat := 10
abbrev i_impl_StackSets : Nat := 11
abbrev i_spec_StackSets : Nat := 12
abbrev i_laws_set9 : Nat := 13
abbrev i_impl_PairsOfStack : Nat := 14
abbrev i_spec_PairsOfStack : Nat := 15
abbrev i_laws_rows9 : Nat := 16
abbrev i_impl_IsSet : Nat := 17
abbrev i_impl_WordsOfRow : Nat := 18
abbrev i_spec_l01From : Nat := 37
abbrev i_spec_l04Two : Nat := 38
abbrev i_spec_l02DrawRow : Nat := 39
abbrev i_impl_areSets : Nat := 40
abbrev i_impl_stack : Nat := 41
abbrev i_impl_Set_isRow : Nat := 42
abbrev i_impl_stacked : Nat := 43
abbrev i_impl_stackTiles : Nat := 44
abbrev i_slices_Index_s_impl_Tile_impl_Tile_ : Nat := 45
abbrev i_spec_l02Row : Nat := 46
abbrev i_spec_l04Pairs : Nat := 47
abbrev i_spec_l04Tile : Nat := 48
abbrev i_spec_l01Is : Nat := 49
abbrev i_spec_l04Made : Nat := 50
abbrev i_impl_pairs : Nat := 51
abbrev i_impl_isTile : Nat := 52
abbrev i_impl_compare : Nat := 53
abbrev i_impl_within : Nat := 54
abbrev i_impl_setCode : Nat := 55
abbrev i_impl_WordsOfRow_1 : Nat := 56
abbrev i_impl_Set_word : Nat := 57
abbrev i_spec_l01In : Nat := 65
abbrev i_spec_l01Next : Nat := 87
abbrev i_spec_l01Spoil : Nat := 88
abbrev i_spec_l01Small : Nat := 89
abbrev i_spec_l01Pick : Nat := 90
abbrev i_slices_ContainsFunc_s_impl_Set_impl_Set_ : Nat := 91
abbrev i_impl_areSets_1 : Nat := 92
abbrev i_impl_limited : Nat := 93
abbrev i_impl_Set_isNumber : Nat := 94
abbrev i_impl_pairOf : Nat := 95
abbrev i_spec_l04Sorted : Nat := 96
abbrev i_spec_l04Find : Nat := 97
abbrev i_spec_l01Tile : Nat := 98
abbrev i_spec_l01Before : Nat := 99
abbrev i_spec_l01Sort : Nat := 100
abbrev i_spec_l01Made : Nat := 101
abbrev i_slices_SortFunc_s__2_int64__2_int64_ : Nat := 102
abbrev i_impl_pairs_1 : Nat := 103
abbrev i_slices_Compare_s_int64_int64_ : Nat := 104
abbrev i_slices_ContainsFunc_s_int64_int64_ : Nat := 105
abbrev i_impl_isTile_1 : Nat := 106
abbrev i_spec_l01Bad : Nat := 108
abbrev i_spec_l01Draw : Nat := 127
abbrev i_spec_l01Names : Nat := 128
abbrev i_spec_l01Named : Nat := 129
abbrev i_spec_l01Renamed : Nat := 130
abbrev i_spec_l01DrawOrder : Nat := 131
abbrev i_spec_l01DrawOf : Nat := 132
abbrev i_slices_IndexFunc_s_impl_Set_impl_Set_ : Nat := 133
abbrev i_impl_setOf : Nat := 134
abbrev i_cmp_Compare_int64_ : Nat := 137
abbrev i_slices_IndexFunc_s_int64_int64_ : Nat := 138
abbrev i_spec_l01DrawTile : Nat := 139
abbrev i_spec_l01Own : Nat := 140
abbrev i_spec_l01Read : Nat := 144
abbrev i_slices_SortedFunc_impl_Tile_ : Nat := 145
abbrev i_slices_Values_s_impl_Tile_impl_Tile_ : Nat := 146
abbrev i_slices_Compact_s_impl_Tile_impl_Tile_ : Nat := 147
abbrev i_cmp_isNaN_int64_ : Nat := 158
abbrev i_spec_l01Split : Nat := 159
abbrev i_spec_l01Number : Nat := 160
abbrev i_slices_Collect_impl_Tile_ : Nat := 161
abbrev i_slices_SortFunc_s_impl_Tile_impl_Tile_ : Nat := 162
abbrev i_slices_Values_s_impl_Tile_impl_Tile__1 : Nat := 163
abbrev i_slices_AppendSeq_s_impl_Tile_impl_Tile_ : Nat := 169
theorem tok : TOK Tryz.prog tab := ⟨205, by kernel_rfl⟩
theorem mixed : Tryz.prog.follows .mixedOrders = true := by kernel_rfl
end Go.Proofs.YtcoampecbpiecaaGreat.Cl
