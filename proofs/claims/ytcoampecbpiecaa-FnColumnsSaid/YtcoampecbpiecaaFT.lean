/- The table of types. No claim is stated here. -/
import Derived.Test.YtcoampecbpiecaaProg
import Derived.Test.YtcoampecbpiecaaFa2
import Derived.KernelRfl
/- The table of types and the numbers of the functions. Printed by program. No claim is stated here. -/
set_option linter.unusedVariables false
namespace Go.Proofs.Ytcoampecbpiecaa.Cl
open Go
abbrev U : AVal := .undef
def tab : Tab := [
  .none,
  ⟨.func, 1, 8, [.nilFunc]⟩,
  ⟨.int .i64, 1, 8, [.int .i64 (0)]⟩,
  ⟨.int .i64, 1, 8, [.int .i64 (0)]⟩,
  ⟨.bool, 1, 1, [.bool false]⟩,
  ⟨.int .u8, 1, 1, [.int .u8 (0)]⟩,
  ⟨.int .u8, 1, 1, [.int .u8 (0)]⟩,
  ⟨.struct [(0, 2), (1, 3), (2, 4), (3, 6)], 4, 24, [.int .i64 (0), .int .i64 (0), .bool false, .int .u8 (0)]⟩,
  ⟨.struct [(0, 2), (1, 3), (2, 4), (3, 6)], 4, 24, [.int .i64 (0), .int .i64 (0), .bool false, .int .u8 (0)]⟩,
  ⟨.str, 1, 16, [.str ByteArray.empty]⟩,
  ⟨.str, 1, 16, [.str ByteArray.empty]⟩,
  ⟨.str, 1, 16, [.str ByteArray.empty]⟩,
  ⟨.int .u64, 1, 8, [.int .u64 (0)]⟩,
  ⟨.struct [(0, 9), (1, 12)], 2, 24, [.str ByteArray.empty, .int .u64 (0)]⟩,
  ⟨.struct [(0, 9), (1, 12)], 2, 24, [.str ByteArray.empty, .int .u64 (0)]⟩,
  ⟨.ptr, 1, 8, [.ptr Pt.nil]⟩,
  ⟨.ptr, 1, 8, [.ptr Pt.nil]⟩,
  ⟨.ptr, 1, 8, [.ptr Pt.nil]⟩,
  ⟨.struct [(0, 17)], 1, 8, [.ptr Pt.nil]⟩,
  ⟨.struct [(0, 17)], 1, 8, [.ptr Pt.nil]⟩,
  .none,
  ⟨.int .i32, 1, 4, [.int .i32 (0)]⟩,
  ⟨.sl 5, 1, 24, [.sl Sl.nil]⟩,
  ⟨.func, 1, 8, [.nilFunc]⟩,
  ⟨.sl 91, 1, 24, [.sl Sl.nil]⟩,
  ⟨.struct [(0, 2), (1, 24)], 2, 32, [.int .i64 (0), .sl Sl.nil]⟩,
  ⟨.struct [(0, 2), (1, 24)], 2, 32, [.int .i64 (0), .sl Sl.nil]⟩,
  .none,
  ⟨.func, 1, 8, [.nilFunc]⟩,
  ⟨.sl 37, 1, 24, [.sl Sl.nil]⟩,
  .none,
  ⟨.func, 1, 8, [.nilFunc]⟩,
  ⟨.func, 1, 8, [.nilFunc]⟩,
  .none,
  ⟨.func, 1, 8, [.nilFunc]⟩,
  .none,
  ⟨.func, 1, 8, [.nilFunc]⟩,
  ⟨.sl 2, 1, 24, [.sl Sl.nil]⟩,
  .none,
  ⟨.func, 1, 8, [.nilFunc]⟩,
  ⟨.func, 1, 8, [.nilFunc]⟩,
  ⟨.func, 1, 8, [.nilFunc]⟩,
  .none,
  ⟨.func, 1, 8, [.nilFunc]⟩,
  ⟨.func, 1, 8, [.nilFunc]⟩,
  ⟨.sl 4, 1, 24, [.sl Sl.nil]⟩,
  ⟨.ptr, 1, 8, [.ptr Pt.nil]⟩,
  .none,
  ⟨.func, 1, 8, [.nilFunc]⟩,
  .none,
  ⟨.func, 1, 8, [.nilFunc]⟩,
  ⟨.sl 73, 1, 24, [.sl Sl.nil]⟩,
  ⟨.struct [(0, 26), (2, 2), (3, 2), (4, 51)], 5, 72, [.int .i64 (0), .sl Sl.nil, .int .i64 (0), .int .i64 (0), .sl Sl.nil]⟩,
  ⟨.struct [(0, 26), (2, 2), (3, 2), (4, 51)], 5, 72, [.int .i64 (0), .sl Sl.nil, .int .i64 (0), .int .i64 (0), .sl Sl.nil]⟩,
  ⟨.func, 1, 8, [.nilFunc]⟩,
  .none,
  ⟨.func, 1, 8, [.nilFunc]⟩,
  ⟨.func, 1, 8, [.nilFunc]⟩,
  ⟨.func, 1, 8, [.nilFunc]⟩,
  ⟨.func, 1, 8, [.nilFunc]⟩,
  ⟨.func, 1, 8, [.nilFunc]⟩,
  ⟨.func, 1, 8, [.nilFunc]⟩,
  ⟨.func, 1, 8, [.nilFunc]⟩,
  ⟨.func, 1, 8, [.nilFunc]⟩,
  ⟨.func, 1, 8, [.nilFunc]⟩,
  ⟨.func, 1, 8, [.nilFunc]⟩,
  ⟨.func, 1, 8, [.nilFunc]⟩,
  ⟨.func, 1, 8, [.nilFunc]⟩,
  ⟨.func, 1, 8, [.nilFunc]⟩,
  ⟨.func, 1, 8, [.nilFunc]⟩,
  .none,
  ⟨.func, 1, 8, [.nilFunc]⟩,
  ⟨.map 2 4, 1, 8, [.map none]⟩,
  ⟨.arr 3 2, 3, 24, [.int .i64 (0), .int .i64 (0), .int .i64 (0)]⟩,
  ⟨.func, 1, 8, [.nilFunc]⟩,
  ⟨.func, 1, 8, [.nilFunc]⟩,
  ⟨.ptr, 1, 8, [.ptr Pt.nil]⟩,
  ⟨.func, 1, 8, [.nilFunc]⟩,
  .none,
  ⟨.func, 1, 8, [.nilFunc]⟩,
  ⟨.func, 1, 8, [.nilFunc]⟩,
  ⟨.func, 1, 8, [.nilFunc]⟩,
  .none,
  ⟨.func, 1, 8, [.nilFunc]⟩,
  ⟨.func, 1, 8, [.nilFunc]⟩,
  .none,
  ⟨.func, 1, 8, [.nilFunc]⟩,
  ⟨.func, 1, 8, [.nilFunc]⟩,
  ⟨.func, 1, 8, [.nilFunc]⟩,
  ⟨.func, 1, 8, [.nilFunc]⟩,
  ⟨.arr 4 2, 4, 32, [.int .i64 (0), .int .i64 (0), .int .i64 (0), .int .i64 (0)]⟩,
  ⟨.arr 4 2, 4, 32, [.int .i64 (0), .int .i64 (0), .int .i64 (0), .int .i64 (0)]⟩,
  ⟨.sl 45, 1, 24, [.sl Sl.nil]⟩,
  ⟨.func, 1, 8, [.nilFunc]⟩,
  ⟨.sl 3, 1, 24, [.sl Sl.nil]⟩,
  ⟨.func, 1, 8, [.nilFunc]⟩,
  ⟨.func, 1, 8, [.nilFunc]⟩,
  ⟨.func, 1, 8, [.nilFunc]⟩,
  ⟨.int .u64, 1, 8, [.int .u64 (0)]⟩,
  ⟨.struct [(0, 22), (1, 3), (2, 98)], 3, 40, [.sl Sl.nil, .int .i64 (0), .int .u64 (0)]⟩,
  ⟨.struct [(0, 22), (1, 3), (2, 98)], 3, 40, [.sl Sl.nil, .int .i64 (0), .int .u64 (0)]⟩,
  ⟨.func, 1, 8, [.nilFunc]⟩,
  ⟨.func, 1, 8, [.nilFunc]⟩,
  ⟨.func, 1, 8, [.nilFunc]⟩,
  ⟨.func, 1, 8, [.nilFunc]⟩,
  ⟨.func, 1, 8, [.nilFunc]⟩,
  ⟨.func, 1, 8, [.nilFunc]⟩,
  ⟨.int .u64, 1, 8, [.int .u64 (0)]⟩,
  .none,
  ⟨.func, 1, 8, [.nilFunc]⟩,
  ⟨.func, 1, 8, [.nilFunc]⟩,
  ⟨.sl 9, 1, 24, [.sl Sl.nil]⟩,
  ⟨.func, 1, 8, [.nilFunc]⟩,
  .none,
  ⟨.func, 1, 8, [.nilFunc]⟩,
  ⟨.func, 1, 8, [.nilFunc]⟩,
  ⟨.func, 1, 8, [.nilFunc]⟩,
  ⟨.func, 1, 8, [.nilFunc]⟩,
  ⟨.func, 1, 8, [.nilFunc]⟩,
  ⟨.func, 1, 8, [.nilFunc]⟩,
  ⟨.func, 1, 8, [.nilFunc]⟩,
  ⟨.func, 1, 8, [.nilFunc]⟩,
  ⟨.int .u32, 1, 4, [.int .u32 (0)]⟩,
  .none,
  ⟨.func, 1, 8, [.nilFunc]⟩,
  .none,
  ⟨.func, 1, 8, [.nilFunc]⟩,
  ⟨.func, 1, 8, [.nilFunc]⟩,
  ⟨.func, 1, 8, [.nilFunc]⟩,
  ⟨.func, 1, 8, [.nilFunc]⟩,
  ⟨.func, 1, 8, [.nilFunc]⟩,
  ⟨.func, 1, 8, [.nilFunc]⟩,
  ⟨.func, 1, 8, [.nilFunc]⟩,
  ⟨.func, 1, 8, [.nilFunc]⟩,
  ⟨.func, 1, 8, [.nilFunc]⟩,
  ⟨.struct [(0, 17), (1, 17), (2, 17), (3, 9)], 4, 40, [.ptr Pt.nil, .ptr Pt.nil, .ptr Pt.nil, .str ByteArray.empty]⟩,
  ⟨.struct [(0, 17), (1, 17), (2, 17), (3, 9)], 4, 40, [.ptr Pt.nil, .ptr Pt.nil, .ptr Pt.nil, .str ByteArray.empty]⟩,
  ⟨.arr 0 16, 0, 0, []⟩,
  ⟨.other, 0, 0, []⟩,
  ⟨.other, 0, 0, []⟩,
  ⟨.func, 1, 8, [.nilFunc]⟩,
  ⟨.int .u8, 1, 1, [.int .u8 (0)]⟩,
  ⟨.int .u8, 1, 1, [.int .u8 (0)]⟩,
  ⟨.func, 1, 8, [.nilFunc]⟩,
  ⟨.ptr, 1, 8, [.ptr Pt.nil]⟩,
  ⟨.int .i32, 1, 4, [.int .i32 (0)]⟩,
  ⟨.int .i32, 1, 4, [.int .i32 (0)]⟩,
  ⟨.struct [(0, 12), (1, 12), (2, 122), (3, 141), (4, 5), (5, 5), (6, 142), (7, 143), (8, 144), (9, 145), (10, 146)], 11, 48, [.int .u64 (0), .int .u64 (0), .int .u32 (0), .int .u8 (0), .int .u8 (0), .int .u8 (0), .int .u8 (0), .nilFunc, .ptr Pt.nil, .int .i32 (0), .int .i32 (0)]⟩,
  ⟨.struct [(0, 12), (1, 12), (2, 122), (3, 141), (4, 5), (5, 5), (6, 142), (7, 143), (8, 144), (9, 145), (10, 146)], 11, 48, [.int .u64 (0), .int .u64 (0), .int .u32 (0), .int .u8 (0), .int .u8 (0), .int .u8 (0), .int .u8 (0), .nilFunc, .ptr Pt.nil, .int .i32 (0), .int .i32 (0)]⟩,
  ⟨.func, 1, 8, [.nilFunc]⟩,
  ⟨.func, 1, 8, [.nilFunc]⟩,
  ⟨.other, 1, 8, [.ptr Pt.nil]⟩]
abbrev i_laws_FnColumns : Nat := 3
abbrev i_laws_big : Nat := 5
abbrev i_spec_DrawColumnTable : Nat := 6
abbrev i_impl_ColumnTable : Nat := 7
abbrev i_spec_ColumnTable : Nat := 8
abbrev i_laws_rows9 : Nat := 9
abbrev i_impl_ColumnWords : Nat := 10
abbrev i_spec_ColumnWords : Nat := 11
abbrev i_impl_CountColumns : Nat := 12
abbrev i_spec_CountColumns : Nat := 13
abbrev i_spec_DrawStripSequence : Nat := 14
abbrev i_impl_StripSequence : Nat := 15
abbrev i_spec_StripSequence : Nat := 16
abbrev i_laws_likeInts : Nat := 17
abbrev i_impl_CountRows : Nat := 18
abbrev i_laws_sum : Nat := 19
abbrev i_spec_DrawCountColumns : Nat := 30
abbrev i_impl_lastingOf : Nat := 31
abbrev i_spec_l06Lasting : Nat := 32
abbrev i_spec_l06Word : Nat := 33
abbrev i_impl_stripOf : Nat := 34
abbrev i_spec_l06Code : Nat := 35
abbrev i_spec_l06With : Nat := 36
abbrev i_impl_setCode : Nat := 37
abbrev i_impl_StripSequence_1 : Nat := 38
abbrev i_impl_within : Nat := 39
abbrev i_impl_strip_sequence : Nat := 40
abbrev i_impl_StripSequence_2 : Nat := 41
abbrev i_impl_StripSequence_3 : Nat := 42
abbrev i_spec_l01In : Nat := 43
abbrev i_spec_l02Each : Nat := 44
abbrev i_spec_l06Size : Nat := 45
abbrev i_spec_l06Step : Nat := 46
abbrev i_spec_l02Total : Nat := 47
abbrev i_impl_CountRows_1 : Nat := 48
abbrev i_impl_Set_ways : Nat := 49
abbrev i_impl_counted : Nat := 50
abbrev i_spec_l04Sorted : Nat := 58
abbrev i_spec_l06Draw : Nat := 60
abbrev i_spec_l01From : Nat := 61
abbrev i_impl_strip_lasting : Nat := 62
abbrev i_spec_l06Keep : Nat := 63
abbrev i_spec_l04Find : Nat := 64
abbrev i_impl_stripOf_1 : Nat := 65
abbrev i_impl_newStrip : Nat := 66
abbrev i_spec_l01Is : Nat := 67
abbrev i_spec_l06Columns : Nat := 68
abbrev i_spec_l01Pick : Nat := 69
abbrev i_spec_l01Near : Nat := 70
abbrev i_impl_IsSet : Nat := 71
abbrev i_slices_Repeat_s_int64_int64_ : Nat := 72
abbrev i_spec_l01Own : Nat := 80
abbrev i_spec_l01Next : Nat := 82
abbrev i_spec_l01Spoil : Nat := 83
abbrev i_spec_l01Small : Nat := 84
abbrev i_impl_strip_endless : Nat := 85
abbrev i_impl_newStrip_1 : Nat := 86
abbrev i_spec_l01Tile : Nat := 87
abbrev i_spec_l01Before : Nat := 88
abbrev i_impl_isTile : Nat := 89
abbrev i_impl_compare : Nat := 90
abbrev i_math_bits_Mul : Nat := 91
abbrev i_spec_l01Bad : Nat := 92
abbrev i_spec_l01Draw : Nat := 93
abbrev i_spec_l01Names : Nat := 94
abbrev i_spec_l01Named : Nat := 95
abbrev i_spec_l01Renamed : Nat := 96
abbrev i_spec_l01DrawOrder : Nat := 97
abbrev i_spec_l01DrawOf : Nat := 98
abbrev i_slices_Repeat_s_bool_bool_ : Nat := 99
abbrev i_slices_Equal_s_bool_bool_ : Nat := 100
abbrev i_slices_ContainsFunc_s_int64_int64_ : Nat := 101
abbrev i_impl_isTile_1 : Nat := 102
abbrev i_slices_Compare_s_int64_int64_ : Nat := 103
abbrev i_math_bits_Mul64 : Nat := 105
abbrev i_spec_l01DrawTile : Nat := 106
abbrev i_spec_l01Made : Nat := 107
abbrev i_spec_l01Read : Nat := 108
abbrev i_slices_IndexFunc_s_int64_int64_ : Nat := 109
abbrev i_cmp_Compare_int64_ : Nat := 110
abbrev i_spec_l01Sort : Nat := 111
abbrev i_spec_l01Split : Nat := 112
abbrev i_spec_l01Number : Nat := 113
abbrev i_cmp_isNaN_int64_ : Nat := 114
theorem tok : TOK Try.prog tab := ⟨152, by kernel_rfl⟩
theorem mixed : Try.prog.follows .mixedOrders = true := by kernel_rfl
end Go.Proofs.Ytcoampecbpiecaa.Cl
