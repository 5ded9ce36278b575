/- The table of types. No claim is stated here. -/
import Derived.Test.YtcoampecbpiecaaGreatProg
import Derived.Test.YtcoampecbpiecaaGreatFa2
import Derived.KernelRfl
/- The table of types and the numbers of the functions. Printed by program. No claim is stated here. -/
set_option linter.unusedVariables false
namespace Go.Proofs.YtcoampecbpiecaaGreat.Cl
open Go
abbrev U : AVal := .undef
def tab : Tab := [
  .none,
  ⟨.func, 1, 8, [.nilFunc]⟩,
  ⟨.int .i64, 1, 8, [.int .i64 (0)]⟩,
  ⟨.int .i64, 1, 8, [.int .i64 (0)]⟩,
  ⟨.bool, 1, 1, [.bool false]⟩,
  ⟨.int .u8, 1, 1, [.int .u8 (0)]⟩,
  ⟨.int .u8, 1, 1, [.int .u8 (0)]⟩,
  ⟨.struct [(0, 2), (1, 3), (2, 4), (3, 6)], 4, 24, [.int .i64 (0), .int .i64 (0), .bool false, .int .u8 (0)]⟩,
  ⟨.struct [(0, 2), (1, 3), (2, 4), (3, 6)], 4, 24, [.int .i64 (0), .int .i64 (0), .bool false, .int .u8 (0)]⟩,
  ⟨.str, 1, 16, [.str ByteArray.empty]⟩,
  ⟨.str, 1, 16, [.str ByteArray.empty]⟩,
  ⟨.str, 1, 16, [.str ByteArray.empty]⟩,
  ⟨.int .u64, 1, 8, [.int .u64 (0)]⟩,
  ⟨.struct [(0, 9), (1, 12)], 2, 24, [.str ByteArray.empty, .int .u64 (0)]⟩,
  ⟨.struct [(0, 9), (1, 12)], 2, 24, [.str ByteArray.empty, .int .u64 (0)]⟩,
  ⟨.ptr, 1, 8, [.ptr Pt.nil]⟩,
  ⟨.ptr, 1, 8, [.ptr Pt.nil]⟩,
  ⟨.ptr, 1, 8, [.ptr Pt.nil]⟩,
  ⟨.struct [(0, 17)], 1, 8, [.ptr Pt.nil]⟩,
  ⟨.struct [(0, 17)], 1, 8, [.ptr Pt.nil]⟩,
  .none,
  ⟨.int .i32, 1, 4, [.int .i32 (0)]⟩,
  ⟨.sl 5, 1, 24, [.sl Sl.nil]⟩,
  ⟨.func, 1, 8, [.nilFunc]⟩,
  ⟨.sl 69, 1, 24, [.sl Sl.nil]⟩,
  ⟨.struct [(0, 2), (1, 24)], 2, 32, [.int .i64 (0), .sl Sl.nil]⟩,
  ⟨.struct [(0, 2), (1, 24)], 2, 32, [.int .i64 (0), .sl Sl.nil]⟩,
  ⟨.sl 2, 1, 24, [.sl Sl.nil]⟩,
  .none,
  ⟨.func, 1, 8, [.nilFunc]⟩,
  .none,
  ⟨.func, 1, 8, [.nilFunc]⟩,
  ⟨.func, 1, 8, [.nilFunc]⟩,
  .none,
  ⟨.func, 1, 8, [.nilFunc]⟩,
  .none,
  ⟨.func, 1, 8, [.nilFunc]⟩,
  ⟨.func, 1, 8, [.nilFunc]⟩,
  ⟨.sl 27, 1, 24, [.sl Sl.nil]⟩,
  .none,
  ⟨.func, 1, 8, [.nilFunc]⟩,
  ⟨.func, 1, 8, [.nilFunc]⟩,
  ⟨.func, 1, 8, [.nilFunc]⟩,
  ⟨.func, 1, 8, [.nilFunc]⟩,
  .none,
  ⟨.func, 1, 8, [.nilFunc]⟩,
  ⟨.func, 1, 8, [.nilFunc]⟩,
  .none,
  ⟨.func, 1, 8, [.nilFunc]⟩,
  ⟨.func, 1, 8, [.nilFunc]⟩,
  .none,
  ⟨.func, 1, 8, [.nilFunc]⟩,
  .none,
  ⟨.func, 1, 8, [.nilFunc]⟩,
  ⟨.func, 1, 8, [.nilFunc]⟩,
  .none,
  ⟨.func, 1, 8, [.nilFunc]⟩,
  ⟨.ptr, 1, 8, [.ptr Pt.nil]⟩,
  ⟨.func, 1, 8, [.nilFunc]⟩,
  ⟨.func, 1, 8, [.nilFunc]⟩,
  ⟨.func, 1, 8, [.nilFunc]⟩,
  ⟨.func, 1, 8, [.nilFunc]⟩,
  ⟨.sl 66, 1, 24, [.sl Sl.nil]⟩,
  ⟨.func, 1, 8, [.nilFunc]⟩,
  .none,
  ⟨.func, 1, 8, [.nilFunc]⟩,
  ⟨.arr 2 3, 2, 16, [.int .i64 (0), .int .i64 (0)]⟩,
  ⟨.func, 1, 8, [.nilFunc]⟩,
  ⟨.arr 4 2, 4, 32, [.int .i64 (0), .int .i64 (0), .int .i64 (0), .int .i64 (0)]⟩,
  ⟨.arr 4 2, 4, 32, [.int .i64 (0), .int .i64 (0), .int .i64 (0), .int .i64 (0)]⟩,
  ⟨.func, 1, 8, [.nilFunc]⟩,
  ⟨.func, 1, 8, [.nilFunc]⟩,
  ⟨.func, 1, 8, [.nilFunc]⟩,
  ⟨.sl 75, 1, 24, [.sl Sl.nil]⟩,
  ⟨.func, 1, 8, [.nilFunc]⟩,
  ⟨.arr 2 2, 2, 16, [.int .i64 (0), .int .i64 (0)]⟩,
  ⟨.func, 1, 8, [.nilFunc]⟩,
  ⟨.func, 1, 8, [.nilFunc]⟩,
  ⟨.func, 1, 8, [.nilFunc]⟩,
  ⟨.func, 1, 8, [.nilFunc]⟩,
  ⟨.func, 1, 8, [.nilFunc]⟩,
  ⟨.func, 1, 8, [.nilFunc]⟩,
  ⟨.func, 1, 8, [.nilFunc]⟩,
  ⟨.func, 1, 8, [.nilFunc]⟩,
  ⟨.func, 1, 8, [.nilFunc]⟩,
  ⟨.func, 1, 8, [.nilFunc]⟩,
  ⟨.func, 1, 8, [.nilFunc]⟩,
  ⟨.func, 1, 8, [.nilFunc]⟩,
  ⟨.func, 1, 8, [.nilFunc]⟩,
  ⟨.func, 1, 8, [.nilFunc]⟩,
  ⟨.func, 1, 8, [.nilFunc]⟩,
  ⟨.func, 1, 8, [.nilFunc]⟩,
  ⟨.func, 1, 8, [.nilFunc]⟩,
  .none,
  ⟨.func, 1, 8, [.nilFunc]⟩,
  ⟨.sl 38, 1, 24, [.sl Sl.nil]⟩,
  ⟨.func, 1, 8, [.nilFunc]⟩,
  ⟨.func, 1, 8, [.nilFunc]⟩,
  ⟨.int .u64, 1, 8, [.int .u64 (0)]⟩,
  ⟨.struct [(0, 22), (1, 3), (2, 98)], 3, 40, [.sl Sl.nil, .int .i64 (0), .int .u64 (0)]⟩,
  ⟨.struct [(0, 22), (1, 3), (2, 98)], 3, 40, [.sl Sl.nil, .int .i64 (0), .int .u64 (0)]⟩,
  ⟨.func, 1, 8, [.nilFunc]⟩,
  ⟨.func, 1, 8, [.nilFunc]⟩,
  ⟨.sl 26, 1, 24, [.sl Sl.nil]⟩,
  ⟨.func, 1, 8, [.nilFunc]⟩,
  ⟨.func, 1, 8, [.nilFunc]⟩,
  ⟨.func, 1, 8, [.nilFunc]⟩,
  ⟨.map 75 2, 1, 8, [.map none]⟩,
  ⟨.func, 1, 8, [.nilFunc]⟩,
  ⟨.func, 1, 8, [.nilFunc]⟩,
  ⟨.func, 1, 8, [.nilFunc]⟩,
  ⟨.func, 1, 8, [.nilFunc]⟩,
  ⟨.func, 1, 8, [.nilFunc]⟩,
  ⟨.func, 1, 8, [.nilFunc]⟩,
  ⟨.func, 1, 8, [.nilFunc]⟩,
  ⟨.map 75 4, 1, 8, [.map none]⟩,
  ⟨.func, 1, 8, [.nilFunc]⟩,
  ⟨.func, 1, 8, [.nilFunc]⟩,
  ⟨.func, 1, 8, [.nilFunc]⟩,
  ⟨.func, 1, 8, [.nilFunc]⟩,
  ⟨.func, 1, 8, [.nilFunc]⟩,
  .none,
  ⟨.func, 1, 8, [.nilFunc]⟩,
  ⟨.func, 1, 8, [.nilFunc]⟩,
  ⟨.func, 1, 8, [.nilFunc]⟩,
  ⟨.func, 1, 8, [.nilFunc]⟩,
  ⟨.func, 1, 8, [.nilFunc]⟩,
  ⟨.func, 1, 8, [.nilFunc]⟩,
  ⟨.func, 1, 8, [.nilFunc]⟩,
  ⟨.func, 1, 8, [.nilFunc]⟩,
  ⟨.func, 1, 8, [.nilFunc]⟩,
  ⟨.func, 1, 8, [.nilFunc]⟩,
  ⟨.func, 1, 8, [.nilFunc]⟩,
  ⟨.func, 1, 8, [.nilFunc]⟩,
  ⟨.int .u64, 1, 8, [.int .u64 (0)]⟩,
  ⟨.sl 9, 1, 24, [.sl Sl.nil]⟩,
  ⟨.func, 1, 8, [.nilFunc]⟩,
  .none,
  ⟨.func, 1, 8, [.nilFunc]⟩,
  ⟨.func, 1, 8, [.nilFunc]⟩,
  ⟨.func, 1, 8, [.nilFunc]⟩,
  ⟨.func, 1, 8, [.nilFunc]⟩,
  ⟨.func, 1, 8, [.nilFunc]⟩,
  ⟨.func, 1, 8, [.nilFunc]⟩,
  ⟨.func, 1, 8, [.nilFunc]⟩,
  ⟨.func, 1, 8, [.nilFunc]⟩,
  ⟨.func, 1, 8, [.nilFunc]⟩,
  ⟨.func, 1, 8, [.nilFunc]⟩,
  ⟨.func, 1, 8, [.nilFunc]⟩,
  ⟨.func, 1, 8, [.nilFunc]⟩,
  ⟨.func, 1, 8, [.nilFunc]⟩,
  ⟨.func, 1, 8, [.nilFunc]⟩,
  ⟨.func, 1, 8, [.nilFunc]⟩,
  ⟨.func, 1, 8, [.nilFunc]⟩,
  ⟨.int .i64, 1, 8, [.int .i64 (0)]⟩,
  .none,
  ⟨.func, 1, 8, [.nilFunc]⟩,
  ⟨.func, 1, 8, [.nilFunc]⟩,
  ⟨.func, 1, 8, [.nilFunc]⟩,
  .none,
  ⟨.func, 1, 8, [.nilFunc]⟩,
  ⟨.func, 1, 8, [.nilFunc]⟩,
  ⟨.int .u32, 1, 4, [.int .u32 (0)]⟩,
  ⟨.func, 1, 8, [.nilFunc]⟩,
  ⟨.func, 1, 8, [.nilFunc]⟩,
  ⟨.func, 1, 8, [.nilFunc]⟩,
  ⟨.func, 1, 8, [.nilFunc]⟩,
  ⟨.func, 1, 8, [.nilFunc]⟩,
  ⟨.func, 1, 8, [.nilFunc]⟩,
  ⟨.int .u64, 1, 8, [.int .u64 (0)]⟩,
  ⟨.func, 1, 8, [.nilFunc]⟩,
  ⟨.func, 1, 8, [.nilFunc]⟩,
  ⟨.func, 1, 8, [.nilFunc]⟩,
  ⟨.ptr, 1, 8, [.ptr Pt.nil]⟩,
  ⟨.func, 1, 8, [.nilFunc]⟩,
  ⟨.func, 1, 8, [.nilFunc]⟩,
  ⟨.func, 1, 8, [.nilFunc]⟩,
  ⟨.ptr, 1, 8, [.ptr Pt.nil]⟩,
  .none,
  ⟨.func, 1, 8, [.nilFunc]⟩,
  ⟨.func, 1, 8, [.nilFunc]⟩,
  ⟨.func, 1, 8, [.nilFunc]⟩,
  ⟨.func, 1, 8, [.nilFunc]⟩,
  ⟨.func, 1, 8, [.nilFunc]⟩,
  ⟨.func, 1, 8, [.nilFunc]⟩,
  ⟨.func, 1, 8, [.nilFunc]⟩,
  ⟨.func, 1, 8, [.nilFunc]⟩,
  ⟨.func, 1, 8, [.nilFunc]⟩,
  ⟨.func, 1, 8, [.nilFunc]⟩,
  ⟨.struct [(0, 17), (1, 17), (2, 17), (3, 9)], 4, 40, [.ptr Pt.nil, .ptr Pt.nil, .ptr Pt.nil, .str ByteArray.empty]⟩,
  ⟨.struct [(0, 17), (1, 17), (2, 17), (3, 9)], 4, 40, [.ptr Pt.nil, .ptr Pt.nil, .ptr Pt.nil, .str ByteArray.empty]⟩,
  ⟨.arr 0 16, 0, 0, []⟩,
  ⟨.other, 0, 0, []⟩,
  ⟨.other, 0, 0, []⟩,
  ⟨.func, 1, 8, [.nilFunc]⟩,
  ⟨.int .u8, 1, 1, [.int .u8 (0)]⟩,
  ⟨.int .u8, 1, 1, [.int .u8 (0)]⟩,
  ⟨.func, 1, 8, [.nilFunc]⟩,
  ⟨.ptr, 1, 8, [.ptr Pt.nil]⟩,
  ⟨.int .i32, 1, 4, [.int .i32 (0)]⟩,
  ⟨.int .i32, 1, 4, [.int .i32 (0)]⟩,
  ⟨.struct [(0, 12), (1, 12), (2, 162), (3, 195), (4, 5), (5, 5), (6, 196), (7, 197), (8, 198), (9, 199), (10, 200)], 11, 48, [.int .u64 (0), .int .u64 (0), .int .u32 (0), .int .u8 (0), .int .u8 (0), .int .u8 (0), .int .u8 (0), .nilFunc, .ptr Pt.nil, .int .i32 (0), .int .i32 (0)]⟩,
  ⟨.struct [(0, 12), (1, 12), (2, 162), (3, 195), (4, 5), (5, 5), (6, 196), (7, 197), (8, 198), (9, 199), (10, 200)], 11, 48, [.int .u64 (0), .int .u64 (0), .int .u32 (0), .int .u8 (0), .int .u8 (0), .int .u8 (0), .int .u8 (0), .nilFunc, .ptr Pt.nil, .int .i32 (0), .int .i32 (0)]⟩,
  ⟨.func, 1, 8, [.nilFunc]⟩,
  ⟨.other, 1, 8, [.ptr Pt.nil]⟩]
abbrev i_laws_FnShifts : Nat := 4
abbrev i_laws_big : Nat := 5
abbrev i_laws_likeInts : Nat := 9
abbrev i_impl_IsSet : Nat := 17
abbrev i_spec_DrawShiftTorus : Nat := 19
abbrev i_impl_ShiftTorus : Nat := 20
abbrev i_spec_ShiftTorus : Nat := 21
abbrev i_laws_rows5 : Nat := 22
abbrev i_impl_IsTorus : Nat := 23
abbrev i_impl_LeastForm : Nat := 24
abbrev i_impl_ShiftsKept : Nat := 25
abbrev i_impl_ShiftNumber : Nat := 26
abbrev i_spec_DrawCountForms : Nat := 27
abbrev i_impl_CountForms : Nat := 28
abbrev i_spec_CountForms : Nat := 29
abbrev i_impl_CountTori : Nat := 30
abbrev i_spec_DrawLeastForm : Nat := 31
abbrev i_spec_LeastForm : Nat := 32
abbrev i_spec_DrawShiftsKept : Nat := 33
abbrev i_spec_ShiftsKept : Nat := 34
abbrev i_spec_DrawShiftNumber : Nat := 35
abbrev i_spec_ShiftNumber : Nat := 36
abbrev i_spec_l01From : Nat := 37
abbrev i_spec_l01Is : Nat := 49
abbrev i_impl_isTile : Nat := 52
abbrev i_impl_compare : Nat := 53
abbrev i_impl_within : Nat := 54
abbrev i_impl_setCode : Nat := 55
abbrev i_spec_l05With : Nat := 58
abbrev i_spec_l01Near : Nat := 59
abbrev i_impl_ShiftTorus_1 : Nat := 60
abbrev i_impl_Set_areNumbers : Nat := 61
abbrev i_impl_Set_isTorus : Nat := 62
abbrev i_impl_shifted : Nat := 63
abbrev i_spec_l01Rows : Nat := 64
abbrev i_spec_l01In : Nat := 65
abbrev i_spec_l05Given : Nat := 66
abbrev i_spec_l05Shift : Nat := 67
abbrev i_impl_IsTorus_1 : Nat := 68
abbrev i_impl_torusCode : Nat := 69
abbrev i_impl_leastForm : Nat := 70
abbrev i_impl_keeping : Nat := 71
abbrev i_spec_l05Size : Nat := 72
abbrev i_impl_CountForms_1 : Nat := 73
abbrev i_impl_areSizes : Nat := 74
abbrev i_impl_Set_tori : Nat := 75
abbrev i_impl_CountForms_2 : Nat := 76
abbrev i_impl_compareRows : Nat := 77
abbrev i_spec_l05Code : Nat := 78
abbrev i_spec_l05Count : Nat := 79
abbrev i_spec_l05Words : Nat := 80
abbrev i_spec_l05All : Nat := 81
abbrev i_spec_l05Least : Nat := 82
abbrev i_spec_l05Less : Nat := 83
abbrev i_impl_CountTori_1 : Nat := 84
abbrev i_impl_Set_countTori : Nat := 85
abbrev i_spec_l05Kept : Nat := 86
abbrev i_spec_l01Next : Nat := 87
abbrev i_spec_l01Small : Nat := 89
abbrev i_spec_l01Pick : Nat := 90
abbrev i_impl_Set_isNumber : Nat := 94
abbrev i_spec_l01Tile : Nat := 98
abbrev i_spec_l01Before : Nat := 99
abbrev i_spec_l01Sort : Nat := 100
abbrev i_spec_l01Made : Nat := 101
abbrev i_slices_Compare_s_int64_int64_ : Nat := 104
abbrev i_slices_ContainsFunc_s_int64_int64_ : Nat := 105
abbrev i_impl_isTile_1 : Nat := 106
abbrev i_spec_l05Draw : Nat := 107
abbrev i_spec_l01Bad : Nat := 108
abbrev i_spec_l05First : Nat := 109
abbrev i_spec_l01DrawRows : Nat := 110
abbrev i_impl_isTable : Nat := 111
abbrev i_impl_Set_isCylinder : Nat := 112
abbrev i_spec_l05Torus : Nat := 113
abbrev i_impl_torusCode_1 : Nat := 114
abbrev i_impl_shifts : Nat := 115
abbrev i_impl_leastForm_1 : Nat := 116
abbrev i_impl_keeping_1 : Nat := 117
abbrev i_impl_Set_tori_1 : Nat := 118
abbrev i_slices_Clone_s_int64_int64_ : Nat := 119
abbrev i_slices_CompareFunc_ss_int64_s_s_int64_s_int64_s_int64_ : Nat := 120
abbrev i_impl_compareRows_1 : Nat := 121
abbrev i_spec_l03Power : Nat := 122
abbrev i_spec_l05Paths : Nat := 123
abbrev i_spec_l05Rounds : Nat := 124
abbrev i_spec_l05Side : Nat := 125
abbrev i_impl_Set_countTori_1 : Nat := 126
abbrev i_spec_l01Draw : Nat := 127
abbrev i_spec_l01Names : Nat := 128
abbrev i_spec_l01Named : Nat := 129
abbrev i_spec_l01Renamed : Nat := 130
abbrev i_spec_l01DrawOrder : Nat := 131
abbrev i_spec_l01DrawOf : Nat := 132
abbrev i_cmp_Compare_int64_ : Nat := 137
abbrev i_slices_IndexFunc_s_int64_int64_ : Nat := 138
abbrev i_spec_l01DrawTile : Nat := 139
abbrev i_spec_l01Own : Nat := 140
abbrev i_impl_Set_isFilling : Nat := 141
abbrev i_spec_l01Good : Nat := 142
abbrev i_spec_l05Cylinder : Nat := 143
abbrev i_spec_l01Read : Nat := 144
abbrev i_cmp_isNaN_int64_ : Nat := 158
abbrev i_spec_l01Split : Nat := 159
abbrev i_spec_l01Number : Nat := 160
theorem tok : TOK Tryz.prog tab := ⟨205, by kernel_rfl⟩
theorem mixed : Tryz.prog.follows .mixedOrders = true := by kernel_rfl
end Go.Proofs.YtcoampecbpiecaaGreat.Cl
