/- The table of types. No claim is stated here. -/
import Derived.Test.YtcoampecbpiecaaProg
import Derived.Test.YtcoampecbpiecaaFa2
import Derived.KernelRfl
set_option linter.unusedVariables false
namespace Go.Proofs.Ytcoampecbpiecaa.Cl
open Go
abbrev U : AVal := .undef
def tab : Tab := [
 .none,
 ⟨.func, 1, 8, [.nilFunc]⟩,
 ⟨.int .i64, 1, 8, [.int .i64 (0)]⟩,
 ⟨.int .i64, 1, 8, [.int .i64 (0)]⟩,
 ⟨.bool, 1, 1, [.bool false]⟩,
 ⟨.int .u8, 1, 1, [.int .u8 (0)]⟩,
 ⟨.int .u8, 1, 1, [.int .u8 (0)]⟩,
 ⟨.struct [(0, 2), (1, 3), (2, 4), (3, 6)], 4, 24, [.int .i64 (0), .int .i64 (0), .bool false, .int .u8 (0)]⟩,
 ⟨.struct [(0, 2), (1, 3), (2, 4), (3, 6)], 4, 24, [.int .i64 (0), .int .i64 (0), .bool false, .int .u8 (0)]⟩,
 ⟨.str, 1, 16, [.str ByteArray.empty]⟩,
 ⟨.str, 1, 16, [.str ByteArray.empty]⟩,
 ⟨.str, 1, 16, [.str ByteArray.empty]⟩,
 ⟨.int .u64, 1, 8, [.int .u64 (0)]⟩,
 ⟨.struct [(0, 9), (1, 12)], 2, 24, [.str ByteArray.empty, .int .u64 (0)]⟩,
 ⟨.struct [(0, 9), (1, 12)], 2, 24, [.str ByteArray.empty, .int .u64 (0)]⟩,
 ⟨.ptr, 1, 8, [.ptr Pt.nil]⟩,
 ⟨.ptr, 1, 8, [.ptr Pt.nil]⟩,
 ⟨.ptr, 1, 8, [.ptr Pt.nil]⟩,
 ⟨.struct [(0, 17)], 1, 8, [.ptr Pt.nil]⟩,
 ⟨.struct [(0, 17)], 1, 8, [.ptr Pt.nil]⟩,
 .none,
 ⟨.int .i32, 1, 4, [.int .i32 (0)]⟩,
 ⟨.sl 5, 1, 24, [.sl Sl.nil]⟩,
 ⟨.func, 1, 8, [.nilFunc]⟩,
 ⟨.sl 91, 1, 24, [.sl Sl.nil]⟩,
 ⟨.struct [(0, 2), (1, 24)], 2, 32, [.int .i64 (0), .sl Sl.nil]⟩,
 ⟨.struct [(0, 2), (1, 24)], 2, 32, [.int .i64 (0), .sl Sl.nil]⟩,
 .none,
 ⟨.func, 1, 8, [.nilFunc]⟩,
 ⟨.sl 37, 1, 24, [.sl Sl.nil]⟩,
 .none,
 ⟨.func, 1, 8, [.nilFunc]⟩,
 ⟨.func, 1, 8, [.nilFunc]⟩,
 .none,
 ⟨.func, 1, 8, [.nilFunc]⟩,
 .none,
 ⟨.func, 1, 8, [.nilFunc]⟩,
 ⟨.sl 2, 1, 24, [.sl Sl.nil]⟩,
 .none,
 ⟨.func, 1, 8, [.nilFunc]⟩,
 ⟨.func, 1, 8, [.nilFunc]⟩,
 ⟨.func, 1, 8, [.nilFunc]⟩,
 .none,
 ⟨.func, 1, 8, [.nilFunc]⟩,
 ⟨.func, 1, 8, [.nilFunc]⟩,
 ⟨.sl 4, 1, 24, [.sl Sl.nil]⟩,
 ⟨.ptr, 1, 8, [.ptr Pt.nil]⟩,
 .none,
 ⟨.func, 1, 8, [.nilFunc]⟩,
 .none,
 ⟨.func, 1, 8, [.nilFunc]⟩,
 ⟨.sl 73, 1, 24, [.sl Sl.nil]⟩,
 ⟨.struct [(0, 26), (2, 2), (3, 2), (4, 51)], 5, 72, [.int .i64 (0), .sl Sl.nil, .int .i64 (0), .int .i64 (0), .sl Sl.nil]⟩,
 ⟨.struct [(0, 26), (2, 2), (3, 2), (4, 51)], 5, 72, [.int .i64 (0), .sl Sl.nil, .int .i64 (0), .int .i64 (0), .sl Sl.nil]⟩,
 ⟨.func, 1, 8, [.nilFunc]⟩,
 .none,
 ⟨.func, 1, 8, [.nilFunc]⟩,
 ⟨.func, 1, 8, [.nilFunc]⟩,
 ⟨.func, 1, 8, [.nilFunc]⟩,
 ⟨.func, 1, 8, [.nilFunc]⟩,
 ⟨.func, 1, 8, [.nilFunc]⟩,
 ⟨.func, 1, 8, [.nilFunc]⟩,
 ⟨.func, 1, 8, [.nilFunc]⟩,
 ⟨.func, 1, 8, [.nilFunc]⟩,
 ⟨.func, 1, 8, [.nilFunc]⟩,
 ⟨.func, 1, 8, [.nilFunc]⟩,
 ⟨.func, 1, 8, [.nilFunc]⟩,
 ⟨.func, 1, 8, [.nilFunc]⟩,
 ⟨.func, 1, 8, [.nilFunc]⟩,
 ⟨.func, 1, 8, [.nilFunc]⟩,
 .none,
 ⟨.func, 1, 8, [.nilFunc]⟩,
 ⟨.map 2 4, 1, 8, [.map none]⟩,
 ⟨.arr 3 2, 3, 24, [.int .i64 (0), .int .i64 (0), .int .i64 (0)]⟩,
 ⟨.func, 1, 8, [.nilFunc]⟩,
 ⟨.func, 1, 8, [.nilFunc]⟩,
 ⟨.ptr, 1, 8, [.ptr Pt.nil]⟩,
 ⟨.func, 1, 8, [.nilFunc]⟩,
 .none,
 ⟨.func, 1, 8, [.nilFunc]⟩,
 ⟨.func, 1, 8, [.nilFunc]⟩,
 ⟨.func, 1, 8, [.nilFunc]⟩,
 .none,
 ⟨.func, 1, 8, [.nilFunc]⟩,
 ⟨.func, 1, 8, [.nilFunc]⟩,
 .none,
 ⟨.func, 1, 8, [.nilFunc]⟩,
 ⟨.func, 1, 8, [.nilFunc]⟩,
 ⟨.func, 1, 8, [.nilFunc]⟩,
 ⟨.func, 1, 8, [.nilFunc]⟩,
 ⟨.arr 4 2, 4, 32, [.int .i64 (0), .int .i64 (0), .int .i64 (0), .int .i64 (0)]⟩,
 ⟨.arr 4 2, 4, 32, [.int .i64 (0), .int .i64 (0), .int .i64 (0), .int .i64 (0)]⟩,
 ⟨.sl 45, 1, 24, [.sl Sl.nil]⟩,
 ⟨.func, 1, 8, [.nilFunc]⟩,
 ⟨.sl 3, 1, 24, [.sl Sl.nil]⟩,
 ⟨.func, 1, 8, [.nilFunc]⟩,
 ⟨.func, 1, 8, [.nilFunc]⟩,
 ⟨.func, 1, 8, [.nilFunc]⟩,
 ⟨.int .u64, 1, 8, [.int .u64 (0)]⟩,
 ⟨.struct [(0, 22), (1, 3), (2, 98)], 3, 40, [.sl Sl.nil, .int .i64 (0), .int .u64 (0)]⟩,
 ⟨.struct [(0, 22), (1, 3), (2, 98)], 3, 40, [.sl Sl.nil, .int .i64 (0), .int .u64 (0)]⟩,
 ⟨.func, 1, 8, [.nilFunc]⟩,
 ⟨.func, 1, 8, [.nilFunc]⟩,
 ⟨.func, 1, 8, [.nilFunc]⟩,
 ⟨.func, 1, 8, [.nilFunc]⟩,
 ⟨.func, 1, 8, [.nilFunc]⟩,
 ⟨.func, 1, 8, [.nilFunc]⟩,
 ⟨.int .u64, 1, 8, [.int .u64 (0)]⟩,
 .none,
 ⟨.func, 1, 8, [.nilFunc]⟩,
 ⟨.func, 1, 8, [.nilFunc]⟩,
 ⟨.sl 9, 1, 24, [.sl Sl.nil]⟩,
 ⟨.func, 1, 8, [.nilFunc]⟩,
 .none,
 ⟨.func, 1, 8, [.nilFunc]⟩,
 ⟨.func, 1, 8, [.nilFunc]⟩,
 ⟨.func, 1, 8, [.nilFunc]⟩,
 ⟨.func, 1, 8, [.nilFunc]⟩,
 ⟨.func, 1, 8, [.nilFunc]⟩,
 ⟨.func, 1, 8, [.nilFunc]⟩,
 ⟨.func, 1, 8, [.nilFunc]⟩,
 ⟨.func, 1, 8, [.nilFunc]⟩,
 ⟨.int .u32, 1, 4, [.int .u32 (0)]⟩,
 .none,
 ⟨.func, 1, 8, [.nilFunc]⟩,
 .none,
 ⟨.func, 1, 8, [.nilFunc]⟩,
 ⟨.func, 1, 8, [.nilFunc]⟩,
 ⟨.func, 1, 8, [.nilFunc]⟩,
 ⟨.func, 1, 8, [.nilFunc]⟩,
 ⟨.func, 1, 8, [.nilFunc]⟩,
 ⟨.func, 1, 8, [.nilFunc]⟩,
 ⟨.func, 1, 8, [.nilFunc]⟩,
 ⟨.func, 1, 8, [.nilFunc]⟩,
 ⟨.func, 1, 8, [.nilFunc]⟩,
 ⟨.struct [(0, 17), (1, 17), (2, 17), (3, 9)], 4, 40, [.ptr Pt.nil, .ptr Pt.nil, .ptr Pt.nil, .str ByteArray.empty]⟩,
 ⟨.struct [(0, 17), (1, 17), (2, 17), (3, 9)], 4, 40, [.ptr Pt.nil, .ptr Pt.nil, .ptr Pt.nil, .str ByteArray.empty]⟩,
 ⟨.arr 0 16, 0, 0, []⟩,
 ⟨.other, 0, 0, []⟩,
 ⟨.other, 0, 0, []⟩,
 ⟨.func, 1, 8, [.nilFunc]⟩,
 ⟨.int .u8, 1, 1, [.int .u8 (0)]⟩,
 ⟨.int .u8, 1, 1, [.int .u8 (0)]⟩,
 ⟨.func, 1, 8, [.nilFunc]⟩,
 ⟨.ptr, 1, 8, [.ptr Pt.nil]⟩,
 ⟨.int .i32, 1, 4, [.int .i32 (0)]⟩,
 ⟨.int .i32, 1, 4, [.int .i32 (0)]⟩,
 ⟨.struct [(0, 12), (1, 12), (2, 122), (3, 141), (4, 5), (5, 5), (6, 142), (7, 143), (8, 144), (9, 145), (10, 146)], 11, 48, [.int .u64 (0), .int .u64 (0), .int .u32 (0), .int .u8 (0), .int .u8 (0), .int .u8 (0), .int .u8 (0), .nilFunc, .ptr Pt.nil, .int .i32 (0), .int .i32 (0)]⟩,
 ⟨.struct [(0, 12), (1, 12), (2, 122), (3, 141), (4, 5), (5, 5), (6, 142), (7, 143), (8, 144), (9, 145), (10, 146)], 11, 48, [.int .u64 (0), .int .u64 (0), .int .u32 (0), .int .u8 (0), .int .u8 (0), .int .u8 (0), .int .u8 (0), .nilFunc, .ptr Pt.nil, .int .i32 (0), .int .i32 (0)]⟩,
 ⟨.func, 1, 8, [.nilFunc]⟩,
 ⟨.func, 1, 8, [.nilFunc]⟩,
 ⟨.other, 1, 8, [.ptr Pt.nil]⟩]
abbrev i_f2 : Nat := 4
abbrev i_f3 : Nat := 5
abbrev i_f7 : Nat := 9
abbrev i_f8 : Nat := 10
abbrev i_f13 : Nat := 15
abbrev i_f15 : Nat := 17
abbrev i_f18 : Nat := 20
abbrev i_f19 : Nat := 21
abbrev i_f20 : Nat := 22
abbrev i_f21 : Nat := 23
abbrev i_f22 : Nat := 24
abbrev i_f23 : Nat := 25
abbrev i_f24 : Nat := 26
abbrev i_f25 : Nat := 27
abbrev i_f26 : Nat := 28
abbrev i_f27 : Nat := 29
abbrev i_f28 : Nat := 30
abbrev i_f29 : Nat := 31
abbrev i_f30 : Nat := 32
abbrev i_f32 : Nat := 34
abbrev i_f33 : Nat := 35
abbrev i_f35 : Nat := 37
abbrev i_f36 : Nat := 38
abbrev i_f37 : Nat := 39
abbrev i_f38 : Nat := 40
abbrev i_f39 : Nat := 41
abbrev i_f40 : Nat := 42
abbrev i_f41 : Nat := 43
abbrev i_f42 : Nat := 44
abbrev i_f43 : Nat := 45
abbrev i_f49 : Nat := 51
abbrev i_f50 : Nat := 52
abbrev i_f51 : Nat := 53
abbrev i_f52 : Nat := 54
abbrev i_f53 : Nat := 55
abbrev i_f54 : Nat := 56
abbrev i_f55 : Nat := 57
abbrev i_f56 : Nat := 58
abbrev i_f57 : Nat := 59
abbrev i_f58 : Nat := 60
abbrev i_f59 : Nat := 61
abbrev i_f60 : Nat := 62
abbrev i_f61 : Nat := 63
abbrev i_f62 : Nat := 64
abbrev i_f63 : Nat := 65
abbrev i_f64 : Nat := 66
abbrev i_f65 : Nat := 67
abbrev i_f66 : Nat := 68
abbrev i_f67 : Nat := 69
abbrev i_f69 : Nat := 71
abbrev i_f70 : Nat := 72
abbrev i_f71 : Nat := 73
abbrev i_f72 : Nat := 74
abbrev i_f73 : Nat := 75
abbrev i_f74 : Nat := 76
abbrev i_f75 : Nat := 77
abbrev i_f76 : Nat := 78
abbrev i_f77 : Nat := 79
abbrev i_f78 : Nat := 80
abbrev i_f79 : Nat := 81
abbrev i_f80 : Nat := 82
abbrev i_f81 : Nat := 83
abbrev i_f82 : Nat := 84
abbrev i_f83 : Nat := 85
abbrev i_f84 : Nat := 86
abbrev i_f85 : Nat := 87
abbrev i_f86 : Nat := 88
abbrev i_f87 : Nat := 89
abbrev i_f88 : Nat := 90
abbrev i_f89 : Nat := 91
abbrev i_f90 : Nat := 92
abbrev i_f91 : Nat := 93
abbrev i_f92 : Nat := 94
abbrev i_f93 : Nat := 95
abbrev i_f94 : Nat := 96
abbrev i_f95 : Nat := 97
abbrev i_f96 : Nat := 98
abbrev i_f97 : Nat := 99
abbrev i_f98 : Nat := 100
abbrev i_f99 : Nat := 101
abbrev i_f100 : Nat := 102
abbrev i_f101 : Nat := 103
abbrev i_f103 : Nat := 105
abbrev i_f104 : Nat := 106
abbrev i_f105 : Nat := 107
abbrev i_f106 : Nat := 108
abbrev i_f107 : Nat := 109
abbrev i_f108 : Nat := 110
abbrev i_f109 : Nat := 111
abbrev i_f110 : Nat := 112
abbrev i_f111 : Nat := 113
abbrev i_f112 : Nat := 114
theorem tok : TOK Try.prog tab := ⟨152, by kernel_rfl⟩
theorem mixed : Try.prog.follows .mixedOrders = true := by kernel_rfl
end Go.Proofs.Ytcoampecbpiecaa.Cl
