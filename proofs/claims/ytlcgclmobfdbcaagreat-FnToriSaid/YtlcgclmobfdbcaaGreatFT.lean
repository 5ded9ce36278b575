/- The table of types. No claim is stated here. -/
import Derived.Test.YtlcgclmobfdbcaaGreatProg
import Derived.Test.YtlcgclmobfdbcaaGreatFa2
import Derived.KernelRfl
set_option linter.unusedVariables false
namespace Go.Proofs.YtlcgclmobfdbcaaGreat.Cl
open Go
abbrev KT := AVal → H → Prop
abbrev XT := Frame → H → Prop
abbrev U : AVal := .undef
def uu (n : Nat) (l : Frame) : Frame := List.replicate n AVal.undef ++ l
def bt : Nat → Nat → List Nat
 | 0, _ => []
 | k + 1, n => n / 2 ^ k % 2 :: bt k n
def sq (f : Func) (k n : Nat) : Code := sub (bt k n) (za f)
def tab : Tab := [
 .none,
 ⟨.func, 1, 8, [.nilFunc]⟩,
 ⟨.int .i64, 1, 8, [.int .i64 (0)]⟩,
 ⟨.int .i64, 1, 8, [.int .i64 (0)]⟩,
 ⟨.bool, 1, 1, [.bool false]⟩,
 ⟨.int .u8, 1, 1, [.int .u8 (0)]⟩,
 ⟨.int .u8, 1, 1, [.int .u8 (0)]⟩,
 ⟨.struct [(0, 2), (1, 3), (2, 4), (3, 6)], 4, 24, [.int .i64 (0), .int .i64 (0), .bool false, .int .u8 (0)]⟩,
 ⟨.struct [(0, 2), (1, 3), (2, 4), (3, 6)], 4, 24, [.int .i64 (0), .int .i64 (0), .bool false, .int .u8 (0)]⟩,
 ⟨.str, 1, 16, [.str ByteArray.empty]⟩,
 ⟨.str, 1, 16, [.str ByteArray.empty]⟩,
 ⟨.str, 1, 16, [.str ByteArray.empty]⟩,
 ⟨.int .u64, 1, 8, [.int .u64 (0)]⟩,
 ⟨.struct [(0, 9), (1, 12)], 2, 24, [.str ByteArray.empty, .int .u64 (0)]⟩,
 ⟨.struct [(0, 9), (1, 12)], 2, 24, [.str ByteArray.empty, .int .u64 (0)]⟩,
 ⟨.ptr, 1, 8, [.ptr Pt.nil]⟩,
 ⟨.ptr, 1, 8, [.ptr Pt.nil]⟩,
 ⟨.ptr, 1, 8, [.ptr Pt.nil]⟩,
 ⟨.struct [(0, 17)], 1, 8, [.ptr Pt.nil]⟩,
 ⟨.struct [(0, 17)], 1, 8, [.ptr Pt.nil]⟩,
 .none,
 ⟨.int .i32, 1, 4, [.int .i32 (0)]⟩,
 ⟨.sl 5, 1, 24, [.sl Sl.nil]⟩,
 ⟨.func, 1, 8, [.nilFunc]⟩,
 ⟨.sl 74, 1, 24, [.sl Sl.nil]⟩,
 ⟨.struct [(0, 2), (1, 24)], 2, 32, [.int .i64 (0), .sl Sl.nil]⟩,
 ⟨.struct [(0, 2), (1, 24)], 2, 32, [.int .i64 (0), .sl Sl.nil]⟩,
 .none,
 ⟨.func, 1, 8, [.nilFunc]⟩,
 ⟨.sl 41, 1, 24, [.sl Sl.nil]⟩,
 .none,
 ⟨.func, 1, 8, [.nilFunc]⟩,
 .none,
 ⟨.func, 1, 8, [.nilFunc]⟩,
 ⟨.func, 1, 8, [.nilFunc]⟩,
 .none,
 ⟨.func, 1, 8, [.nilFunc]⟩,
 .none,
 ⟨.func, 1, 8, [.nilFunc]⟩,
 ⟨.func, 1, 8, [.nilFunc]⟩,
 ⟨.func, 1, 8, [.nilFunc]⟩,
 ⟨.sl 2, 1, 24, [.sl Sl.nil]⟩,
 .none,
 ⟨.func, 1, 8, [.nilFunc]⟩,
 .none,
 ⟨.func, 1, 8, [.nilFunc]⟩,
 ⟨.func, 1, 8, [.nilFunc]⟩,
 .none,
 ⟨.func, 1, 8, [.nilFunc]⟩,
 ⟨.func, 1, 8, [.nilFunc]⟩,
 .none,
 ⟨.func, 1, 8, [.nilFunc]⟩,
 ⟨.func, 1, 8, [.nilFunc]⟩,
 ⟨.func, 1, 8, [.nilFunc]⟩,
 ⟨.func, 1, 8, [.nilFunc]⟩,
 ⟨.func, 1, 8, [.nilFunc]⟩,
 ⟨.func, 1, 8, [.nilFunc]⟩,
 ⟨.func, 1, 8, [.nilFunc]⟩,
 ⟨.func, 1, 8, [.nilFunc]⟩,
 ⟨.func, 1, 8, [.nilFunc]⟩,
 ⟨.func, 1, 8, [.nilFunc]⟩,
 .none,
 ⟨.func, 1, 8, [.nilFunc]⟩,
 ⟨.func, 1, 8, [.nilFunc]⟩,
 ⟨.func, 1, 8, [.nilFunc]⟩,
 ⟨.func, 1, 8, [.nilFunc]⟩,
 ⟨.func, 1, 8, [.nilFunc]⟩,
 ⟨.sl 70, 1, 24, [.sl Sl.nil]⟩,
 ⟨.func, 1, 8, [.nilFunc]⟩,
 ⟨.map 2 2, 1, 8, [.map none]⟩,
 ⟨.arr 2 2, 2, 16, [.int .i64 (0), .int .i64 (0)]⟩,
 ⟨.func, 1, 8, [.nilFunc]⟩,
 ⟨.func, 1, 8, [.nilFunc]⟩,
 ⟨.arr 4 2, 4, 32, [.int .i64 (0), .int .i64 (0), .int .i64 (0), .int .i64 (0)]⟩,
 ⟨.arr 4 2, 4, 32, [.int .i64 (0), .int .i64 (0), .int .i64 (0), .int .i64 (0)]⟩,
 ⟨.func, 1, 8, [.nilFunc]⟩,
 ⟨.func, 1, 8, [.nilFunc]⟩,
 ⟨.ptr, 1, 8, [.ptr Pt.nil]⟩,
 ⟨.func, 1, 8, [.nilFunc]⟩,
 ⟨.func, 1, 8, [.nilFunc]⟩,
 ⟨.func, 1, 8, [.nilFunc]⟩,
 ⟨.func, 1, 8, [.nilFunc]⟩,
 ⟨.func, 1, 8, [.nilFunc]⟩,
 ⟨.func, 1, 8, [.nilFunc]⟩,
 .none,
 ⟨.func, 1, 8, [.nilFunc]⟩,
 ⟨.func, 1, 8, [.nilFunc]⟩,
 ⟨.func, 1, 8, [.nilFunc]⟩,
 ⟨.func, 1, 8, [.nilFunc]⟩,
 ⟨.func, 1, 8, [.nilFunc]⟩,
 ⟨.func, 1, 8, [.nilFunc]⟩,
 ⟨.func, 1, 8, [.nilFunc]⟩,
 ⟨.func, 1, 8, [.nilFunc]⟩,
 ⟨.ptr, 1, 8, [.ptr Pt.nil]⟩,
 ⟨.func, 1, 8, [.nilFunc]⟩,
 ⟨.sl 4, 1, 24, [.sl Sl.nil]⟩,
 ⟨.sl 95, 1, 24, [.sl Sl.nil]⟩,
 ⟨.struct [(0, 26), (2, 29), (3, 29), (4, 41), (5, 29), (6, 96)], 7, 152, [.int .i64 (0), .sl Sl.nil, .sl Sl.nil, .sl Sl.nil, .sl Sl.nil, .sl Sl.nil, .sl Sl.nil]⟩,
 ⟨.struct [(0, 26), (2, 29), (3, 29), (4, 41), (5, 29), (6, 96)], 7, 152, [.int .i64 (0), .sl Sl.nil, .sl Sl.nil, .sl Sl.nil, .sl Sl.nil, .sl Sl.nil, .sl Sl.nil]⟩,
 ⟨.func, 1, 8, [.nilFunc]⟩,
 ⟨.func, 1, 8, [.nilFunc]⟩,
 ⟨.int .u64, 1, 8, [.int .u64 (0)]⟩,
 ⟨.func, 1, 8, [.nilFunc]⟩,
 ⟨.func, 1, 8, [.nilFunc]⟩,
 ⟨.func, 1, 8, [.nilFunc]⟩,
 ⟨.func, 1, 8, [.nilFunc]⟩,
 ⟨.func, 1, 8, [.nilFunc]⟩,
 ⟨.func, 1, 8, [.nilFunc]⟩,
 ⟨.func, 1, 8, [.nilFunc]⟩,
 ⟨.func, 1, 8, [.nilFunc]⟩,
 ⟨.func, 1, 8, [.nilFunc]⟩,
 ⟨.func, 1, 8, [.nilFunc]⟩,
 ⟨.func, 1, 8, [.nilFunc]⟩,
 ⟨.struct [(0, 22), (1, 3), (2, 101)], 3, 40, [.sl Sl.nil, .int .i64 (0), .int .u64 (0)]⟩,
 ⟨.struct [(0, 22), (1, 3), (2, 101)], 3, 40, [.sl Sl.nil, .int .i64 (0), .int .u64 (0)]⟩,
 ⟨.func, 1, 8, [.nilFunc]⟩,
 ⟨.func, 1, 8, [.nilFunc]⟩,
 ⟨.func, 1, 8, [.nilFunc]⟩,
 ⟨.func, 1, 8, [.nilFunc]⟩,
 ⟨.func, 1, 8, [.nilFunc]⟩,
 ⟨.int .u64, 1, 8, [.int .u64 (0)]⟩,
 ⟨.func, 1, 8, [.nilFunc]⟩,
 ⟨.func, 1, 8, [.nilFunc]⟩,
 ⟨.func, 1, 8, [.nilFunc]⟩,
 ⟨.func, 1, 8, [.nilFunc]⟩,
 .none,
 ⟨.func, 1, 8, [.nilFunc]⟩,
 ⟨.func, 1, 8, [.nilFunc]⟩,
 .none,
 ⟨.func, 1, 8, [.nilFunc]⟩,
 ⟨.func, 1, 8, [.nilFunc]⟩,
 ⟨.func, 1, 8, [.nilFunc]⟩,
 ⟨.func, 1, 8, [.nilFunc]⟩,
 ⟨.func, 1, 8, [.nilFunc]⟩,
 ⟨.func, 1, 8, [.nilFunc]⟩,
 ⟨.func, 1, 8, [.nilFunc]⟩,
 ⟨.func, 1, 8, [.nilFunc]⟩,
 ⟨.func, 1, 8, [.nilFunc]⟩,
 .none,
 ⟨.func, 1, 8, [.nilFunc]⟩,
 ⟨.sl 9, 1, 24, [.sl Sl.nil]⟩,
 ⟨.func, 1, 8, [.nilFunc]⟩,
 ⟨.func, 1, 8, [.nilFunc]⟩,
 ⟨.func, 1, 8, [.nilFunc]⟩,
 ⟨.func, 1, 8, [.nilFunc]⟩,
 ⟨.func, 1, 8, [.nilFunc]⟩,
 ⟨.func, 1, 8, [.nilFunc]⟩,
 ⟨.func, 1, 8, [.nilFunc]⟩,
 ⟨.func, 1, 8, [.nilFunc]⟩,
 ⟨.func, 1, 8, [.nilFunc]⟩,
 ⟨.func, 1, 8, [.nilFunc]⟩,
 ⟨.func, 1, 8, [.nilFunc]⟩,
 ⟨.func, 1, 8, [.nilFunc]⟩,
 ⟨.func, 1, 8, [.nilFunc]⟩,
 ⟨.func, 1, 8, [.nilFunc]⟩,
 ⟨.func, 1, 8, [.nilFunc]⟩,
 ⟨.func, 1, 8, [.nilFunc]⟩,
 ⟨.func, 1, 8, [.nilFunc]⟩,
 ⟨.func, 1, 8, [.nilFunc]⟩,
 ⟨.func, 1, 8, [.nilFunc]⟩,
 ⟨.func, 1, 8, [.nilFunc]⟩,
 ⟨.func, 1, 8, [.nilFunc]⟩,
 ⟨.func, 1, 8, [.nilFunc]⟩,
 .none,
 ⟨.func, 1, 8, [.nilFunc]⟩,
 ⟨.func, 1, 8, [.nilFunc]⟩,
 ⟨.func, 1, 8, [.nilFunc]⟩,
 ⟨.func, 1, 8, [.nilFunc]⟩,
 ⟨.func, 1, 8, [.nilFunc]⟩,
 ⟨.func, 1, 8, [.nilFunc]⟩,
 ⟨.int .u32, 1, 4, [.int .u32 (0)]⟩,
 .none,
 ⟨.func, 1, 8, [.nilFunc]⟩,
 .none,
 ⟨.func, 1, 8, [.nilFunc]⟩,
 ⟨.func, 1, 8, [.nilFunc]⟩,
 ⟨.func, 1, 8, [.nilFunc]⟩,
 ⟨.func, 1, 8, [.nilFunc]⟩,
 ⟨.func, 1, 8, [.nilFunc]⟩,
 ⟨.int .i64, 1, 8, [.int .i64 (0)]⟩,
 .none,
 ⟨.func, 1, 8, [.nilFunc]⟩,
 ⟨.func, 1, 8, [.nilFunc]⟩,
 ⟨.func, 1, 8, [.nilFunc]⟩,
 .none,
 ⟨.func, 1, 8, [.nilFunc]⟩,
 ⟨.func, 1, 8, [.nilFunc]⟩,
 ⟨.func, 1, 8, [.nilFunc]⟩,
 ⟨.int .u64, 1, 8, [.int .u64 (0)]⟩,
 ⟨.func, 1, 8, [.nilFunc]⟩,
 ⟨.func, 1, 8, [.nilFunc]⟩,
 ⟨.func, 1, 8, [.nilFunc]⟩,
 ⟨.ptr, 1, 8, [.ptr Pt.nil]⟩,
 ⟨.func, 1, 8, [.nilFunc]⟩,
 ⟨.ptr, 1, 8, [.ptr Pt.nil]⟩,
 .none,
 ⟨.func, 1, 8, [.nilFunc]⟩,
 ⟨.func, 1, 8, [.nilFunc]⟩,
 ⟨.struct [(0, 17), (1, 17), (2, 17), (3, 9)], 4, 40, [.ptr Pt.nil, .ptr Pt.nil, .ptr Pt.nil, .str ByteArray.empty]⟩,
 ⟨.struct [(0, 17), (1, 17), (2, 17), (3, 9)], 4, 40, [.ptr Pt.nil, .ptr Pt.nil, .ptr Pt.nil, .str ByteArray.empty]⟩,
 ⟨.arr 0 16, 0, 0, []⟩,
 ⟨.other, 0, 0, []⟩,
 ⟨.other, 0, 0, []⟩,
 ⟨.int .u8, 1, 1, [.int .u8 (0)]⟩,
 ⟨.int .u8, 1, 1, [.int .u8 (0)]⟩,
 ⟨.func, 1, 8, [.nilFunc]⟩,
 ⟨.ptr, 1, 8, [.ptr Pt.nil]⟩,
 ⟨.int .i32, 1, 4, [.int .i32 (0)]⟩,
 ⟨.int .i32, 1, 4, [.int .i32 (0)]⟩,
 ⟨.struct [(0, 12), (1, 12), (2, 170), (3, 203), (4, 5), (5, 5), (6, 204), (7, 205), (8, 206), (9, 207), (10, 208)], 11, 48, [.int .u64 (0), .int .u64 (0), .int .u32 (0), .int .u8 (0), .int .u8 (0), .int .u8 (0), .int .u8 (0), .nilFunc, .ptr Pt.nil, .int .i32 (0), .int .i32 (0)]⟩,
 ⟨.struct [(0, 12), (1, 12), (2, 170), (3, 203), (4, 5), (5, 5), (6, 204), (7, 205), (8, 206), (9, 207), (10, 208)], 11, 48, [.int .u64 (0), .int .u64 (0), .int .u32 (0), .int .u8 (0), .int .u8 (0), .int .u8 (0), .int .u8 (0), .nilFunc, .ptr Pt.nil, .int .i32 (0), .int .i32 (0)]⟩,
 ⟨.other, 1, 8, [.ptr Pt.nil]⟩]
abbrev i_f1 : Nat := 3
abbrev i_f3 : Nat := 5
abbrev i_f4 : Nat := 6
abbrev i_f5 : Nat := 7
abbrev i_f6 : Nat := 8
abbrev i_f7 : Nat := 9
abbrev i_f8 : Nat := 10
abbrev i_f9 : Nat := 11
abbrev zkQ : Nat := 12
abbrev zkP : Nat := 13
abbrev zCY : Nat := 14
abbrev zkO : Nat := 15
abbrev zCX : Nat := 16
abbrev zwo : Nat := 17
abbrev zCW : Nat := 18
abbrev zCV : Nat := 19
abbrev zCU : Nat := 20
abbrev zCT : Nat := 21
abbrev znU : Nat := 22
abbrev znT : Nat := 23
abbrev znS : Nat := 24
abbrev znR : Nat := 25
abbrev znQ : Nat := 26
abbrev znP : Nat := 27
abbrev zCS : Nat := 36
abbrev zwn : Nat := 47
abbrev zeX : Nat := 48
abbrev zHW : Nat := 49
abbrev zwm : Nat := 50
abbrev zwl : Nat := 51
abbrev zkN : Nat := 52
abbrev znO : Nat := 53
abbrev zHV : Nat := 54
abbrev znN : Nat := 55
abbrev zwk : Nat := 56
abbrev zHU : Nat := 57
abbrev zkM : Nat := 58
abbrev zCR : Nat := 59
abbrev zHT : Nat := 60
abbrev zwj : Nat := 61
abbrev zHS : Nat := 62
abbrev zwi : Nat := 63
abbrev zHR : Nat := 64
abbrev WX : Nat := 65
abbrev zCQ : Nat := 66
abbrev zGc : Nat := 67
abbrev zCP : Nat := 68
abbrev zCO : Nat := 69
abbrev zCN : Nat := 70
abbrev zeW : Nat := 71
abbrev Q9 : Nat := 72
abbrev znM : Nat := 73
abbrev zkL : Nat := 74
abbrev zeV : Nat := 75
abbrev ym : Nat := 76
abbrev qv : Nat := 77
abbrev znL : Nat := 78
abbrev zhk : Nat := 79
abbrev znK : Nat := 80
abbrev zwh : Nat := 81
abbrev zwg : Nat := 82
abbrev zCM : Nat := 83
abbrev zwf : Nat := 84
abbrev zwe : Nat := 85
abbrev zwd : Nat := 96
abbrev zeU : Nat := 97
abbrev zjs : Nat := 104
abbrev zGe : Nat := 105
abbrev Zl : Nat := 106
abbrev zGd : Nat := 107
abbrev zow : Nat := 108
abbrev zov : Nat := 109
abbrev zou : Nat := 110
abbrev zot : Nat := 111
abbrev zjr : Nat := 112
abbrev Qe : Nat := 113
abbrev zos : Nat := 114
abbrev zor : Nat := 115
abbrev qB : Nat := 116
abbrev zoq : Nat := 117
abbrev zjq : Nat := 118
abbrev Qd : Nat := 119
abbrev zjp : Nat := 120
abbrev zop : Nat := 121
abbrev zeZ : Nat := 122
abbrev zoo : Nat := 134
abbrev Xv : Nat := 135
abbrev zon : Nat := 139
abbrev zom : Nat := 140
abbrev zjo : Nat := 141
abbrev zol : Nat := 142
abbrev zoj : Nat := 143
abbrev zoi : Nat := 144
abbrev Qc : Nat := 145
abbrev zoh : Nat := 146
abbrev zog : Nat := 147
abbrev zof : Nat := 148
abbrev zoe : Nat := 157
abbrev zod : Nat := 158
abbrev zoc : Nat := 159
abbrev zob : Nat := 160
abbrev zoa : Nat := 161
abbrev znZ : Nat := 162
abbrev znY : Nat := 163
abbrev znX : Nat := 166
abbrev zeY : Nat := 167
abbrev Qb : Nat := 168
abbrev zjn : Nat := 169
abbrev znW : Nat := 170
abbrev zjm : Nat := 171
abbrev znV : Nat := 174
theorem tok : TOK Tryz.prog tab := ⟨212, by kernel_rfl⟩
theorem mixed : Tryz.prog.follows .mixedOrders = true := by kernel_rfl
end Go.Proofs.YtlcgclmobfdbcaaGreat.Cl
