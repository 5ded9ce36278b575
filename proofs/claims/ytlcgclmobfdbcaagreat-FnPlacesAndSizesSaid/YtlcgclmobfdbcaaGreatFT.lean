/- The table of types. No claim is stated here. -/
import Derived.Test.YtlcgclmobfdbcaaGreatProg
import Derived.Test.YtlcgclmobfdbcaaGreatFa2
import Derived.KernelRfl
set_option linter.unusedVariables false
namespace Go.Proofs.YtlcgclmobfdbcaaGreat.Cl
open Go
abbrev KT:=AVal→H→Prop
abbrev XT:=Frame→H→Prop
abbrev U:AVal:= .undef
def uu (n:Nat) (l:Frame):Frame:=List.replicate n AVal.undef++l
def bt:Nat→Nat→List Nat
 | 0,_=>[]
 | k+1,n=>n/2^k%2::bt k n
def sq (f:Func) (k n:Nat):Code:=sub (bt k n) (za f)
def tab:Tab:=[
 .none,
 ⟨.func,1,8,[.nilFunc]⟩,
 ⟨.int .i64,1,8,[.int .i64 (0)]⟩,
 ⟨.int .i64,1,8,[.int .i64 (0)]⟩,
 ⟨.bool,1,1,[.bool false]⟩,
 ⟨.int .u8,1,1,[.int .u8 (0)]⟩,
 ⟨.int .u8,1,1,[.int .u8 (0)]⟩,
 ⟨.struct [(0,2),(1,3),(2,4),(3,6)],4,24,[.int .i64 (0),.int .i64 (0),.bool false,.int .u8 (0)]⟩,
 ⟨.struct [(0,2),(1,3),(2,4),(3,6)],4,24,[.int .i64 (0),.int .i64 (0),.bool false,.int .u8 (0)]⟩,
 ⟨.str,1,16,[.str ByteArray.empty]⟩,
 ⟨.str,1,16,[.str ByteArray.empty]⟩,
 ⟨.str,1,16,[.str ByteArray.empty]⟩,
 ⟨.int .u64,1,8,[.int .u64 (0)]⟩,
 ⟨.struct [(0,9),(1,12)],2,24,[.str ByteArray.empty,.int .u64 (0)]⟩,
 ⟨.struct [(0,9),(1,12)],2,24,[.str ByteArray.empty,.int .u64 (0)]⟩,
 ⟨.ptr,1,8,[.ptr Pt.nil]⟩,
 ⟨.ptr,1,8,[.ptr Pt.nil]⟩,
 ⟨.ptr,1,8,[.ptr Pt.nil]⟩,
 ⟨.struct [(0,17)],1,8,[.ptr Pt.nil]⟩,
 ⟨.struct [(0,17)],1,8,[.ptr Pt.nil]⟩,
 .none,
 ⟨.int .i32,1,4,[.int .i32 (0)]⟩,
 ⟨.sl 5,1,24,[.sl Sl.nil]⟩,
 ⟨.func,1,8,[.nilFunc]⟩,
 ⟨.sl 74,1,24,[.sl Sl.nil]⟩,
 ⟨.struct [(0,2),(1,24)],2,32,[.int .i64 (0),.sl Sl.nil]⟩,
 ⟨.struct [(0,2),(1,24)],2,32,[.int .i64 (0),.sl Sl.nil]⟩,
 .none,
 ⟨.func,1,8,[.nilFunc]⟩,
 ⟨.sl 41,1,24,[.sl Sl.nil]⟩,
 .none,
 ⟨.func,1,8,[.nilFunc]⟩,
 .none,
 ⟨.func,1,8,[.nilFunc]⟩,
 ⟨.func,1,8,[.nilFunc]⟩,
 .none,
 ⟨.func,1,8,[.nilFunc]⟩,
 .none,
 ⟨.func,1,8,[.nilFunc]⟩,
 ⟨.func,1,8,[.nilFunc]⟩,
 ⟨.func,1,8,[.nilFunc]⟩,
 ⟨.sl 2,1,24,[.sl Sl.nil]⟩,
 .none,
 ⟨.func,1,8,[.nilFunc]⟩,
 .none,
 ⟨.func,1,8,[.nilFunc]⟩,
 ⟨.func,1,8,[.nilFunc]⟩,
 .none,
 ⟨.func,1,8,[.nilFunc]⟩,
 ⟨.func,1,8,[.nilFunc]⟩,
 .none,
 ⟨.func,1,8,[.nilFunc]⟩,
 ⟨.func,1,8,[.nilFunc]⟩,
 ⟨.func,1,8,[.nilFunc]⟩,
 ⟨.func,1,8,[.nilFunc]⟩,
 ⟨.func,1,8,[.nilFunc]⟩,
 ⟨.func,1,8,[.nilFunc]⟩,
 ⟨.func,1,8,[.nilFunc]⟩,
 ⟨.func,1,8,[.nilFunc]⟩,
 ⟨.func,1,8,[.nilFunc]⟩,
 ⟨.func,1,8,[.nilFunc]⟩,
 .none,
 ⟨.func,1,8,[.nilFunc]⟩,
 ⟨.func,1,8,[.nilFunc]⟩,
 ⟨.func,1,8,[.nilFunc]⟩,
 ⟨.func,1,8,[.nilFunc]⟩,
 ⟨.func,1,8,[.nilFunc]⟩,
 ⟨.sl 70,1,24,[.sl Sl.nil]⟩,
 ⟨.func,1,8,[.nilFunc]⟩,
 ⟨.map 2 2,1,8,[.map none]⟩,
 ⟨.arr 2 2,2,16,[.int .i64 (0),.int .i64 (0)]⟩,
 ⟨.func,1,8,[.nilFunc]⟩,
 ⟨.func,1,8,[.nilFunc]⟩,
 ⟨.arr 4 2,4,32,[.int .i64 (0),.int .i64 (0),.int .i64 (0),.int .i64 (0)]⟩,
 ⟨.arr 4 2,4,32,[.int .i64 (0),.int .i64 (0),.int .i64 (0),.int .i64 (0)]⟩,
 ⟨.func,1,8,[.nilFunc]⟩,
 ⟨.func,1,8,[.nilFunc]⟩,
 ⟨.ptr,1,8,[.ptr Pt.nil]⟩,
 ⟨.func,1,8,[.nilFunc]⟩,
 ⟨.func,1,8,[.nilFunc]⟩,
 ⟨.func,1,8,[.nilFunc]⟩,
 ⟨.func,1,8,[.nilFunc]⟩,
 ⟨.func,1,8,[.nilFunc]⟩,
 ⟨.func,1,8,[.nilFunc]⟩,
 .none,
 ⟨.func,1,8,[.nilFunc]⟩,
 ⟨.func,1,8,[.nilFunc]⟩,
 ⟨.func,1,8,[.nilFunc]⟩,
 ⟨.func,1,8,[.nilFunc]⟩,
 ⟨.func,1,8,[.nilFunc]⟩,
 ⟨.func,1,8,[.nilFunc]⟩,
 ⟨.func,1,8,[.nilFunc]⟩,
 ⟨.func,1,8,[.nilFunc]⟩,
 ⟨.ptr,1,8,[.ptr Pt.nil]⟩,
 ⟨.func,1,8,[.nilFunc]⟩,
 ⟨.sl 4,1,24,[.sl Sl.nil]⟩,
 ⟨.sl 95,1,24,[.sl Sl.nil]⟩,
 ⟨.struct [(0,26),(2,29),(3,29),(4,41),(5,29),(6,96)],7,152,[.int .i64 (0),.sl Sl.nil,.sl Sl.nil,.sl Sl.nil,.sl Sl.nil,.sl Sl.nil,.sl Sl.nil]⟩,
 ⟨.struct [(0,26),(2,29),(3,29),(4,41),(5,29),(6,96)],7,152,[.int .i64 (0),.sl Sl.nil,.sl Sl.nil,.sl Sl.nil,.sl Sl.nil,.sl Sl.nil,.sl Sl.nil]⟩,
 ⟨.func,1,8,[.nilFunc]⟩,
 ⟨.func,1,8,[.nilFunc]⟩,
 ⟨.int .u64,1,8,[.int .u64 (0)]⟩,
 ⟨.func,1,8,[.nilFunc]⟩,
 ⟨.func,1,8,[.nilFunc]⟩,
 ⟨.func,1,8,[.nilFunc]⟩,
 ⟨.func,1,8,[.nilFunc]⟩,
 ⟨.func,1,8,[.nilFunc]⟩,
 ⟨.func,1,8,[.nilFunc]⟩,
 ⟨.func,1,8,[.nilFunc]⟩,
 ⟨.func,1,8,[.nilFunc]⟩,
 ⟨.func,1,8,[.nilFunc]⟩,
 ⟨.func,1,8,[.nilFunc]⟩,
 ⟨.func,1,8,[.nilFunc]⟩,
 ⟨.struct [(0,22),(1,3),(2,101)],3,40,[.sl Sl.nil,.int .i64 (0),.int .u64 (0)]⟩,
 ⟨.struct [(0,22),(1,3),(2,101)],3,40,[.sl Sl.nil,.int .i64 (0),.int .u64 (0)]⟩,
 ⟨.func,1,8,[.nilFunc]⟩,
 ⟨.func,1,8,[.nilFunc]⟩,
 ⟨.func,1,8,[.nilFunc]⟩,
 ⟨.func,1,8,[.nilFunc]⟩,
 ⟨.func,1,8,[.nilFunc]⟩,
 ⟨.int .u64,1,8,[.int .u64 (0)]⟩,
 ⟨.func,1,8,[.nilFunc]⟩,
 ⟨.func,1,8,[.nilFunc]⟩,
 ⟨.func,1,8,[.nilFunc]⟩,
 ⟨.func,1,8,[.nilFunc]⟩,
 .none,
 ⟨.func,1,8,[.nilFunc]⟩,
 ⟨.func,1,8,[.nilFunc]⟩,
 .none,
 ⟨.func,1,8,[.nilFunc]⟩,
 ⟨.func,1,8,[.nilFunc]⟩,
 ⟨.func,1,8,[.nilFunc]⟩,
 ⟨.func,1,8,[.nilFunc]⟩,
 ⟨.func,1,8,[.nilFunc]⟩,
 ⟨.func,1,8,[.nilFunc]⟩,
 ⟨.func,1,8,[.nilFunc]⟩,
 ⟨.func,1,8,[.nilFunc]⟩,
 ⟨.func,1,8,[.nilFunc]⟩,
 .none,
 ⟨.func,1,8,[.nilFunc]⟩,
 ⟨.sl 9,1,24,[.sl Sl.nil]⟩,
 ⟨.func,1,8,[.nilFunc]⟩,
 ⟨.func,1,8,[.nilFunc]⟩,
 ⟨.func,1,8,[.nilFunc]⟩,
 ⟨.func,1,8,[.nilFunc]⟩,
 ⟨.func,1,8,[.nilFunc]⟩,
 ⟨.func,1,8,[.nilFunc]⟩,
 ⟨.func,1,8,[.nilFunc]⟩,
 ⟨.func,1,8,[.nilFunc]⟩,
 ⟨.func,1,8,[.nilFunc]⟩,
 ⟨.func,1,8,[.nilFunc]⟩,
 ⟨.func,1,8,[.nilFunc]⟩,
 ⟨.func,1,8,[.nilFunc]⟩,
 ⟨.func,1,8,[.nilFunc]⟩,
 ⟨.func,1,8,[.nilFunc]⟩,
 ⟨.func,1,8,[.nilFunc]⟩,
 ⟨.func,1,8,[.nilFunc]⟩,
 ⟨.func,1,8,[.nilFunc]⟩,
 ⟨.func,1,8,[.nilFunc]⟩,
 ⟨.func,1,8,[.nilFunc]⟩,
 ⟨.func,1,8,[.nilFunc]⟩,
 ⟨.func,1,8,[.nilFunc]⟩,
 ⟨.func,1,8,[.nilFunc]⟩,
 .none,
 ⟨.func,1,8,[.nilFunc]⟩,
 ⟨.func,1,8,[.nilFunc]⟩,
 ⟨.func,1,8,[.nilFunc]⟩,
 ⟨.func,1,8,[.nilFunc]⟩,
 ⟨.func,1,8,[.nilFunc]⟩,
 ⟨.func,1,8,[.nilFunc]⟩,
 ⟨.int .u32,1,4,[.int .u32 (0)]⟩,
 .none,
 ⟨.func,1,8,[.nilFunc]⟩,
 .none,
 ⟨.func,1,8,[.nilFunc]⟩,
 ⟨.func,1,8,[.nilFunc]⟩,
 ⟨.func,1,8,[.nilFunc]⟩,
 ⟨.func,1,8,[.nilFunc]⟩,
 ⟨.func,1,8,[.nilFunc]⟩,
 ⟨.int .i64,1,8,[.int .i64 (0)]⟩,
 .none,
 ⟨.func,1,8,[.nilFunc]⟩,
 ⟨.func,1,8,[.nilFunc]⟩,
 ⟨.func,1,8,[.nilFunc]⟩,
 .none,
 ⟨.func,1,8,[.nilFunc]⟩,
 ⟨.func,1,8,[.nilFunc]⟩,
 ⟨.func,1,8,[.nilFunc]⟩,
 ⟨.int .u64,1,8,[.int .u64 (0)]⟩,
 ⟨.func,1,8,[.nilFunc]⟩,
 ⟨.func,1,8,[.nilFunc]⟩,
 ⟨.func,1,8,[.nilFunc]⟩,
 ⟨.ptr,1,8,[.ptr Pt.nil]⟩,
 ⟨.func,1,8,[.nilFunc]⟩,
 ⟨.ptr,1,8,[.ptr Pt.nil]⟩,
 .none,
 ⟨.func,1,8,[.nilFunc]⟩,
 ⟨.func,1,8,[.nilFunc]⟩,
 ⟨.struct [(0,17),(1,17),(2,17),(3,9)],4,40,[.ptr Pt.nil,.ptr Pt.nil,.ptr Pt.nil,.str ByteArray.empty]⟩,
 ⟨.struct [(0,17),(1,17),(2,17),(3,9)],4,40,[.ptr Pt.nil,.ptr Pt.nil,.ptr Pt.nil,.str ByteArray.empty]⟩,
 ⟨.arr 0 16,0,0,[]⟩,
 ⟨.other,0,0,[]⟩,
 ⟨.other,0,0,[]⟩,
 ⟨.int .u8,1,1,[.int .u8 (0)]⟩,
 ⟨.int .u8,1,1,[.int .u8 (0)]⟩,
 ⟨.func,1,8,[.nilFunc]⟩,
 ⟨.ptr,1,8,[.ptr Pt.nil]⟩,
 ⟨.int .i32,1,4,[.int .i32 (0)]⟩,
 ⟨.int .i32,1,4,[.int .i32 (0)]⟩,
 ⟨.struct [(0,12),(1,12),(2,170),(3,203),(4,5),(5,5),(6,204),(7,205),(8,206),(9,207),(10,208)],11,48,[.int .u64 (0),.int .u64 (0),.int .u32 (0),.int .u8 (0),.int .u8 (0),.int .u8 (0),.int .u8 (0),.nilFunc,.ptr Pt.nil,.int .i32 (0),.int .i32 (0)]⟩,
 ⟨.struct [(0,12),(1,12),(2,170),(3,203),(4,5),(5,5),(6,204),(7,205),(8,206),(9,207),(10,208)],11,48,[.int .u64 (0),.int .u64 (0),.int .u32 (0),.int .u8 (0),.int .u8 (0),.int .u8 (0),.int .u8 (0),.nilFunc,.ptr Pt.nil,.int .i32 (0),.int .i32 (0)]⟩,
 ⟨.other,1,8,[.ptr Pt.nil]⟩]
abbrev i_f2:Nat:=4
abbrev i_f3:Nat:=5
abbrev i_f9:Nat:=11
abbrev zIX:Nat:=28
abbrev zIW:Nat:=29
abbrev zIV:Nat:=30
abbrev zBZ:Nat:=31
abbrev zIU:Nat:=32
abbrev zBY:Nat:=33
abbrev zBX:Nat:=34
abbrev zIT:Nat:=35
abbrev zBW:Nat:=36
abbrev zIS:Nat:=37
abbrev zrs:Nat:=38
abbrev zIR:Nat:=39
abbrev zIQ:Nat:=40
abbrev zIP:Nat:=41
abbrev zBV:Nat:=42
abbrev zIO:Nat:=43
abbrev zIN:Nat:=44
abbrev zIM:Nat:=45
abbrev zIL:Nat:=46
abbrev zBU:Nat:=48
abbrev Wf:Nat:=65
abbrev zBT:Nat:=67
abbrev zBS:Nat:=68
abbrev zBR:Nat:=70
abbrev zjn:Nat:=71
abbrev zBQ:Nat:=72
abbrev zns:Nat:=74
abbrev zcy:Nat:=75
abbrev zZ:Nat:=76
abbrev Zi:Nat:=77
abbrev zcx:Nat:=80
abbrev zIK:Nat:=82
abbrev zIJ:Nat:=84
abbrev zBP:Nat:=86
abbrev znr:Nat:=87
abbrev zhh:Nat:=88
abbrev zBO:Nat:=89
abbrev zBN:Nat:=90
abbrev zjm:Nat:=91
abbrev zII:Nat:=92
abbrev zIH:Nat:=93
abbrev zIG:Nat:=94
abbrev zBM:Nat:=95
abbrev zBL:Nat:=96
abbrev We:Nat:=97
abbrev zBK:Nat:=98
abbrev zIF:Nat:=99
abbrev zrr:Nat:=100
abbrev zrq:Nat:=101
abbrev zsb:Nat:=102
abbrev zsa:Nat:=103
abbrev zhl:Nat:=106
abbrev zrZ:Nat:=108
abbrev zrY:Nat:=109
abbrev zrX:Nat:=111
abbrev zlV:Nat:=112
abbrev Wh:Nat:=113
abbrev zlU:Nat:=114
abbrev zrW:Nat:=115
abbrev qV:Nat:=116
abbrev zrV:Nat:=117
abbrev zlT:Nat:=118
abbrev zrU:Nat:=122
abbrev zrT:Nat:=123
abbrev zLZ:Nat:=124
abbrev zrS:Nat:=125
abbrev zrR:Nat:=126
abbrev qU:Nat:=127
abbrev Wg:Nat:=128
abbrev ZL:Nat:=129
abbrev zlS:Nat:=130
abbrev zrQ:Nat:=131
abbrev zrP:Nat:=132
abbrev zrO:Nat:=133
abbrev zrN:Nat:=134
abbrev YX:Nat:=135
abbrev zrM:Nat:=136
abbrev zhk:Nat:=137
abbrev zhj:Nat:=138
abbrev zLY:Nat:=139
abbrev zrL:Nat:=140
abbrev zlR:Nat:=141
abbrev zrK:Nat:=142
abbrev zrJ:Nat:=143
abbrev zrI:Nat:=144
abbrev zbu:Nat:=145
abbrev zlQ:Nat:=146
abbrev zrH:Nat:=147
abbrev zrG:Nat:=148
abbrev zrF:Nat:=149
abbrev zrE:Nat:=150
abbrev zbt:Nat:=151
abbrev qT:Nat:=152
abbrev wJ:Nat:=153
abbrev zlP:Nat:=154
abbrev zbs:Nat:=155
abbrev zrD:Nat:=156
abbrev zrC:Nat:=157
abbrev zrB:Nat:=158
abbrev zrA:Nat:=159
abbrev zrz:Nat:=160
abbrev zry:Nat:=161
abbrev zrx:Nat:=162
abbrev zrw:Nat:=163
abbrev zER:Nat:=164
abbrev zlO:Nat:=165
abbrev zrv:Nat:=166
abbrev zhi:Nat:=167
abbrev zbr:Nat:=168
abbrev zlN:Nat:=169
abbrev zru:Nat:=170
abbrev zlM:Nat:=171
abbrev zlL:Nat:=173
abbrev zrt:Nat:=174
theorem tok:TOK Tryz.prog tab:=⟨212,by kernel_rfl⟩
theorem mixed:Tryz.prog.follows .mixedOrders=true:=by kernel_rfl
end Go.Proofs.YtlcgclmobfdbcaaGreat.Cl
