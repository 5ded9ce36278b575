/- Contracts of functions, joined. No claim is stated here. -/
import Derived.Test.YtlcgclmobfdbcaaGreatFT
import Derived.Test.YtlcgclmobfdbcaaGreatFa2
import Derived.Test.YtlcgclmobfdbcaaGreatFG0
import Derived.Test.YtlcgclmobfdbcaaGreatFG1
set_option linter.unusedVariables false
namespace Go.Proofs.YtlcgclmobfdbcaaGreat.Cl
open Go
def f2_M:Nat→List Nat:=fun i=>bif i==1045 then [2] else bif i==0 then [42,46,50] else bif i==1040 then [42,46,50] else bif i==1039 then [42,46,306] else bif i==1038 then [2] else bif i==1037 then [42,43,46,304] else bif i==1036 then [42,43,44,45,46,47,48,49] else bif i==1035 then [41,42,43,44,45,46,47] else bif i==1034 then [41,42,43,44,45] else bif i==1033 then [41,42,43] else bif i==1032 then [41] else bif i==1031 then [2] else bif i==1030 then [0,263] else bif i==1029 then [0,29,34,36,37,38,39,40] else bif i==1028 then [0,28,29,34,35,36,37,38] else bif i==1027 then [0,28,29,33,34,35,36] else bif i==1026 then [0,27,28,29,33,34] else bif i==1025 then [0,27,28,29,217] else bif i==1024 then [2] else bif i==1023 then [0,27,28,29,30,215] else bif i==1022 then [0,27,28,29,30,31,32] else bif i==1021 then [0,27,28,29,30] else bif i==1020 then [0,27,28] else bif i==1019 then [2] else bif i==1018 then [0,190] else bif i==1017 then [0,23,24,25,26] else bif i==1016 then [0,18,19,20,21,22,23,24] else bif i==1015 then [0,18,19,20,21,22] else bif i==1014 then [2] else bif i==1013 then [0,155] else bif i==2013 then [0,1,3,7,15,31,63,127,255,511,1023,2047,4095,8191,16383,4095,36863,102399,233471,495615,1048575,2097151,4194303,8388607,16777215,33554431,8388607,75497471,209715199,478150655,1015021567,2088763391,4294967295,8589934591,17179869183,34359738367,34359738367,137438953471,274877906943,549755813887,1099511627775,1099511627775,4398046511103,8796093022207] else bif i==1012 then [0,6,10,11,12,13,14,15,16,17] else bif i==1011 then [0,3,4,5,6,10,11,12,13,14,15] else bif i==1010 then [0,3,4,5,6,10,11,12,13] else bif i==1009 then [0,3,4,5,6,10,11] else bif i==1008 then [0,3,4,5,6,83] else bif i==1007 then [2] else bif i==1006 then [0,3,4,5,6,7,81] else bif i==1005 then [0,3,4,5,6,7,8,9] else bif i==1004 then [0,3,4,5,6,7] else bif i==1003 then [0,3,4,5] else bif i==1002 then [2] else bif i==1001 then [0,52] else bif i==1000 then [0] else []
theorem zMS:(za Tryz.f4) = .seq (sq Tryz.f4 1 0) (sq Tryz.f4 1 1):=by kernel_rfl
def zGU (S:SatT) (K:KT):Kont:=kSeq (cwp S tab f2_M [] (sq Tryz.f4 1 1) (kFun tab (Tryz.f4).results.toList K)) (kFun tab (Tryz.f4).results.toList K)
def zKX (s0_:Sl):Frame:=(.sl s0_::uu 324 [])
def zjJ (S:SatT) (k:Kont) (x0:Sl) (h:H):Prop:=
 k .normal (zKX x0) h
theorem zib (S:SatT) (k:Kont) (m:List Nat) (x0:Sl) (h:H):cwp S tab f2_M m (sq Tryz.f4 1 0) k (fr0 Tryz.f4 [.sl x0]) h=zjJ S k x0 h:=by kernel_rfl
theorem zMR:(sq Tryz.f4 1 1) = .seq (sq Tryz.f4 2 2) (sq Tryz.f4 2 3):=by kernel_rfl
theorem zMQ:(sq Tryz.f4 2 2) = .seq (sq Tryz.f4 3 4) (sq Tryz.f4 3 5):=by kernel_rfl
def zmf (S:SatT) (K:KT):Kont:=kSeq (cwp S tab f2_M [] (sq Tryz.f4 2 3) (kFun tab (Tryz.f4).results.toList K)) (kFun tab (Tryz.f4).results.toList K)
def zGT (S:SatT) (K:KT):Kont:=kSeq (cwp S tab f2_M [] (sq Tryz.f4 3 5) (zmf S K)) (zmf S K)
def zDj (s0_:Sl) (b52_:Bool):Frame:=(.sl s0_::uu 51 (.bool b52_::uu 272 []))
def zjI (S:SatT) (k:Kont) (s0_:Sl) (h:H):Prop:=
 callB S i_f3 [.sl s0_] h fun b1 h0=>
 k .normal (zDj s0_ b1) h0
theorem zia (S:SatT) (k:Kont) (m:List Nat) (s0_:Sl) (h:H):cwp S tab f2_M m (sq Tryz.f4 3 4) k (zKX s0_) h=zjI S k s0_ h:=by kernel_rfl
theorem zMP:(sq Tryz.f4 3 5) = .cond (.tmp 52) (sq Tryz.f4 4 10) (sq Tryz.f4 4 11):=by kernel_rfl
theorem zMO:(sq Tryz.f4 4 10) = .seq (sq Tryz.f4 5 20) (sq Tryz.f4 5 21):=by kernel_rfl
def zGS (S:SatT) (K:KT):Kont:=kSeq (cwp S tab f2_M [] (sq Tryz.f4 5 21) (zmf S K)) (zmf S K)
def zMY (b2_:Bool):Frame:=(U::U :: .bool b2_::uu 322 [])
def zjH (S:SatT) (k:Kont) (s0_:Sl) (b52_:Bool) (h:H):Prop:=
 k .normal (zMY true) h
theorem zhZ (S:SatT) (k:Kont) (m:List Nat) (s0_:Sl) (b52_:Bool) (h:H):cwp S tab f2_M m (sq Tryz.f4 5 20) k (zDj s0_ b52_) h=zjH S k s0_ b52_ h:=by kernel_rfl
theorem zMN:(sq Tryz.f4 5 21) = .ret:=by kernel_rfl
def zMT (S:SatT) (K:KT) (b2_:Bool) (h:H):Prop:=
 K (.bool b2_) h
theorem zLe (S:SatT) (K:KT) (b2_:Bool) (h:H):(zGS S K) .normal (zMY b2_) h=zMT S K b2_ h:=by
 unfold zMT
 refine (zm _ _ _ _).trans ?_
 refine (yu zMN).trans ?_
 refine (Wa _ _ _ _).trans ?_
 kernel_rfl
theorem zMM:(sq Tryz.f4 4 11) = .skip:=by kernel_rfl
theorem zML:(sq Tryz.f4 2 3) = .seq (sq Tryz.f4 3 6) (sq Tryz.f4 3 7):=by kernel_rfl
def zGR (S:SatT) (K:KT):Kont:=kSeq (cwp S tab f2_M [] (sq Tryz.f4 3 7) (kFun tab (Tryz.f4).results.toList K)) (kFun tab (Tryz.f4).results.toList K)
def zKW (s0_:Sl) (p3_:Pt) (s4_ s5_:Sl):Frame:=(.sl s0_::U::U :: .ptr p3_ :: .sl s4_ :: .sl s5_::uu 319 [])
def zjG (S:SatT) (k:Kont) (s0_:Sl) (b52_:Bool) (h:H):Prop:=
 callV S zIX [.sl s0_] h fun v1 h0=>
 viaT v1 fun vs2=>
 exA vs2 0 fun cs3=>
 viaT v1 fun vs4=>
 exS vs4 1 fun s5=>
 viaT v1 fun vs6=>
 exS vs6 2 fun s7=>
 newO [.int .i64 (0),.sl Sl.nil] h0 fun p8 h9=>
 stN p8 2 cs3 h9 fun h10=>
 k .normal (zKW s0_ p8 s5 s7) h10
theorem zhY (S:SatT) (k:Kont) (m:List Nat) (s0_:Sl) (b52_:Bool) (h:H):cwp S tab f2_M m (sq Tryz.f4 3 6) k (zDj s0_ b52_) h=zjG S k s0_ b52_ h:=by kernel_rfl
theorem zMK:(sq Tryz.f4 3 7) = .seq (sq Tryz.f4 4 14) (sq Tryz.f4 4 15):=by kernel_rfl
def zGQ (S:SatT) (K:KT):Kont:=kSeq (cwp S tab f2_M [] (sq Tryz.f4 4 15) (kFun tab (Tryz.f4).results.toList K)) (kFun tab (Tryz.f4).results.toList K)
def zKV (s0_:Sl) (p3_:Pt) (s4_ s5_ s6_:Sl) (i7_:Int):Frame:=(.sl s0_::U::U :: .ptr p3_ :: .sl s4_ :: .sl s5_ :: .sl s6_ :: .int .i64 i7_::uu 317 [])
def zjF (S:SatT) (k:Kont) (s0_:Sl) (p3_:Pt) (s4_ s5_:Sl) (h:H):Prop:=
 ldA p3_ 2 h fun cs0=>
 callV S zIW [.agg cs0,.sl s4_,.sl s5_] h fun v2 h1=>
 viaT v2 fun vs3=>
 exS vs3 0 fun s4=>
 viaT v2 fun vs5=>
 exI .i64 vs5 1 fun n6=>
 k .normal (zKV s0_ p3_ s4_ s5_ s4 n6) h1
theorem zhX (S:SatT) (k:Kont) (m:List Nat) (s0_:Sl) (p3_:Pt) (s4_ s5_:Sl) (h:H):cwp S tab f2_M m (sq Tryz.f4 4 14) k (zKW s0_ p3_ s4_ s5_) h=zjF S k s0_ p3_ s4_ s5_ h:=by kernel_rfl
theorem zMJ:(sq Tryz.f4 4 15) = .seq (sq Tryz.f4 5 30) (sq Tryz.f4 5 31):=by kernel_rfl
def zGP (S:SatT) (K:KT):Kont:=kSeq (cwp S tab f2_M [] (sq Tryz.f4 5 31) (kFun tab (Tryz.f4).results.toList K)) (kFun tab (Tryz.f4).results.toList K)
def zKU (s0_:Sl) (p3_:Pt) (s4_ s5_ s6_:Sl) (i7_:Int) (s8_:Sl) (i9_:Int):Frame:=(.sl s0_::U::U :: .ptr p3_ :: .sl s4_ :: .sl s5_ :: .sl s6_ :: .int .i64 i7_ :: .sl s8_ :: .int .i64 i9_::uu 315 [])
def zjE (S:SatT) (k:Kont) (s0_:Sl) (p3_:Pt) (s4_ s5_ s6_:Sl) (i7_:Int) (h:H):Prop:=
 ldA p3_ 2 h fun cs0=>
 callV S zIV [.agg cs0,.sl s4_,.sl s5_] h fun v2 h1=>
 viaT v2 fun vs3=>
 exS vs3 0 fun s4=>
 viaT v2 fun vs5=>
 exI .i64 vs5 1 fun n6=>
 k .normal (zKU s0_ p3_ s4_ s5_ s6_ i7_ s4 n6) h1
theorem zhW (S:SatT) (k:Kont) (m:List Nat) (s0_:Sl) (p3_:Pt) (s4_ s5_ s6_:Sl) (i7_:Int) (h:H):cwp S tab f2_M m (sq Tryz.f4 5 30) k (zKV s0_ p3_ s4_ s5_ s6_ i7_) h=zjE S k s0_ p3_ s4_ s5_ s6_ i7_ h:=by kernel_rfl
theorem zKE:(sq Tryz.f4 5 31) = .seq (sq Tryz.f4 6 62) (sq Tryz.f4 6 63):=by kernel_rfl
theorem zKD:(sq Tryz.f4 6 62) = .seq (sq Tryz.f4 7 124) (sq Tryz.f4 7 125):=by kernel_rfl
def zme (S:SatT) (K:KT):Kont:=kSeq (cwp S tab f2_M [] (sq Tryz.f4 6 63) (kFun tab (Tryz.f4).results.toList K)) (kFun tab (Tryz.f4).results.toList K)
def zGO (S:SatT) (K:KT):Kont:=kSeq (cwp S tab f2_M [] (sq Tryz.f4 7 125) (zme S K)) (zme S K)
def zvu (s0_:Sl) (p3_:Pt) (s4_ s5_ s6_:Sl) (i7_:Int) (b81_:Bool):Frame:=(.sl s0_::U::U :: .ptr p3_ :: .sl s4_ :: .sl s5_ :: .sl s6_ :: .int .i64 i7_::uu 73 (.bool b81_::uu 243 []))
def zjD (S:SatT) (k:Kont) (s0_:Sl) (p3_:Pt) (s4_ s5_ s6_:Sl) (i7_:Int) (s8_:Sl) (i9_:Int) (h:H):Prop:=
 bif (i7_ != i9_) then
 k .normal (zvu s0_ p3_ s4_ s5_ s6_ i7_ true) h
 else
 callB S i_f9 [.sl s6_,.sl s8_] h fun b1 h0=>
 k .normal (zvu s0_ p3_ s4_ s5_ s6_ i7_ (!b1)) h0
theorem zhV (S:SatT) (k:Kont) (m:List Nat) (s0_:Sl) (p3_:Pt) (s4_ s5_ s6_:Sl) (i7_:Int) (s8_:Sl) (i9_:Int) (h:H):cwp S tab f2_M m (sq Tryz.f4 7 124) k (zKU s0_ p3_ s4_ s5_ s6_ i7_ s8_ i9_) h=zjD S k s0_ p3_ s4_ s5_ s6_ i7_ s8_ i9_ h:=by kernel_rfl
theorem zKC:(sq Tryz.f4 7 125) = .cond (.tmp 81) (sq Tryz.f4 8 250) (sq Tryz.f4 8 251):=by kernel_rfl
theorem zKB:(sq Tryz.f4 8 250) = .seq (sq Tryz.f4 9 500) (sq Tryz.f4 9 501):=by kernel_rfl
def zMU (S:SatT) (K:KT):Kont:=kSeq (cwp S tab f2_M [] (sq Tryz.f4 9 501) (zme S K)) (zme S K)
def zNB (b2_:Bool):Frame:=(U::U :: .bool b2_::uu 322 [])
def zvt (S:SatT) (k:Kont) (s0_:Sl) (p3_:Pt) (s4_ s5_ s6_:Sl) (i7_:Int) (b81_:Bool) (h:H):Prop:=
 k .normal (zNB false) h
theorem zhU (S:SatT) (k:Kont) (m:List Nat) (s0_:Sl) (p3_:Pt) (s4_ s5_ s6_:Sl) (i7_:Int) (b81_:Bool) (h:H):cwp S tab f2_M m (sq Tryz.f4 9 500) k (zvu s0_ p3_ s4_ s5_ s6_ i7_ b81_) h=zvt S k s0_ p3_ s4_ s5_ s6_ i7_ b81_ h:=by kernel_rfl
theorem zKA:(sq Tryz.f4 8 251) = .skip:=by kernel_rfl
theorem zKz:(sq Tryz.f4 6 63) = .seq (sq Tryz.f4 7 126) (sq Tryz.f4 7 127):=by kernel_rfl
theorem zKy:(sq Tryz.f4 7 126) = .seq (sq Tryz.f4 8 252) (sq Tryz.f4 8 253):=by kernel_rfl
def xd (S:SatT) (K:KT):Kont:=kSeq (cwp S tab f2_M [] (sq Tryz.f4 7 127) (kFun tab (Tryz.f4).results.toList K)) (kFun tab (Tryz.f4).results.toList K)
def zvs (S:SatT) (K:KT):Kont:=kSeq (cwp S tab f2_M [] (sq Tryz.f4 8 253) (xd S K)) (xd S K)
def zDi (s0_:Sl) (p3_:Pt) (s4_ s5_ s6_:Sl) (b83_:Bool):Frame:=(.sl s0_::U::U :: .ptr p3_ :: .sl s4_ :: .sl s5_ :: .sl s6_::uu 76 (.bool b83_::uu 241 []))
def zjC (S:SatT) (k:Kont) (s0_:Sl) (p3_:Pt) (s4_ s5_ s6_:Sl) (i7_:Int) (b81_:Bool) (h:H):Prop:=
 k .normal (zDi s0_ p3_ s4_ s5_ s6_ (i7_==(0))) h
theorem zhT (S:SatT) (k:Kont) (m:List Nat) (s0_:Sl) (p3_:Pt) (s4_ s5_ s6_:Sl) (i7_:Int) (b81_:Bool) (h:H):cwp S tab f2_M m (sq Tryz.f4 8 252) k (zvu s0_ p3_ s4_ s5_ s6_ i7_ b81_) h=zjC S k s0_ p3_ s4_ s5_ s6_ i7_ b81_ h:=by kernel_rfl
theorem zKx:(sq Tryz.f4 8 253) = .cond (.tmp 83) (sq Tryz.f4 9 506) (sq Tryz.f4 9 507):=by kernel_rfl
theorem zKw:(sq Tryz.f4 9 506) = .seq (sq Tryz.f4 10 1012) (sq Tryz.f4 10 1013):=by kernel_rfl
def zvr (S:SatT) (K:KT):Kont:=kSeq (cwp S tab f2_M [] (sq Tryz.f4 10 1013) (xd S K)) (xd S K)
def zKT (s0_:Sl) (p3_:Pt) (s4_ s5_:Sl) (s6_ s10_:Sl) (i11_:Int):Frame:=(.sl s0_::U::U :: .ptr p3_ :: .sl s4_ :: .sl s5_ :: .sl s6_::U::U::U :: .sl s10_ :: .int .i64 i11_::uu 313 [])
def zjB (S:SatT) (k:Kont) (s0_:Sl) (p3_:Pt) (s4_ s5_ s6_:Sl) (b83_:Bool) (h:H):Prop:=
 ldA p3_ 2 h fun cs0=>
 callV S zBZ [.agg cs0,.sl s4_,.sl s5_,.int .i64 (0),.int .i64 (0)] h fun v2 h1=>
 viaT v2 fun vs3=>
 exS vs3 0 fun s4=>
 viaT v2 fun vs5=>
 exI .i64 vs5 1 fun n6=>
 k .normal (zKT s0_ p3_ s4_ s5_ s6_ s4 n6) h1
theorem zhS (S:SatT) (k:Kont) (m:List Nat) (s0_:Sl) (p3_:Pt) (s4_ s5_ s6_:Sl) (b83_:Bool) (h:H):cwp S tab f2_M m (sq Tryz.f4 10 1012) k (zDi s0_ p3_ s4_ s5_ s6_ b83_) h=zjB S k s0_ p3_ s4_ s5_ s6_ b83_ h:=by kernel_rfl
theorem zKv:(sq Tryz.f4 10 1013) = .seq (sq Tryz.f4 11 2026) (sq Tryz.f4 11 2027):=by kernel_rfl
def zvq (S:SatT) (K:KT):Kont:=kSeq (cwp S tab f2_M [] (sq Tryz.f4 11 2027) (xd S K)) (xd S K)
def zvK (s0_:Sl) (p3_:Pt) (s4_ s5_:Sl) (s6_ s10_:Sl) (i11_:Int) (s12_:Sl) (i13_:Int):Frame:=(.sl s0_::U::U :: .ptr p3_ :: .sl s4_ :: .sl s5_ :: .sl s6_::U::U::U :: .sl s10_ :: .int .i64 i11_ :: .sl s12_ :: .int .i64 i13_::uu 311 [])
def zfJ (S:SatT) (k:Kont) (s0_:Sl) (p3_:Pt) (s4_ s5_:Sl) (s6_ s10_:Sl) (i11_:Int) (h:H):Prop:=
 ldA p3_ 2 h fun cs0=>
 callV S zIU [.agg cs0,.sl s4_,.sl s5_] h fun v2 h1=>
 viaT v2 fun vs3=>
 exS vs3 0 fun s4=>
 viaT v2 fun vs5=>
 exI .i64 vs5 1 fun n6=>
 k .normal (zvK s0_ p3_ s4_ s5_ s6_ s10_ i11_ s4 n6) h1
theorem zfI (S:SatT) (k:Kont) (m:List Nat) (s0_:Sl) (p3_:Pt) (s4_ s5_:Sl) (s6_ s10_:Sl) (i11_:Int) (h:H):cwp S tab f2_M m (sq Tryz.f4 11 2026) k (zKT s0_ p3_ s4_ s5_ s6_ s10_ i11_) h=zfJ S k s0_ p3_ s4_ s5_ s6_ s10_ i11_ h:=by kernel_rfl
theorem zKu:(sq Tryz.f4 11 2027) = .seq (sq Tryz.f4 12 4054) (sq Tryz.f4 12 4055):=by kernel_rfl
def zvp (S:SatT) (K:KT):Kont:=kSeq (cwp S tab f2_M [] (sq Tryz.f4 12 4055) (xd S K)) (xd S K)
def zvJ (s0_:Sl) (p3_:Pt) (s4_ s5_:Sl) (s6_ s10_:Sl) (i11_:Int) (s12_:Sl) (i13_ i14_ i15_:Int):Frame:=(.sl s0_::U::U :: .ptr p3_ :: .sl s4_ :: .sl s5_ :: .sl s6_::U::U::U :: .sl s10_ :: .int .i64 i11_ :: .sl s12_ :: .int .i64 i13_ :: .int .i64 i14_ :: .int .i64 i15_::uu 309 [])
def zfH (S:SatT) (k:Kont) (s0_:Sl) (p3_:Pt) (s4_ s5_:Sl) (s6_ s10_:Sl) (i11_:Int) (s12_:Sl) (i13_:Int) (h:H):Prop:=
 ldA p3_ 2 h fun cs0=>
 callV S zBY [.agg cs0,.sl s6_,.sl s5_] h fun v2 h1=>
 viaT v2 fun vs3=>
 exI .i64 vs3 0 fun n4=>
 viaT v2 fun vs5=>
 exI .i64 vs5 1 fun n6=>
 k .normal (zvJ s0_ p3_ s4_ s5_ s6_ s10_ i11_ s12_ i13_ n4 n6) h1
theorem zfG (S:SatT) (k:Kont) (m:List Nat) (s0_:Sl) (p3_:Pt) (s4_ s5_:Sl) (s6_ s10_:Sl) (i11_:Int) (s12_:Sl) (i13_:Int) (h:H):cwp S tab f2_M m (sq Tryz.f4 12 4054) k (zvK s0_ p3_ s4_ s5_ s6_ s10_ i11_ s12_ i13_) h=zfH S k s0_ p3_ s4_ s5_ s6_ s10_ i11_ s12_ i13_ h:=by kernel_rfl
theorem zKt:(sq Tryz.f4 12 4055) = .seq (sq Tryz.f4 13 8110) (sq Tryz.f4 13 8111):=by kernel_rfl
def zvo (S:SatT) (K:KT):Kont:=kSeq (cwp S tab f2_M [] (sq Tryz.f4 13 8111) (xd S K)) (xd S K)
def zvI (s0_ s6_ s10_:Sl) (i11_:Int) (s12_:Sl) (i13_ i14_:Int) (i15_ i16_ i17_:Int):Frame:=(.sl s0_::uu 5 (.sl s6_::U::U::U :: .sl s10_ :: .int .i64 i11_ :: .sl s12_ :: .int .i64 i13_ :: .int .i64 i14_ :: .int .i64 i15_ :: .int .i64 i16_ :: .int .i64 i17_::uu 307 []))
def zfF (S:SatT) (k:Kont) (s0_:Sl) (p3_:Pt) (s4_ s5_:Sl) (s6_ s10_:Sl) (i11_:Int) (s12_:Sl) (i13_ i14_ i15_:Int) (h:H):Prop:=
 ldA p3_ 2 h fun cs0=>
 callV S zBY [.agg cs0,.sl s4_,.sl s5_] h fun v2 h1=>
 viaT v2 fun vs3=>
 exI .i64 vs3 0 fun n4=>
 viaT v2 fun vs5=>
 exI .i64 vs5 1 fun n6=>
 k .normal (zvI s0_ s6_ s10_ i11_ s12_ i13_ i14_ i15_ n4 n6) h1
theorem zfE (S:SatT) (k:Kont) (m:List Nat) (s0_:Sl) (p3_:Pt) (s4_ s5_:Sl) (s6_ s10_:Sl) (i11_:Int) (s12_:Sl) (i13_ i14_ i15_:Int) (h:H):cwp S tab f2_M m (sq Tryz.f4 13 8110) k (zvJ s0_ p3_ s4_ s5_ s6_ s10_ i11_ s12_ i13_ i14_ i15_) h=zfF S k s0_ p3_ s4_ s5_ s6_ s10_ i11_ s12_ i13_ i14_ i15_ h:=by kernel_rfl
theorem zKs:(sq Tryz.f4 13 8111) = .seq (sq Tryz.f4 14 16222) (sq Tryz.f4 14 16223):=by kernel_rfl
def zvn (S:SatT) (K:KT):Kont:=kSeq (cwp S tab f2_M [] (sq Tryz.f4 14 16223) (xd S K)) (xd S K)
def qW (s0_:Sl) (b155_:Bool):Frame:=(.sl s0_::uu 154 (.bool b155_::uu 169 []))
def zfD (S:SatT) (k:Kont) (s0_ s6_ s10_:Sl) (i11_:Int) (s12_:Sl) (i13_ i14_:Int) (i15_ i16_ i17_:Int) (h:H):Prop:=
 bif (i11_ != (0)) then
 k .normal (qW s0_ true) h
 else
 bif (i13_ != (0)) then
 k .normal (qW s0_ true) h
 else
 bif (decide ((s10_.len:Int)<(1))) then
 k .normal (qW s0_ true) h
 else
 ixS s10_ 1 (0) fun p0=>
 ldI .i64 p0 h fun n1=>
 ixS s12_ 1 (0) fun p2=>
 ldS p2 h fun s3=>
 ixS s3 1 (0) fun p4=>
 ldI .i64 p4 h fun n5=>
 bif (n1 != n5) then
 k .normal (qW s0_ true) h
 else
 ixS s6_ 1 (0) fun p6=>
 ldS p6 h fun s7=>
 ixS s7 1 (0) fun p8=>
 ldI .i64 p8 h fun n9=>
 bif (((s10_.len:Int)==(1)) != (decide (n9≥(0)))) then
 k .normal (qW s0_ true) h
 else
 bif (i15_ != i17_) then
 k .normal (qW s0_ true) h
 else
 k .normal (qW s0_ (i14_ != i16_)) h
theorem zfC (S:SatT) (k:Kont) (m:List Nat) (s0_ s6_ s10_:Sl) (i11_:Int) (s12_:Sl) (i13_ i14_:Int) (i15_ i16_ i17_:Int) (h:H):cwp S tab f2_M m (sq Tryz.f4 14 16222) k (zvI s0_ s6_ s10_ i11_ s12_ i13_ i14_ i15_ i16_ i17_) h=zfD S k s0_ s6_ s10_ i11_ s12_ i13_ i14_ i15_ i16_ i17_ h:=by kernel_rfl
theorem zKr:(sq Tryz.f4 14 16223) = .cond (.tmp 155) (sq Tryz.f4 15 32446) (sq Tryz.f4 15 32447):=by kernel_rfl
theorem zKq:(sq Tryz.f4 15 32446) = .seq (sq Tryz.f4 16 64892) (sq Tryz.f4 16 64893):=by kernel_rfl
def zKS (S:SatT) (K:KT):Kont:=kSeq (cwp S tab f2_M [] (sq Tryz.f4 16 64893) (xd S K)) (xd S K)
def zNa (b2_:Bool):Frame:=(U::U :: .bool b2_::uu 322 [])
def zmk (S:SatT) (k:Kont) (s0_:Sl) (b155_:Bool) (h:H):Prop:=
 k .normal (zNa false) h
theorem zfB (S:SatT) (k:Kont) (m:List Nat) (s0_:Sl) (b155_:Bool) (h:H):cwp S tab f2_M m (sq Tryz.f4 16 64892) k (qW s0_ b155_) h=zmk S k s0_ b155_ h:=by kernel_rfl
theorem zKp:(sq Tryz.f4 15 32447) = .skip:=by kernel_rfl
theorem zus:(sq Tryz.f4 7 127) = .seq (sq Tryz.f4 8 254) (sq Tryz.f4 8 255):=by kernel_rfl
def zjA (S:SatT) (K:KT):Kont:=kSeq (cwp S tab f2_M [] (sq Tryz.f4 8 255) (kFun tab (Tryz.f4).results.toList K)) (kFun tab (Tryz.f4).results.toList K)
def zmo (s0_:Sl) (p18_:Pt) (s19_ s20_:Sl) (i21_ i22_:Int):Frame:=(.sl s0_::uu 17 (.ptr p18_ :: .sl s19_ :: .sl s20_ :: .int .i64 i21_ :: .int .i64 i22_::uu 302 []))
def ZT (S:SatT) (k:Kont) (s0_:Sl) (b155_:Bool) (h:H):Prop:=
 callV S zBX [.sl s0_] h fun v1 h0=>
 viaT v1 fun vs2=>
 exA vs2 0 fun cs3=>
 viaT v1 fun vs4=>
 exS vs4 1 fun s5=>
 viaT v1 fun vs6=>
 exS vs6 2 fun s7=>
 viaT v1 fun vs8=>
 exI .i64 vs8 3 fun n9=>
 viaT v1 fun vs10=>
 exI .i64 vs10 4 fun n11=>
 newO [.int .i64 (0),.sl Sl.nil] h0 fun p12 h13=>
 stN p12 2 cs3 h13 fun h14=>
 k .normal (zmo s0_ p12 s5 s7 n9 n11) h14
theorem zfA (S:SatT) (k:Kont) (m:List Nat) (s0_:Sl) (b155_:Bool) (h:H):cwp S tab f2_M m (sq Tryz.f4 8 254) k (qW s0_ b155_) h=ZT S k s0_ b155_ h:=by kernel_rfl
theorem zKo:(sq Tryz.f4 8 255) = .seq (sq Tryz.f4 9 510) (sq Tryz.f4 9 511):=by kernel_rfl
def zvm (S:SatT) (K:KT):Kont:=kSeq (cwp S tab f2_M [] (sq Tryz.f4 9 511) (kFun tab (Tryz.f4).results.toList K)) (kFun tab (Tryz.f4).results.toList K)
def zvH (s0_:Sl) (p18_:Pt) (s19_ s20_:Sl) (i21_ i22_:Int) (s23_:Sl) (i24_:Int):Frame:=(.sl s0_::uu 17 (.ptr p18_ :: .sl s19_ :: .sl s20_ :: .int .i64 i21_ :: .int .i64 i22_ :: .sl s23_ :: .int .i64 i24_::uu 300 []))
def zfx (S:SatT) (k:Kont) (s0_:Sl) (p18_:Pt) (s19_ s20_:Sl) (i21_ i22_:Int) (h:H):Prop:=
 ldA p18_ 2 h fun cs0=>
 callV S zBZ [.agg cs0,.sl s19_,.sl s20_,.int .i64 i21_,.int .i64 i22_] h fun v2 h1=>
 viaT v2 fun vs3=>
 exS vs3 0 fun s4=>
 viaT v2 fun vs5=>
 exI .i64 vs5 1 fun n6=>
 k .normal (zvH s0_ p18_ s19_ s20_ i21_ i22_ s4 n6) h1
theorem zfw (S:SatT) (k:Kont) (m:List Nat) (s0_:Sl) (p18_:Pt) (s19_ s20_:Sl) (i21_ i22_:Int) (h:H):cwp S tab f2_M m (sq Tryz.f4 9 510) k (zmo s0_ p18_ s19_ s20_ i21_ i22_) h=zfx S k s0_ p18_ s19_ s20_ i21_ i22_ h:=by kernel_rfl
theorem zKn:(sq Tryz.f4 9 511) = .seq (sq Tryz.f4 10 1022) (sq Tryz.f4 10 1023):=by kernel_rfl
def zvl (S:SatT) (K:KT):Kont:=kSeq (cwp S tab f2_M [] (sq Tryz.f4 10 1023) (kFun tab (Tryz.f4).results.toList K)) (kFun tab (Tryz.f4).results.toList K)
def zvG (s0_ s23_:Sl) (i24_:Int) (s25_:Sl) (i26_:Int):Frame:=(.sl s0_::uu 22 (.sl s23_ :: .int .i64 i24_ :: .sl s25_ :: .int .i64 i26_::uu 298 []))
def zfv (S:SatT) (k:Kont) (s0_:Sl) (p18_:Pt) (s19_ s20_:Sl) (i21_ i22_:Int) (s23_:Sl) (i24_:Int) (h:H):Prop:=
 ldA p18_ 2 h fun cs0=>
 callV S zIT [.agg cs0,.sl s19_,.sl s20_,.int .i64 i21_,.int .i64 i22_] h fun v2 h1=>
 viaT v2 fun vs3=>
 exS vs3 0 fun s4=>
 viaT v2 fun vs5=>
 exI .i64 vs5 1 fun n6=>
 k .normal (zvG s0_ s23_ i24_ s4 n6) h1
theorem zfu (S:SatT) (k:Kont) (m:List Nat) (s0_:Sl) (p18_:Pt) (s19_ s20_:Sl) (i21_ i22_:Int) (s23_:Sl) (i24_:Int) (h:H):cwp S tab f2_M m (sq Tryz.f4 10 1022) k (zvH s0_ p18_ s19_ s20_ i21_ i22_ s23_ i24_) h=zfv S k s0_ p18_ s19_ s20_ i21_ i22_ s23_ i24_ h:=by kernel_rfl
theorem zKm:(sq Tryz.f4 10 1023) = .seq (sq Tryz.f4 11 2046) (sq Tryz.f4 11 2047):=by kernel_rfl
theorem zKl:(sq Tryz.f4 11 2046) = .seq (sq Tryz.f4 12 4092) (sq Tryz.f4 12 4093):=by kernel_rfl
def zeA (S:SatT) (K:KT):Kont:=kSeq (cwp S tab f2_M [] (sq Tryz.f4 11 2047) (kFun tab (Tryz.f4).results.toList K)) (kFun tab (Tryz.f4).results.toList K)
def zvk (S:SatT) (K:KT):Kont:=kSeq (cwp S tab f2_M [] (sq Tryz.f4 12 4093) (zeA S K)) (zeA S K)
def zid (s0_:Sl) (b190_:Bool):Frame:=(.sl s0_::uu 189 (.bool b190_::uu 134 []))
def zft (S:SatT) (k:Kont) (s0_ s23_:Sl) (i24_:Int) (s25_:Sl) (i26_:Int) (h:H):Prop:=
 bif (i24_ != i26_) then
 k .normal (zid s0_ true) h
 else
 callB S zBW [.sl s23_,.sl s25_] h fun b1 h0=>
 k .normal (zid s0_ (!b1)) h0
theorem zfs (S:SatT) (k:Kont) (m:List Nat) (s0_ s23_:Sl) (i24_:Int) (s25_:Sl) (i26_:Int) (h:H):cwp S tab f2_M m (sq Tryz.f4 12 4092) k (zvG s0_ s23_ i24_ s25_ i26_) h=zft S k s0_ s23_ i24_ s25_ i26_ h:=by kernel_rfl
theorem zKk:(sq Tryz.f4 12 4093) = .cond (.tmp 190) (sq Tryz.f4 13 8186) (sq Tryz.f4 13 8187):=by kernel_rfl
theorem zKj:(sq Tryz.f4 13 8186) = .seq (sq Tryz.f4 14 16372) (sq Tryz.f4 14 16373):=by kernel_rfl
def zKR (S:SatT) (K:KT):Kont:=kSeq (cwp S tab f2_M [] (sq Tryz.f4 14 16373) (zeA S K)) (zeA S K)
def zMZ (b2_:Bool):Frame:=(U::U :: .bool b2_::uu 322 [])
def zmj (S:SatT) (k:Kont) (s0_:Sl) (b190_:Bool) (h:H):Prop:=
 k .normal (zMZ false) h
theorem zfr (S:SatT) (k:Kont) (m:List Nat) (s0_:Sl) (b190_:Bool) (h:H):cwp S tab f2_M m (sq Tryz.f4 14 16372) k (zid s0_ b190_) h=zmj S k s0_ b190_ h:=by kernel_rfl
theorem zKi:(sq Tryz.f4 13 8187) = .skip:=by kernel_rfl
theorem zKh:(sq Tryz.f4 11 2047) = .seq (sq Tryz.f4 12 4094) (sq Tryz.f4 12 4095):=by kernel_rfl
def zvj (S:SatT) (K:KT):Kont:=kSeq (cwp S tab f2_M [] (sq Tryz.f4 12 4095) (kFun tab (Tryz.f4).results.toList K)) (kFun tab (Tryz.f4).results.toList K)
def zvF (s0_:Sl) (p27_:Pt) (i28_:Int):Frame:=(.sl s0_::uu 26 (.ptr p27_ :: .int .i64 i28_::uu 296 []))
def zfq (S:SatT) (k:Kont) (s0_:Sl) (b190_:Bool) (h:H):Prop:=
 callV S zIS [.sl s0_] h fun v1 h0=>
 viaT v1 fun vs2=>
 exA vs2 0 fun cs3=>
 viaT v1 fun vs4=>
 exI .i64 vs4 1 fun n5=>
 newO [.int .i64 (0),.sl Sl.nil] h0 fun p6 h7=>
 stN p6 2 cs3 h7 fun h8=>
 k .normal (zvF s0_ p6 n5) h8
theorem zfp (S:SatT) (k:Kont) (m:List Nat) (s0_:Sl) (b190_:Bool) (h:H):cwp S tab f2_M m (sq Tryz.f4 12 4094) k (zid s0_ b190_) h=zfq S k s0_ b190_ h:=by kernel_rfl
theorem zKg:(sq Tryz.f4 12 4095) = .seq (sq Tryz.f4 13 8190) (sq Tryz.f4 13 8191):=by kernel_rfl
def zvi (S:SatT) (K:KT):Kont:=kSeq (cwp S tab f2_M [] (sq Tryz.f4 13 8191) (kFun tab (Tryz.f4).results.toList K)) (kFun tab (Tryz.f4).results.toList K)
def zvE (s0_:Sl) (p27_:Pt) (i28_ i29_ i30_:Int):Frame:=(.sl s0_::uu 26 (.ptr p27_ :: .int .i64 i28_ :: .int .i64 i29_ :: .int .i64 i30_::uu 294 []))
def zfo (S:SatT) (k:Kont) (s0_:Sl) (p27_:Pt) (i28_:Int) (h:H):Prop:=
 ldA p27_ 2 h fun cs0=>
 callV S zrs [.agg cs0,.int .i64 i28_] h fun v2 h1=>
 viaT v2 fun vs3=>
 exI .i64 vs3 0 fun n4=>
 viaT v2 fun vs5=>
 exI .i64 vs5 1 fun n6=>
 k .normal (zvE s0_ p27_ i28_ n4 n6) h1
theorem zfn (S:SatT) (k:Kont) (m:List Nat) (s0_:Sl) (p27_:Pt) (i28_:Int) (h:H):cwp S tab f2_M m (sq Tryz.f4 13 8190) k (zvF s0_ p27_ i28_) h=zfo S k s0_ p27_ i28_ h:=by kernel_rfl
theorem zKf:(sq Tryz.f4 13 8191) = .seq (sq Tryz.f4 14 16382) (sq Tryz.f4 14 16383):=by kernel_rfl
def zvh (S:SatT) (K:KT):Kont:=kSeq (cwp S tab f2_M [] (sq Tryz.f4 14 16383) (kFun tab (Tryz.f4).results.toList K)) (kFun tab (Tryz.f4).results.toList K)
def zvD (s0_:Sl) (p27_:Pt) (i28_ i29_:Int) (i30_ i31_ i32_:Int):Frame:=(.sl s0_::uu 26 (.ptr p27_ :: .int .i64 i28_ :: .int .i64 i29_ :: .int .i64 i30_ :: .int .i64 i31_ :: .int .i64 i32_::uu 292 []))
def zfm (S:SatT) (k:Kont) (s0_:Sl) (p27_:Pt) (i28_ i29_ i30_:Int) (h:H):Prop:=
 ldA p27_ 2 h fun cs0=>
 callV S zIR [.agg cs0,.int .i64 i28_] h fun v2 h1=>
 viaT v2 fun vs3=>
 exI .i64 vs3 0 fun n4=>
 viaT v2 fun vs5=>
 exI .i64 vs5 1 fun n6=>
 k .normal (zvD s0_ p27_ i28_ i29_ i30_ n4 n6) h1
theorem zfl (S:SatT) (k:Kont) (m:List Nat) (s0_:Sl) (p27_:Pt) (i28_ i29_ i30_:Int) (h:H):cwp S tab f2_M m (sq Tryz.f4 14 16382) k (zvE s0_ p27_ i28_ i29_ i30_) h=zfm S k s0_ p27_ i28_ i29_ i30_ h:=by kernel_rfl
theorem zKe:(sq Tryz.f4 14 16383) = .seq (sq Tryz.f4 15 32766) (sq Tryz.f4 15 32767):=by kernel_rfl
theorem zKd:(sq Tryz.f4 15 32766) = .seq (sq Tryz.f4 16 65532) (sq Tryz.f4 16 65533):=by kernel_rfl
def zez (S:SatT) (K:KT):Kont:=kSeq (cwp S tab f2_M [] (sq Tryz.f4 15 32767) (kFun tab (Tryz.f4).results.toList K)) (kFun tab (Tryz.f4).results.toList K)
def zvg (S:SatT) (K:KT):Kont:=kSeq (cwp S tab f2_M [] (sq Tryz.f4 16 65533) (zez S K)) (zez S K)
def zic (s0_:Sl) (p27_:Pt) (i28_ i29_ i30_:Int) (b215_:Bool):Frame:=(.sl s0_::uu 26 (.ptr p27_ :: .int .i64 i28_ :: .int .i64 i29_ :: .int .i64 i30_::uu 184 (.bool b215_::uu 109 [])))
def zfk (S:SatT) (k:Kont) (s0_:Sl) (p27_:Pt) (i28_ i29_:Int) (i30_ i31_ i32_:Int) (h:H):Prop:=
 bif (i30_ != i32_) then
 k .normal (zic s0_ p27_ i28_ i29_ i30_ true) h
 else
 k .normal (zic s0_ p27_ i28_ i29_ i30_ (i29_ != i31_)) h
theorem zfj (S:SatT) (k:Kont) (m:List Nat) (s0_:Sl) (p27_:Pt) (i28_ i29_:Int) (i30_ i31_ i32_:Int) (h:H):cwp S tab f2_M m (sq Tryz.f4 16 65532) k (zvD s0_ p27_ i28_ i29_ i30_ i31_ i32_) h=zfk S k s0_ p27_ i28_ i29_ i30_ i31_ i32_ h:=by kernel_rfl
theorem zKc:(sq Tryz.f4 16 65533) = .cond (.tmp 215) (sq Tryz.f4 17 131066) (sq Tryz.f4 17 131067):=by kernel_rfl
theorem zKb:(sq Tryz.f4 17 131066) = .seq (sq Tryz.f4 18 262132) (sq Tryz.f4 18 262133):=by kernel_rfl
def zKQ (S:SatT) (K:KT):Kont:=kSeq (cwp S tab f2_M [] (sq Tryz.f4 18 262133) (zez S K)) (zez S K)
def zMX (b2_:Bool):Frame:=(U::U :: .bool b2_::uu 322 [])
def zmi (S:SatT) (k:Kont) (s0_:Sl) (p27_:Pt) (i28_ i29_ i30_:Int) (b215_:Bool) (h:H):Prop:=
 k .normal (zMX false) h
theorem zfi (S:SatT) (k:Kont) (m:List Nat) (s0_:Sl) (p27_:Pt) (i28_ i29_ i30_:Int) (b215_:Bool) (h:H):cwp S tab f2_M m (sq Tryz.f4 18 262132) k (zic s0_ p27_ i28_ i29_ i30_ b215_) h=zmi S k s0_ p27_ i28_ i29_ i30_ b215_ h:=by kernel_rfl
theorem zKa:(sq Tryz.f4 17 131067) = .skip:=by kernel_rfl
theorem zJZ:(sq Tryz.f4 15 32767) = .seq (sq Tryz.f4 16 65534) (sq Tryz.f4 16 65535):=by kernel_rfl
theorem zJY:(sq Tryz.f4 16 65534) = .seq (sq Tryz.f4 17 131068) (sq Tryz.f4 17 131069):=by kernel_rfl
def xc (S:SatT) (K:KT):Kont:=kSeq (cwp S tab f2_M [] (sq Tryz.f4 16 65535) (kFun tab (Tryz.f4).results.toList K)) (kFun tab (Tryz.f4).results.toList K)
def zvf (S:SatT) (K:KT):Kont:=kSeq (cwp S tab f2_M [] (sq Tryz.f4 17 131069) (xc S K)) (xc S K)
def zmn (s0_:Sl) (p27_:Pt) (i28_ i29_:Int) (b217_:Bool):Frame:=(.sl s0_::uu 26 (.ptr p27_ :: .int .i64 i28_ :: .int .i64 i29_::uu 187 (.bool b217_::uu 107 [])))
def zfh (S:SatT) (k:Kont) (s0_:Sl) (p27_:Pt) (i28_ i29_ i30_:Int) (b215_:Bool) (h:H):Prop:=
 k .normal (zmn s0_ p27_ i28_ i29_ (i30_==(0))) h
theorem zfg (S:SatT) (k:Kont) (m:List Nat) (s0_:Sl) (p27_:Pt) (i28_ i29_ i30_:Int) (b215_:Bool) (h:H):cwp S tab f2_M m (sq Tryz.f4 17 131068) k (zic s0_ p27_ i28_ i29_ i30_ b215_) h=zfh S k s0_ p27_ i28_ i29_ i30_ b215_ h:=by kernel_rfl
theorem zJX:(sq Tryz.f4 17 131069) = .cond (.tmp 217) (sq Tryz.f4 18 262138) (sq Tryz.f4 18 262139):=by kernel_rfl
theorem zJW:(sq Tryz.f4 18 262138) = .seq (sq Tryz.f4 19 524276) (sq Tryz.f4 19 524277):=by kernel_rfl
def zve (S:SatT) (K:KT):Kont:=kSeq (cwp S tab f2_M [] (sq Tryz.f4 19 524277) (xc S K)) (xc S K)
def zvC (s0_:Sl) (p27_:Pt) (i28_ i29_:Int) (p33_:Pt) (i34_:Int):Frame:=(.sl s0_::uu 26 (.ptr p27_ :: .int .i64 i28_ :: .int .i64 i29_::U::U::U :: .ptr p33_ :: .int .i64 i34_::uu 290 []))
def zff (S:SatT) (k:Kont) (s0_:Sl) (p27_:Pt) (i28_ i29_:Int) (b217_:Bool) (h:H):Prop:=
 ldA p27_ 2 h fun cs0=>
 callV S zIQ [.agg cs0] h fun v2 h1=>
 viaT v2 fun vs3=>
 exA vs3 0 fun cs4=>
 viaT v2 fun vs5=>
 exI .i64 vs5 1 fun n6=>
 newO [.int .i64 (0),.sl Sl.nil] h1 fun p7 h8=>
 stN p7 2 cs4 h8 fun h9=>
 k .normal (zvC s0_ p27_ i28_ i29_ p7 n6) h9
theorem zfe (S:SatT) (k:Kont) (m:List Nat) (s0_:Sl) (p27_:Pt) (i28_ i29_:Int) (b217_:Bool) (h:H):cwp S tab f2_M m (sq Tryz.f4 19 524276) k (zmn s0_ p27_ i28_ i29_ b217_) h=zff S k s0_ p27_ i28_ i29_ b217_ h:=by kernel_rfl
theorem zJV:(sq Tryz.f4 19 524277) = .seq (sq Tryz.f4 20 1048554) (sq Tryz.f4 20 1048555):=by kernel_rfl
def zvd (S:SatT) (K:KT):Kont:=kSeq (cwp S tab f2_M [] (sq Tryz.f4 20 1048555) (xc S K)) (xc S K)
def zvB (s0_:Sl) (i28_ i29_:Int) (p33_:Pt) (i34_:Int) (p35_:Pt) (i36_:Int):Frame:=(.sl s0_::uu 27 (.int .i64 i28_ :: .int .i64 i29_::U::U::U :: .ptr p33_ :: .int .i64 i34_ :: .ptr p35_ :: .int .i64 i36_::uu 288 []))
def zfd (S:SatT) (k:Kont) (s0_:Sl) (p27_:Pt) (i28_ i29_:Int) (p33_:Pt) (i34_:Int) (h:H):Prop:=
 ldA p27_ 2 h fun cs0=>
 callV S zIP [.agg cs0] h fun v2 h1=>
 viaT v2 fun vs3=>
 exA vs3 0 fun cs4=>
 viaT v2 fun vs5=>
 exI .i64 vs5 1 fun n6=>
 newO [.int .i64 (0),.sl Sl.nil] h1 fun p7 h8=>
 stN p7 2 cs4 h8 fun h9=>
 k .normal (zvB s0_ i28_ i29_ p33_ i34_ p7 n6) h9
theorem zfc (S:SatT) (k:Kont) (m:List Nat) (s0_:Sl) (p27_:Pt) (i28_ i29_:Int) (p33_:Pt) (i34_:Int) (h:H):cwp S tab f2_M m (sq Tryz.f4 20 1048554) k (zvC s0_ p27_ i28_ i29_ p33_ i34_) h=zfd S k s0_ p27_ i28_ i29_ p33_ i34_ h:=by kernel_rfl
theorem zJU:(sq Tryz.f4 20 1048555) = .seq (sq Tryz.f4 21 2097110) (sq Tryz.f4 21 2097111):=by kernel_rfl
def zvc (S:SatT) (K:KT):Kont:=kSeq (cwp S tab f2_M [] (sq Tryz.f4 21 2097111) (xc S K)) (xc S K)
def zvA (s0_:Sl) (i28_ i29_ i34_:Int) (p35_:Pt) (i36_ i37_ i38_:Int):Frame:=(.sl s0_::uu 27 (.int .i64 i28_ :: .int .i64 i29_::uu 4 (.int .i64 i34_ :: .ptr p35_ :: .int .i64 i36_ :: .int .i64 i37_ :: .int .i64 i38_::uu 286 [])))
def zfb (S:SatT) (k:Kont) (s0_:Sl) (i28_ i29_:Int) (p33_:Pt) (i34_:Int) (p35_:Pt) (i36_:Int) (h:H):Prop:=
 ldA p33_ 2 h fun cs0=>
 callV S zrs [.agg cs0,.int .i64 i28_] h fun v2 h1=>
 viaT v2 fun vs3=>
 exI .i64 vs3 0 fun n4=>
 viaT v2 fun vs5=>
 exI .i64 vs5 1 fun n6=>
 k .normal (zvA s0_ i28_ i29_ i34_ p35_ i36_ n4 n6) h1
theorem zfa (S:SatT) (k:Kont) (m:List Nat) (s0_:Sl) (i28_ i29_:Int) (p33_:Pt) (i34_:Int) (p35_:Pt) (i36_:Int) (h:H):cwp S tab f2_M m (sq Tryz.f4 21 2097110) k (zvB s0_ i28_ i29_ p33_ i34_ p35_ i36_) h=zfb S k s0_ i28_ i29_ p33_ i34_ p35_ i36_ h:=by kernel_rfl
theorem zJT:(sq Tryz.f4 21 2097111) = .seq (sq Tryz.f4 22 4194222) (sq Tryz.f4 22 4194223):=by kernel_rfl
def zvb (S:SatT) (K:KT):Kont:=kSeq (cwp S tab f2_M [] (sq Tryz.f4 22 4194223) (xc S K)) (xc S K)
def zvz (s0_:Sl) (i29_ i34_:Int) (i36_ i37_:Int) (i38_ i39_ i40_:Int):Frame:=(.sl s0_::uu 28 (.int .i64 i29_::uu 4 (.int .i64 i34_::U :: .int .i64 i36_ :: .int .i64 i37_ :: .int .i64 i38_ :: .int .i64 i39_ :: .int .i64 i40_::uu 284 [])))
def zeZ (S:SatT) (k:Kont) (s0_:Sl) (i28_ i29_ i34_:Int) (p35_:Pt) (i36_ i37_ i38_:Int) (h:H):Prop:=
 ldA p35_ 2 h fun cs0=>
 callV S zrs [.agg cs0,.int .i64 i28_] h fun v2 h1=>
 viaT v2 fun vs3=>
 exI .i64 vs3 0 fun n4=>
 viaT v2 fun vs5=>
 exI .i64 vs5 1 fun n6=>
 k .normal (zvz s0_ i29_ i34_ i36_ i37_ i38_ n4 n6) h1
theorem zeY (S:SatT) (k:Kont) (m:List Nat) (s0_:Sl) (i28_ i29_ i34_:Int) (p35_:Pt) (i36_ i37_ i38_:Int) (h:H):cwp S tab f2_M m (sq Tryz.f4 22 4194222) k (zvA s0_ i28_ i29_ i34_ p35_ i36_ i37_ i38_) h=zeZ S k s0_ i28_ i29_ i34_ p35_ i36_ i37_ i38_ h:=by kernel_rfl
theorem zJS:(sq Tryz.f4 22 4194223) = .seq (sq Tryz.f4 23 8388446) (sq Tryz.f4 23 8388447):=by kernel_rfl
def zva (S:SatT) (K:KT):Kont:=kSeq (cwp S tab f2_M [] (sq Tryz.f4 23 8388447) (xc S K)) (xc S K)
def ZU (s0_:Sl) (b263_:Bool):Frame:=(.sl s0_::uu 262 (.bool b263_::uu 61 []))
def zeX (S:SatT) (k:Kont) (s0_:Sl) (i29_ i34_:Int) (i36_ i37_:Int) (i38_ i39_ i40_:Int) (h:H):Prop:=
 bif (i34_ != (0)) then
 k .normal (ZU s0_ true) h
 else
 bif (i36_ != (0)) then
 k .normal (ZU s0_ true) h
 else
 bif (i38_ != (0)) then
 k .normal (ZU s0_ true) h
 else
 bif (i40_ != (0)) then
 k .normal (ZU s0_ true) h
 else
 bif (i37_ != i29_) then
 k .normal (ZU s0_ true) h
 else
 k .normal (ZU s0_ (i39_ != i29_)) h
theorem zeW (S:SatT) (k:Kont) (m:List Nat) (s0_:Sl) (i29_ i34_:Int) (i36_ i37_:Int) (i38_ i39_ i40_:Int) (h:H):cwp S tab f2_M m (sq Tryz.f4 23 8388446) k (zvz s0_ i29_ i34_ i36_ i37_ i38_ i39_ i40_) h=zeX S k s0_ i29_ i34_ i36_ i37_ i38_ i39_ i40_ h:=by kernel_rfl
theorem zJR:(sq Tryz.f4 23 8388447) = .cond (.tmp 263) (sq Tryz.f4 24 16776894) (sq Tryz.f4 24 16776895):=by kernel_rfl
theorem zJQ:(sq Tryz.f4 24 16776894) = .seq (sq Tryz.f4 25 33553788) (sq Tryz.f4 25 33553789):=by kernel_rfl
def zKP (S:SatT) (K:KT):Kont:=kSeq (cwp S tab f2_M [] (sq Tryz.f4 25 33553789) (xc S K)) (xc S K)
def zMW (b2_:Bool):Frame:=(U::U :: .bool b2_::uu 322 [])
def zmh (S:SatT) (k:Kont) (s0_:Sl) (b263_:Bool) (h:H):Prop:=
 k .normal (zMW false) h
theorem zeV (S:SatT) (k:Kont) (m:List Nat) (s0_:Sl) (b263_:Bool) (h:H):cwp S tab f2_M m (sq Tryz.f4 25 33553788) k (ZU s0_ b263_) h=zmh S k s0_ b263_ h:=by kernel_rfl
theorem zJP:(sq Tryz.f4 24 16776895) = .skip:=by kernel_rfl
theorem zur:(sq Tryz.f4 16 65535) = .seq (sq Tryz.f4 17 131070) (sq Tryz.f4 17 131071):=by kernel_rfl
def zjz (S:SatT) (K:KT):Kont:=kSeq (cwp S tab f2_M [] (sq Tryz.f4 17 131071) (kFun tab (Tryz.f4).results.toList K)) (kFun tab (Tryz.f4).results.toList K)
def zmm (p41_:Pt):Frame:=(uu 41 (.ptr p41_::uu 283 []))
def ZS (S:SatT) (k:Kont) (s0_:Sl) (b263_:Bool) (h:H):Prop:=
 callA S zBV [.sl s0_] h fun cs1 h0=>
 newO [.int .i64 (0),.sl Sl.nil] h0 fun p2 h3=>
 stN p2 2 cs1 h3 fun h4=>
 k .normal (zmm p2) h4
theorem zeU (S:SatT) (k:Kont) (m:List Nat) (s0_:Sl) (b263_:Bool) (h:H):cwp S tab f2_M m (sq Tryz.f4 17 131070) k (ZU s0_ b263_) h=ZS S k s0_ b263_ h:=by kernel_rfl
theorem zJO:(sq Tryz.f4 17 131071) = .seq (sq Tryz.f4 18 262142) (sq Tryz.f4 18 262143):=by kernel_rfl
def zuZ (S:SatT) (K:KT):Kont:=kSeq (cwp S tab f2_M [] (sq Tryz.f4 18 262143) (kFun tab (Tryz.f4).results.toList K)) (kFun tab (Tryz.f4).results.toList K)
def zvy (p41_:Pt) (i42_ i43_:Int):Frame:=(uu 41 (.ptr p41_ :: .int .i64 i42_ :: .int .i64 i43_::uu 281 []))
def zeR (S:SatT) (k:Kont) (p41_:Pt) (h:H):Prop:=
 ldA p41_ 2 h fun cs0=>
 callV S zIO [.agg cs0] h fun v2 h1=>
 viaT v2 fun vs3=>
 exI .i64 vs3 0 fun n4=>
 viaT v2 fun vs5=>
 exI .i64 vs5 1 fun n6=>
 k .normal (zvy p41_ n4 n6) h1
theorem zeQ (S:SatT) (k:Kont) (m:List Nat) (p41_:Pt) (h:H):cwp S tab f2_M m (sq Tryz.f4 18 262142) k (zmm p41_) h=zeR S k p41_ h:=by kernel_rfl
theorem zJN:(sq Tryz.f4 18 262143) = .seq (sq Tryz.f4 19 524286) (sq Tryz.f4 19 524287):=by kernel_rfl
def zuY (S:SatT) (K:KT):Kont:=kSeq (cwp S tab f2_M [] (sq Tryz.f4 19 524287) (kFun tab (Tryz.f4).results.toList K)) (kFun tab (Tryz.f4).results.toList K)
def zvx (p41_:Pt) (i42_ i43_:Int) (i44_ i45_:Int):Frame:=(uu 41 (.ptr p41_ :: .int .i64 i42_ :: .int .i64 i43_ :: .int .i64 i44_ :: .int .i64 i45_::uu 279 []))
def zeP (S:SatT) (k:Kont) (p41_:Pt) (i42_ i43_:Int) (h:H):Prop:=
 ldA p41_ 2 h fun cs0=>
 callV S zIN [.agg cs0] h fun v2 h1=>
 viaT v2 fun vs3=>
 exI .i64 vs3 0 fun n4=>
 viaT v2 fun vs5=>
 exI .i64 vs5 1 fun n6=>
 k .normal (zvx p41_ i42_ i43_ n4 n6) h1
theorem zeO (S:SatT) (k:Kont) (m:List Nat) (p41_:Pt) (i42_ i43_:Int) (h:H):cwp S tab f2_M m (sq Tryz.f4 19 524286) k (zvy p41_ i42_ i43_) h=zeP S k p41_ i42_ i43_ h:=by kernel_rfl
theorem zJM:(sq Tryz.f4 19 524287) = .seq (sq Tryz.f4 20 1048574) (sq Tryz.f4 20 1048575):=by kernel_rfl
def zuX (S:SatT) (K:KT):Kont:=kSeq (cwp S tab f2_M [] (sq Tryz.f4 20 1048575) (kFun tab (Tryz.f4).results.toList K)) (kFun tab (Tryz.f4).results.toList K)
def zvw (p41_:Pt) (i42_ i43_:Int) (i44_ i45_:Int) (s46_:Sl) (i47_:Int):Frame:=(uu 41 (.ptr p41_ :: .int .i64 i42_ :: .int .i64 i43_ :: .int .i64 i44_ :: .int .i64 i45_ :: .sl s46_ :: .int .i64 i47_::uu 277 []))
def zeN (S:SatT) (k:Kont) (p41_:Pt) (i42_ i43_:Int) (i44_ i45_:Int) (h:H):Prop:=
 ldA p41_ 2 h fun cs0=>
 callV S zIM [.agg cs0] h fun v2 h1=>
 viaT v2 fun vs3=>
 exS vs3 0 fun s4=>
 viaT v2 fun vs5=>
 exI .i64 vs5 1 fun n6=>
 k .normal (zvw p41_ i42_ i43_ i44_ i45_ s4 n6) h1
theorem zeM (S:SatT) (k:Kont) (m:List Nat) (p41_:Pt) (i42_ i43_:Int) (i44_ i45_:Int) (h:H):cwp S tab f2_M m (sq Tryz.f4 20 1048574) k (zvx p41_ i42_ i43_ i44_ i45_) h=zeN S k p41_ i42_ i43_ i44_ i45_ h:=by kernel_rfl
theorem zJL:(sq Tryz.f4 20 1048575) = .seq (sq Tryz.f4 21 2097150) (sq Tryz.f4 21 2097151):=by kernel_rfl
def zuW (S:SatT) (K:KT):Kont:=kSeq (cwp S tab f2_M [] (sq Tryz.f4 21 2097151) (kFun tab (Tryz.f4).results.toList K)) (kFun tab (Tryz.f4).results.toList K)
def zvv (i42_ i43_:Int) (i44_ i45_:Int) (s46_:Sl) (i47_:Int) (s48_:Sl) (i49_:Int):Frame:=(uu 42 (.int .i64 i42_ :: .int .i64 i43_ :: .int .i64 i44_ :: .int .i64 i45_ :: .sl s46_ :: .int .i64 i47_ :: .sl s48_ :: .int .i64 i49_::uu 275 []))
def zeL (S:SatT) (k:Kont) (p41_:Pt) (i42_ i43_:Int) (i44_ i45_:Int) (s46_:Sl) (i47_:Int) (h:H):Prop:=
 ldA p41_ 2 h fun cs0=>
 callV S zIL [.agg cs0] h fun v2 h1=>
 viaT v2 fun vs3=>
 exS vs3 0 fun s4=>
 viaT v2 fun vs5=>
 exI .i64 vs5 1 fun n6=>
 k .normal (zvv i42_ i43_ i44_ i45_ s46_ i47_ s4 n6) h1
theorem zeK (S:SatT) (k:Kont) (m:List Nat) (p41_:Pt) (i42_ i43_:Int) (i44_ i45_:Int) (s46_:Sl) (i47_:Int) (h:H):cwp S tab f2_M m (sq Tryz.f4 21 2097150) k (zvw p41_ i42_ i43_ i44_ i45_ s46_ i47_) h=zeL S k p41_ i42_ i43_ i44_ i45_ s46_ i47_ h:=by kernel_rfl
theorem zJK:(sq Tryz.f4 21 2097151) = .seq (sq Tryz.f4 22 4194302) (sq Tryz.f4 22 4194303):=by kernel_rfl
theorem zJJ:(sq Tryz.f4 22 4194302) = .seq (sq Tryz.f4 23 8388604) (sq Tryz.f4 23 8388605):=by kernel_rfl
def zey (S:SatT) (K:KT):Kont:=kSeq (cwp S tab f2_M [] (sq Tryz.f4 22 4194303) (kFun tab (Tryz.f4).results.toList K)) (kFun tab (Tryz.f4).results.toList K)
def zuV (S:SatT) (K:KT):Kont:=kSeq (cwp S tab f2_M [] (sq Tryz.f4 23 8388605) (zey S K)) (zey S K)
def Wq (i42_ i43_:Int) (s46_:Sl) (b304_:Bool):Frame:=(uu 42 (.int .i64 i42_ :: .int .i64 i43_::U::U :: .sl s46_::uu 257 (.bool b304_::uu 20 [])))
def zeJ (S:SatT) (k:Kont) (i42_ i43_:Int) (i44_ i45_:Int) (s46_:Sl) (i47_:Int) (s48_:Sl) (i49_:Int) (h:H):Prop:=
 bif (i43_ != i45_) then
 k .normal (Wq i42_ i43_ s46_ true) h
 else
 bif (i42_ != i44_) then
 k .normal (Wq i42_ i43_ s46_ true) h
 else
 bif (i47_ != i49_) then
 k .normal (Wq i42_ i43_ s46_ true) h
 else
 callB S i_f9 [.sl s46_,.sl s48_] h fun b1 h0=>
 k .normal (Wq i42_ i43_ s46_ (!b1)) h0
theorem zeI (S:SatT) (k:Kont) (m:List Nat) (i42_ i43_:Int) (i44_ i45_:Int) (s46_:Sl) (i47_:Int) (s48_:Sl) (i49_:Int) (h:H):cwp S tab f2_M m (sq Tryz.f4 23 8388604) k (zvv i42_ i43_ i44_ i45_ s46_ i47_ s48_ i49_) h=zeJ S k i42_ i43_ i44_ i45_ s46_ i47_ s48_ i49_ h:=by kernel_rfl
theorem zJI:(sq Tryz.f4 23 8388605) = .cond (.tmp 304) (sq Tryz.f4 24 16777210) (sq Tryz.f4 24 16777211):=by kernel_rfl
theorem zJH:(sq Tryz.f4 24 16777210) = .seq (sq Tryz.f4 25 33554420) (sq Tryz.f4 25 33554421):=by kernel_rfl
def zKO (S:SatT) (K:KT):Kont:=kSeq (cwp S tab f2_M [] (sq Tryz.f4 25 33554421) (zey S K)) (zey S K)
def zMV (b2_:Bool):Frame:=(U::U :: .bool b2_::uu 322 [])
def zmg (S:SatT) (k:Kont) (i42_ i43_:Int) (s46_:Sl) (b304_:Bool) (h:H):Prop:=
 k .normal (zMV false) h
theorem zeH (S:SatT) (k:Kont) (m:List Nat) (i42_ i43_:Int) (s46_:Sl) (b304_:Bool) (h:H):cwp S tab f2_M m (sq Tryz.f4 25 33554420) k (Wq i42_ i43_ s46_ b304_) h=zmg S k i42_ i43_ s46_ b304_ h:=by kernel_rfl
theorem zJG:(sq Tryz.f4 24 16777211) = .skip:=by kernel_rfl
theorem zJF:(sq Tryz.f4 22 4194303) = .seq (sq Tryz.f4 23 8388606) (sq Tryz.f4 23 8388607):=by kernel_rfl
theorem zJE:(sq Tryz.f4 23 8388606) = .seq (sq Tryz.f4 24 16777212) (sq Tryz.f4 24 16777213):=by kernel_rfl
def Wp (S:SatT) (K:KT):Kont:=kSeq (cwp S tab f2_M [] (sq Tryz.f4 23 8388607) (kFun tab (Tryz.f4).results.toList K)) (kFun tab (Tryz.f4).results.toList K)
def zuU (S:SatT) (K:KT):Kont:=kSeq (cwp S tab f2_M [] (sq Tryz.f4 24 16777213) (Wp S K)) (Wp S K)
def zml (i42_:Int) (s46_:Sl) (b306_:Bool):Frame:=(uu 42 (.int .i64 i42_::U::U::U :: .sl s46_::uu 259 (.bool b306_::uu 18 [])))
def zeG (S:SatT) (k:Kont) (i42_ i43_:Int) (s46_:Sl) (b304_:Bool) (h:H):Prop:=
 k .normal (zml i42_ s46_ (i43_==(0))) h
theorem zeF (S:SatT) (k:Kont) (m:List Nat) (i42_ i43_:Int) (s46_:Sl) (b304_:Bool) (h:H):cwp S tab f2_M m (sq Tryz.f4 24 16777212) k (Wq i42_ i43_ s46_ b304_) h=zeG S k i42_ i43_ s46_ b304_ h:=by kernel_rfl
theorem zJD:(sq Tryz.f4 24 16777213) = .cond (.tmp 306) (sq Tryz.f4 25 33554426) (sq Tryz.f4 25 33554427):=by kernel_rfl
theorem zJC:(sq Tryz.f4 25 33554426) = .seq (sq Tryz.f4 26 67108852) (sq Tryz.f4 26 67108853):=by kernel_rfl
def zuT (S:SatT) (K:KT):Kont:=kSeq (cwp S tab f2_M [] (sq Tryz.f4 26 67108853) (Wp S K)) (Wp S K)
def zGW (i42_:Int) (s46_:Sl) (i50_:Int):Frame:=(uu 42 (.int .i64 i42_::U::U::U :: .sl s46_::U::U::U :: .int .i64 i50_::uu 274 []))
def zeE (S:SatT) (k:Kont) (i42_:Int) (s46_:Sl) (b306_:Bool) (h:H):Prop:=
 k .normal (zGW i42_ s46_ (1)) h
theorem zeD (S:SatT) (k:Kont) (m:List Nat) (i42_:Int) (s46_:Sl) (b306_:Bool) (h:H):cwp S tab f2_M m (sq Tryz.f4 26 67108852) k (zml i42_ s46_ b306_) h=zeE S k i42_ s46_ b306_ h:=by kernel_rfl
theorem zJB:(sq Tryz.f4 26 67108853) = .block 0 (sq Tryz.f4 27 134217706):=by kernel_rfl
theorem zJA:(sq Tryz.f4 27 134217706) = .loop (sq Tryz.f4 28 268435412):=by kernel_rfl
def zvL (i42_:Int) (s46_:Sl) (i50_:Int):Frame:=(uu 42 (.int .i64 i42_::U::U::U :: .sl s46_::U::U::U :: .int .i64 i50_::uu 274 []))
def zMI (S:SatT) (K:KT):(XT)→XT:=fun X fr h=>cwp S tab f2_M (f2_M 0) (sq Tryz.f4 28 268435412) (kSeq (fun fr h=>X (mask (f2_M 0) fr) h) (kBlk 0 (Wp S K))) fr h
def zNb (S:SatT) (K:KT) (i42_:Int) (s46_:Sl) (i50_:Int) (h:H):Prop:=zs (zMI S K) (zvL i42_ s46_ i50_) h
def zLi (S:SatT) (K:KT) (X0:XT) (i42_:Int) (s46_:Sl) (i50_:Int) (h:H):Prop:=
 bif (decide (i50_≤(3))) then
 ixS s46_ 1 (w64 (i50_-(1))) fun p0=>
 ldS p0 h fun s1=>
 ixS s1 1 (w64 (i50_-(1))) fun p2=>
 ldI .i64 p2 h fun n3=>
 bif ((n3==(1)) != (decide (i42_≥i50_))) then
 K (.bool false) h
 else
 X0 (zvL i42_ s46_ (w64 (i50_+(1)))) h
 else
 K (.bool true) h
theorem zDh (S:SatT) (K:KT) (X0:XT) (i42_:Int) (s46_:Sl) (i50_:Int) (h:H):zMI S K X0 (zvL i42_ s46_ i50_) h=zLi S K X0 i42_ s46_ i50_ h:=by kernel_rfl
theorem zDf (S:SatT) (K:KT) (i42_:Int) (s46_:Sl) (I_:Int→H→Prop) (m_:Int→H→Nat)
  (hs:∀(X0:XT) (i50_:Int) (h:H),I_ i50_ h→(∀(i50_':Int) (h':H),I_ i50_' h'→m_ i50_' h'<m_ i50_ h→X0 (zvL i42_ s46_ i50_') h')→zLi S K X0 i42_ s46_ i50_ h) (i50_:Int) {h:H} (h0:I_ i50_ h):zNb S K i42_ s46_ i50_ h:=
 zg (σ :=(Int)) (fun s_=>zvL i42_ s46_ (s_)) (fun s_ h=>I_ (s_) h) (fun s_ h=>m_ (s_) h)
  (fun X s_ h hi hx=>(zDh S K X i42_ s46_ (s_) h).mpr (hs X (s_) h hi fun i50_' h' hi' hm'=>hx (i50_') h' hi' hm')) (i50_) h0
def zuu (S:SatT) (K:KT) (i42_:Int) (s46_:Sl) (i50_:Int) (h:H):Prop:=
 zNb S K i42_ s46_ i50_ h
theorem zDl (S:SatT) (K:KT) (i42_:Int) (s46_:Sl) (i50_:Int) (h:H):(zuT S K) .normal (zGW i42_ s46_ i50_) h=zuu S K i42_ s46_ i50_ h:=by
 unfold zuu
 refine (zm _ _ _ _).trans ?_
 refine (YZ zJB).trans ?_
 refine (zlc zJA).trans ?_
 kernel_rfl
theorem zJz:(sq Tryz.f4 25 33554427) = .skip:=by kernel_rfl
theorem zJy:(sq Tryz.f4 23 8388607) = .seq (sq Tryz.f4 24 16777214) (sq Tryz.f4 24 16777215):=by kernel_rfl
def zuS (S:SatT) (K:KT):Kont:=kSeq (cwp S tab f2_M [] (sq Tryz.f4 24 16777215) (kFun tab (Tryz.f4).results.toList K)) (kFun tab (Tryz.f4).results.toList K)
def zGV (b2_:Bool):Frame:=(U::U :: .bool b2_::uu 322 [])
def zeC (S:SatT) (k:Kont) (i42_:Int) (s46_:Sl) (b306_:Bool) (h:H):Prop:=
 k .normal (zGV true) h
theorem zeB (S:SatT) (k:Kont) (m:List Nat) (i42_:Int) (s46_:Sl) (b306_:Bool) (h:H):cwp S tab f2_M m (sq Tryz.f4 24 16777214) k (zml i42_ s46_ b306_) h=zeC S k i42_ s46_ b306_ h:=by kernel_rfl
theorem zJx:(sq Tryz.f4 24 16777215) = .ret:=by kernel_rfl
def zut (S:SatT) (K:KT) (b2_:Bool) (h:H):Prop:=
 K (.bool b2_) h
theorem zDk (S:SatT) (K:KT) (b2_:Bool) (h:H):(zuS S K) .normal (zGV b2_) h=zut S K b2_ h:=by
 unfold zut
 refine (zm _ _ _ _).trans ?_
 refine (yu zJx).trans ?_
 kernel_rfl
def zuv (S:SatT) (K:KT) (i42_:Int) (s46_:Sl) (b306_:Bool) (h:H):Prop:=
 bif b306_ then
 zeE S (zuT S K) i42_ s46_ b306_ h
 else
 zeC S (zuS S K) i42_ s46_ b306_ h
theorem zDm (S:SatT) (K:KT) (i42_:Int) (s46_:Sl) (b306_:Bool) (h:H):(zuU S K) .normal (zml i42_ s46_ b306_) h=zuv S K i42_ s46_ b306_ h:=by
 unfold zuv
 refine (zm _ _ _ _).trans ?_
 refine (zD zJD (t:=b306_) rfl).trans (z8 ?_ ?_)
 ·refine (ze zJC).trans ?_
  exact zeD S _ _ i42_ s46_ b306_ h
 ·refine (zI zJz).trans ?_
  refine (zm _ _ _ _).trans ?_
  refine (ze zJy).trans ?_
  exact zeB S _ _ i42_ s46_ b306_ h
def zuw (S:SatT) (K:KT) (i42_ i43_:Int) (s46_:Sl) (b304_:Bool) (h:H):Prop:=
 bif b304_ then
 zmg S (zKO S K) i42_ i43_ s46_ b304_ h
 else
 zeG S (zuU S K) i42_ i43_ s46_ b304_ h
theorem zDn (S:SatT) (K:KT) (i42_ i43_:Int) (s46_:Sl) (b304_:Bool) (h:H):(zuV S K) .normal (Wq i42_ i43_ s46_ b304_) h=zuw S K i42_ i43_ s46_ b304_ h:=by
 unfold zuw
 refine (zm _ _ _ _).trans ?_
 refine (zD zJI (t:=b304_) rfl).trans (z8 ?_ ?_)
 ·refine (ze zJH).trans ?_
  exact zeH S _ _ i42_ i43_ s46_ b304_ h
 ·refine (zI zJG).trans ?_
  refine (zm _ _ _ _).trans ?_
  refine (ze zJF).trans ?_
  refine (ze zJE).trans ?_
  exact zeF S _ _ i42_ i43_ s46_ b304_ h
def zux (S:SatT) (K:KT) (i42_ i43_:Int) (i44_ i45_:Int) (s46_:Sl) (i47_:Int) (s48_:Sl) (i49_:Int) (h:H):Prop:=
 zeJ S (zuV S K) i42_ i43_ i44_ i45_ s46_ i47_ s48_ i49_ h
theorem zDo (S:SatT) (K:KT) (i42_ i43_:Int) (i44_ i45_:Int) (s46_:Sl) (i47_:Int) (s48_:Sl) (i49_:Int) (h:H):(zuW S K) .normal (zvv i42_ i43_ i44_ i45_ s46_ i47_ s48_ i49_) h=zux S K i42_ i43_ i44_ i45_ s46_ i47_ s48_ i49_ h:=by
 unfold zux
 refine (zm _ _ _ _).trans ?_
 refine (ze zJK).trans ?_
 refine (ze zJJ).trans ?_
 exact zeI S _ _ i42_ i43_ i44_ i45_ s46_ i47_ s48_ i49_ h
def zuy (S:SatT) (K:KT) (p41_:Pt) (i42_ i43_:Int) (i44_ i45_:Int) (s46_:Sl) (i47_:Int) (h:H):Prop:=
 zeL S (zuW S K) p41_ i42_ i43_ i44_ i45_ s46_ i47_ h
theorem zDp (S:SatT) (K:KT) (p41_:Pt) (i42_ i43_:Int) (i44_ i45_:Int) (s46_:Sl) (i47_:Int) (h:H):(zuX S K) .normal (zvw p41_ i42_ i43_ i44_ i45_ s46_ i47_) h=zuy S K p41_ i42_ i43_ i44_ i45_ s46_ i47_ h:=by
 unfold zuy
 refine (zm _ _ _ _).trans ?_
 refine (ze zJL).trans ?_
 exact zeK S _ _ p41_ i42_ i43_ i44_ i45_ s46_ i47_ h
def zuz (S:SatT) (K:KT) (p41_:Pt) (i42_ i43_:Int) (i44_ i45_:Int) (h:H):Prop:=
 zeN S (zuX S K) p41_ i42_ i43_ i44_ i45_ h
theorem zDq (S:SatT) (K:KT) (p41_:Pt) (i42_ i43_:Int) (i44_ i45_:Int) (h:H):(zuY S K) .normal (zvx p41_ i42_ i43_ i44_ i45_) h=zuz S K p41_ i42_ i43_ i44_ i45_ h:=by
 unfold zuz
 refine (zm _ _ _ _).trans ?_
 refine (ze zJM).trans ?_
 exact zeM S _ _ p41_ i42_ i43_ i44_ i45_ h
def zuA (S:SatT) (K:KT) (p41_:Pt) (i42_ i43_:Int) (h:H):Prop:=
 zeP S (zuY S K) p41_ i42_ i43_ h
theorem zDr (S:SatT) (K:KT) (p41_:Pt) (i42_ i43_:Int) (h:H):(zuZ S K) .normal (zvy p41_ i42_ i43_) h=zuA S K p41_ i42_ i43_ h:=by
 unfold zuA
 refine (zm _ _ _ _).trans ?_
 refine (ze zJN).trans ?_
 exact zeO S _ _ p41_ i42_ i43_ h
def zmc (S:SatT) (K:KT) (p41_:Pt) (h:H):Prop:=
 zeR S (zuZ S K) p41_ h
theorem zDs (S:SatT) (K:KT) (p41_:Pt) (h:H):(zjz S K) .normal (zmm p41_) h=zmc S K p41_ h:=by
 unfold zmc
 refine (zm _ _ _ _).trans ?_
 refine (ze zJO).trans ?_
 exact zeQ S _ _ p41_ h
def zuB (S:SatT) (K:KT) (s0_:Sl) (b263_:Bool) (h:H):Prop:=
 bif b263_ then
 zmh S (zKP S K) s0_ b263_ h
 else
 ZS S (zjz S K) s0_ b263_ h
theorem zDt (S:SatT) (K:KT) (s0_:Sl) (b263_:Bool) (h:H):(zva S K) .normal (ZU s0_ b263_) h=zuB S K s0_ b263_ h:=by
 unfold zuB
 refine (zm _ _ _ _).trans ?_
 refine (zD zJR (t:=b263_) rfl).trans (z8 ?_ ?_)
 ·refine (ze zJQ).trans ?_
  exact zeV S _ _ s0_ b263_ h
 ·refine (zI zJP).trans ?_
  refine (zm _ _ _ _).trans ?_
  refine (ze zur).trans ?_
  exact zeU S _ _ s0_ b263_ h
def zuC (S:SatT) (K:KT) (s0_:Sl) (i29_ i34_:Int) (i36_ i37_:Int) (i38_ i39_ i40_:Int) (h:H):Prop:=
 zeX S (zva S K) s0_ i29_ i34_ i36_ i37_ i38_ i39_ i40_ h
theorem zDu (S:SatT) (K:KT) (s0_:Sl) (i29_ i34_:Int) (i36_ i37_:Int) (i38_ i39_ i40_:Int) (h:H):(zvb S K) .normal (zvz s0_ i29_ i34_ i36_ i37_ i38_ i39_ i40_) h=zuC S K s0_ i29_ i34_ i36_ i37_ i38_ i39_ i40_ h:=by
 unfold zuC
 refine (zm _ _ _ _).trans ?_
 refine (ze zJS).trans ?_
 exact zeW S _ _ s0_ i29_ i34_ i36_ i37_ i38_ i39_ i40_ h
def zuD (S:SatT) (K:KT) (s0_:Sl) (i28_ i29_ i34_:Int) (p35_:Pt) (i36_ i37_ i38_:Int) (h:H):Prop:=
 zeZ S (zvb S K) s0_ i28_ i29_ i34_ p35_ i36_ i37_ i38_ h
theorem zDv (S:SatT) (K:KT) (s0_:Sl) (i28_ i29_ i34_:Int) (p35_:Pt) (i36_ i37_ i38_:Int) (h:H):(zvc S K) .normal (zvA s0_ i28_ i29_ i34_ p35_ i36_ i37_ i38_) h=zuD S K s0_ i28_ i29_ i34_ p35_ i36_ i37_ i38_ h:=by
 unfold zuD
 refine (zm _ _ _ _).trans ?_
 refine (ze zJT).trans ?_
 exact zeY S _ _ s0_ i28_ i29_ i34_ p35_ i36_ i37_ i38_ h
def zuE (S:SatT) (K:KT) (s0_:Sl) (i28_ i29_:Int) (p33_:Pt) (i34_:Int) (p35_:Pt) (i36_:Int) (h:H):Prop:=
 zfb S (zvc S K) s0_ i28_ i29_ p33_ i34_ p35_ i36_ h
theorem zDw (S:SatT) (K:KT) (s0_:Sl) (i28_ i29_:Int) (p33_:Pt) (i34_:Int) (p35_:Pt) (i36_:Int) (h:H):(zvd S K) .normal (zvB s0_ i28_ i29_ p33_ i34_ p35_ i36_) h=zuE S K s0_ i28_ i29_ p33_ i34_ p35_ i36_ h:=by
 unfold zuE
 refine (zm _ _ _ _).trans ?_
 refine (ze zJU).trans ?_
 exact zfa S _ _ s0_ i28_ i29_ p33_ i34_ p35_ i36_ h
def zuF (S:SatT) (K:KT) (s0_:Sl) (p27_:Pt) (i28_ i29_:Int) (p33_:Pt) (i34_:Int) (h:H):Prop:=
 zfd S (zvd S K) s0_ p27_ i28_ i29_ p33_ i34_ h
theorem zDx (S:SatT) (K:KT) (s0_:Sl) (p27_:Pt) (i28_ i29_:Int) (p33_:Pt) (i34_:Int) (h:H):(zve S K) .normal (zvC s0_ p27_ i28_ i29_ p33_ i34_) h=zuF S K s0_ p27_ i28_ i29_ p33_ i34_ h:=by
 unfold zuF
 refine (zm _ _ _ _).trans ?_
 refine (ze zJV).trans ?_
 exact zfc S _ _ s0_ p27_ i28_ i29_ p33_ i34_ h
theorem zJw:(sq Tryz.f4 18 262139) = .skip:=by kernel_rfl
def zKN (S:SatT) (K:KT):Kont:=kSeq (cwp S tab f2_M [] (sq Tryz.f4 17 131071) (kFun tab (Tryz.f4).results.toList K)) (kFun tab (Tryz.f4).results.toList K)
def zeT (S:SatT) (k:Kont) (s0_:Sl) (p27_:Pt) (i28_ i29_:Int) (b217_:Bool) (h:H):Prop:=
 callA S zBV [.sl s0_] h fun cs1 h0=>
 newO [.int .i64 (0),.sl Sl.nil] h0 fun p2 h3=>
 stN p2 2 cs1 h3 fun h4=>
 k .normal (zmm p2) h4
theorem zeS (S:SatT) (k:Kont) (m:List Nat) (s0_:Sl) (p27_:Pt) (i28_ i29_:Int) (b217_:Bool) (h:H):cwp S tab f2_M m (sq Tryz.f4 17 131070) k (zmn s0_ p27_ i28_ i29_ b217_) h=zeT S k s0_ p27_ i28_ i29_ b217_ h:=by kernel_rfl
def zuG (S:SatT) (K:KT) (s0_:Sl) (p27_:Pt) (i28_ i29_:Int) (b217_:Bool) (h:H):Prop:=
 bif b217_ then
 zff S (zve S K) s0_ p27_ i28_ i29_ b217_ h
 else
 zeT S (zKN S K) s0_ p27_ i28_ i29_ b217_ h
theorem zDy (S:SatT) (K:KT) (s0_:Sl) (p27_:Pt) (i28_ i29_:Int) (b217_:Bool) (h:H):(zvf S K) .normal (zmn s0_ p27_ i28_ i29_ b217_) h=zuG S K s0_ p27_ i28_ i29_ b217_ h:=by
 unfold zuG
 refine (zm _ _ _ _).trans ?_
 refine (zD zJX (t:=b217_) rfl).trans (z8 ?_ ?_)
 ·refine (ze zJW).trans ?_
  exact zfe S _ _ s0_ p27_ i28_ i29_ b217_ h
 ·refine (zI zJw).trans ?_
  refine (zm _ _ _ _).trans ?_
  refine (ze zur).trans ?_
  exact zeS S _ _ s0_ p27_ i28_ i29_ b217_ h
def zuH (S:SatT) (K:KT) (s0_:Sl) (p27_:Pt) (i28_ i29_ i30_:Int) (b215_:Bool) (h:H):Prop:=
 bif b215_ then
 zmi S (zKQ S K) s0_ p27_ i28_ i29_ i30_ b215_ h
 else
 zfh S (zvf S K) s0_ p27_ i28_ i29_ i30_ b215_ h
theorem zDz (S:SatT) (K:KT) (s0_:Sl) (p27_:Pt) (i28_ i29_ i30_:Int) (b215_:Bool) (h:H):(zvg S K) .normal (zic s0_ p27_ i28_ i29_ i30_ b215_) h=zuH S K s0_ p27_ i28_ i29_ i30_ b215_ h:=by
 unfold zuH
 refine (zm _ _ _ _).trans ?_
 refine (zD zKc (t:=b215_) rfl).trans (z8 ?_ ?_)
 ·refine (ze zKb).trans ?_
  exact zfi S _ _ s0_ p27_ i28_ i29_ i30_ b215_ h
 ·refine (zI zKa).trans ?_
  refine (zm _ _ _ _).trans ?_
  refine (ze zJZ).trans ?_
  refine (ze zJY).trans ?_
  exact zfg S _ _ s0_ p27_ i28_ i29_ i30_ b215_ h
def zuI (S:SatT) (K:KT) (s0_:Sl) (p27_:Pt) (i28_ i29_:Int) (i30_ i31_ i32_:Int) (h:H):Prop:=
 zfk S (zvg S K) s0_ p27_ i28_ i29_ i30_ i31_ i32_ h
theorem zDA (S:SatT) (K:KT) (s0_:Sl) (p27_:Pt) (i28_ i29_:Int) (i30_ i31_ i32_:Int) (h:H):(zvh S K) .normal (zvD s0_ p27_ i28_ i29_ i30_ i31_ i32_) h=zuI S K s0_ p27_ i28_ i29_ i30_ i31_ i32_ h:=by
 unfold zuI
 refine (zm _ _ _ _).trans ?_
 refine (ze zKe).trans ?_
 refine (ze zKd).trans ?_
 exact zfj S _ _ s0_ p27_ i28_ i29_ i30_ i31_ i32_ h
def zuJ (S:SatT) (K:KT) (s0_:Sl) (p27_:Pt) (i28_ i29_ i30_:Int) (h:H):Prop:=
 zfm S (zvh S K) s0_ p27_ i28_ i29_ i30_ h
theorem zDB (S:SatT) (K:KT) (s0_:Sl) (p27_:Pt) (i28_ i29_ i30_:Int) (h:H):(zvi S K) .normal (zvE s0_ p27_ i28_ i29_ i30_) h=zuJ S K s0_ p27_ i28_ i29_ i30_ h:=by
 unfold zuJ
 refine (zm _ _ _ _).trans ?_
 refine (ze zKf).trans ?_
 exact zfl S _ _ s0_ p27_ i28_ i29_ i30_ h
def zuK (S:SatT) (K:KT) (s0_:Sl) (p27_:Pt) (i28_:Int) (h:H):Prop:=
 zfo S (zvi S K) s0_ p27_ i28_ h
theorem zDC (S:SatT) (K:KT) (s0_:Sl) (p27_:Pt) (i28_:Int) (h:H):(zvj S K) .normal (zvF s0_ p27_ i28_) h=zuK S K s0_ p27_ i28_ h:=by
 unfold zuK
 refine (zm _ _ _ _).trans ?_
 refine (ze zKg).trans ?_
 exact zfn S _ _ s0_ p27_ i28_ h
def zmd (S:SatT) (K:KT) (s0_:Sl) (b190_:Bool) (h:H):Prop:=
 bif b190_ then
 zmj S (zKR S K) s0_ b190_ h
 else
 zfq S (zvj S K) s0_ b190_ h
theorem zDD (S:SatT) (K:KT) (s0_:Sl) (b190_:Bool) (h:H):(zvk S K) .normal (zid s0_ b190_) h=zmd S K s0_ b190_ h:=by
 unfold zmd
 refine (zm _ _ _ _).trans ?_
 refine (zD zKk (t:=b190_) rfl).trans (z8 ?_ ?_)
 ·refine (ze zKj).trans ?_
  exact zfr S _ _ s0_ b190_ h
 ·refine (zI zKi).trans ?_
  refine (zm _ _ _ _).trans ?_
  refine (ze zKh).trans ?_
  exact zfp S _ _ s0_ b190_ h
def zuL (S:SatT) (K:KT) (s0_ s23_:Sl) (i24_:Int) (s25_:Sl) (i26_:Int) (h:H):Prop:=
 zft S (zvk S K) s0_ s23_ i24_ s25_ i26_ h
theorem zDE (S:SatT) (K:KT) (s0_ s23_:Sl) (i24_:Int) (s25_:Sl) (i26_:Int) (h:H):(zvl S K) .normal (zvG s0_ s23_ i24_ s25_ i26_) h=zuL S K s0_ s23_ i24_ s25_ i26_ h:=by
 unfold zuL
 refine (zm _ _ _ _).trans ?_
 refine (ze zKm).trans ?_
 refine (ze zKl).trans ?_
 exact zfs S _ _ s0_ s23_ i24_ s25_ i26_ h
def zuM (S:SatT) (K:KT) (s0_:Sl) (p18_:Pt) (s19_ s20_:Sl) (i21_ i22_:Int) (s23_:Sl) (i24_:Int) (h:H):Prop:=
 zfv S (zvl S K) s0_ p18_ s19_ s20_ i21_ i22_ s23_ i24_ h
theorem zDF (S:SatT) (K:KT) (s0_:Sl) (p18_:Pt) (s19_ s20_:Sl) (i21_ i22_:Int) (s23_:Sl) (i24_:Int) (h:H):(zvm S K) .normal (zvH s0_ p18_ s19_ s20_ i21_ i22_ s23_ i24_) h=zuM S K s0_ p18_ s19_ s20_ i21_ i22_ s23_ i24_ h:=by
 unfold zuM
 refine (zm _ _ _ _).trans ?_
 refine (ze zKn).trans ?_
 exact zfu S _ _ s0_ p18_ s19_ s20_ i21_ i22_ s23_ i24_ h
def zuN (S:SatT) (K:KT) (s0_:Sl) (p18_:Pt) (s19_ s20_:Sl) (i21_ i22_:Int) (h:H):Prop:=
 zfx S (zvm S K) s0_ p18_ s19_ s20_ i21_ i22_ h
theorem zDG (S:SatT) (K:KT) (s0_:Sl) (p18_:Pt) (s19_ s20_:Sl) (i21_ i22_:Int) (h:H):(zjA S K) .normal (zmo s0_ p18_ s19_ s20_ i21_ i22_) h=zuN S K s0_ p18_ s19_ s20_ i21_ i22_ h:=by
 unfold zuN
 refine (zm _ _ _ _).trans ?_
 refine (ze zKo).trans ?_
 exact zfw S _ _ s0_ p18_ s19_ s20_ i21_ i22_ h
def zuO (S:SatT) (K:KT) (s0_:Sl) (b155_:Bool) (h:H):Prop:=
 bif b155_ then
 zmk S (zKS S K) s0_ b155_ h
 else
 ZT S (zjA S K) s0_ b155_ h
theorem zDH (S:SatT) (K:KT) (s0_:Sl) (b155_:Bool) (h:H):(zvn S K) .normal (qW s0_ b155_) h=zuO S K s0_ b155_ h:=by
 unfold zuO
 refine (zm _ _ _ _).trans ?_
 refine (zD zKr (t:=b155_) rfl).trans (z8 ?_ ?_)
 ·refine (ze zKq).trans ?_
  exact zfB S _ _ s0_ b155_ h
 ·refine (zI zKp).trans ?_
  refine (zm _ _ _ _).trans ?_
  refine (ze zus).trans ?_
  exact zfA S _ _ s0_ b155_ h
def zuP (S:SatT) (K:KT) (s0_ s6_ s10_:Sl) (i11_:Int) (s12_:Sl) (i13_ i14_:Int) (i15_ i16_ i17_:Int) (h:H):Prop:=
 zfD S (zvn S K) s0_ s6_ s10_ i11_ s12_ i13_ i14_ i15_ i16_ i17_ h
theorem zDI (S:SatT) (K:KT) (s0_ s6_ s10_:Sl) (i11_:Int) (s12_:Sl) (i13_ i14_:Int) (i15_ i16_ i17_:Int) (h:H):(zvo S K) .normal (zvI s0_ s6_ s10_ i11_ s12_ i13_ i14_ i15_ i16_ i17_) h=zuP S K s0_ s6_ s10_ i11_ s12_ i13_ i14_ i15_ i16_ i17_ h:=by
 unfold zuP
 refine (zm _ _ _ _).trans ?_
 refine (ze zKs).trans ?_
 exact zfC S _ _ s0_ s6_ s10_ i11_ s12_ i13_ i14_ i15_ i16_ i17_ h
def zuQ (S:SatT) (K:KT) (s0_:Sl) (p3_:Pt) (s4_ s5_:Sl) (s6_ s10_:Sl) (i11_:Int) (s12_:Sl) (i13_ i14_ i15_:Int) (h:H):Prop:=
 zfF S (zvo S K) s0_ p3_ s4_ s5_ s6_ s10_ i11_ s12_ i13_ i14_ i15_ h
theorem zDJ (S:SatT) (K:KT) (s0_:Sl) (p3_:Pt) (s4_ s5_:Sl) (s6_ s10_:Sl) (i11_:Int) (s12_:Sl) (i13_ i14_ i15_:Int) (h:H):(zvp S K) .normal (zvJ s0_ p3_ s4_ s5_ s6_ s10_ i11_ s12_ i13_ i14_ i15_) h=zuQ S K s0_ p3_ s4_ s5_ s6_ s10_ i11_ s12_ i13_ i14_ i15_ h:=by
 unfold zuQ
 refine (zm _ _ _ _).trans ?_
 refine (ze zKt).trans ?_
 exact zfE S _ _ s0_ p3_ s4_ s5_ s6_ s10_ i11_ s12_ i13_ i14_ i15_ h
def zuR (S:SatT) (K:KT) (s0_:Sl) (p3_:Pt) (s4_ s5_:Sl) (s6_ s10_:Sl) (i11_:Int) (s12_:Sl) (i13_:Int) (h:H):Prop:=
 zfH S (zvp S K) s0_ p3_ s4_ s5_ s6_ s10_ i11_ s12_ i13_ h
theorem zDK (S:SatT) (K:KT) (s0_:Sl) (p3_:Pt) (s4_ s5_:Sl) (s6_ s10_:Sl) (i11_:Int) (s12_:Sl) (i13_:Int) (h:H):(zvq S K) .normal (zvK s0_ p3_ s4_ s5_ s6_ s10_ i11_ s12_ i13_) h=zuR S K s0_ p3_ s4_ s5_ s6_ s10_ i11_ s12_ i13_ h:=by
 unfold zuR
 refine (zm _ _ _ _).trans ?_
 refine (ze zKu).trans ?_
 exact zfG S _ _ s0_ p3_ s4_ s5_ s6_ s10_ i11_ s12_ i13_ h
def zKF (S:SatT) (K:KT) (s0_:Sl) (p3_:Pt) (s4_ s5_:Sl) (s6_ s10_:Sl) (i11_:Int) (h:H):Prop:=
 zfJ S (zvq S K) s0_ p3_ s4_ s5_ s6_ s10_ i11_ h
theorem zKY (S:SatT) (K:KT) (s0_:Sl) (p3_:Pt) (s4_ s5_:Sl) (s6_ s10_:Sl) (i11_:Int) (h:H):(zvr S K) .normal (zKT s0_ p3_ s4_ s5_ s6_ s10_ i11_) h=zKF S K s0_ p3_ s4_ s5_ s6_ s10_ i11_ h:=by
 unfold zKF
 refine (zm _ _ _ _).trans ?_
 refine (ze zKv).trans ?_
 exact zfI S _ _ s0_ p3_ s4_ s5_ s6_ s10_ i11_ h
theorem zJv:(sq Tryz.f4 9 507) = .skip:=by kernel_rfl
def zKM (S:SatT) (K:KT):Kont:=kSeq (cwp S tab f2_M [] (sq Tryz.f4 8 255) (kFun tab (Tryz.f4).results.toList K)) (kFun tab (Tryz.f4).results.toList K)
def zfz (S:SatT) (k:Kont) (s0_:Sl) (p3_:Pt) (s4_ s5_ s6_:Sl) (b83_:Bool) (h:H):Prop:=
 callV S zBX [.sl s0_] h fun v1 h0=>
 viaT v1 fun vs2=>
 exA vs2 0 fun cs3=>
 viaT v1 fun vs4=>
 exS vs4 1 fun s5=>
 viaT v1 fun vs6=>
 exS vs6 2 fun s7=>
 viaT v1 fun vs8=>
 exI .i64 vs8 3 fun n9=>
 viaT v1 fun vs10=>
 exI .i64 vs10 4 fun n11=>
 newO [.int .i64 (0),.sl Sl.nil] h0 fun p12 h13=>
 stN p12 2 cs3 h13 fun h14=>
 k .normal (zmo s0_ p12 s5 s7 n9 n11) h14
theorem zfy (S:SatT) (k:Kont) (m:List Nat) (s0_:Sl) (p3_:Pt) (s4_ s5_ s6_:Sl) (b83_:Bool) (h:H):cwp S tab f2_M m (sq Tryz.f4 8 254) k (zDi s0_ p3_ s4_ s5_ s6_ b83_) h=zfz S k s0_ p3_ s4_ s5_ s6_ b83_ h:=by kernel_rfl
def zDg (S:SatT) (K:KT) (s0_:Sl) (p3_:Pt) (s4_ s5_ s6_:Sl) (b83_:Bool) (h:H):Prop:=
 bif b83_ then
 zjB S (zvr S K) s0_ p3_ s4_ s5_ s6_ b83_ h
 else
 zfz S (zKM S K) s0_ p3_ s4_ s5_ s6_ b83_ h
theorem zKZ (S:SatT) (K:KT) (s0_:Sl) (p3_:Pt) (s4_ s5_ s6_:Sl) (b83_:Bool) (h:H):(zvs S K) .normal (zDi s0_ p3_ s4_ s5_ s6_ b83_) h=zDg S K s0_ p3_ s4_ s5_ s6_ b83_ h:=by
 unfold zDg
 refine (zm _ _ _ _).trans ?_
 refine (zD zKx (t:=b83_) rfl).trans (z8 ?_ ?_)
 ·refine (ze zKw).trans ?_
  exact zhS S _ _ s0_ p3_ s4_ s5_ s6_ b83_ h
 ·refine (zI zJv).trans ?_
  refine (zm _ _ _ _).trans ?_
  refine (ze zus).trans ?_
  exact zfy S _ _ s0_ p3_ s4_ s5_ s6_ b83_ h
def zKG (S:SatT) (K:KT) (s0_:Sl) (p3_:Pt) (s4_ s5_ s6_:Sl) (i7_:Int) (b81_:Bool) (h:H):Prop:=
 bif b81_ then
 zvt S (zMU S K) s0_ p3_ s4_ s5_ s6_ i7_ b81_ h
 else
 zjC S (zvs S K) s0_ p3_ s4_ s5_ s6_ i7_ b81_ h
theorem zLa (S:SatT) (K:KT) (s0_:Sl) (p3_:Pt) (s4_ s5_ s6_:Sl) (i7_:Int) (b81_:Bool) (h:H):(zGO S K) .normal (zvu s0_ p3_ s4_ s5_ s6_ i7_ b81_) h=zKG S K s0_ p3_ s4_ s5_ s6_ i7_ b81_ h:=by
 unfold zKG
 refine (zm _ _ _ _).trans ?_
 refine (zD zKC (t:=b81_) rfl).trans (z8 ?_ ?_)
 ·refine (ze zKB).trans ?_
  exact zhU S _ _ s0_ p3_ s4_ s5_ s6_ i7_ b81_ h
 ·refine (zI zKA).trans ?_
  refine (zm _ _ _ _).trans ?_
  refine (ze zKz).trans ?_
  refine (ze zKy).trans ?_
  exact zhT S _ _ s0_ p3_ s4_ s5_ s6_ i7_ b81_ h
def zKH (S:SatT) (K:KT) (s0_:Sl) (p3_:Pt) (s4_ s5_ s6_:Sl) (i7_:Int) (s8_:Sl) (i9_:Int) (h:H):Prop:=
 zjD S (zGO S K) s0_ p3_ s4_ s5_ s6_ i7_ s8_ i9_ h
theorem zLb (S:SatT) (K:KT) (s0_:Sl) (p3_:Pt) (s4_ s5_ s6_:Sl) (i7_:Int) (s8_:Sl) (i9_:Int) (h:H):(zGP S K) .normal (zKU s0_ p3_ s4_ s5_ s6_ i7_ s8_ i9_) h=zKH S K s0_ p3_ s4_ s5_ s6_ i7_ s8_ i9_ h:=by
 unfold zKH
 refine (zm _ _ _ _).trans ?_
 refine (ze zKE).trans ?_
 refine (ze zKD).trans ?_
 exact zhV S _ _ s0_ p3_ s4_ s5_ s6_ i7_ s8_ i9_ h
def zKI (S:SatT) (K:KT) (s0_:Sl) (p3_:Pt) (s4_ s5_ s6_:Sl) (i7_:Int) (h:H):Prop:=
 zjE S (zGP S K) s0_ p3_ s4_ s5_ s6_ i7_ h
theorem zLc (S:SatT) (K:KT) (s0_:Sl) (p3_:Pt) (s4_ s5_ s6_:Sl) (i7_:Int) (h:H):(zGQ S K) .normal (zKV s0_ p3_ s4_ s5_ s6_ i7_) h=zKI S K s0_ p3_ s4_ s5_ s6_ i7_ h:=by
 unfold zKI
 refine (zm _ _ _ _).trans ?_
 refine (ze zMJ).trans ?_
 exact zhW S _ _ s0_ p3_ s4_ s5_ s6_ i7_ h
def zKJ (S:SatT) (K:KT) (s0_:Sl) (p3_:Pt) (s4_ s5_:Sl) (h:H):Prop:=
 zjF S (zGQ S K) s0_ p3_ s4_ s5_ h
theorem zLd (S:SatT) (K:KT) (s0_:Sl) (p3_:Pt) (s4_ s5_:Sl) (h:H):(zGR S K) .normal (zKW s0_ p3_ s4_ s5_) h=zKJ S K s0_ p3_ s4_ s5_ h:=by
 unfold zKJ
 refine (zm _ _ _ _).trans ?_
 refine (ze zMK).trans ?_
 exact zhX S _ _ s0_ p3_ s4_ s5_ h
def zKK (S:SatT) (K:KT) (s0_:Sl) (b52_:Bool) (h:H):Prop:=
 bif b52_ then
 zjH S (zGS S K) s0_ b52_ h
 else
 zjG S (zGR S K) s0_ b52_ h
theorem zLf (S:SatT) (K:KT) (s0_:Sl) (b52_:Bool) (h:H):(zGT S K) .normal (zDj s0_ b52_) h=zKK S K s0_ b52_ h:=by
 unfold zKK
 refine (zm _ _ _ _).trans ?_
 refine (zD zMP (t:=b52_) rfl).trans (z8 ?_ ?_)
 ·refine (ze zMO).trans ?_
  exact zhZ S _ _ s0_ b52_ h
 ·refine (zI zMM).trans ?_
  refine (zm _ _ _ _).trans ?_
  refine (ze zML).trans ?_
  exact zhY S _ _ s0_ b52_ h
def zKL (S:SatT) (K:KT) (s0_:Sl) (h:H):Prop:=
 zjI S (zGT S K) s0_ h
theorem zLg (S:SatT) (K:KT) (s0_:Sl) (h:H):(zGU S K) .normal (zKX s0_) h=zKL S K s0_ h:=by
 unfold zKL
 refine (zm _ _ _ _).trans ?_
 refine (ze zMR).trans ?_
 refine (ze zMQ).trans ?_
 exact zia S _ _ s0_ h
def zex (S:SatT) (K:KT) (x0:Sl) (h:H):Prop:=
 zjJ S (zGU S K) x0 h
theorem zhR (S:SatT) (K:KT) (x0:Sl) (h:H):cwp S tab f2_M [] (za Tryz.f4) (kFun tab Tryz.f4.results.toList K) (fr0 Tryz.f4 [.sl x0]) h=zex S K x0 h:=by
 unfold zex
 refine (ze zMS).trans ?_
 exact zib S _ _ x0 h
theorem zLh (x0:Sl) (h:H) (K:Bool→H→Prop) (hm:zex (Sat Tryz.prog) (fun v h'=>∃r,v = .bool r∧K r h') x0 h):callB (Sat Tryz.prog) i_f2 [.sl x0] h K:=by
 have:=Sat.ex tok mixed f2_M Tryz.func4 (c:=za Tryz.f4) (by kernel_rfl) (zd Tryz.func4 (c:=za Tryz.f4) (by kernel_rfl) (by decide)) ((zhR _ _ x0 h).mpr hm)
 obtain ⟨v,h2,h3,r,rfl,h4⟩:=this;exact ⟨r,h2,h3,h4⟩
end Go.Proofs.YtlcgclmobfdbcaaGreat.Cl
set_option linter.unusedVariables false
namespace Go.Proofs.YtlcgclmobfdbcaaGreat.Cl
open Go
def wz:Nat→List Nat:=fun i=>bif i==4 then [0,3,8,9,15,16] else bif i==2 then [0,3,6,7,8,9,12] else bif i==0 then [0,3,6,7,8,9,10] else []
def zEm (S:SatT) (K:KT):Kont:=kSeq (cwp S tab wz [] (sq Tryz.f123 5 31) (kFun tab (Tryz.f123).results.toList K)) (kFun tab (Tryz.f123).results.toList K)
def Qb (p0_ p3_:Pt) (i6_ i7_:Int) (s8_ s9_:Sl) (i10_:Int):Frame:=(.ptr p0_::U::U :: .ptr p3_::U::U :: .int .i64 i6_ :: .int .i64 i7_ :: .sl s8_ :: .sl s9_ :: .int .i64 i10_::uu 187 [])
def zzD (S:SatT) (K:KT):(XT)→XT:=fun X fr h=>cwp S tab wz (wz 0) (sq Tryz.f123 10 980) (kSeq (fun fr h=>X (mask (wz 0) fr) h) (kBlk 0 (zEm S K))) fr h
def zzJ (S:SatT) (K:KT) (p0_ p3_:Pt) (i6_ i7_:Int) (s8_ s9_:Sl) (i10_:Int) (h:H):Prop:=zs (zzD S K) (Qb p0_ p3_ i6_ i7_ s8_ s9_ i10_) h
def zzF (S:SatT) (K:KT):Kont:=kSeq (cwp S tab wz [] (sq Tryz.f123 6 63) (kFun tab (Tryz.f123).results.toList K)) (kFun tab (Tryz.f123).results.toList K)
def Qa (p0_ p3_:Pt) (i6_ i7_:Int) (s8_ s9_:Sl) (i12_:Int):Frame:=(.ptr p0_::U::U :: .ptr p3_::U::U :: .int .i64 i6_ :: .int .i64 i7_ :: .sl s8_ :: .sl s9_::U::U :: .int .i64 i12_::uu 185 [])
def zzC (S:SatT) (K:KT):(XT)→XT:=fun X fr h=>cwp S tab wz (wz 2) (sq Tryz.f123 9 500) (kSeq (fun fr h=>X (mask (wz 2) fr) h) (kBlk 2 (zzF S K))) fr h
def zzI (S:SatT) (K:KT) (p0_ p3_:Pt) (i6_ i7_:Int) (s8_ s9_:Sl) (i12_:Int) (h:H):Prop:=zs (zzC S K) (Qa p0_ p3_ i6_ i7_ s8_ s9_ i12_) h
def qG (S:SatT) (K:KT) (X2:XT) (p0_ p3_:Pt) (i6_ i7_:Int) (s8_ s9_:Sl) (i12_:Int) (h:H):Prop:=
 X2 (Qa p0_ p3_ i6_ i7_ s8_ s9_ (w64 (i12_+(1)))) h
def qF (S:SatT) (K:KT) (X2:XT) (p0_ p3_:Pt) (i6_ i7_:Int) (s8_ s9_:Sl) (i12_ i13_:Int) (h:H):Prop:=
 ldA p3_ 2 h fun cs0=>
 callS S zrF [.ptr p0_,.agg cs0,.int .i64 i13_] h fun s2 h1=>
 ixS s9_ 1 i12_ fun p3=>
 st1 p3 (.sl s2) h1 fun h4=>
 qG S K X2 p0_ p3_ i6_ i7_ s8_ s9_ i12_ h4
def zzE (S:SatT) (K:KT):Kont:=kSeq (cwp S tab wz [] (sq Tryz.f123 7 127) (kFun tab (Tryz.f123).results.toList K)) (kFun tab (Tryz.f123).results.toList K)
def V9 (p0_ p3_:Pt) (s8_ s9_ s15_:Sl) (i16_:Int):Frame:=(.ptr p0_::U::U :: .ptr p3_::uu 4 (.sl s8_ :: .sl s9_::uu 5 (.sl s15_ :: .int .i64 i16_::uu 181 [])))
def zzB (S:SatT) (K:KT):(XT)→XT:=fun X fr h=>cwp S tab wz (wz 4) (sq Tryz.f123 18 259516) (kSeq (fun fr h=>X (mask (wz 4) fr) h) (kBlk 4 (zzE S K))) fr h
def zzH (S:SatT) (K:KT) (p0_ p3_:Pt) (s8_ s9_ s15_:Sl) (i16_:Int) (h:H):Prop:=zs (zzB S K) (V9 p0_ p3_ s8_ s9_ s15_ i16_) h
def YJ (S:SatT) (K:KT) (X4:XT) (p0_ p3_:Pt) (s8_ s9_ s15_:Sl) (i16_:Int) (h:H):Prop:=
 X4 (V9 p0_ p3_ s8_ s9_ s15_ (w64 (i16_+(1)))) h
def xw (S:SatT) (K:KT) (s8_ s9_:Sl) (h:H):Prop:=
 K (.tuple [.sl s8_,.sl s9_]) h
def xN (S:SatT) (K:KT) (p0_ p3_:Pt) (s8_ s9_:Sl) (h:H):Prop:=
 callI S .i64 zZ [.ptr p0_,.int .i64 (24)] h fun n1 h0=>
 bif (n1==(0)) then
 newS 0 1 [] h0 fun s2 h3=>
 newS 1 1 [.sl s2] h3 fun s4 h5=>
 app s9_ s4 1 h5 fun s6 h7=>
 xw S K s8_ s6 h7
 else
 bif (n1==(1)) then
 vp 11 h0 fun h8=>
 callI S .i64 zZ [.ptr p0_,.int .i64 (4)] h8 fun n10 h9=>
 isPt p3_ (
 ldI .i64 (Pt.add p3_ 0) h9 fun n11=>
(cell h8 (Pt.add p3_ 0)=cell h9 (Pt.add p3_ 0))∧(
 vj 3 1 [.int .i64 (-1),.int .i64 n11,.int .i64 (0)] h9 (h0.length+6) fun s12 h13=>
 callI S .i64 Zi [.ptr p0_,.sl s12] h13 fun n15 h14=>
 vj 1 1 [.int .i64 n15] h14 (h0.length+8) fun s16 h17=>
 ixS s9_ 1 n10 fun p18=>
 st1 p18 (.sl s16) h17 fun h19=>
 xw S K s8_ s9_ h19))
 else
 bif (n1==(2)) then
 ixS s8_ 1 (0) fun p20=>
 ldS p20 h0 fun s21=>
 isPt p3_ (
 ldS (Pt.add p3_ 1) h0 fun s22=>
 newS 2 1 [.int .i64 (-2),.int .i64 (s22.len:Int)] h0 fun s23 h24=>
 callI S .i64 Zi [.ptr p0_,.sl s23] h24 fun n26 h25=>
 ixS s21 1 (0) fun p27=>
 st1 p27 (.int .i64 n26) h25 fun h28=>
 xw S K s8_ s9_ h28)
 else
 bif (n1==(3)) then
 newS 0 1 [] h0 fun s29 h30=>
 newS 1 1 [.sl s29] h30 fun s31 h32=>
 app s8_ s31 1 h32 fun s33 h34=>
 xw S K s33 s9_ h34
 else
 xw S K s8_ s9_ h0
def zkL (S:SatT) (K:KT) (X4:XT) (p0_ p3_:Pt) (s8_ s9_ s15_:Sl) (i16_:Int) (h:H):Prop:=
 bif (decide (i16_<(4))) then
 callI S .i64 zZ [.ptr p0_,.int .i64 (3)] h fun n1 h0=>
 bif (decide (n1>(0))) then
 ixS s15_ 1 i16_ fun p2=>
 ldS p2 h0 fun s3=>
 ixS s9_ 1 i16_ fun p4=>
 st1 p4 (.sl s3) h0 fun h5=>
 YJ S K X4 p0_ p3_ s8_ s9_ s15_ i16_ h5
 else
 YJ S K X4 p0_ p3_ s8_ s9_ s15_ i16_ h0
 else
 xN S K p0_ p3_ s8_ s9_ h
theorem zpA (S:SatT) (K:KT) (X4:XT) (p0_ p3_:Pt) (s8_ s9_ s15_:Sl) (i16_:Int) (h:H):zzB S K X4 (V9 p0_ p3_ s8_ s9_ s15_ i16_) h=zkL S K X4 p0_ p3_ s8_ s9_ s15_ i16_ h:=by kernel_rfl
theorem zpx (S:SatT) (K:KT) (p0_ p3_:Pt) (s8_ s9_ s15_:Sl) (I_:Int→H→Prop) (m_:Int→H→Nat)
  (hs:∀(X4:XT) (i16_:Int) (h:H),I_ i16_ h→(∀(i16_':Int) (h':H),I_ i16_' h'→m_ i16_' h'<m_ i16_ h→X4 (V9 p0_ p3_ s8_ s9_ s15_ i16_') h')→zkL S K X4 p0_ p3_ s8_ s9_ s15_ i16_ h) (i16_:Int) {h:H} (h0:I_ i16_ h):zzH S K p0_ p3_ s8_ s9_ s15_ i16_ h:=
 zg (σ :=(Int)) (fun s_=>V9 p0_ p3_ s8_ s9_ s15_ (s_)) (fun s_ h=>I_ (s_) h) (fun s_ h=>m_ (s_) h)
  (fun X s_ h hi hx=>(zpA S K X p0_ p3_ s8_ s9_ s15_ (s_) h).mpr (hs X (s_) h hi fun i16_' h' hi' hm'=>hx (i16_') h' hi' hm')) (i16_) h0
def yI (S:SatT) (K:KT) (p0_ p3_:Pt) (s8_ s9_ s14_:Sl) (b131_:Bool) (h:H):Prop:=
 bif b131_ then
 ldA p3_ 2 h fun cs0=>
 callS S zrE [.agg cs0,.sl s14_] h fun s2 h1=>
 ixS s14_ 1 (0) fun p3=>
 ldS p3 h1 fun s4=>
 callS S zhk [.int .i64 (s14_.len:Int),.int .i64 (s4.len:Int)] h1 fun s6 h5=>
 callS S zhj [] h5 fun s8 h7=>
 zzH S K p0_ p3_ s6 s8 s2 (0) h7
 else
 xN S K p0_ p3_ s8_ s9_ h
def qE (S:SatT) (K:KT) (p0_ p3_:Pt) (s8_ s9_:Sl) (b95_:Bool) (h:H):Prop:=
 bif b95_ then
 ldA p3_ 2 h fun cs0=>
 callS S zrU [.ptr p0_,.agg cs0] h fun s2 h1=>
 ldA p3_ 2 h1 fun cs3=>
 callI S .i64 zIK [.agg cs3,.sl s2] h1 fun n5 h4=>
 bif (n5==(0)) then
 ldA p3_ 2 h4 fun cs6=>
 callB S zIJ [.agg cs6,.sl s2] h4 fun b8 h7=>
 bif b8 then
 bif (decide ((s2.len:Int)≤(4))) then
 ixS s2 1 (0) fun p9=>
 ldS p9 h7 fun s10=>
 bif (decide ((s10.len:Int)≤(4))) then
 isPt p3_ (
 ldI .i64 (Pt.add p3_ 0) h7 fun n11=>
 bif (decide (n11<(5))) then
 yI S K p0_ p3_ s8_ s9_ s2 true h7
 else
 ixS s2 1 (0) fun p12=>
 ldS p12 h7 fun s13=>
 yI S K p0_ p3_ s8_ s9_ s2 (decide ((s13.len:Int)<(4))) h7)
 else
 yI S K p0_ p3_ s8_ s9_ s2 false h7
 else
 yI S K p0_ p3_ s8_ s9_ s2 false h7
 else
 yI S K p0_ p3_ s8_ s9_ s2 false h7
 else
 yI S K p0_ p3_ s8_ s9_ s2 false h4
 else
 xN S K p0_ p3_ s8_ s9_ h
def YK (S:SatT) (K:KT) (p0_ p3_:Pt) (s8_ s9_:Sl) (h:H):Prop:=
 isPt p3_ (
 ldS (Pt.add p3_ 1) h fun s0=>
 bif (decide ((s0.len:Int)>(0))) then
 callI S .i64 zZ [.ptr p0_,.int .i64 (3)] h fun n2 h1=>
 qE S K p0_ p3_ s8_ s9_ (n2==(0)) h1
 else
 qE S K p0_ p3_ s8_ s9_ false h)
def zkM (S:SatT) (K:KT) (X2:XT) (p0_ p3_:Pt) (i6_ i7_:Int) (s8_ s9_:Sl) (i12_:Int) (h:H):Prop:=
 bif (decide (i12_<(4))) then
 callI S .i64 zZ [.ptr p0_,.int .i64 (3)] h fun n1 h0=>
 bif (n1==(0)) then
 nz (2) (
 bif ((Int.tmod i12_ (2))==(1)) then
 qF S K X2 p0_ p3_ i6_ i7_ s8_ s9_ i12_ i7_ h0
 else
 qF S K X2 p0_ p3_ i6_ i7_ s8_ s9_ i12_ i6_ h0)
 else
 qG S K X2 p0_ p3_ i6_ i7_ s8_ s9_ i12_ h0
 else
 YK S K p0_ p3_ s8_ s9_ h
theorem zpB (S:SatT) (K:KT) (X2:XT) (p0_ p3_:Pt) (i6_ i7_:Int) (s8_ s9_:Sl) (i12_:Int) (h:H):zzC S K X2 (Qa p0_ p3_ i6_ i7_ s8_ s9_ i12_) h=zkM S K X2 p0_ p3_ i6_ i7_ s8_ s9_ i12_ h:=by kernel_rfl
theorem zpy (S:SatT) (K:KT) (p0_ p3_:Pt) (i6_ i7_:Int) (s8_ s9_:Sl) (I_:Int→H→Prop) (m_:Int→H→Nat)
  (hs:∀(X2:XT) (i12_:Int) (h:H),I_ i12_ h→(∀(i12_':Int) (h':H),I_ i12_' h'→m_ i12_' h'<m_ i12_ h→X2 (Qa p0_ p3_ i6_ i7_ s8_ s9_ i12_') h')→zkM S K X2 p0_ p3_ i6_ i7_ s8_ s9_ i12_ h) (i12_:Int) {h:H} (h0:I_ i12_ h):zzI S K p0_ p3_ i6_ i7_ s8_ s9_ i12_ h:=
 zg (σ :=(Int)) (fun s_=>Qa p0_ p3_ i6_ i7_ s8_ s9_ (s_)) (fun s_ h=>I_ (s_) h) (fun s_ h=>m_ (s_) h)
  (fun X s_ h hi hx=>(zpB S K X p0_ p3_ i6_ i7_ s8_ s9_ (s_) h).mpr (hs X (s_) h hi fun i12_' h' hi' hm'=>hx (i12_') h' hi' hm')) (i12_) h0
def qI (S:SatT) (K:KT) (p0_ p3_:Pt) (i6_ i7_:Int) (s8_ s9_:Sl) (h:H):Prop:=
 zzI S K p0_ p3_ i6_ i7_ s8_ s9_ (0) h
def zkN (S:SatT) (K:KT) (X0:XT) (p0_ p3_:Pt) (i6_ i7_:Int) (s8_ s9_:Sl) (i10_:Int) (h:H):Prop:=
 bif (decide (i10_>(0))) then
 callI S .i64 zZ [.ptr p0_,.int .i64 i6_] h fun n1 h0=>
 ixS s8_ 1 n1 fun p2=>
 ldS p2 h0 fun s3=>
 callI S .i64 zZ [.ptr p0_,.int .i64 i7_] h0 fun n5 h4=>
 isPt p3_ (
 ldS (Pt.add p3_ 1) h4 fun s6=>
(cell h0 (Pt.add p3_ 1)=cell h4 (Pt.add p3_ 1))∧(
 callI S .i64 zZ [.ptr p0_,.int .i64 (s6.len:Int)] h4 fun n8 h7=>
 ixS s3 1 n5 fun p9=>
 st1 p9 (.int .i64 n8) h7 fun h10=>
 X0 (Qb p0_ p3_ i6_ i7_ s8_ s9_ (w64 (i10_-(1)))) h10))
 else
 qI S K p0_ p3_ i6_ i7_ s8_ s9_ h
theorem zpC (S:SatT) (K:KT) (X0:XT) (p0_ p3_:Pt) (i6_ i7_:Int) (s8_ s9_:Sl) (i10_:Int) (h:H):zzD S K X0 (Qb p0_ p3_ i6_ i7_ s8_ s9_ i10_) h=zkN S K X0 p0_ p3_ i6_ i7_ s8_ s9_ i10_ h:=by kernel_rfl
theorem zpz (S:SatT) (K:KT) (p0_ p3_:Pt) (i6_ i7_:Int) (s8_ s9_:Sl) (I_:Int→H→Prop) (m_:Int→H→Nat)
  (hs:∀(X0:XT) (i10_:Int) (h:H),I_ i10_ h→(∀(i10_':Int) (h':H),I_ i10_' h'→m_ i10_' h'<m_ i10_ h→X0 (Qb p0_ p3_ i6_ i7_ s8_ s9_ i10_') h')→zkN S K X0 p0_ p3_ i6_ i7_ s8_ s9_ i10_ h) (i10_:Int) {h:H} (h0:I_ i10_ h):zzJ S K p0_ p3_ i6_ i7_ s8_ s9_ i10_ h:=
 zg (σ :=(Int)) (fun s_=>Qb p0_ p3_ i6_ i7_ s8_ s9_ (s_)) (fun s_ h=>I_ (s_) h) (fun s_ h=>m_ (s_) h)
  (fun X s_ h hi hx=>(zpC S K X p0_ p3_ i6_ i7_ s8_ s9_ (s_) h).mpr (hs X (s_) h hi fun i10_' h' hi' hm'=>hx (i10_') h' hi' hm')) (i10_) h0
def qH (S:SatT) (K:KT) (p0_ p3_:Pt) (i6_ i7_:Int) (s8_ s9_:Sl) (b45_:Bool) (h:H):Prop:=
 bif b45_ then
 callI S .i64 zZ [.ptr p0_,.int .i64 (3)] h fun n1 h0=>
 zzJ S K p0_ p3_ i6_ i7_ s8_ s9_ n1 h0
 else
 qI S K p0_ p3_ i6_ i7_ s8_ s9_ h
def qJ (S:SatT) (K:KT) (p0_ p3_:Pt) (i6_ i7_:Int) (h:H):Prop:=
 callS S zhk [.int .i64 i6_,.int .i64 i7_] h fun s1 h0=>
 callS S zhj [] h0 fun s3 h2=>
 isPt p3_ (
 ldS (Pt.add p3_ 1) h2 fun s4=>
 bif (decide ((s4.len:Int)>(0))) then
 callI S .i64 zZ [.ptr p0_,.int .i64 (2)] h2 fun n6 h5=>
 qH S K p0_ p3_ i6_ i7_ s1 s3 (n6==(0)) h5
 else
 qH S K p0_ p3_ i6_ i7_ s1 s3 false h2)
def V8 (S:SatT) (K:KT) (x0:Pt) (x1:List AVal) (h:H):Prop:=
 newK 2 x1 h fun p0 h1=>
 callI S .i64 zZ [.ptr x0,.int .i64 (4)] h1 fun n3 h2=>
 newS 2 1 [.int .i64 (3),.int .i64 (4)] h2 fun s4 h5=>
 callI S .i64 Zi [.ptr x0,.sl s4] h5 fun n7 h6=>
 callI S .i64 zZ [.ptr x0,.int .i64 n7] h6 fun n9 h8=>
 isPt p0 (
 ldI .i64 (Pt.add p0 0) h8 fun n10=>
 bif (decide (n10>(4))) then
 callI S .i64 zZ [.ptr x0,.int .i64 (3)] h8 fun n12 h11=>
 qJ S K x0 p0 (w64 ((1)+n3)) (w64 ((1)+n12)) h11
 else
 qJ S K x0 p0 (w64 ((1)+n3)) (w64 ((1)+n9)) h8)
theorem zaA (S:SatT) (K:KT) (x0:Pt) (x1:List AVal) (h:H):cwp S tab wz [] (za Tryz.f123) (kFun tab Tryz.f123.results.toList K) (fr0 Tryz.f123 [.ptr x0,.agg x1]) h=V8 S K x0 x1 h:=by kernel_rfl
theorem zzG (x0:Pt) (x1:List AVal) (h:H) (K:KT) (hm:V8 (Sat Tryz.prog) (fun v h'=>K v h') x0 x1 h):callV (Sat Tryz.prog) zrT [.ptr x0,.agg x1] h K:=by
 have:=Sat.ex tok mixed wz Tryz.func123 (c:=za Tryz.f123) (by kernel_rfl) (zd Tryz.func123 (c:=za Tryz.f123) (by kernel_rfl) (by decide)) ((zaA _ _ x0 x1 h).mpr hm)
 exact this
def zMl:Nat→List Nat:=fun i=>[]
def ZP (S:SatT) (K:KT) (p2_ p3_ p4_:Pt) (h:H):Prop:=
 ldA p4_ 2 h fun cs0=>
 callA S zBQ [.ptr p3_,.agg cs0] h fun cs2 h1=>
 stN p2_ 2 cs2 h1 fun h3=>
 ldA p2_ 2 h3 fun cs4=>
 K (.agg cs4) h3
def ZO (S:SatT) (K:KT) (p2_ p3_ p4_:Pt) (b21_:Bool) (h:H):Prop:=
 bif b21_ then
 callA S YX [.ptr p3_,.int .i64 (3),.int .i64 (6)] h fun cs1 h0=>
 stN p4_ 2 cs1 h0 fun h2=>
 ZP S K p2_ p3_ p4_ h2
 else
 ZP S K p2_ p3_ p4_ h
def ZQ (S:SatT) (K:KT) (p2_ p3_ p4_:Pt) (h:H):Prop:=
 isPt p4_ (
 ldI .i64 (Pt.add p4_ 0) h fun n0=>
 bif (decide (n0>(4))) then
 callI S .i64 zZ [.ptr p3_,.int .i64 (8)] h fun n2 h1=>
 ZO S K p2_ p3_ p4_ (decide (n2>(0))) h1
 else
 ZO S K p2_ p3_ p4_ false h)
def zcJ (S:SatT) (K:KT) (x0:Sl) (h:H):Prop:=
 newO [.int .i64 (0),.sl Sl.nil] h fun p0 h1=>
 callP S zjn [.sl x0] h1 fun p3 h2=>
 callA S Wh [.ptr p3] h2 fun cs5 h4=>
 newO [.int .i64 (0),.sl Sl.nil] h4 fun p6 h7=>
 stN p6 2 cs5 h7 fun h8=>
 callI S .i64 zZ [.ptr p3,.int .i64 (6)] h8 fun n10 h9=>
 bif (n10==(0)) then
 callA S zlU [.ptr p3] h9 fun cs12 h11=>
 stN p6 2 cs12 h11 fun h13=>
 ZQ S K p0 p3 p6 h13
 else
 ZQ S K p0 p3 p6 h9
theorem zcI (S:SatT) (K:KT) (x0:Sl) (h:H):cwp S tab zMl [] (za Tryz.f98) (kFun tab Tryz.f98.results.toList K) (fr0 Tryz.f98 [.sl x0]) h=zcJ S K x0 h:=by kernel_rfl
theorem zCh (x0:Sl) (h:H) (K:List AVal→H→Prop) (hm:zcJ (Sat Tryz.prog) (fun v h'=>∃r,v = .agg r∧K r h') x0 h):callA (Sat Tryz.prog) zBK [.sl x0] h K:=by
 have:=Sat.ex tok mixed zMl Tryz.func98 (c:=za Tryz.f98) (by kernel_rfl) (zd Tryz.func98 (c:=za Tryz.f98) (by kernel_rfl) (by decide)) ((zcI _ _ x0 h).mpr hm)
 obtain ⟨v,h2,h3,r,rfl,h4⟩:=this;exact ⟨r,h2,h3,h4⟩
def zMr:Nat→List Nat:=fun i=>[]
def ZR (S:SatT) (K:KT) (p0_ p2_ p5_:Pt) (h:H):Prop:=
 ldA p5_ 2 h fun cs0=>
 callV S zrT [.ptr p0_,.agg cs0] h fun v2 h1=>
 viaT v2 fun vs3=>
 exS vs3 0 fun s4=>
 viaT v2 fun vs5=>
 exS vs5 1 fun s6=>
 ldA p5_ 2 h1 fun cs7=>
 callA S zBQ [.ptr p0_,.agg cs7] h1 fun cs9 h8=>
 stN p2_ 2 cs9 h8 fun h10=>
 ldA p2_ 2 h10 fun cs11=>
 K (.tuple [.agg cs11,.sl s4,.sl s6]) h10
def zdp (S:SatT) (K:KT) (x0:Pt) (h:H):Prop:=
 newO [.int .i64 (0),.sl Sl.nil] h fun p0 h1=>
 callA S Wh [.ptr x0] h1 fun cs3 h2=>
 newO [.int .i64 (0),.sl Sl.nil] h2 fun p4 h5=>
 stN p4 2 cs3 h5 fun h6=>
 callI S .i64 zZ [.ptr x0,.int .i64 (4)] h6 fun n8 h7=>
 bif (n8==(0)) then
 callA S zlU [.ptr x0] h7 fun cs10 h9=>
 stN p4 2 cs10 h9 fun h11=>
 ZR S K x0 p0 p4 h11
 else
 ZR S K x0 p0 p4 h7
theorem zdo (S:SatT) (K:KT) (x0:Pt) (h:H):cwp S tab zMr [] (za Tryz.f86) (kFun tab Tryz.f86.results.toList K) (fr0 Tryz.f86 [.ptr x0]) h=zdp S K x0 h:=by kernel_rfl
theorem zCy (x0:Pt) (h:H) (K:KT) (hm:zdp (Sat Tryz.prog) (fun v h'=>K v h') x0 h):callV (Sat Tryz.prog) zBP [.ptr x0] h K:=by
 have:=Sat.ex tok mixed zMr Tryz.func86 (c:=za Tryz.f86) (by kernel_rfl) (zd Tryz.func86 (c:=za Tryz.f86) (by kernel_rfl) (by decide)) ((zdo _ _ x0 h).mpr hm)
 exact this
end Go.Proofs.YtlcgclmobfdbcaaGreat.Cl
set_option linter.unusedVariables false
set_option linter.unusedSimpArgs false
namespace Go.Proofs.YtlcgclmobfdbcaaGreat.Cl
open Go
theorem qf {k:Nat} {h:H} {K:H→Prop} (hk:∀h1,Ext h h1→h1.length=h.length+k→K h1):vp k h K:=
 hk _ (Ext.app _ _) (by simp)
theorem wH {h:H} {len z n:Nat} {cs:List AVal} (hn:n<h.length) (hc:cs.length=len*z) {K:Sl→H→Prop}
  (hk:∀s' h',Ow h' s' z cs→s'.len=len→s'.o=some n→But (some n) h h'→h'.length=h.length→K s' h'):vj len z cs h n K:=
 hk _ _ ⟨hc,.inr ⟨n,rfl,rfl,rfl,rfl,by simp [hn]⟩⟩ rfl rfl ⟨by simp,fun i hi hne=>by rw [List.getElem?_set,if_neg (fun e=>hne (by rw [e]))]⟩ (by simp)
theorem zBy {h:H} {m:Int} {z:List AVal} {n:Nat} (hn:n<h.length) (h0:0≤m) (h1:m≤lim) {K:Sl→H→Prop}
  (hk:∀s' h',Ow h' s' z.length (List.replicate m.toNat z).flatten→s'.len=m.toNat→s'.o=some n→But (some n) h h'→h'.length=h.length→K s' h'):zLU m z h n K:=
 ⟨⟨h0,h1⟩,hk _ _ ⟨by simp,.inr ⟨n,rfl,rfl,rfl,by simp,by simp [hn]⟩⟩ rfl rfl ⟨by simp,fun i hi hne=>by rw [List.getElem?_set,if_neg (fun e=>hne (by rw [e]))]⟩ (by simp)⟩
abbrev pt (o:Nat):Pt:=⟨some o,1,0⟩
def Var (h:H) (o:Nat) (v:AVal):Prop:=h[o]? = some (.own [v])
theorem Var.lt {h o v} (x:Var h o v):o<h.length:=(List.getElem?_eq_some_iff.1 x).1
theorem Var.cell {h o v} (x:Var h o v):Cl.cell h (pt o)=some v:=by
 have x':h[o]? = some (.own [v]):=x
 simp [Cl.cell,cells,x']
theorem Var.ext {h h' o v} (x:Var h o v) (e:Ext h h'):Var h' o v:=e.own x
theorem Var.but {h h' o v} {p:Option Nat} (x:Var h o v) (b:But p h h') (hn:p≠some o):Var h' o v:=b.get x hn
theorem Var.ldI {h o n} {k:IntKind} (x:Var h o (.int k n)) {K:Int→Prop} (hk:K n):Cl.ldI k (pt o) h K:=⟨n,x.cell,hk⟩
theorem Var.ldB {h o n} (x:Var h o (.bool n)) {K:Bool→Prop} (hk:K n):Cl.ldB (pt o) h K:=⟨n,x.cell,hk⟩
theorem Var.ldS {h o n} (x:Var h o (.sl n)) {K:Sl→Prop} (hk:K n):Cl.ldS (pt o) h K:=⟨n,x.cell,hk⟩
theorem Var.ldP {h o n} (x:Var h o (.ptr n)) {K:Pt→Prop} (hk:K n):Cl.ldP (pt o) h K:=⟨n,x.cell,hk⟩
theorem Var.ldV {h o n} (x:Var h o n) {K:AVal→Prop} (hk:K n):Cl.ldV (pt o) h K:=⟨n,x.cell,hk⟩
theorem Var.st {h o v} (x:Var h o v) (u:AVal) {K:H→Prop} (hk:∀h',Var h' o u→But (some o) h h'→h'.length=h.length→K h'):Cl.st1 (pt o) u h K:=by
 have hl:=x.lt
 refine ⟨h.set o (.own [u]),?_,hk _ (by unfold Var;simp [hl]) ⟨by simp,fun i hi hne=>by rw [List.getElem?_set,if_neg (fun e=>hne (by rw [e]))]⟩ (by simp)⟩
 have x':h[o]? = some (.own [v]):=x
 simp [put1,wi,x']
theorem yQ {v:AVal} {h:H} {K:Pt→H→Prop} (hk:∀h',Var h' h.length v→Ext h h'→h'.length=h.length+1→K (pt h.length) h'):newO [v] h K:=
 hk _ (by unfold Var;simp) (Ext.app _ _) (by simp)
theorem znm {v:AVal} {h:H} {n:Nat} (hn:n<h.length) {K:Pt→H→Prop} (hk:∀h',Var h' n v→But (some n) h h'→h'.length=h.length→K (pt n) h'):zlD [v] h n K:=
 hk _ (by unfold Var;simp [hn]) ⟨by simp,fun i hi hne=>by rw [List.getElem?_set,if_neg (fun e=>hne (by rw [e]))]⟩ (by simp)
theorem But.cellE {o:Option Nat} {h h':H} {p:Pt} {v:AVal} (b:But o h h') (e:cell h p=some v) (hn:o≠p.o∨o=none):cell h' p=cell h p:=by
 unfold cell at *
 cases hp:p.o with
 | none=>rfl
 | some i=>
  rw [hp] at e hn
  simp only at e ⊢
  obtain ⟨c,h1,h2⟩:=Option.bind_eq_some_iff.1 e
  have hl:=yC h1
  have:h'[i]? = h[i]? :=b.2 i hl (by rcases hn with hn | hn;exact hn;rw [hn];simp)
  have hc:cells h' i p.n=cells h i p.n:=by unfold cells;rw [this]
  rw [hc]
theorem Ext.cellE {h h':H} {p:Pt} {v:AVal} (b:Ext h h') (e:Cl.cell h p=some v):Cl.cell h' p=Cl.cell h p:=(b.but none).cellE e (.inr rfl)
def Till (n:Nat) (h h':H):Prop:=h.length≤h'.length∧∀i,i<n→i<h.length→h'[i]? = h[i]?
theorem Till.refl (n h):Till n h h:=⟨Nat.le_refl _,fun _ _ _=>rfl⟩
theorem Till.trans {n a b c} (x:Till n a b) (y:Till n b c):Till n a c:=⟨Nat.le_trans x.1 y.1,fun i h1 h2=>by rw [y.2 i h1 (by have:=x.1;omega),x.2 i h1 h2]⟩
theorem Till.ext {n:Nat} {a b:H} (x:Till n a b) (hn:a.length≤n):Ext a b:=Ext.of x.1 fun i hi=>x.2 i (by omega) hi
theorem Till.le {n m:Nat} {a b:H} (x:Till n a b) (h:m≤n):Till m a b:=⟨x.1,fun i h1 h2=>x.2 i (by omega) h2⟩
theorem Till.get {n:Nat} {h h':H} (x:Till n h h') {o:Nat} {v:AObj} (e:h[o]? = some v) (ho:o<n):h'[o]? = some v:=by rw [x.2 o ho (List.getElem?_eq_some_iff.1 e).1];exact e
end Go.Proofs.YtlcgclmobfdbcaaGreat.Cl
set_option linter.unusedVariables false
set_option linter.unusedSimpArgs false
namespace Go.Proofs.YtlcgclmobfdbcaaGreat.Cl
open Go
def Obj (h:H) (o:Nat) (cs:List AVal):Prop:=h[o]? = some (.own cs)
theorem Obj.lt {h o cs} (x:Obj h o cs):o<h.length:=(List.getElem?_eq_some_iff.1 x).1
theorem Obj.ext {h h' o cs} (x:Obj h o cs) (e:Ext h h'):Obj h' o cs:=e.own x
theorem Obj.but {h h' o cs} {p:Option Nat} (x:Obj h o cs) (b:But p h h') (hn:p≠some o):Obj h' o cs:=b.get x hn
theorem zk {k:Nat} {cs:List AVal} {h:H} {K:Pt→H→Prop} (hk:∀h',Obj h' h.length cs→Ext h h'→h'.length=h.length+1→K ⟨some h.length,k,0⟩ h') (hc:cs.length=k:=by rfl):newK k cs h K:=
 ⟨hc,hk _ (by unfold Obj;simp) (Ext.app _ _) (by simp)⟩
theorem zo {cs:List AVal} {h:H} {K:Pt→H→Prop} (hk:∀h',Obj h' h.length cs→Ext h h'→h'.length=h.length+1→K ⟨some h.length,cs.length,0⟩ h'):newO cs h K:=
 hk _ (by unfold Obj;simp) (Ext.app _ _) (by simp)
theorem zh {o:Nat} {n off:Nat} {K:Prop} (hk:K):isPt ⟨some o,n,off⟩ K:=⟨rfl,hk⟩
theorem Obj.cellE {h o cs} (x:Obj h o cs) {n i:Nat} (hn:cs.length=n):Cl.cell h (Pt.add ⟨some o,n,0⟩ i)=cs[i]? :=by
 have x':h[o]? = some (.own cs):=x
 simp [Cl.cell,Pt.add,cells,x',hn]
theorem Obj.ldI {h o cs} (x:Obj h o cs) {n i:Nat} {k:IntKind} {m:Int} (hn:cs.length=n) (e:cs[i]? = some (.int k m)) {K:Int→Prop} (hk:K m):Cl.ldI k (Pt.add ⟨some o,n,0⟩ i) h K:=⟨m,by rw [x.cellE hn,e],hk⟩
theorem Obj.ldB {h o cs} (x:Obj h o cs) {n i:Nat} {m:Bool} (hn:cs.length=n) (e:cs[i]? = some (.bool m)) {K:Bool→Prop} (hk:K m):Cl.ldB (Pt.add ⟨some o,n,0⟩ i) h K:=⟨m,by rw [x.cellE hn,e],hk⟩
theorem Obj.ldS {h o cs} (x:Obj h o cs) {n i:Nat} {m:Sl} (hn:cs.length=n) (e:cs[i]? = some (.sl m)) {K:Sl→Prop} (hk:K m):Cl.ldS (Pt.add ⟨some o,n,0⟩ i) h K:=⟨m,by rw [x.cellE hn,e],hk⟩
theorem Obj.ldA {h o cs} (x:Obj h o cs) {n:Nat} (hn:cs.length=n) {K:List AVal→Prop} (hk:K cs):Cl.ldA ⟨some o,n,0⟩ n h K:=zLV x hn hk
theorem Obj.stA {h o cs} (x:Obj h o cs) {n m:Nat} {vs:List AVal} {K:H→Prop} (hk:∀h',Obj h' o vs→But (some o) h h'→h'.length=h.length→K h') (hn:cs.length=n:=by rfl) (hv:vs.length=m:=by rfl) (hm:m=n:=by rfl):Cl.stN ⟨some o,n,0⟩ m vs h K:=by
 subst hm
 exact zLD x hn hv fun b e=>hk _ e b (by simp)
theorem Obj.st1 {h o cs} (x:Obj h o cs) {n i:Nat} (hn:cs.length=n) (hi:i<n) (v:AVal) {K:H→Prop} (hk:∀h',Obj h' o (cs.set i v)→But (some o) h h'→h'.length=h.length→K h'):Cl.st1 (Pt.add ⟨some o,n,0⟩ i) v h K:=by
 have x':h[o]? = some (.own cs):=x
 have hl:=x.lt
 refine ⟨h.set o (.own (cs.set i v)),?_,hk _ (by unfold Obj;simp [hl]) ⟨by simp,fun j hj hne=>by rw [List.getElem?_set,if_neg (fun e=>hne (by rw [e]))]⟩ (by simp)⟩
 unfold put1 wi Pt.add
 simp [x',hn,hi]
def Chg (P:Nat→Prop) (h h':H):Prop:=h.length≤h'.length∧∀i,i<h.length→¬P i→h'[i]? = h[i]?
theorem Chg.refl (P h):Chg P h h:=⟨Nat.le_refl _,fun _ _ _=>rfl⟩
theorem Chg.trans {P a b c} (x:Chg P a b) (y:Chg P b c):Chg P a c:=⟨Nat.le_trans x.1 y.1,fun i hi hn=>by rw [y.2 i (by have:=x.1;omega) hn,x.2 i hi hn]⟩
theorem Chg.to {P Q:Nat→Prop} {a b:H} (x:Chg P a b) (hq:∀i,i<a.length→P i→Q i):Chg Q a b:=⟨x.1,fun i hi hn=>x.2 i hi fun hp=>hn (hq i hi hp)⟩
theorem Ext.chg {a b:H} (x:Ext a b) (P):Chg P a b:=⟨x.len,fun i hi _=>x.get hi⟩
theorem But.chg {a b:H} {o:Option Nat} (x:But o a b) {P:Nat→Prop} (hp:∀i,o=some i→P i):Chg P a b:=⟨x.1,fun i hi hn=>x.2 i hi fun e=>hn (hp i e)⟩
theorem Chg.get {P} {h h':H} (b:Chg P h h') {i:Nat} {v:AObj} (e:h[i]? = some v) (hn:¬P i):h'[i]? = some v:=by
 rw [b.2 i (List.getElem?_eq_some_iff.1 e).1 hn,e]
theorem Chg.ext {P} {h h':H} (b:Chg P h h') (hn:∀i,P i→h.length≤i):Ext h h':=Ext.of b.1 fun i hi=>b.2 i hi fun p=>by have:=hn i p;omega
theorem Ext.chg_ {P} {h a b:H} (x:Ext h a) (y:Chg P a b) (hn:∀i,P i→h.length≤i):Ext h b:=
 Ext.of (Nat.le_trans x.len y.1) fun i hi=>by
  rw [y.2 i (by have:=x.len;omega) (fun p=>by have:=hn i p;omega),x.get hi]
theorem Chg.range {P} {h h':H} (b:Chg P h h') {o n off k cs} (e:range h o n off k=some cs) (hn:∀i,o=some i→¬P i):range h' o n off k=some cs:=by
 obtain ⟨i,xs,rfl,hc,hl,rfl⟩:=zL e
 refine yX ?_ hl
 have:=yC hc
 unfold Cl.cells at hc ⊢
 rw [b.2 i this (hn i rfl)];exact hc
theorem Rd.chg {P} {h h':H} {s z cs} (r:Rd h s z cs) (b:Chg P h h') (hn:∀i,s.o=some i→¬P i):Rd h' s z cs:=
 ⟨r.len,r.at_.imp id fun ⟨x,y,e⟩=>⟨x,y,b.range e hn⟩⟩
theorem Ow.chg {P} {h h':H} {s z cs} (r:Ow h s z cs) (b:Chg P h h') (hn:∀i,s.o=some i→¬P i):Ow h' s z cs:=
 ⟨r.len,r.at_.imp id fun ⟨i,a,x,c,d,e⟩=>⟨i,a,x,c,d,b.get e (hn i a)⟩⟩
theorem Var.chg {P} {h h' o v} (x:Var h o v) (b:Chg P h h') (hn:¬P o):Var h' o v:=b.get x hn
theorem Obj.chg {P} {h h' o v} (x:Obj h o v) (b:Chg P h h') (hn:¬P o):Obj h' o v:=b.get x hn
def RdSS (h:H) (s:Sl) (ls:List (List Int)):Prop:=
 ∃vs:List Sl,vs.length=ls.length∧Rd h s 1 (vs.map .sl)∧∀(i:Nat) v l,vs[i]? = some v→ls[i]? = some l→Rd h v 1 (ic l)
theorem RdSS.len {h s ls} (r:RdSS h s ls):s.len=ls.length:=by
 obtain ⟨vs,h1,h2,_⟩:=r
 have:=h2.len
 simp at this
 omega
theorem RdSS.ext {h h' s ls} (r:RdSS h s ls) (x:Ext h h'):RdSS h' s ls:=by
 obtain ⟨vs,h1,h2,h3⟩:=r
 exact ⟨vs,h1,h2.ext x,fun i v l a b=>(h3 i v l a b).ext x⟩
theorem Rd.ilen {h:H} {s:Sl} {l:List Int} (r:Rd h s 1 (ic l)):s.len=l.length:=by have:=r.len;rw [vm] at this;omega
theorem RdSS.ld {h s ls} (r:RdSS h s ls) {i:Int} (h0:0≤i) (h1:i<ls.length) {K:Sl→Prop} (hk:∀v l,ls[i.toNat]? = some l→Rd h v 1 (ic l)→v.len=l.length→K v):ixS s 1 i fun p=>Cl.ldS p h K:=by
 obtain ⟨vs,e1,e2,e3⟩:=r
 refine e2.ldS h0 (by omega) fun v hv=>?_
 have hl:ls[i.toNat]? = some ls[i.toNat]:=List.getElem?_eq_getElem (by omega)
 have:=e3 i.toNat v _ hv hl
 exact hk v _ hl this this.ilen
def NewSS (n:Nat) (h:H) (s:Sl) (ls:List (List Int)):Prop:=
 ∃vs:List Sl,vs.length=ls.length∧Ow h s 1 (vs.map .sl)∧Fr n s∧(∀(i:Nat) v l,vs[i]? = some v→ls[i]? = some l→Ow h v 1 (ic l)∧Fr n v)∧
  (∀(i j:Nat) v w,i≠j→vs[i]? = some v→vs[j]? = some w→∀o,v.o=some o→w.o≠some o)∧∀(i:Nat) v,vs[i]? = some v→∀o,v.o=some o→s.o≠some o
theorem NewSS.rd {n h s ls} (r:NewSS n h s ls):RdSS h s ls:=by
 obtain ⟨vs,h1,h2,_,h3,_⟩:=r
 exact ⟨vs,h1,h2.rd,fun i v l a b=>(h3 i v l a b).1.rd⟩
theorem NewSS.le {n m h s ls} (r:NewSS n h s ls) (hm:m≤n):NewSS m h s ls:=by
 obtain ⟨vs,h1,h2,h3,h4,h5⟩:=r
 exact ⟨vs,h1,h2,h3.le hm,fun i v l a b=>(h4 i v l a b).imp id fun f=>f.le hm,h5⟩
theorem NewSS.nil (n h):NewSS n h Sl.nil []:=⟨[],rfl,Ow.nil _ _,Fr.nil _,fun i v l a=>by simp at a,fun i j v w _ a=>by simp at a,fun i v a=>by simp at a⟩
theorem NewSS.mk0 {n h s} (o:Ow h s 1 []) (f:Fr n s):NewSS n h s []:=⟨[],rfl,o,f,fun i v l a=>by simp at a,fun i j v w _ a=>by simp at a,fun i v a=>by simp at a⟩
theorem Yl {α β :Type} {l:List α} {m:List β} (e:l.length=m.length) {i:Nat} {a: α} (h:l[i]? = some a):∃b,m[i]? = some b:=
 ⟨m[i]'(by have:=(List.getElem?_eq_some_iff.1 h).1;omega),List.getElem?_eq_getElem (by have:=(List.getElem?_eq_some_iff.1 h).1;omega)⟩
theorem NewSS.chg {P n h h' s ls} (r:NewSS n h s ls) (b:Chg P h h') (hn:∀i,n≤i→i<h.length→¬P i):NewSS n h' s ls:=by
 obtain ⟨vs,h1,h2,h3,h4,h5⟩:=r
 refine ⟨vs,h1,h2.chg b fun o e=>hn o (h3 o e) (h2.lt e),h3,fun i v l a c=>?_,h5⟩
 obtain ⟨x,y⟩:=h4 i v l a c
 exact ⟨x.chg b fun o e=>hn o (y o e) (x.lt e),y⟩
theorem NewSS.ext {n h h' s ls} (r:NewSS n h s ls) (x:Ext h h'):NewSS n h' s ls:=r.chg (x.chg fun _=>False) fun _ _ _ f=>f
theorem RdSS.chg {P h h' s ls} (r:RdSS h s ls) (b:Chg P h h') (hn:∀i,i<h.length→¬P i):RdSS h' s ls:=r.ext (Ext.of b.1 fun i hi=>b.2 i hi (hn i hi))
theorem NewSS.app {n h s ls} (r:NewSS n h s ls) {v:Sl} {l:List Int} (ov:Ow h v 1 (ic l)) (fv:Fr n v) (hap:∀o,v.o=some o→s.o≠some o∧∀vs:List Sl,Ow h s 1 (vs.map .sl)→∀w∈vs,w.o≠some o)
  {x:Sl} (rx:Rd h x 1 [.sl v]) (hl:(ls.length:Int)+1≤lim) (hnh:n≤h.length) {K:Sl→H→Prop} (hk:∀s' h',NewSS n h' s' (ls++[l])→But s.o h h'→(∀o,s.o=some o→s'.o=some o)→(s.o=none→∀o,s'.o=some o→h.length≤o)→K s' h'):Cl.app s x 1 h K:=by
 obtain ⟨vs,h1,h2,h3,h4,h5,h6⟩:=r
 have hx:x.len=1:=by have:=rx.len;simp at this;omega
 have hs:s.len=ls.length:=by have:=h2.len;simp at this;omega
 refine yk (by omega) h2 rx (by rw [hs,hx];exact_mod_cast hl) fun s' h' o' ln b k1 k2=>?_
 have hso:∀o,s'.o=some o→s.o=some o∨h.length≤o:=fun o e=>by
  cases hq:s.o with
  | none=>exact .inr (k2 hq o e)
  | some p=>rw [k1 p hq] at e;exact .inl e
 refine hk s' h' ⟨vs++[v],by simp [h1],by simpa using o',?_,?_,?_,?_⟩ b k1 k2
 ·intro o e
  rcases hso o e with e | e
  ·exact h3 o e
  ·omega
 ·intro i w l' a c
  rw [List.getElem?_append] at a c
  rw [h1] at a
  split at a
  ·next hi=>
   rw [if_pos hi] at c
   obtain ⟨p,q⟩:=h4 i w l' a c
   refine ⟨p.but b ?_,q⟩
   cases hw:w.o with
   | none=>
    cases hq:s.o with
    | none=>exact .inr rfl
    | some _=>exact .inl (by simp)
   | some o=>exact .inl (by rw [←hw];intro e;exact h6 i w a o hw (by rw [e,hw]))
  ·next hi=>
   rw [if_neg hi] at c
   have:i=ls.length:=by
    have:=(List.getElem?_eq_some_iff.1 c).1
    simp at this;omega
   subst this
   simp at a c
   subst a c
   refine ⟨ov.but b ?_,fv⟩
   cases hw:v.o with
   | none=>
    cases hq:s.o with
    | none=>exact .inr rfl
    | some _=>exact .inl (by simp)
   | some o=>exact .inl (by intro e;exact (hap o hw).1 e)
 ·intro i j w u hne a c o e
  have hwl:∀{k:Nat} {y:Sl},(vs++[v])[k]? = some y→vs[k]? = some y∨(k=vs.length∧y=v):=fun {k y} e=>by
   rw [List.getElem?_append] at e
   split at e
   ·exact .inl e
   ·have:k=vs.length:=by
     have:=(List.getElem?_eq_some_iff.1 e).1
     simp at this;omega
    subst this
    simp at e
    exact .inr ⟨rfl,e.symm⟩
  rcases hwl a with a1 | ⟨rfl,rfl⟩
  ·rcases hwl c with c1 | ⟨rfl,rfl⟩
   ·exact h5 i j w u hne a1 c1 o e
   ·intro e2
    exact (hap o e2).2 vs h2 w (List.mem_of_getElem? a1) e
  ·rcases hwl c with c1 | ⟨rfl,rfl⟩
   ·exact (hap o e).2 vs h2 u (List.mem_of_getElem? c1)
   ·exact absurd rfl hne
 ·intro i w a o e
  have hlt:o<h.length∧s.o≠some o:=by
   rw [List.getElem?_append] at a
   split at a
   ·obtain ⟨l',hl'⟩:=Yl h1 a
    exact ⟨(h4 i w l' a hl').1.lt e,h6 i w a o e⟩
   ·have:w=v:=by
     have:=List.mem_of_getElem? a
     simpa using this
    subst this
    exact ⟨ov.lt e,(hap o e).1⟩
  intro e2
  rcases hso o e2 with e3 | e3
  ·exact hlt.2 e3
  ·omega
theorem NewSS.app_new {n m h s ls} (r:NewSS n h s ls) {v:Sl} {l:List Int} (ov:Ow h v 1 (ic l)) (fv:Fr m v) (hnm:n≤m) (hm:∃h0:H,NewSS n h0 s ls∧h0.length≤m∧Ext h0 h)
  {x:Sl} (rx:Rd h x 1 [.sl v]) (hl:(ls.length:Int)+1≤lim) (hnh:n≤h.length) {K:Sl→H→Prop} (hk:∀s' h',NewSS n h' s' (ls++[l])→But s.o h h'→(∀o,s.o=some o→s'.o=some o)→(s.o=none→∀o,s'.o=some o→h.length≤o)→K s' h'):Cl.app s x 1 h K:=by
 obtain ⟨h0,r0,hlen,ex⟩:=hm
 refine r.app ov (fv.le hnm) (fun o e=>?_) rx hl hnh hk
 obtain ⟨vs,h1,h2,h3,h4,h5,h6⟩:=r0
 have ho:=fv o e
 refine ⟨fun e2=>by have:=h2.lt e2;omega,fun us hu w hw=>?_⟩
 intro e2
 have hq:us=vs:=by
  have a:=hu.rd.sread (by omega)
  have b:=(h2.ext ex).rd.sread (by omega)
  rw [a] at b
  have:us.map AVal.sl=vs.map AVal.sl:=Option.some.inj b
  exact List.map_inj_right (fun a b e=>by simpa using e) |>.1 this
 subst hq
 obtain ⟨i,hi⟩:=List.getElem?_of_mem hw
 obtain ⟨l',hl'⟩:=Yl h1 hi
 have:=(h4 i w l' hi hl').1.lt e2
 omega
def NewP (P:Nat→Prop) (h:H) (s:Sl) (ls:List (List Int)):Prop:=
 ∃vs:List Sl,vs.length=ls.length∧Ow h s 1 (vs.map .sl)∧(∀o,s.o=some o→P o)∧(∀(i:Nat) v l,vs[i]? = some v→ls[i]? = some l→Ow h v 1 (ic l)∧∀o,v.o=some o→P o)∧
  (∀(i j:Nat) v w,i≠j→vs[i]? = some v→vs[j]? = some w→∀o,v.o=some o→w.o≠some o)∧∀(i:Nat) v,vs[i]? = some v→∀o,v.o=some o→s.o≠some o
theorem NewSS.p {n h s ls} (r:NewSS n h s ls) {P:Nat→Prop} (hp:∀i,n≤i→i<h.length→P i):NewP P h s ls:=by
 obtain ⟨vs,h1,h2,h3,h4,h5⟩:=r
 exact ⟨vs,h1,h2,fun o e=>hp o (h3 o e) (h2.lt e),fun i v l a b=>⟨(h4 i v l a b).1,fun o e=>hp o ((h4 i v l a b).2 o e) ((h4 i v l a b).1.lt e)⟩,h5⟩
theorem NewP.chg {P Q h h' s ls} (r:NewP P h s ls) (b:Chg Q h h') (hn:∀i,P i→i<h.length→¬Q i):NewP P h' s ls:=by
 obtain ⟨vs,h1,h2,h3,h4,h5⟩:=r
 refine ⟨vs,h1,h2.chg b fun o e=>hn o (h3 o e) (h2.lt e),h3,fun i v l a c=>?_,h5⟩
 obtain ⟨x,y⟩:=h4 i v l a c
 exact ⟨x.chg b fun o e=>hn o (y o e) (x.lt e),y⟩
theorem NewP.ext {P h h' s ls} (r:NewP P h s ls) (x:Ext h h'):NewP P h' s ls:=r.chg (x.chg fun _=>False) fun _ _ _ f=>f
theorem NewP.rd {P h s ls} (r:NewP P h s ls):RdSS h s ls:=by
 obtain ⟨vs,h1,h2,_,h3,_⟩:=r
 exact ⟨vs,h1,h2.rd,fun i v l a b=>(h3 i v l a b).1.rd⟩
end Go.Proofs.YtlcgclmobfdbcaaGreat.Cl
set_option linter.unusedVariables false
set_option linter.unusedSimpArgs false
namespace Go.Proofs.YtlcgclmobfdbcaaGreat.Cl
open Go
abbrev SP:SatT:=Sat Tryz.prog
abbrev Tile:=Int×Int×Int×Int
def tc (t:Tile):List AVal:=[i64 t.1,i64 t.2.1,i64 t.2.2.1,i64 t.2.2.2]
def tcs (ts:List Tile):List AVal:=(ts.map tc).flatten
theorem qP (t:Tile):(tc t).length=4:=rfl
theorem xQ:∀ts:List Tile,(tcs ts).length=ts.length*4
 | []=>rfl
 | t::ts=>by
  have:=xQ ts
  unfold tcs at *
  simp only [List.map_cons,List.flatten_cons,List.length_append,qP,List.length_cons]
  omega
theorem Ya (a b:List Tile):tcs (a++b)=tcs a++tcs b:=by simp [tcs]
theorem xA (a:Tile) (b:List Tile):tcs (a::b)=tc a++tcs b:=by simp [tcs]
theorem zgz:∀(ts:List Tile) (i:Nat) (t:Tile),ts[i]? = some t→((tcs ts).drop (i*4)).take 4=tc t
 | [],i,t,e=>by simp at e
 | a::ts,0,t,e=>by
  simp at e;subst e
  rw [xA];simp [List.take_append,qP]
  rw [List.take_of_length_le (by simp [qP])]
 | a::ts,i+1,t,e=>by
  rw [xA,show (i+1)*4=(tc a).length+i*4 by rw [qP];omega,←List.drop_drop,List.drop_left]
  exact zgz ts i t (by simpa using e)
theorem Rd.ldT {h:H} {s:Sl} {ts:List Tile} (r:Rd h s 4 (tcs ts)) {i:Int} (h0:0≤i) (h1:i<ts.length) {K:List AVal→Prop} (hk:∀t,ts[i.toNat]? = some t→K (tc t)):ixS s 4 i fun p=>Cl.ldA p 4 h K:=by
 have hlen:ts.length=s.len:=by have:=r.len;rw [xQ] at this;omega
 have hx:ts[i.toNat]? = some ts[i.toNat]:=List.getElem?_eq_getElem (by omega)
 exact r.ldA h0 (by omega) (by rw [zgz ts _ _ hx];exact hk _ hx)
theorem Rd.tlen {h:H} {s:Sl} {ts:List Tile} (r:Rd h s 4 (tcs ts)):s.len=ts.length:=by have:=r.len;rw [xQ] at this;omega
def turn (t:Tile):Tile:=(t.2.2.2,t.1,t.2.1,t.2.2.1)
def vL (n:Int):Prop:= -9223372036854775808≤n∧n<9223372036854775808
def Zx (c:Int) (t:Tile):Bool:=decide (0≤t.1∧t.1≤c-1)&&decide (0≤t.2.1∧t.2.1≤c-1)&&decide (0≤t.2.2.1∧t.2.2.1≤c-1)&&decide (0≤t.2.2.2∧t.2.2.2≤c-1)
attribute [local simp] newK newO ixA ldI ldA stN st1 Cl.range cell Cl.cells putN put1 wi zjo zlX ziT zlr Pt.add yl Ext.app Ext.refl cutA isPt
theorem zjl (a b c:Int) (h:H):callB SP We [i64 a,i64 b,i64 c] h fun r h'=>r=decide (b≤a∧a≤c)∧h'=h:=by
 apply zCi
 unfold zcL
 refine zc (fun h1=>?_) (fun h1=>?_)
 all_goals simp;try omega
theorem zll (a b c:Int) (h:H):callB SP Wf [i64 a,i64 b,i64 c] h fun r h'=>r=decide (b≤a∧a≤c)∧h'=h:=by
 apply zCM
 unfold zdQ
 refine zc (fun h1=>?_) (fun h1=>?_)
 all_goals simp;try omega
def zjp {α :Type} (q: α →Bool) (l:List α):Int:=match l.findIdx? q with | some i=>(i:Int) | none=> -1
theorem zsg {α :Type} {q: α →Bool} {l:List α} {i:Nat} {x: α} (hx:l[i]? = some x) (hq:q x=true) (hn:∀j y,j<i→l[j]? = some y→q y=false):zjp q l=i:=by
 unfold zjp
 have:l.findIdx? q=some i:=by
  rw [List.findIdx?_eq_some_iff_getElem]
  obtain ⟨h1,h2⟩:=List.getElem?_eq_some_iff.1 hx
  refine ⟨h1,by rw [h2];exact hq,fun j hj=>?_⟩
  rw [hn j _ hj (List.getElem?_eq_getElem (by omega))];simp
 rw [this]
theorem znw {α :Type} {q: α →Bool} {l:List α} (hn:∀y∈l,q y=false):zjp q l = -1:=by
 unfold zjp
 have:l.findIdx? q=none:=by
  rw [List.findIdx?_eq_none_iff]
  intro x hx;rw [hn x hx]
 rw [this]
theorem zCa {α :Type} (q: α →Bool) (l:List α):decide (zjp q l≥0)=l.any q:=by
 unfold zjp
 cases h:l.findIdx? q with
 | none=>
  rw [List.findIdx?_eq_none_iff] at h
  have:l.any q=false:=by rw [List.any_eq_false];intro x hx;rw [h x hx];simp
  rw [this];simp
 | some i=>
  have h2:l.any q=true:=by
   rw [List.findIdx?_eq_some_iff_getElem] at h
   obtain ⟨h1,h2,_⟩:=h
   exact List.any_eq_true.2 ⟨_,List.getElem_mem h1,h2⟩
  rw [h2];simp
theorem Wd {h0:H} {s:Sl} {l:List Int} (r:Rd h0 s 1 (ic l)) (hl:l.length<4000000000000000000) (g:Nat) (cap:List AVal) (q:Int→Bool)
  (hg:∀x∈l,∀h,Ext h0 h→callB SP g (i64 x::cap) h fun b h'=>b=q x∧Ext h h'):callI SP .i64 zrx [.sl s,.func g cap] h0 fun n h'=>n=zjp q l∧Ext h0 h':=by
 have hlen:s.len=l.length:=by have:=r.len;rw [vm] at this;omega
 apply zwl
 unfold WB
 refine znQ _ _ s _ _ (fun i h=>0≤i∧i≤l.length∧Ext h0 h∧∀j y,j<i.toNat→l[j]? = some y→q y=false) (fun i _=>(l.length-i).toNat) ?_ _ ⟨by omega,by omega,Ext.refl _,fun j y hj=>by omega⟩
 intro X i h ⟨i0,i1,hx,hn⟩ hX
 unfold zjO
 refine zc (fun hi=>?_) (fun hi=>?_)
 ·refine (r.ext hx).ldI i0 (by omega) fun x hxe=>yz ?_
  refine (hg x (List.mem_of_getElem? hxe) h hx).to ?_
  rintro _ h' ⟨rfl,hx'⟩
  refine yy (fun hq=>?_) (fun hq=>?_)
  ·refine ⟨i,rfl,?_,hx.trans hx'⟩
   rw [zsg hxe hq hn];omega
  ·rw [zf (by omega) (by omega)]
   refine hX _ _ ⟨by omega,by omega,hx.trans hx',fun j y hj hy=>?_⟩ (by omega)
   by_cases hji:j=i.toNat
   ·subst hji;rw [hxe] at hy;cases hy;exact hq
   ·exact hn j y (by omega) hy
 ·refine ⟨_,rfl,?_,hx⟩
  rw [znw]
  intro y hy
  obtain ⟨j,hj,rfl⟩:=List.mem_iff_getElem.1 hy
  exact hn j _ (by omega) (List.getElem?_eq_getElem hj)
theorem wB {h0:H} {s:Sl} {l:List Int} (r:Rd h0 s 1 (ic l)) (hl:l.length<4000000000000000000) (g:Nat) (cap:List AVal) (q:Int→Bool)
  (hg:∀x∈l,∀h,Ext h0 h→callB SP g (i64 x::cap) h fun b h'=>b=q x∧Ext h h'):callB SP zlQ [.sl s,.func g cap] h0 fun b h'=>b=l.any q∧Ext h0 h':=by
 apply zxG
 unfold W9
 refine (Wd r hl g cap q hg).to ?_
 rintro _ h' ⟨rfl,hx⟩
 exact ⟨_,rfl,zCa q l,hx⟩
theorem zrl (x c:Int) (o:Nat) (h:H) (ho:h[o]? = some (.own [i64 c])):callB SP zrH [i64 x,.ptr ⟨some o,1,0⟩] h fun b h'=>b=(!decide (0≤x∧x≤w64 (c-1)))∧h'=h:=by
 apply zxF
 unfold W8
 refine ⟨c,by simp [ho],?_⟩
 dsimp only
 refine (zll _ _ _ _).to ?_
 rintro _ _ ⟨rfl,rfl⟩
 exact ⟨_,rfl,rfl,rfl⟩
theorem zBF (t:Tile) (c:Int) (h:H):callB SP zrW [.agg (tc t),i64 c] h fun b h'=>b=Zx (w64 (c-1)+1) t∧Ext h h':=by
 apply zAe
 simp only [Qk,newK,newO]
 refine ⟨rfl,⟨by omega,by omega,by omega⟩,rfl,rfl,?_⟩
 refine (wB (l:=[t.1,t.2.1,t.2.2.1,t.2.2.2]) ⟨rfl,.inr ⟨rfl,rfl,?_⟩⟩ (by simp) zrH _ (fun x=> !decide (0≤x∧x≤w64 (c-1))) ?_).to ?_
 ·simp [tc,ic]
 ·intro x _ h' hx
  refine (zrl x c _ h' (hx.own (by simp))).to ?_
  rintro _ _ ⟨rfl,rfl⟩
  exact ⟨rfl,Ext.refl _⟩
 ·rintro _ h' ⟨rfl,l,rfl⟩
  refine ⟨_,rfl,?_,by simp⟩
  simp [Zx,Bool.and_assoc]
theorem zqi (t:Tile):tcs [t]=tc t:=by simp [tcs]
theorem zrf (c:Int) (hc:vL (c-1)) (t:Tile) (h:H):callB SP zrV [i64 c,.agg (tc t)] h fun b h'=>b=Zx c t∧Ext h h':=by
 apply zAa
 simp only [Qh,newK]
 refine ⟨rfl,?_⟩
 refine zpL _ _ _ _ (fun i h'=>0≤i∧i≤4∧h'=h++[.own (tc t)]∧∀j y,j<i.toNat→[t.1,t.2.1,t.2.2.1,t.2.2.2][j]? = some y→0≤y∧y≤c-1) (fun i _=>(4-i).toNat) ?_ _ ⟨by omega,by omega,rfl,fun j y hj=>by omega⟩
 rintro X i _ ⟨i0,i1,rfl,hn⟩ hX
 unfold zkT zAc
 refine zc (fun hi=>?_) (fun hi=>?_)
 ·have hx:∃x,[t.1,t.2.1,t.2.2.1,t.2.2.2][i.toNat]? = some x:=⟨_,List.getElem?_eq_getElem (by simp;omega)⟩
  obtain ⟨x,hx⟩:=hx
  refine ⟨⟨i0,hi⟩,rfl,x,?_,?_⟩
  ·have hg:(tc t)[i.toNat]? = some (i64 x):=by
    rw [show tc t=ic [t.1,t.2.1,t.2.2.1,t.2.2.2] from rfl]
    unfold ic
    rw [List.getElem?_map,hx];rfl
   simp [hg,qP]
  ·dsimp only
   rw [zf hc.1 hc.2,zf (by omega) (by omega)]
   refine (zjl _ _ _ _).to ?_
   rintro _ _ ⟨rfl,rfl⟩
   refine zr (fun hq=>?_) (fun hq=>?_)
   ·refine ⟨_,rfl,?_,by simp⟩
    rw [decide_eq_false_iff_not] at hq
    have hm:=List.mem_of_getElem? hx
    simp only [List.mem_cons,List.not_mem_nil,or_false] at hm
    unfold Zx
    rcases hm with rfl | rfl | rfl | rfl <;> simp [hq]
   ·refine hX _ _ ⟨by omega,by omega,rfl,fun j y hj hy=>?_⟩ (by omega)
    by_cases hji:j=i.toNat
    ·subst hji;rw [hx] at hy;cases hy;exact of_decide_eq_true hq
    ·exact hn j y (by omega) hy
 ·refine ⟨_,rfl,?_,by simp⟩
  unfold Zx
  have h4:i.toNat=4:=by omega
  rw [h4] at hn
  have a0:=hn 0 _ (by omega) rfl
  have a1:=hn 1 _ (by omega) rfl
  have a2:=hn 2 _ (by omega) rfl
  have a3:=hn 3 _ (by omega) rfl
  simp [a0,a1,a2,a3]
def tl (t:Tile):List Int:=[t.1,t.2.1,t.2.2.1,t.2.2.2]
theorem Ow.st1 {h:H} {s:Sl} {z:Nat} {l:List Int} (r:Ow h s z (ic l)) {i j:Int} (hz:0<z) (h0:0≤i) (h1:i<s.len) (j0:0≤j) (j1:j<z) (x:Int) {K:H→Prop}
  (hk:∀h',Ow h' s z (ic (l.set (i.toNat*z+j.toNat) x))→But s.o h h'→h'.length=h.length→K h'):ixS s z i fun p=>ixA p z 1 j fun q=>Cl.st1 q (i64 x) h K:=by
 obtain ⟨a,b⟩ | ⟨o,a,b,c,d,e⟩:=r.at_
 ·omega
 ·have hlen:=r.len
  rw [vm] at hlen
  have hb:i.toNat*z+j.toNat<l.length:=by
   have:(i.toNat+1)*z≤s.len*z:=Nat.mul_le_mul_right _ (by omega)
   rw [Nat.add_mul] at this;omega
  have ho:o<h.length:=(List.getElem?_eq_some_iff.1 e).1
  refine ⟨⟨h0,h1⟩,b,by simp [a],⟨j0,j1⟩,by simp [Pt.add,a],h.set o (.own (ic (l.set (i.toNat*z+j.toNat) x))),?_,hk _ ⟨by rw [vm];simpa using hlen,.inr ⟨o,a,b,c,d,by simp [List.getElem?_set,ho]⟩⟩ ?_ (by simp)⟩
  ·unfold put1 wi Pt.add
   have:(ic l).set (i.toNat*z+j.toNat) (i64 x)=ic (l.set (i.toNat*z+j.toNat) x):=by unfold ic;rw [List.map_set]
   simp [a,c,d,e,vm,hlen,this]
   omega
  ·rw [a]
   exact ⟨by simp,fun k hk hn=>by rw [List.getElem?_set,if_neg (fun e=>hn (by rw [e]))]⟩
attribute [local simp] newK newO ixA ldI ldA stN st1 Cl.range cell Cl.cells putN put1 wi zjo zlX ziT zlr Pt.add yl Ext.app Ext.refl cutA isPt
def cmpL:List Int→List Int→Int
 | [],[]=>0
 | [],_::_=> -1
 | _::_,[]=>1
 | a::l,b::m=>if a<b then -1 else if a>b then 1 else cmpL l m
theorem zro (x:Int) (h:H):callB SP zlM [i64 x] h fun b h'=>b=false∧h'=h:=by
 apply zvZ
 unfold Wt
 exact ⟨_,rfl,by simp,rfl⟩
theorem ziD (x y:Int) (h:H):callI SP .i64 zrw [i64 x,i64 y] h fun n h'=>n=(if x<y then -1 else if x>y then 1 else 0)∧h'=h:=by
 apply zwj
 unfold WA
 refine (zro x h).to ?_
 rintro _ _ ⟨rfl,rfl⟩
 refine (zro y _).to ?_
 rintro _ _ ⟨rfl,rfl⟩
 refine zc (fun h1=>⟨_,rfl,by simp [h1],rfl⟩) (fun h1=>zc (fun h2=>⟨_,rfl,by simp [h1,h2],rfl⟩) (fun h2=>⟨_,rfl,by simp [h1,h2],rfl⟩))
theorem wN {α :Type} {l:List α} {i:Nat} {x: α} (e:l[i]? = some x):l.drop i=x::l.drop (i+1):=by
 obtain ⟨h,rfl⟩:=List.getElem?_eq_some_iff.1 e
 exact List.drop_eq_getElem_cons h
theorem zng {h0:H} {s s':Sl} {l l':List Int} (r:Rd h0 s 1 (ic l)) (r':Rd h0 s' 1 (ic l')) (hl:l.length<4000000000000000000):callI SP .i64 zrG [.sl s,.sl s'] h0 fun n h'=>n=cmpL l l'∧h'=h0:=by
 have hlen:s.len=l.length:=by have:=r.len;rw [vm] at this;omega
 have hlen':s'.len=l'.length:=by have:=r'.len;rw [vm] at this;omega
 apply zxC
 unfold W6
 refine zol _ _ s s' s _ (fun i h=>0≤i∧i≤l.length∧i≤l'.length∧h=h0∧cmpL l l'=cmpL (l.drop i.toNat) (l'.drop i.toNat)) (fun i _=>(l.length-i).toNat) ?_ _ ⟨by omega,by omega,by omega,rfl,by simp⟩
 rintro X i _ ⟨i0,i1,i2,rfl,he⟩ hX
 unfold zkf zxE
 refine zc (fun hi=>?_) (fun hi=>?_)
 ·refine r.ldI i0 (by omega) fun x hx=>zc (fun hj=>?_) (fun hj=>?_)
  ·refine ⟨_,rfl,?_,rfl⟩
   rw [he,wN hx,List.drop_eq_nil_of_le (show l'.length≤i.toNat by omega)];rfl
  ·refine r'.ldI i0 (by omega) fun y hy=>?_
   refine (ziD x y _).to ?_
   rintro _ _ ⟨rfl,rfl⟩
   rw [wN hx,wN hy,cmpL] at he
   refine zF (fun hq=>⟨_,rfl,?_,rfl⟩) (fun hq=>?_)
   ·rw [he]
    split
    ·rfl
    ·split
     ·rfl
     ·next h1 h2=>simp [h1,h2] at hq
   ·rw [zf (by omega) (by omega)]
    refine hX _ _ ⟨by omega,by omega,by omega,rfl,?_⟩ (by omega)
    rw [he,show (i+1).toNat=i.toNat+1 by omega]
    split
    ·next h1=>simp [h1] at hq
    ·split
     ·next h1 h2=>simp [h1,h2] at hq
     ·rfl
 ·have e1:l.drop i.toNat=[]:=List.drop_eq_nil_of_le (by omega)
  refine zc (fun hj=>⟨_,rfl,?_,rfl⟩) (fun hj=>⟨_,rfl,?_,rfl⟩)
  ·have hy:l'[i.toNat]? = some _:=List.getElem?_eq_getElem (by omega)
   rw [he,e1,wN hy];rfl
  ·rw [he,e1,List.drop_eq_nil_of_le (show l'.length≤i.toNat by omega)];rfl
def cmpT (a b:Tile):Int:=cmpL (tl a) (tl b)
theorem ziA (a b:Tile) (h:H):callI SP .i64 qV [.agg (tc a),.agg (tc b)] h fun n h'=>n=cmpT a b∧Ext h h':=by
 apply zAd
 simp only [Qj,newK]
 refine ⟨rfl,rfl,⟨by omega,by omega,by omega⟩,rfl,rfl,⟨by omega,by omega,by omega⟩,rfl,rfl,?_⟩
 refine (zng (l:=tl a) (l':=tl b) ⟨rfl,.inr ⟨rfl,rfl,?_⟩⟩ ⟨rfl,.inr ⟨rfl,rfl,?_⟩⟩ (by simp [tl])).to ?_
 ·simp [tc,tl,ic]
 ·simp [tc,tl,ic]
 ·rintro _ _ ⟨rfl,rfl⟩
  exact ⟨_,rfl,rfl,by simp⟩
theorem X7 (a b:Tile) (h:H):callB SP zlT [.agg (tc a),.agg (tc b)] h fun r h'=>r=decide (cmpT a b<0)∧Ext h h':=by
 apply zzW
 simp only [Qf,newK]
 refine ⟨rfl,rfl,?_⟩
 refine zpJ _ _ _ _ (fun i h'=>0≤i∧i≤4∧h'=h++[.own (tc a)]++[.own (tc b)]∧cmpT a b=cmpL ((tl a).drop i.toNat) ((tl b).drop i.toNat)) (fun i _=>(4-i).toNat) ?_ _ ⟨by omega,by omega,rfl,by simp [cmpT]⟩
 rintro X i _ ⟨i0,i1,rfl,he⟩ hX
 unfold zkS zzY
 refine zc (fun hi=>?_) (fun hi=>?_)
 ·have hx:(tl a)[i.toNat]? = some _:=List.getElem?_eq_getElem (by simp [tl];omega)
  have hy:(tl b)[i.toNat]? = some _:=List.getElem?_eq_getElem (by simp [tl];omega)
  rw [wN hx,wN hy,cmpL] at he
  have gx:=zIE hx
  have gy:=zIE hy
  refine Wb (cs:=tc a) (by simp) rfl i0 hi gx (Wb (cs:=tc b) (by simp) rfl i0 hi gy (zF (fun hq=>?_) (fun hq=>?_)))
  ·refine Wb (cs:=tc a) (by simp) rfl i0 hi gx (Wb (cs:=tc b) (by simp) rfl i0 hi gy ⟨_,rfl,?_,by simp⟩)
   rw [he]
   by_cases h1:(tl a)[i.toNat]'(by simp [tl];omega)<(tl b)[i.toNat]'(by simp [tl];omega)
   ·simp [h1]
   ·have h2:(tl a)[i.toNat]'(by simp [tl];omega)>(tl b)[i.toNat]'(by simp [tl];omega):=by omega
    simp [h1,h2]
  ·rw [zf (by omega) (by omega)]
   refine hX _ _ ⟨by omega,by omega,rfl,?_⟩ (by omega)
   rw [he,if_neg (by omega),if_neg (by omega),show (i+1).toNat=i.toNat+1 by omega]
 ·refine ⟨_,rfl,?_,by simp⟩
  rw [he,List.drop_eq_nil_of_le (by simp [tl];omega),List.drop_eq_nil_of_le (by simp [tl];omega)]
  rfl
theorem Ow.stC {h:H} {s:Sl} {cs:List AVal} (r:Ow h s 1 cs) {i:Int} (h0:0≤i) (h1:i<s.len) (v:AVal) {K:H→Prop}
  (hk:∀h',Ow h' s 1 (cs.set i.toNat v)→But s.o h h'→h'.length=h.length→K h'):ixS s 1 i fun p=>Cl.st1 p v h K:=by
 obtain ⟨a,b⟩ | ⟨o,a,b,c,d,e⟩:=r.at_
 ·omega
 ·have hlen:=r.len
  have ho:o<h.length:=(List.getElem?_eq_some_iff.1 e).1
  refine ⟨⟨h0,h1⟩,b,by simp [a],h.set o (.own (cs.set i.toNat v)),?_,hk _ ⟨by simpa using hlen,.inr ⟨o,a,b,c,d,by simp [List.getElem?_set,ho]⟩⟩ ?_ (by simp)⟩
  ·unfold put1 wi
   simp [a,c,d,e,hlen]
   omega
  ·rw [a]
   exact ⟨by simp,fun k hk hn=>by rw [List.getElem?_set,if_neg (fun e=>hn (by rw [e]))]⟩
theorem Ow.stI {h:H} {s:Sl} {l:List Int} (r:Ow h s 1 (ic l)) {i:Int} (h0:0≤i) (h1:i<s.len) (x:Int) {K:H→Prop}
  (hk:∀h',Ow h' s 1 (ic (l.set i.toNat x))→But s.o h h'→h'.length=h.length→K h'):ixS s 1 i fun p=>Cl.st1 p (.int .i64 x) h K:=
 r.stC h0 h1 _ fun h' o b n=>hk h' (by
  have:(ic l).set i.toNat (i64 x)=ic (l.set i.toNat x):=by unfold ic;rw [List.map_set]
  rw [←this];exact o) b n
theorem Ow.stA {h:H} {s:Sl} {z:Nat} {cs:List AVal} (r:Ow h s z cs) {i:Int} (h0:0≤i) (h1:i<s.len) (vs:List AVal) (hv:vs.length=z) {K:H→Prop}
  (hk:∀h',Ow h' s z (yl cs (i.toNat*z) vs)→But s.o h h'→h'.length=h.length→K h'):ixS s z i fun p=>Cl.stN p z vs h K:=by
 obtain ⟨a,b⟩ | ⟨o,a,b,c,d,e⟩:=r.at_
 ·omega
 ·have hlen:=r.len
  have ho:o<h.length:=(List.getElem?_eq_some_iff.1 e).1
  have hb:i.toNat*z+z≤s.len*z:=by
   have:(i.toNat+1)*z≤s.len*z:=Nat.mul_le_mul_right _ (by omega)
   rw [Nat.add_mul] at this;omega
  have hsl:(yl cs (i.toNat*z) vs).length=s.len*z:=by
   unfold yl
   rw [List.length_append,List.length_append,List.length_take,List.length_drop,hlen,hv];omega
  refine ⟨⟨h0,h1⟩,b,by simp [a],h.set o (.own (yl cs (i.toNat*z) vs)),hv,?_,hk _ ⟨hsl,.inr ⟨o,a,b,c,d,by simp [List.getElem?_set,ho]⟩⟩ ?_ (by simp)⟩
  ·unfold putN wi
   simp [a,c,d,e,hlen,hv]
   omega
  ·rw [a]
   exact ⟨by simp,fun k hk hn=>by rw [List.getElem?_set,if_neg (fun e=>hn (by rw [e]))]⟩
theorem zcl:∀(l:List Tile) (i:Nat) (t:Tile),i<l.length→yl (tcs l) (i*4) (tc t)=tcs (l.set i t)
 | [],i,t,h=>by simp at h
 | a::l,0,t,h=>by
  unfold yl
  simp [xA,tc]
 | a::l,i+1,t,h=>by
  have ih:=zcl l i t (by simpa using h)
  rw [List.set_cons_succ,xA,xA,←ih]
  unfold yl
  rw [show (i+1)*4=(tc a).length+i*4 by rw [qP];omega,show (tc a).length+i*4+(tc t).length=(tc a).length+(i*4+(tc t).length) by omega]
  rw [List.take_length_add_append,List.drop_length_add_append]
  simp
end Go.Proofs.YtlcgclmobfdbcaaGreat.Cl
set_option linter.unusedVariables false
set_option linter.unusedSimpArgs false
namespace Go.Proofs.YtlcgclmobfdbcaaGreat.Cl
open Go
def SetC (c:Int) (s:Sl):List AVal:=[i64 c,.sl s]
def XB (ls:List (List Int)):Nat:=(ls.map List.length).sum
theorem zmW {ls:List (List Int)} {l:List Int} (h:l∈ls):l.length≤XB ls:=by
 unfold XB
 induction ls with
 | nil=>simp at h
 | cons a ls ih=>
  simp only [List.map_cons,List.sum_cons]
  rcases List.mem_cons.1 h with rfl | h
  ·omega
  ·have:=ih h;omega
theorem NewSS.top {n:Nat} {hx h0:H} {s:Sl} {ls:List (List Int)} (r:NewSS n hx s ls) {Q:Nat→Prop} (c:Chg Q hx h0) (hq:∀o,n≤o→¬Q o) (vs:List Sl) (hv:Ow h0 s 1 (vs.map .sl)):∀v∈vs,∀o,v.o=some o→n≤o∧o<hx.length:=by
 obtain ⟨us,h1,h2,h3,h4,_⟩:=r
 have hu:=h2.chg c fun o e=>hq o (h3 o e)
 have hq:vs=us:=by
  have a:=hu.rd.sread (by omega)
  have b:=hv.rd.sread (by omega)
  rw [a] at b
  have:us.map AVal.sl=vs.map AVal.sl:=Option.some.inj b
  exact (List.map_inj_right (fun a b e=>by simpa using e) |>.1 this).symm
 subst hq
 intro v hm o e
 obtain ⟨i,hi⟩:=List.getElem?_of_mem hm
 obtain ⟨l,hl⟩:=Yl h1 hi
 obtain ⟨p,q⟩:=h4 i v l hi hl
 exact ⟨q o e,p.lt e⟩
end Go.Proofs.YtlcgclmobfdbcaaGreat.Cl
