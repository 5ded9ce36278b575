/- Contracts of functions, joined. No claim is stated here. -/
import Derived.Test.YtlcgclmobfdbcaaGreatFT
import Derived.Test.YtlcgclmobfdbcaaGreatFa2
import Derived.Test.YtlcgclmobfdbcaaGreatFG0
import Derived.Test.YtlcgclmobfdbcaaGreatFG1
set_option linter.unusedVariables false
namespace Go.Proofs.YtlcgclmobfdbcaaGreat.Cl
open Go
def f1_M : Nat → List Nat := fun i => bif i == 1053 then [2] else bif i == 1052 then [41, 42, 43, 44, 47, 48, 49, 50, 53, 54, 55, 56] else bif i == 1051 then [41, 42, 43, 44, 47, 48, 49, 50, 51, 52, 53, 54] else bif i == 1050 then [41, 42, 43, 44, 47, 48, 49, 50, 51, 52] else bif i == 1049 then [0, 41, 42, 43, 44, 47, 48, 49, 50] else bif i == 1048 then [0, 41, 42, 43, 44, 45, 46, 47, 48] else bif i == 1047 then [0, 41, 42, 43, 44, 45, 46] else bif i == 1046 then [0, 41, 42, 43, 44] else bif i == 1045 then [0, 38, 39, 40, 41, 42] else bif i == 1044 then [0, 38, 39, 40] else bif i == 2 then [0, 27, 31, 32, 35, 36, 37] else bif i == 0 then [0, 27, 31, 32, 35, 36] else bif i == 1033 then [0, 27, 31, 32, 35, 36] else bif i == 1032 then [0, 27, 31, 32, 35] else bif i == 1031 then [0, 27, 31, 32, 253] else bif i == 1030 then [2] else bif i == 1029 then [0, 27, 28, 31, 32, 251] else bif i == 1028 then [0, 27, 28, 29, 30, 31, 32, 33, 34] else bif i == 1027 then [0, 26, 27, 28, 29, 30, 31, 32] else bif i == 1026 then [0, 26, 27, 28, 29, 30] else bif i == 1025 then [0, 26, 27, 28] else bif i == 1024 then [0, 26] else bif i == 1023 then [2] else bif i == 1022 then [0, 209] else bif i == 1021 then [0, 10, 23, 24, 25] else bif i == 1020 then [0, 4, 5, 10, 22, 23] else bif i == 1019 then [2] else bif i == 1018 then [0, 3, 4, 5, 10, 186] else bif i == 1017 then [0, 3, 4, 5, 7, 10, 20, 21] else bif i == 1016 then [0, 3, 4, 5, 7, 10, 165] else bif i == 1015 then [2] else bif i == 1014 then [0, 3, 4, 5, 7, 10, 11, 163] else bif i == 1013 then [0, 3, 4, 5, 6, 7, 10, 11, 14, 15, 16, 17, 18, 19] else bif i == 1012 then [0, 3, 4, 5, 6, 7, 10, 11, 14, 15, 16, 17] else bif i == 1011 then [0, 3, 4, 5, 6, 7, 10, 11, 14, 15] else bif i == 1010 then [0, 3, 4, 5, 6, 7, 10, 11, 113] else bif i == 1009 then [2] else bif i == 1008 then [0, 3, 4, 5, 6, 7, 10, 11, 111] else bif i == 1007 then [0, 3, 4, 5, 6, 7, 8, 9, 10, 11, 12, 13] else bif i == 1006 then [0, 3, 4, 5, 6, 7, 8, 9, 10, 11] else bif i == 1005 then [0, 3, 4, 5, 6, 7, 8, 9] else bif i == 1004 then [0, 3, 4, 5, 6, 7] else bif i == 1003 then [0, 3, 4, 5] else bif i == 1002 then [2] else bif i == 1001 then [0, 58] else bif i == 1000 then [0] else []
theorem zGZ : (za Tryz.f3) = .seq (sq Tryz.f3 1 0) (sq Tryz.f3 1 1) := by kernel_rfl
def zAX (S : SatT) (K : KT) : Kont := kSeq (cwp S tab f1_M [] (sq Tryz.f3 1 1) (kFun tab (Tryz.f3).results.toList K)) (kFun tab (Tryz.f3).results.toList K)
def zFh (s0_ : Sl) : Frame := (.sl s0_ :: uu 385 [])
def zhK (S : SatT) (k : Kont) (x0 : Sl) (h : H) : Prop :=
 k .normal (zFh x0) h
theorem zfW (S : SatT) (k : Kont) (m : List Nat) (x0 : Sl) (h : H) : cwp S tab f1_M m (sq Tryz.f3 1 0) k (fr0 Tryz.f3 [.sl x0]) h = zhK S k x0 h := by kernel_rfl
theorem zGY : (sq Tryz.f3 1 1) = .seq (sq Tryz.f3 2 2) (sq Tryz.f3 2 3) := by kernel_rfl
theorem zGX : (sq Tryz.f3 2 2) = .seq (sq Tryz.f3 3 4) (sq Tryz.f3 3 5) := by kernel_rfl
def zjL (S : SatT) (K : KT) : Kont := kSeq (cwp S tab f1_M [] (sq Tryz.f3 2 3) (kFun tab (Tryz.f3).results.toList K)) (kFun tab (Tryz.f3).results.toList K)
def zAW (S : SatT) (K : KT) : Kont := kSeq (cwp S tab f1_M [] (sq Tryz.f3 3 5) (zjL S K)) (zjL S K)
def zxv (s0_ : Sl) (b58_ : Bool) : Frame := (.sl s0_ :: uu 57 (.bool b58_ :: uu 327 []))
def zhJ (S : SatT) (k : Kont) (s0_ : Sl) (h : H) : Prop :=
 callB S i_f3 [.sl s0_] h fun b1 h0 =>
 k .normal (zxv s0_ b1) h0
theorem zfV (S : SatT) (k : Kont) (m : List Nat) (s0_ : Sl) (h : H) : cwp S tab f1_M m (sq Tryz.f3 3 4) k (zFh s0_) h = zhJ S k s0_ h := by kernel_rfl
theorem zGW : (sq Tryz.f3 3 5) = .cond (.tmp 58) (sq Tryz.f3 4 10) (sq Tryz.f3 4 11) := by kernel_rfl
theorem zGV : (sq Tryz.f3 4 10) = .seq (sq Tryz.f3 5 20) (sq Tryz.f3 5 21) := by kernel_rfl
def zAV (S : SatT) (K : KT) : Kont := kSeq (cwp S tab f1_M [] (sq Tryz.f3 5 21) (zjL S K)) (zjL S K)
def zHd (b2_ : Bool) : Frame := (U :: U :: .bool b2_ :: uu 383 [])
def zhI (S : SatT) (k : Kont) (s0_ : Sl) (b58_ : Bool) (h : H) : Prop :=
 k .normal (zHd true) h
theorem zfU (S : SatT) (k : Kont) (m : List Nat) (s0_ : Sl) (b58_ : Bool) (h : H) : cwp S tab f1_M m (sq Tryz.f3 5 20) k (zxv s0_ b58_) h = zhI S k s0_ b58_ h := by kernel_rfl
theorem zGU : (sq Tryz.f3 5 21) = .ret := by kernel_rfl
def zHa (S : SatT) (K : KT) (b2_ : Bool) (h : H) : Prop :=
 K (.bool b2_) h
theorem zFo (S : SatT) (K : KT) (b2_ : Bool) (h : H) : (zAV S K) .normal (zHd b2_) h = zHa S K b2_ h := by
 unfold zHa
 refine (zC _ _ _ _).trans ?_
 refine (QF zGU).trans ?_
 refine (zFZ _ _ _ _).trans ?_
 kernel_rfl
theorem zGT : (sq Tryz.f3 4 11) = .skip := by kernel_rfl
theorem zGS : (sq Tryz.f3 2 3) = .seq (sq Tryz.f3 3 6) (sq Tryz.f3 3 7) := by kernel_rfl
def zAU (S : SatT) (K : KT) : Kont := kSeq (cwp S tab f1_M [] (sq Tryz.f3 3 7) (kFun tab (Tryz.f3).results.toList K)) (kFun tab (Tryz.f3).results.toList K)
def zFg (s0_ : Sl) (p3_ : Pt) (i4_ i5_ : Int) : Frame := (.sl s0_ :: U :: U :: .ptr p3_ :: .int .i64 i4_ :: .int .i64 i5_ :: uu 380 [])
def zhH (S : SatT) (k : Kont) (s0_ : Sl) (b58_ : Bool) (h : H) : Prop :=
 callV S i_f4 [.sl s0_] h fun v1 h0 =>
 viaT v1 fun vs2 =>
 exA vs2 0 fun cs3 =>
 viaT v1 fun vs4 =>
 exI .i64 vs4 1 fun n5 =>
 viaT v1 fun vs6 =>
 exI .i64 vs6 2 fun n7 =>
 newO [.int .i64 (0), .sl Sl.nil] h0 fun p8 h9 =>
 stN p8 2 cs3 h9 fun h10 =>
 k .normal (zFg s0_ p8 n5 n7) h10
theorem zfT (S : SatT) (k : Kont) (m : List Nat) (s0_ : Sl) (b58_ : Bool) (h : H) : cwp S tab f1_M m (sq Tryz.f3 3 6) k (zxv s0_ b58_) h = zhH S k s0_ b58_ h := by kernel_rfl
theorem zGR : (sq Tryz.f3 3 7) = .seq (sq Tryz.f3 4 14) (sq Tryz.f3 4 15) := by kernel_rfl
def zAT (S : SatT) (K : KT) : Kont := kSeq (cwp S tab f1_M [] (sq Tryz.f3 4 15) (kFun tab (Tryz.f3).results.toList K)) (kFun tab (Tryz.f3).results.toList K)
def zFf (s0_ : Sl) (p3_ : Pt) (i4_ i5_ : Int) (s6_ : Sl) (i7_ : Int) : Frame := (.sl s0_ :: U :: U :: .ptr p3_ :: .int .i64 i4_ :: .int .i64 i5_ :: .sl s6_ :: .int .i64 i7_ :: uu 378 [])
def zhG (S : SatT) (k : Kont) (s0_ : Sl) (p3_ : Pt) (i4_ i5_ : Int) (h : H) : Prop :=
 ldA p3_ 2 h fun cs0 =>
 callV S i_f5 [.agg cs0, .int .i64 i4_, .int .i64 i5_] h fun v2 h1 =>
 viaT v2 fun vs3 =>
 exS vs3 0 fun s4 =>
 viaT v2 fun vs5 =>
 exI .i64 vs5 1 fun n6 =>
 k .normal (zFf s0_ p3_ i4_ i5_ s4 n6) h1
theorem zfS (S : SatT) (k : Kont) (m : List Nat) (s0_ : Sl) (p3_ : Pt) (i4_ i5_ : Int) (h : H) : cwp S tab f1_M m (sq Tryz.f3 4 14) k (zFg s0_ p3_ i4_ i5_) h = zhG S k s0_ p3_ i4_ i5_ h := by kernel_rfl
theorem zGQ : (sq Tryz.f3 4 15) = .seq (sq Tryz.f3 5 30) (sq Tryz.f3 5 31) := by kernel_rfl
def zAS (S : SatT) (K : KT) : Kont := kSeq (cwp S tab f1_M [] (sq Tryz.f3 5 31) (kFun tab (Tryz.f3).results.toList K)) (kFun tab (Tryz.f3).results.toList K)
def zFe (s0_ : Sl) (p3_ : Pt) (i4_ i5_ : Int) (s6_ : Sl) (i7_ : Int) (s8_ : Sl) (i9_ : Int) : Frame := (.sl s0_ :: U :: U :: .ptr p3_ :: .int .i64 i4_ :: .int .i64 i5_ :: .sl s6_ :: .int .i64 i7_ :: .sl s8_ :: .int .i64 i9_ :: uu 376 [])
def zhF (S : SatT) (k : Kont) (s0_ : Sl) (p3_ : Pt) (i4_ i5_ : Int) (s6_ : Sl) (i7_ : Int) (h : H) : Prop :=
 ldA p3_ 2 h fun cs0 =>
 callV S i_f6 [.agg cs0, .int .i64 i4_, .int .i64 i5_] h fun v2 h1 =>
 viaT v2 fun vs3 =>
 exS vs3 0 fun s4 =>
 viaT v2 fun vs5 =>
 exI .i64 vs5 1 fun n6 =>
 k .normal (zFe s0_ p3_ i4_ i5_ s6_ i7_ s4 n6) h1
theorem zfR (S : SatT) (k : Kont) (m : List Nat) (s0_ : Sl) (p3_ : Pt) (i4_ i5_ : Int) (s6_ : Sl) (i7_ : Int) (h : H) : cwp S tab f1_M m (sq Tryz.f3 5 30) k (zFf s0_ p3_ i4_ i5_ s6_ i7_) h = zhF S k s0_ p3_ i4_ i5_ s6_ i7_ h := by kernel_rfl
theorem zEL : (sq Tryz.f3 5 31) = .seq (sq Tryz.f3 6 62) (sq Tryz.f3 6 63) := by kernel_rfl
def zAR (S : SatT) (K : KT) : Kont := kSeq (cwp S tab f1_M [] (sq Tryz.f3 6 63) (kFun tab (Tryz.f3).results.toList K)) (kFun tab (Tryz.f3).results.toList K)
def zFd (s0_ : Sl) (p3_ : Pt) (i4_ i5_ : Int) (s6_ : Sl) (i7_ : Int) (s8_ : Sl) (i9_ i10_ i11_ : Int) : Frame := (.sl s0_ :: U :: U :: .ptr p3_ :: .int .i64 i4_ :: .int .i64 i5_ :: .sl s6_ :: .int .i64 i7_ :: .sl s8_ :: .int .i64 i9_ :: .int .i64 i10_ :: .int .i64 i11_ :: uu 374 [])
def zhE (S : SatT) (k : Kont) (s0_ : Sl) (p3_ : Pt) (i4_ i5_ : Int) (s6_ : Sl) (i7_ : Int) (s8_ : Sl) (i9_ : Int) (h : H) : Prop :=
 ldA p3_ 2 h fun cs0 =>
 callV S i_f7 [.agg cs0, .int .i64 i4_, .int .i64 i5_] h fun v2 h1 =>
 viaT v2 fun vs3 =>
 exI .i64 vs3 0 fun n4 =>
 viaT v2 fun vs5 =>
 exI .i64 vs5 1 fun n6 =>
 k .normal (zFd s0_ p3_ i4_ i5_ s6_ i7_ s8_ i9_ n4 n6) h1
theorem zfQ (S : SatT) (k : Kont) (m : List Nat) (s0_ : Sl) (p3_ : Pt) (i4_ i5_ : Int) (s6_ : Sl) (i7_ : Int) (s8_ : Sl) (i9_ : Int) (h : H) : cwp S tab f1_M m (sq Tryz.f3 6 62) k (zFe s0_ p3_ i4_ i5_ s6_ i7_ s8_ i9_) h = zhE S k s0_ p3_ i4_ i5_ s6_ i7_ s8_ i9_ h := by kernel_rfl
theorem zEK : (sq Tryz.f3 6 63) = .seq (sq Tryz.f3 7 126) (sq Tryz.f3 7 127) := by kernel_rfl
def zAQ (S : SatT) (K : KT) : Kont := kSeq (cwp S tab f1_M [] (sq Tryz.f3 7 127) (kFun tab (Tryz.f3).results.toList K)) (kFun tab (Tryz.f3).results.toList K)
def zFc (s0_ : Sl) (p3_ : Pt) (i4_ i5_ : Int) (s6_ : Sl) (i7_ : Int) (s8_ : Sl) (i9_ i10_ : Int) (i11_ i12_ i13_ : Int) : Frame := (.sl s0_ :: U :: U :: .ptr p3_ :: .int .i64 i4_ :: .int .i64 i5_ :: .sl s6_ :: .int .i64 i7_ :: .sl s8_ :: .int .i64 i9_ :: .int .i64 i10_ :: .int .i64 i11_ :: .int .i64 i12_ :: .int .i64 i13_ :: uu 372 [])
def zhD (S : SatT) (k : Kont) (s0_ : Sl) (p3_ : Pt) (i4_ i5_ : Int) (s6_ : Sl) (i7_ : Int) (s8_ : Sl) (i9_ i10_ i11_ : Int) (h : H) : Prop :=
 ldA p3_ 2 h fun cs0 =>
 callV S i_f8 [.agg cs0, .int .i64 i4_, .int .i64 i5_] h fun v2 h1 =>
 viaT v2 fun vs3 =>
 exI .i64 vs3 0 fun n4 =>
 viaT v2 fun vs5 =>
 exI .i64 vs5 1 fun n6 =>
 k .normal (zFc s0_ p3_ i4_ i5_ s6_ i7_ s8_ i9_ i10_ i11_ n4 n6) h1
theorem zfP (S : SatT) (k : Kont) (m : List Nat) (s0_ : Sl) (p3_ : Pt) (i4_ i5_ : Int) (s6_ : Sl) (i7_ : Int) (s8_ : Sl) (i9_ i10_ i11_ : Int) (h : H) : cwp S tab f1_M m (sq Tryz.f3 7 126) k (zFd s0_ p3_ i4_ i5_ s6_ i7_ s8_ i9_ i10_ i11_) h = zhD S k s0_ p3_ i4_ i5_ s6_ i7_ s8_ i9_ i10_ i11_ h := by kernel_rfl
theorem zEJ : (sq Tryz.f3 7 127) = .seq (sq Tryz.f3 8 254) (sq Tryz.f3 8 255) := by kernel_rfl
theorem zEI : (sq Tryz.f3 8 254) = .seq (sq Tryz.f3 9 508) (sq Tryz.f3 9 509) := by kernel_rfl
def zjK (S : SatT) (K : KT) : Kont := kSeq (cwp S tab f1_M [] (sq Tryz.f3 8 255) (kFun tab (Tryz.f3).results.toList K)) (kFun tab (Tryz.f3).results.toList K)
def zrz (S : SatT) (K : KT) : Kont := kSeq (cwp S tab f1_M [] (sq Tryz.f3 9 509) (zjK S K)) (zjK S K)
def zhL (s0_ : Sl) (p3_ : Pt) (i4_ i5_ : Int) (s6_ : Sl) (i7_ i10_ i11_ : Int) (b111_ : Bool) : Frame := (.sl s0_ :: U :: U :: .ptr p3_ :: .int .i64 i4_ :: .int .i64 i5_ :: .sl s6_ :: .int .i64 i7_ :: U :: U :: .int .i64 i10_ :: .int .i64 i11_ :: uu 99 (.bool b111_ :: uu 274 []))
def zhC (S : SatT) (k : Kont) (s0_ : Sl) (p3_ : Pt) (i4_ i5_ : Int) (s6_ : Sl) (i7_ : Int) (s8_ : Sl) (i9_ i10_ : Int) (i11_ i12_ i13_ : Int) (h : H) : Prop :=
 bif (i7_ != i9_) then
 k .normal (zhL s0_ p3_ i4_ i5_ s6_ i7_ i10_ i11_ true) h
 else
 callB S i_f9 [.sl s6_, .sl s8_] h fun b1 h0 =>
 bif (!b1) then
 k .normal (zhL s0_ p3_ i4_ i5_ s6_ i7_ i10_ i11_ true) h0
 else
 bif (i11_ != i13_) then
 k .normal (zhL s0_ p3_ i4_ i5_ s6_ i7_ i10_ i11_ true) h0
 else
 k .normal (zhL s0_ p3_ i4_ i5_ s6_ i7_ i10_ i11_ (i10_ != i12_)) h0
theorem zfO (S : SatT) (k : Kont) (m : List Nat) (s0_ : Sl) (p3_ : Pt) (i4_ i5_ : Int) (s6_ : Sl) (i7_ : Int) (s8_ : Sl) (i9_ i10_ : Int) (i11_ i12_ i13_ : Int) (h : H) : cwp S tab f1_M m (sq Tryz.f3 9 508) k (zFc s0_ p3_ i4_ i5_ s6_ i7_ s8_ i9_ i10_ i11_ i12_ i13_) h = zhC S k s0_ p3_ i4_ i5_ s6_ i7_ s8_ i9_ i10_ i11_ i12_ i13_ h := by kernel_rfl
theorem zEH : (sq Tryz.f3 9 509) = .cond (.tmp 111) (sq Tryz.f3 10 1018) (sq Tryz.f3 10 1019) := by kernel_rfl
theorem zEG : (sq Tryz.f3 10 1018) = .seq (sq Tryz.f3 11 2036) (sq Tryz.f3 11 2037) := by kernel_rfl
def zFb (S : SatT) (K : KT) : Kont := kSeq (cwp S tab f1_M [] (sq Tryz.f3 11 2037) (zjK S K)) (zjK S K)
def zHY (b2_ : Bool) : Frame := (U :: U :: .bool b2_ :: uu 383 [])
def zrA (S : SatT) (k : Kont) (s0_ : Sl) (p3_ : Pt) (i4_ i5_ : Int) (s6_ : Sl) (i7_ i10_ i11_ : Int) (b111_ : Bool) (h : H) : Prop :=
 k .normal (zHY false) h
theorem zfN (S : SatT) (k : Kont) (m : List Nat) (s0_ : Sl) (p3_ : Pt) (i4_ i5_ : Int) (s6_ : Sl) (i7_ i10_ i11_ : Int) (b111_ : Bool) (h : H) : cwp S tab f1_M m (sq Tryz.f3 11 2036) k (zhL s0_ p3_ i4_ i5_ s6_ i7_ i10_ i11_ b111_) h = zrA S k s0_ p3_ i4_ i5_ s6_ i7_ i10_ i11_ b111_ h := by kernel_rfl
theorem zEF : (sq Tryz.f3 10 1019) = .skip := by kernel_rfl
theorem zEE : (sq Tryz.f3 8 255) = .seq (sq Tryz.f3 9 510) (sq Tryz.f3 9 511) := by kernel_rfl
theorem zED : (sq Tryz.f3 9 510) = .seq (sq Tryz.f3 10 1020) (sq Tryz.f3 10 1021) := by kernel_rfl
def xu (S : SatT) (K : KT) : Kont := kSeq (cwp S tab f1_M [] (sq Tryz.f3 9 511) (kFun tab (Tryz.f3).results.toList K)) (kFun tab (Tryz.f3).results.toList K)
def zry (S : SatT) (K : KT) : Kont := kSeq (cwp S tab f1_M [] (sq Tryz.f3 10 1021) (xu S K)) (xu S K)
def zjR (s0_ : Sl) (p3_ : Pt) (i4_ i5_ : Int) (s6_ : Sl) (i7_ i10_ i11_ : Int) (b113_ : Bool) : Frame := (.sl s0_ :: U :: U :: .ptr p3_ :: .int .i64 i4_ :: .int .i64 i5_ :: .sl s6_ :: .int .i64 i7_ :: U :: U :: .int .i64 i10_ :: .int .i64 i11_ :: uu 101 (.bool b113_ :: uu 272 []))
def zdo (S : SatT) (k : Kont) (s0_ : Sl) (p3_ : Pt) (i4_ i5_ : Int) (s6_ : Sl) (i7_ i10_ i11_ : Int) (b111_ : Bool) (h : H) : Prop :=
 k .normal (zjR s0_ p3_ i4_ i5_ s6_ i7_ i10_ i11_ (i7_ == (0))) h
theorem zdn (S : SatT) (k : Kont) (m : List Nat) (s0_ : Sl) (p3_ : Pt) (i4_ i5_ : Int) (s6_ : Sl) (i7_ i10_ i11_ : Int) (b111_ : Bool) (h : H) : cwp S tab f1_M m (sq Tryz.f3 10 1020) k (zhL s0_ p3_ i4_ i5_ s6_ i7_ i10_ i11_ b111_) h = zdo S k s0_ p3_ i4_ i5_ s6_ i7_ i10_ i11_ b111_ h := by kernel_rfl
theorem zEC : (sq Tryz.f3 10 1021) = .cond (.tmp 113) (sq Tryz.f3 11 2042) (sq Tryz.f3 11 2043) := by kernel_rfl
theorem zEB : (sq Tryz.f3 11 2042) = .seq (sq Tryz.f3 12 4084) (sq Tryz.f3 12 4085) := by kernel_rfl
def zrx (S : SatT) (K : KT) : Kont := kSeq (cwp S tab f1_M [] (sq Tryz.f3 12 4085) (xu S K)) (xu S K)
def zrU (s0_ : Sl) (p3_ : Pt) (i4_ i5_ : Int) (s6_ : Sl) (i7_ i10_ i11_ : Int) (b14_ : Bool) (i15_ : Int) : Frame := (.sl s0_ :: U :: U :: .ptr p3_ :: .int .i64 i4_ :: .int .i64 i5_ :: .sl s6_ :: .int .i64 i7_ :: U :: U :: .int .i64 i10_ :: .int .i64 i11_ :: U :: U :: .bool b14_ :: .int .i64 i15_ :: uu 370 [])
def zdm (S : SatT) (k : Kont) (s0_ : Sl) (p3_ : Pt) (i4_ i5_ : Int) (s6_ : Sl) (i7_ i10_ i11_ : Int) (b113_ : Bool) (h : H) : Prop :=
 ldA p3_ 2 h fun cs0 =>
 callV S zkQ [.agg cs0, .sl s6_] h fun v2 h1 =>
 viaT v2 fun vs3 =>
 exB vs3 0 fun b4 =>
 viaT v2 fun vs5 =>
 exI .i64 vs5 1 fun n6 =>
 k .normal (zrU s0_ p3_ i4_ i5_ s6_ i7_ i10_ i11_ b4 n6) h1
theorem zdl (S : SatT) (k : Kont) (m : List Nat) (s0_ : Sl) (p3_ : Pt) (i4_ i5_ : Int) (s6_ : Sl) (i7_ i10_ i11_ : Int) (b113_ : Bool) (h : H) : cwp S tab f1_M m (sq Tryz.f3 12 4084) k (zjR s0_ p3_ i4_ i5_ s6_ i7_ i10_ i11_ b113_) h = zdm S k s0_ p3_ i4_ i5_ s6_ i7_ i10_ i11_ b113_ h := by kernel_rfl
theorem zEA : (sq Tryz.f3 12 4085) = .seq (sq Tryz.f3 13 8170) (sq Tryz.f3 13 8171) := by kernel_rfl
def zrw (S : SatT) (K : KT) : Kont := kSeq (cwp S tab f1_M [] (sq Tryz.f3 13 8171) (xu S K)) (xu S K)
def zrT (s0_ : Sl) (p3_ : Pt) (i4_ i5_ : Int) (s6_ : Sl) (i7_ i10_ i11_ : Int) (b14_ : Bool) (i15_ : Int) (b16_ : Bool) (i17_ : Int) : Frame := (.sl s0_ :: U :: U :: .ptr p3_ :: .int .i64 i4_ :: .int .i64 i5_ :: .sl s6_ :: .int .i64 i7_ :: U :: U :: .int .i64 i10_ :: .int .i64 i11_ :: U :: U :: .bool b14_ :: .int .i64 i15_ :: .bool b16_ :: .int .i64 i17_ :: uu 368 [])
def zdk (S : SatT) (k : Kont) (s0_ : Sl) (p3_ : Pt) (i4_ i5_ : Int) (s6_ : Sl) (i7_ i10_ i11_ : Int) (b14_ : Bool) (i15_ : Int) (h : H) : Prop :=
 ldA p3_ 2 h fun cs0 =>
 callV S zkP [.agg cs0, .sl s6_] h fun v2 h1 =>
 viaT v2 fun vs3 =>
 exB vs3 0 fun b4 =>
 viaT v2 fun vs5 =>
 exI .i64 vs5 1 fun n6 =>
 k .normal (zrT s0_ p3_ i4_ i5_ s6_ i7_ i10_ i11_ b14_ i15_ b4 n6) h1
theorem zdj (S : SatT) (k : Kont) (m : List Nat) (s0_ : Sl) (p3_ : Pt) (i4_ i5_ : Int) (s6_ : Sl) (i7_ i10_ i11_ : Int) (b14_ : Bool) (i15_ : Int) (h : H) : cwp S tab f1_M m (sq Tryz.f3 13 8170) k (zrU s0_ p3_ i4_ i5_ s6_ i7_ i10_ i11_ b14_ i15_) h = zdk S k s0_ p3_ i4_ i5_ s6_ i7_ i10_ i11_ b14_ i15_ h := by kernel_rfl
theorem zEz : (sq Tryz.f3 13 8171) = .seq (sq Tryz.f3 14 16342) (sq Tryz.f3 14 16343) := by kernel_rfl
def zrv (S : SatT) (K : KT) : Kont := kSeq (cwp S tab f1_M [] (sq Tryz.f3 14 16343) (xu S K)) (xu S K)
def zrS (s0_ : Sl) (p3_ : Pt) (i4_ i5_ : Int) (s6_ : Sl) (i7_ i10_ i11_ : Int) (b14_ : Bool) (i15_ : Int) (b16_ : Bool) (i17_ : Int) (b18_ : Bool) (i19_ : Int) : Frame := (.sl s0_ :: U :: U :: .ptr p3_ :: .int .i64 i4_ :: .int .i64 i5_ :: .sl s6_ :: .int .i64 i7_ :: U :: U :: .int .i64 i10_ :: .int .i64 i11_ :: U :: U :: .bool b14_ :: .int .i64 i15_ :: .bool b16_ :: .int .i64 i17_ :: .bool b18_ :: .int .i64 i19_ :: uu 366 [])
def zdi (S : SatT) (k : Kont) (s0_ : Sl) (p3_ : Pt) (i4_ i5_ : Int) (s6_ : Sl) (i7_ i10_ i11_ : Int) (b14_ : Bool) (i15_ : Int) (b16_ : Bool) (i17_ : Int) (h : H) : Prop :=
 ldA p3_ 2 h fun cs0 =>
 callV S zCY [.agg cs0, .sl s6_] h fun v2 h1 =>
 viaT v2 fun vs3 =>
 exB vs3 0 fun b4 =>
 viaT v2 fun vs5 =>
 exI .i64 vs5 1 fun n6 =>
 k .normal (zrS s0_ p3_ i4_ i5_ s6_ i7_ i10_ i11_ b14_ i15_ b16_ i17_ b4 n6) h1
theorem zdh (S : SatT) (k : Kont) (m : List Nat) (s0_ : Sl) (p3_ : Pt) (i4_ i5_ : Int) (s6_ : Sl) (i7_ i10_ i11_ : Int) (b14_ : Bool) (i15_ : Int) (b16_ : Bool) (i17_ : Int) (h : H) : cwp S tab f1_M m (sq Tryz.f3 14 16342) k (zrT s0_ p3_ i4_ i5_ s6_ i7_ i10_ i11_ b14_ i15_ b16_ i17_) h = zdi S k s0_ p3_ i4_ i5_ s6_ i7_ i10_ i11_ b14_ i15_ b16_ i17_ h := by kernel_rfl
theorem zEy : (sq Tryz.f3 14 16343) = .seq (sq Tryz.f3 15 32686) (sq Tryz.f3 15 32687) := by kernel_rfl
def zru (S : SatT) (K : KT) : Kont := kSeq (cwp S tab f1_M [] (sq Tryz.f3 15 32687) (xu S K)) (xu S K)
def vM (s0_ : Sl) (p3_ : Pt) (i4_ i5_ : Int) (i7_ i10_ i11_ : Int) (b163_ : Bool) : Frame := (.sl s0_ :: U :: U :: .ptr p3_ :: .int .i64 i4_ :: .int .i64 i5_ :: U :: .int .i64 i7_ :: U :: U :: .int .i64 i10_ :: .int .i64 i11_ :: uu 151 (.bool b163_ :: uu 222 []))
def zdg (S : SatT) (k : Kont) (s0_ : Sl) (p3_ : Pt) (i4_ i5_ : Int) (s6_ : Sl) (i7_ i10_ i11_ : Int) (b14_ : Bool) (i15_ : Int) (b16_ : Bool) (i17_ : Int) (b18_ : Bool) (i19_ : Int) (h : H) : Prop :=
 bif (i15_ != (0)) then
 k .normal (vM s0_ p3_ i4_ i5_ i7_ i10_ i11_ true) h
 else
 bif (i17_ != (0)) then
 k .normal (vM s0_ p3_ i4_ i5_ i7_ i10_ i11_ true) h
 else
 bif (i19_ != (0)) then
 k .normal (vM s0_ p3_ i4_ i5_ i7_ i10_ i11_ true) h
 else
 bif (!b14_) then
 k .normal (vM s0_ p3_ i4_ i5_ i7_ i10_ i11_ true) h
 else
 bif (!b16_) then
 k .normal (vM s0_ p3_ i4_ i5_ i7_ i10_ i11_ true) h
 else
 bif (!b18_) then
 k .normal (vM s0_ p3_ i4_ i5_ i7_ i10_ i11_ true) h
 else
 bif ((s6_.len : Int) != i4_) then
 k .normal (vM s0_ p3_ i4_ i5_ i7_ i10_ i11_ true) h
 else
 k .normal (vM s0_ p3_ i4_ i5_ i7_ i10_ i11_ (decide (i10_ < (1)))) h
theorem zdf (S : SatT) (k : Kont) (m : List Nat) (s0_ : Sl) (p3_ : Pt) (i4_ i5_ : Int) (s6_ : Sl) (i7_ i10_ i11_ : Int) (b14_ : Bool) (i15_ : Int) (b16_ : Bool) (i17_ : Int) (b18_ : Bool) (i19_ : Int) (h : H) : cwp S tab f1_M m (sq Tryz.f3 15 32686) k (zrS s0_ p3_ i4_ i5_ s6_ i7_ i10_ i11_ b14_ i15_ b16_ i17_ b18_ i19_) h = zdg S k s0_ p3_ i4_ i5_ s6_ i7_ i10_ i11_ b14_ i15_ b16_ i17_ b18_ i19_ h := by kernel_rfl
theorem zEx : (sq Tryz.f3 15 32687) = .cond (.tmp 163) (sq Tryz.f3 16 65374) (sq Tryz.f3 16 65375) := by kernel_rfl
theorem zEw : (sq Tryz.f3 16 65374) = .seq (sq Tryz.f3 17 130748) (sq Tryz.f3 17 130749) := by kernel_rfl
def zFa (S : SatT) (K : KT) : Kont := kSeq (cwp S tab f1_M [] (sq Tryz.f3 17 130749) (xu S K)) (xu S K)
def zHf (b2_ : Bool) : Frame := (U :: U :: .bool b2_ :: uu 383 [])
def zjO (S : SatT) (k : Kont) (s0_ : Sl) (p3_ : Pt) (i4_ i5_ : Int) (i7_ i10_ i11_ : Int) (b163_ : Bool) (h : H) : Prop :=
 k .normal (zHf false) h
theorem zde (S : SatT) (k : Kont) (m : List Nat) (s0_ : Sl) (p3_ : Pt) (i4_ i5_ : Int) (i7_ i10_ i11_ : Int) (b163_ : Bool) (h : H) : cwp S tab f1_M m (sq Tryz.f3 17 130748) k (vM s0_ p3_ i4_ i5_ i7_ i10_ i11_ b163_) h = zjO S k s0_ p3_ i4_ i5_ i7_ i10_ i11_ b163_ h := by kernel_rfl
theorem zEv : (sq Tryz.f3 16 65375) = .skip := by kernel_rfl
theorem zqv : (sq Tryz.f3 9 511) = .seq (sq Tryz.f3 10 1022) (sq Tryz.f3 10 1023) := by kernel_rfl
theorem zqu : (sq Tryz.f3 10 1022) = .seq (sq Tryz.f3 11 2044) (sq Tryz.f3 11 2045) := by kernel_rfl
def yX (S : SatT) (K : KT) : Kont := kSeq (cwp S tab f1_M [] (sq Tryz.f3 10 1023) (kFun tab (Tryz.f3).results.toList K)) (kFun tab (Tryz.f3).results.toList K)
def zhB (S : SatT) (K : KT) : Kont := kSeq (cwp S tab f1_M [] (sq Tryz.f3 11 2045) (yX S K)) (yX S K)
def Qp (s0_ : Sl) (p3_ : Pt) (i4_ i5_ : Int) (i7_ i10_ : Int) (b165_ : Bool) : Frame := (.sl s0_ :: U :: U :: .ptr p3_ :: .int .i64 i4_ :: .int .i64 i5_ :: U :: .int .i64 i7_ :: U :: U :: .int .i64 i10_ :: uu 154 (.bool b165_ :: uu 220 []))
def zdd (S : SatT) (k : Kont) (s0_ : Sl) (p3_ : Pt) (i4_ i5_ : Int) (i7_ i10_ i11_ : Int) (b163_ : Bool) (h : H) : Prop :=
 k .normal (Qp s0_ p3_ i4_ i5_ i7_ i10_ (i11_ == (0))) h
theorem zdc (S : SatT) (k : Kont) (m : List Nat) (s0_ : Sl) (p3_ : Pt) (i4_ i5_ : Int) (i7_ i10_ i11_ : Int) (b163_ : Bool) (h : H) : cwp S tab f1_M m (sq Tryz.f3 11 2044) k (vM s0_ p3_ i4_ i5_ i7_ i10_ i11_ b163_) h = zdd S k s0_ p3_ i4_ i5_ i7_ i10_ i11_ b163_ h := by kernel_rfl
theorem zEu : (sq Tryz.f3 11 2045) = .cond (.tmp 165) (sq Tryz.f3 12 4090) (sq Tryz.f3 12 4091) := by kernel_rfl
theorem zEt : (sq Tryz.f3 12 4090) = .seq (sq Tryz.f3 13 8180) (sq Tryz.f3 13 8181) := by kernel_rfl
def zrt (S : SatT) (K : KT) : Kont := kSeq (cwp S tab f1_M [] (sq Tryz.f3 13 8181) (yX S K)) (yX S K)
def zrR (s0_ : Sl) (p3_ : Pt) (i4_ i5_ : Int) (i7_ i10_ : Int) (i20_ i21_ : Int) : Frame := (.sl s0_ :: U :: U :: .ptr p3_ :: .int .i64 i4_ :: .int .i64 i5_ :: U :: .int .i64 i7_ :: U :: U :: .int .i64 i10_ :: uu 9 (.int .i64 i20_ :: .int .i64 i21_ :: uu 364 []))
def zcZ (S : SatT) (k : Kont) (s0_ : Sl) (p3_ : Pt) (i4_ i5_ : Int) (i7_ i10_ : Int) (b165_ : Bool) (h : H) : Prop :=
 ldA p3_ 2 h fun cs0 =>
 callV S zkO [.agg cs0, .int .i64 i4_, .int .i64 i5_] h fun v2 h1 =>
 viaT v2 fun vs3 =>
 exI .i64 vs3 0 fun n4 =>
 viaT v2 fun vs5 =>
 exI .i64 vs5 1 fun n6 =>
 k .normal (zrR s0_ p3_ i4_ i5_ i7_ i10_ n4 n6) h1
theorem zcY (S : SatT) (k : Kont) (m : List Nat) (s0_ : Sl) (p3_ : Pt) (i4_ i5_ : Int) (i7_ i10_ : Int) (b165_ : Bool) (h : H) : cwp S tab f1_M m (sq Tryz.f3 13 8180) k (Qp s0_ p3_ i4_ i5_ i7_ i10_ b165_) h = zcZ S k s0_ p3_ i4_ i5_ i7_ i10_ b165_ h := by kernel_rfl
theorem zEs : (sq Tryz.f3 13 8181) = .seq (sq Tryz.f3 14 16362) (sq Tryz.f3 14 16363) := by kernel_rfl
theorem zEr : (sq Tryz.f3 14 16362) = .seq (sq Tryz.f3 15 32724) (sq Tryz.f3 15 32725) := by kernel_rfl
def zbY (S : SatT) (K : KT) : Kont := kSeq (cwp S tab f1_M [] (sq Tryz.f3 14 16363) (yX S K)) (yX S K)
def zrs (S : SatT) (K : KT) : Kont := kSeq (cwp S tab f1_M [] (sq Tryz.f3 15 32725) (zbY S K)) (zbY S K)
def Qo (s0_ : Sl) (p3_ : Pt) (i4_ i5_ i10_ : Int) (b186_ : Bool) : Frame := (.sl s0_ :: U :: U :: .ptr p3_ :: .int .i64 i4_ :: .int .i64 i5_ :: uu 4 (.int .i64 i10_ :: uu 175 (.bool b186_ :: uu 199 [])))
def zcX (S : SatT) (k : Kont) (s0_ : Sl) (p3_ : Pt) (i4_ i5_ : Int) (i7_ i10_ : Int) (i20_ i21_ : Int) (h : H) : Prop :=
 bif (i21_ == (0)) then
 bif (decide (i20_ < i10_)) then
 k .normal (Qo s0_ p3_ i4_ i5_ i10_ true) h
 else
 k .normal (Qo s0_ p3_ i4_ i5_ i10_ ((i7_ == (0)) != (decide (i10_ > (0))))) h
 else
 k .normal (Qo s0_ p3_ i4_ i5_ i10_ ((i7_ == (0)) != (decide (i10_ > (0))))) h
theorem zcW (S : SatT) (k : Kont) (m : List Nat) (s0_ : Sl) (p3_ : Pt) (i4_ i5_ : Int) (i7_ i10_ : Int) (i20_ i21_ : Int) (h : H) : cwp S tab f1_M m (sq Tryz.f3 15 32724) k (zrR s0_ p3_ i4_ i5_ i7_ i10_ i20_ i21_) h = zcX S k s0_ p3_ i4_ i5_ i7_ i10_ i20_ i21_ h := by kernel_rfl
theorem zEq : (sq Tryz.f3 15 32725) = .cond (.tmp 186) (sq Tryz.f3 16 65450) (sq Tryz.f3 16 65451) := by kernel_rfl
theorem zEp : (sq Tryz.f3 16 65450) = .seq (sq Tryz.f3 17 130900) (sq Tryz.f3 17 130901) := by kernel_rfl
def zEZ (S : SatT) (K : KT) : Kont := kSeq (cwp S tab f1_M [] (sq Tryz.f3 17 130901) (zbY S K)) (zbY S K)
def zHe (b2_ : Bool) : Frame := (U :: U :: .bool b2_ :: uu 383 [])
def zjN (S : SatT) (k : Kont) (s0_ : Sl) (p3_ : Pt) (i4_ i5_ i10_ : Int) (b186_ : Bool) (h : H) : Prop :=
 k .normal (zHe false) h
theorem zcV (S : SatT) (k : Kont) (m : List Nat) (s0_ : Sl) (p3_ : Pt) (i4_ i5_ i10_ : Int) (b186_ : Bool) (h : H) : cwp S tab f1_M m (sq Tryz.f3 17 130900) k (Qo s0_ p3_ i4_ i5_ i10_ b186_) h = zjN S k s0_ p3_ i4_ i5_ i10_ b186_ h := by kernel_rfl
theorem zEo : (sq Tryz.f3 16 65451) = .skip := by kernel_rfl
theorem zEn : (sq Tryz.f3 14 16363) = .seq (sq Tryz.f3 15 32726) (sq Tryz.f3 15 32727) := by kernel_rfl
def zrr (S : SatT) (K : KT) : Kont := kSeq (cwp S tab f1_M [] (sq Tryz.f3 15 32727) (yX S K)) (yX S K)
def zrQ (s0_ : Sl) (i4_ i5_ i10_ : Int) (p22_ : Pt) (i23_ : Int) : Frame := (.sl s0_ :: U :: U :: U :: .int .i64 i4_ :: .int .i64 i5_ :: uu 4 (.int .i64 i10_ :: uu 11 (.ptr p22_ :: .int .i64 i23_ :: uu 362 [])))
def zcU (S : SatT) (k : Kont) (s0_ : Sl) (p3_ : Pt) (i4_ i5_ i10_ : Int) (b186_ : Bool) (h : H) : Prop :=
 ldA p3_ 2 h fun cs0 =>
 callV S zCX [.agg cs0] h fun v2 h1 =>
 viaT v2 fun vs3 =>
 exA vs3 0 fun cs4 =>
 viaT v2 fun vs5 =>
 exI .i64 vs5 1 fun n6 =>
 newO [.int .i64 (0), .sl Sl.nil] h1 fun p7 h8 =>
 stN p7 2 cs4 h8 fun h9 =>
 k .normal (zrQ s0_ i4_ i5_ i10_ p7 n6) h9
theorem zcT (S : SatT) (k : Kont) (m : List Nat) (s0_ : Sl) (p3_ : Pt) (i4_ i5_ i10_ : Int) (b186_ : Bool) (h : H) : cwp S tab f1_M m (sq Tryz.f3 15 32726) k (Qo s0_ p3_ i4_ i5_ i10_ b186_) h = zcU S k s0_ p3_ i4_ i5_ i10_ b186_ h := by kernel_rfl
theorem zEm : (sq Tryz.f3 15 32727) = .seq (sq Tryz.f3 16 65454) (sq Tryz.f3 16 65455) := by kernel_rfl
def zrq (S : SatT) (K : KT) : Kont := kSeq (cwp S tab f1_M [] (sq Tryz.f3 16 65455) (yX S K)) (yX S K)
def zrP (s0_ : Sl) (i10_ i23_ : Int) (i24_ i25_ : Int) : Frame := (.sl s0_ :: uu 9 (.int .i64 i10_ :: uu 12 (.int .i64 i23_ :: .int .i64 i24_ :: .int .i64 i25_ :: uu 360 [])))
def zcS (S : SatT) (k : Kont) (s0_ : Sl) (i4_ i5_ i10_ : Int) (p22_ : Pt) (i23_ : Int) (h : H) : Prop :=
 ldA p22_ 2 h fun cs0 =>
 callV S i_f7 [.agg cs0, .int .i64 i4_, .int .i64 i5_] h fun v2 h1 =>
 viaT v2 fun vs3 =>
 exI .i64 vs3 0 fun n4 =>
 viaT v2 fun vs5 =>
 exI .i64 vs5 1 fun n6 =>
 k .normal (zrP s0_ i10_ i23_ n4 n6) h1
theorem zcR (S : SatT) (k : Kont) (m : List Nat) (s0_ : Sl) (i4_ i5_ i10_ : Int) (p22_ : Pt) (i23_ : Int) (h : H) : cwp S tab f1_M m (sq Tryz.f3 16 65454) k (zrQ s0_ i4_ i5_ i10_ p22_ i23_) h = zcS S k s0_ i4_ i5_ i10_ p22_ i23_ h := by kernel_rfl
theorem zEl : (sq Tryz.f3 16 65455) = .seq (sq Tryz.f3 17 130910) (sq Tryz.f3 17 130911) := by kernel_rfl
def zrp (S : SatT) (K : KT) : Kont := kSeq (cwp S tab f1_M [] (sq Tryz.f3 17 130911) (yX S K)) (yX S K)
def Qn (s0_ : Sl) (b209_ : Bool) : Frame := (.sl s0_ :: uu 208 (.bool b209_ :: uu 176 []))
def zcQ (S : SatT) (k : Kont) (s0_ : Sl) (i10_ i23_ : Int) (i24_ i25_ : Int) (h : H) : Prop :=
 bif (i23_ != (0)) then
 k .normal (Qn s0_ true) h
 else
 bif (i25_ != (0)) then
 k .normal (Qn s0_ true) h
 else
 k .normal (Qn s0_ (i24_ != i10_)) h
theorem zcP (S : SatT) (k : Kont) (m : List Nat) (s0_ : Sl) (i10_ i23_ : Int) (i24_ i25_ : Int) (h : H) : cwp S tab f1_M m (sq Tryz.f3 17 130910) k (zrP s0_ i10_ i23_ i24_ i25_) h = zcQ S k s0_ i10_ i23_ i24_ i25_ h := by kernel_rfl
theorem zEk : (sq Tryz.f3 17 130911) = .cond (.tmp 209) (sq Tryz.f3 18 261822) (sq Tryz.f3 18 261823) := by kernel_rfl
theorem zEj : (sq Tryz.f3 18 261822) = .seq (sq Tryz.f3 19 523644) (sq Tryz.f3 19 523645) := by kernel_rfl
def zEY (S : SatT) (K : KT) : Kont := kSeq (cwp S tab f1_M [] (sq Tryz.f3 19 523645) (yX S K)) (yX S K)
def zHc (b2_ : Bool) : Frame := (U :: U :: .bool b2_ :: uu 383 [])
def zcO (S : SatT) (k : Kont) (s0_ : Sl) (b209_ : Bool) (h : H) : Prop :=
 k .normal (zHc false) h
theorem zcN (S : SatT) (k : Kont) (m : List Nat) (s0_ : Sl) (b209_ : Bool) (h : H) : cwp S tab f1_M m (sq Tryz.f3 19 523644) k (Qn s0_ b209_) h = zcO S k s0_ b209_ h := by kernel_rfl
theorem zEi : (sq Tryz.f3 18 261823) = .skip := by kernel_rfl
theorem zqt : (sq Tryz.f3 10 1023) = .seq (sq Tryz.f3 11 2046) (sq Tryz.f3 11 2047) := by kernel_rfl
def zro (S : SatT) (K : KT) : Kont := kSeq (cwp S tab f1_M [] (sq Tryz.f3 11 2047) (kFun tab (Tryz.f3).results.toList K)) (kFun tab (Tryz.f3).results.toList K)
def zjQ (s0_ : Sl) (p26_ : Pt) : Frame := (.sl s0_ :: uu 25 (.ptr p26_ :: uu 359 []))
def YP (S : SatT) (k : Kont) (s0_ : Sl) (b209_ : Bool) (h : H) : Prop :=
 callA S zwo [.sl s0_] h fun cs1 h0 =>
 newO [.int .i64 (0), .sl Sl.nil] h0 fun p2 h3 =>
 stN p2 2 cs1 h3 fun h4 =>
 k .normal (zjQ s0_ p2) h4
theorem zcM (S : SatT) (k : Kont) (m : List Nat) (s0_ : Sl) (b209_ : Bool) (h : H) : cwp S tab f1_M m (sq Tryz.f3 11 2046) k (Qn s0_ b209_) h = YP S k s0_ b209_ h := by kernel_rfl
theorem zEh : (sq Tryz.f3 11 2047) = .seq (sq Tryz.f3 12 4094) (sq Tryz.f3 12 4095) := by kernel_rfl
def zrn (S : SatT) (K : KT) : Kont := kSeq (cwp S tab f1_M [] (sq Tryz.f3 12 4095) (kFun tab (Tryz.f3).results.toList K)) (kFun tab (Tryz.f3).results.toList K)
def zrO (s0_ : Sl) (p26_ : Pt) (s27_ : Sl) (i28_ : Int) : Frame := (.sl s0_ :: uu 25 (.ptr p26_ :: .sl s27_ :: .int .i64 i28_ :: uu 357 []))
def zcJ (S : SatT) (k : Kont) (s0_ : Sl) (p26_ : Pt) (h : H) : Prop :=
 ldA p26_ 2 h fun cs0 =>
 callV S zCW [.agg cs0] h fun v2 h1 =>
 viaT v2 fun vs3 =>
 exS vs3 0 fun s4 =>
 viaT v2 fun vs5 =>
 exI .i64 vs5 1 fun n6 =>
 k .normal (zrO s0_ p26_ s4 n6) h1
theorem zcI (S : SatT) (k : Kont) (m : List Nat) (s0_ : Sl) (p26_ : Pt) (h : H) : cwp S tab f1_M m (sq Tryz.f3 12 4094) k (zjQ s0_ p26_) h = zcJ S k s0_ p26_ h := by kernel_rfl
theorem zEg : (sq Tryz.f3 12 4095) = .seq (sq Tryz.f3 13 8190) (sq Tryz.f3 13 8191) := by kernel_rfl
def zrm (S : SatT) (K : KT) : Kont := kSeq (cwp S tab f1_M [] (sq Tryz.f3 13 8191) (kFun tab (Tryz.f3).results.toList K)) (kFun tab (Tryz.f3).results.toList K)
def zrN (s0_ : Sl) (p26_ : Pt) (s27_ : Sl) (i28_ : Int) (s29_ : Sl) (i30_ : Int) : Frame := (.sl s0_ :: uu 25 (.ptr p26_ :: .sl s27_ :: .int .i64 i28_ :: .sl s29_ :: .int .i64 i30_ :: uu 355 []))
def zcH (S : SatT) (k : Kont) (s0_ : Sl) (p26_ : Pt) (s27_ : Sl) (i28_ : Int) (h : H) : Prop :=
 ldA p26_ 2 h fun cs0 =>
 callV S zCV [.agg cs0] h fun v2 h1 =>
 viaT v2 fun vs3 =>
 exS vs3 0 fun s4 =>
 viaT v2 fun vs5 =>
 exI .i64 vs5 1 fun n6 =>
 k .normal (zrN s0_ p26_ s27_ i28_ s4 n6) h1
theorem zcG (S : SatT) (k : Kont) (m : List Nat) (s0_ : Sl) (p26_ : Pt) (s27_ : Sl) (i28_ : Int) (h : H) : cwp S tab f1_M m (sq Tryz.f3 13 8190) k (zrO s0_ p26_ s27_ i28_) h = zcH S k s0_ p26_ s27_ i28_ h := by kernel_rfl
theorem zEf : (sq Tryz.f3 13 8191) = .seq (sq Tryz.f3 14 16382) (sq Tryz.f3 14 16383) := by kernel_rfl
def zrl (S : SatT) (K : KT) : Kont := kSeq (cwp S tab f1_M [] (sq Tryz.f3 14 16383) (kFun tab (Tryz.f3).results.toList K)) (kFun tab (Tryz.f3).results.toList K)
def zrM (s0_ : Sl) (p26_ : Pt) (s27_ : Sl) (i28_ : Int) (s29_ : Sl) (i30_ : Int) (s31_ : Sl) (i32_ : Int) : Frame := (.sl s0_ :: uu 25 (.ptr p26_ :: .sl s27_ :: .int .i64 i28_ :: .sl s29_ :: .int .i64 i30_ :: .sl s31_ :: .int .i64 i32_ :: uu 353 []))
def zcF (S : SatT) (k : Kont) (s0_ : Sl) (p26_ : Pt) (s27_ : Sl) (i28_ : Int) (s29_ : Sl) (i30_ : Int) (h : H) : Prop :=
 ldA p26_ 2 h fun cs0 =>
 callV S zCU [.agg cs0] h fun v2 h1 =>
 viaT v2 fun vs3 =>
 exS vs3 0 fun s4 =>
 viaT v2 fun vs5 =>
 exI .i64 vs5 1 fun n6 =>
 k .normal (zrM s0_ p26_ s27_ i28_ s29_ i30_ s4 n6) h1
theorem zcE (S : SatT) (k : Kont) (m : List Nat) (s0_ : Sl) (p26_ : Pt) (s27_ : Sl) (i28_ : Int) (s29_ : Sl) (i30_ : Int) (h : H) : cwp S tab f1_M m (sq Tryz.f3 14 16382) k (zrN s0_ p26_ s27_ i28_ s29_ i30_) h = zcF S k s0_ p26_ s27_ i28_ s29_ i30_ h := by kernel_rfl
theorem zEe : (sq Tryz.f3 14 16383) = .seq (sq Tryz.f3 15 32766) (sq Tryz.f3 15 32767) := by kernel_rfl
def zrk (S : SatT) (K : KT) : Kont := kSeq (cwp S tab f1_M [] (sq Tryz.f3 15 32767) (kFun tab (Tryz.f3).results.toList K)) (kFun tab (Tryz.f3).results.toList K)
def zrL (s0_ s27_ : Sl) (i28_ : Int) (s29_ : Sl) (i30_ : Int) (s31_ : Sl) (i32_ : Int) (s33_ : Sl) (i34_ : Int) : Frame := (.sl s0_ :: uu 26 (.sl s27_ :: .int .i64 i28_ :: .sl s29_ :: .int .i64 i30_ :: .sl s31_ :: .int .i64 i32_ :: .sl s33_ :: .int .i64 i34_ :: uu 351 []))
def zcD (S : SatT) (k : Kont) (s0_ : Sl) (p26_ : Pt) (s27_ : Sl) (i28_ : Int) (s29_ : Sl) (i30_ : Int) (s31_ : Sl) (i32_ : Int) (h : H) : Prop :=
 ldA p26_ 2 h fun cs0 =>
 callV S zCT [.agg cs0] h fun v2 h1 =>
 viaT v2 fun vs3 =>
 exS vs3 0 fun s4 =>
 viaT v2 fun vs5 =>
 exI .i64 vs5 1 fun n6 =>
 k .normal (zrL s0_ s27_ i28_ s29_ i30_ s31_ i32_ s4 n6) h1
theorem zcC (S : SatT) (k : Kont) (m : List Nat) (s0_ : Sl) (p26_ : Pt) (s27_ : Sl) (i28_ : Int) (s29_ : Sl) (i30_ : Int) (s31_ : Sl) (i32_ : Int) (h : H) : cwp S tab f1_M m (sq Tryz.f3 15 32766) k (zrM s0_ p26_ s27_ i28_ s29_ i30_ s31_ i32_) h = zcD S k s0_ p26_ s27_ i28_ s29_ i30_ s31_ i32_ h := by kernel_rfl
theorem zEd : (sq Tryz.f3 15 32767) = .seq (sq Tryz.f3 16 65534) (sq Tryz.f3 16 65535) := by kernel_rfl
theorem zEc : (sq Tryz.f3 16 65534) = .seq (sq Tryz.f3 17 131068) (sq Tryz.f3 17 131069) := by kernel_rfl
def zbX (S : SatT) (K : KT) : Kont := kSeq (cwp S tab f1_M [] (sq Tryz.f3 16 65535) (kFun tab (Tryz.f3).results.toList K)) (kFun tab (Tryz.f3).results.toList K)
def zrj (S : SatT) (K : KT) : Kont := kSeq (cwp S tab f1_M [] (sq Tryz.f3 17 131069) (zbX S K)) (zbX S K)
def XH (s0_ s27_ : Sl) (i28_ : Int) (s31_ : Sl) (i32_ : Int) (b251_ : Bool) : Frame := (.sl s0_ :: uu 26 (.sl s27_ :: .int .i64 i28_ :: U :: U :: .sl s31_ :: .int .i64 i32_ :: uu 218 (.bool b251_ :: uu 134 [])))
def zcB (S : SatT) (k : Kont) (s0_ s27_ : Sl) (i28_ : Int) (s29_ : Sl) (i30_ : Int) (s31_ : Sl) (i32_ : Int) (s33_ : Sl) (i34_ : Int) (h : H) : Prop :=
 bif (i28_ != i30_) then
 k .normal (XH s0_ s27_ i28_ s31_ i32_ true) h
 else
 callB S i_f9 [.sl s27_, .sl s29_] h fun b1 h0 =>
 bif (!b1) then
 k .normal (XH s0_ s27_ i28_ s31_ i32_ true) h0
 else
 bif (i32_ != i34_) then
 k .normal (XH s0_ s27_ i28_ s31_ i32_ true) h0
 else
 callB S i_f9 [.sl s31_, .sl s33_] h0 fun b3 h2 =>
 k .normal (XH s0_ s27_ i28_ s31_ i32_ (!b3)) h2
theorem zcA (S : SatT) (k : Kont) (m : List Nat) (s0_ s27_ : Sl) (i28_ : Int) (s29_ : Sl) (i30_ : Int) (s31_ : Sl) (i32_ : Int) (s33_ : Sl) (i34_ : Int) (h : H) : cwp S tab f1_M m (sq Tryz.f3 17 131068) k (zrL s0_ s27_ i28_ s29_ i30_ s31_ i32_ s33_ i34_) h = zcB S k s0_ s27_ i28_ s29_ i30_ s31_ i32_ s33_ i34_ h := by kernel_rfl
theorem zEb : (sq Tryz.f3 17 131069) = .cond (.tmp 251) (sq Tryz.f3 18 262138) (sq Tryz.f3 18 262139) := by kernel_rfl
theorem zEa : (sq Tryz.f3 18 262138) = .seq (sq Tryz.f3 19 524276) (sq Tryz.f3 19 524277) := by kernel_rfl
def zEX (S : SatT) (K : KT) : Kont := kSeq (cwp S tab f1_M [] (sq Tryz.f3 19 524277) (zbX S K)) (zbX S K)
def zHb (b2_ : Bool) : Frame := (U :: U :: .bool b2_ :: uu 383 [])
def zjM (S : SatT) (k : Kont) (s0_ s27_ : Sl) (i28_ : Int) (s31_ : Sl) (i32_ : Int) (b251_ : Bool) (h : H) : Prop :=
 k .normal (zHb false) h
theorem zcz (S : SatT) (k : Kont) (m : List Nat) (s0_ s27_ : Sl) (i28_ : Int) (s31_ : Sl) (i32_ : Int) (b251_ : Bool) (h : H) : cwp S tab f1_M m (sq Tryz.f3 19 524276) k (XH s0_ s27_ i28_ s31_ i32_ b251_) h = zjM S k s0_ s27_ i28_ s31_ i32_ b251_ h := by kernel_rfl
theorem zDZ : (sq Tryz.f3 18 262139) = .skip := by kernel_rfl
theorem zDY : (sq Tryz.f3 16 65535) = .seq (sq Tryz.f3 17 131070) (sq Tryz.f3 17 131071) := by kernel_rfl
theorem zDX : (sq Tryz.f3 17 131070) = .seq (sq Tryz.f3 18 262140) (sq Tryz.f3 18 262141) := by kernel_rfl
def Z2 (S : SatT) (K : KT) : Kont := kSeq (cwp S tab f1_M [] (sq Tryz.f3 17 131071) (kFun tab (Tryz.f3).results.toList K)) (kFun tab (Tryz.f3).results.toList K)
def zri (S : SatT) (K : KT) : Kont := kSeq (cwp S tab f1_M [] (sq Tryz.f3 18 262141) (Z2 S K)) (Z2 S K)
def zjP (s0_ s27_ s31_ : Sl) (i32_ : Int) (b253_ : Bool) : Frame := (.sl s0_ :: uu 26 (.sl s27_ :: U :: U :: U :: .sl s31_ :: .int .i64 i32_ :: uu 220 (.bool b253_ :: uu 132 [])))
def zcy (S : SatT) (k : Kont) (s0_ s27_ : Sl) (i28_ : Int) (s31_ : Sl) (i32_ : Int) (b251_ : Bool) (h : H) : Prop :=
 k .normal (zjP s0_ s27_ s31_ i32_ (i28_ == (0))) h
theorem zcx (S : SatT) (k : Kont) (m : List Nat) (s0_ s27_ : Sl) (i28_ : Int) (s31_ : Sl) (i32_ : Int) (b251_ : Bool) (h : H) : cwp S tab f1_M m (sq Tryz.f3 18 262140) k (XH s0_ s27_ i28_ s31_ i32_ b251_) h = zcy S k s0_ s27_ i28_ s31_ i32_ b251_ h := by kernel_rfl
theorem zDW : (sq Tryz.f3 18 262141) = .cond (.tmp 253) (sq Tryz.f3 19 524282) (sq Tryz.f3 19 524283) := by kernel_rfl
theorem zDV : (sq Tryz.f3 19 524282) = .seq (sq Tryz.f3 20 1048564) (sq Tryz.f3 20 1048565) := by kernel_rfl
def zrh (S : SatT) (K : KT) : Kont := kSeq (cwp S tab f1_M [] (sq Tryz.f3 20 1048565) (Z2 S K)) (Z2 S K)
def zrK (s0_ s27_ s31_ : Sl) (i32_ : Int) (b35_ : Bool) : Frame := (.sl s0_ :: uu 26 (.sl s27_ :: U :: U :: U :: .sl s31_ :: .int .i64 i32_ :: U :: U :: .bool b35_ :: uu 350 []))
def zcw (S : SatT) (k : Kont) (s0_ s27_ s31_ : Sl) (i32_ : Int) (b253_ : Bool) (h : H) : Prop :=
 k .normal (zrK s0_ s27_ s31_ i32_ false) h
theorem zcv (S : SatT) (k : Kont) (m : List Nat) (s0_ s27_ s31_ : Sl) (i32_ : Int) (b253_ : Bool) (h : H) : cwp S tab f1_M m (sq Tryz.f3 20 1048564) k (zjP s0_ s27_ s31_ i32_ b253_) h = zcw S k s0_ s27_ s31_ i32_ b253_ h := by kernel_rfl
theorem zDU : (sq Tryz.f3 20 1048565) = .seq (sq Tryz.f3 21 2097130) (sq Tryz.f3 21 2097131) := by kernel_rfl
theorem zDT : (sq Tryz.f3 21 2097130) = .seq (sq Tryz.f3 22 4194260) (sq Tryz.f3 22 4194261) := by kernel_rfl
def XF (S : SatT) (K : KT) : Kont := kSeq (cwp S tab f1_M [] (sq Tryz.f3 21 2097131) (Z2 S K)) (Z2 S K)
def zrg (S : SatT) (K : KT) : Kont := kSeq (cwp S tab f1_M [] (sq Tryz.f3 22 4194261) (XF S K)) (XF S K)
def zAY (s0_ s27_ s31_ : Sl) (i32_ : Int) (b35_ : Bool) (i36_ : Int) : Frame := (.sl s0_ :: uu 26 (.sl s27_ :: U :: U :: U :: .sl s31_ :: .int .i64 i32_ :: U :: U :: .bool b35_ :: .int .i64 i36_ :: uu 349 []))
def zcu (S : SatT) (k : Kont) (s0_ s27_ s31_ : Sl) (i32_ : Int) (b35_ : Bool) (h : H) : Prop :=
 k .normal (zAY s0_ s27_ s31_ i32_ b35_ (0)) h
theorem zct (S : SatT) (k : Kont) (m : List Nat) (s0_ s27_ s31_ : Sl) (i32_ : Int) (b35_ : Bool) (h : H) : cwp S tab f1_M m (sq Tryz.f3 22 4194260) k (zrK s0_ s27_ s31_ i32_ b35_) h = zcu S k s0_ s27_ s31_ i32_ b35_ h := by kernel_rfl
theorem zDS : (sq Tryz.f3 22 4194261) = .block 0 (sq Tryz.f3 23 8388522) := by kernel_rfl
theorem zDR : (sq Tryz.f3 23 8388522) = .loop (sq Tryz.f3 24 16777044) := by kernel_rfl
def zrV (s0_ s27_ s31_ : Sl) (i32_ : Int) (b35_ : Bool) (i36_ : Int) : Frame := (.sl s0_ :: uu 26 (.sl s27_ :: U :: U :: U :: .sl s31_ :: .int .i64 i32_ :: U :: U :: .bool b35_ :: .int .i64 i36_ :: uu 349 []))
def zGP (S : SatT) (K : KT) : (XT) → XT := fun X fr h => cwp S tab f1_M (f1_M 0) (sq Tryz.f3 24 16777044) (kSeq (fun fr h => X (mask (f1_M 0) fr) h) (kBlk 0 (XF S K))) fr h
def zHh (S : SatT) (K : KT) (s0_ s27_ s31_ : Sl) (i32_ : Int) (b35_ : Bool) (i36_ : Int) (h : H) : Prop := zA (zGP S K) (zrV s0_ s27_ s31_ i32_ b35_ i36_) h
def zEW (S : SatT) (K : KT) (X0 : XT) : Kont := kSeq (cwp S tab f1_M (f1_M 0) (sq Tryz.f3 26 67108179) (kSeq (fun fr h => X0 (mask (f1_M 0) fr) h) (kBlk 0 (XF S K)))) (kSeq (fun fr h => X0 (mask (f1_M 0) fr) h) (kBlk 0 (XF S K)))
def zdp (s0_ s27_ s31_ : Sl) (i32_ : Int) (b35_ : Bool) (i36_ i37_ : Int) : Frame := (.sl s0_ :: uu 26 (.sl s27_ :: U :: U :: U :: .sl s31_ :: .int .i64 i32_ :: U :: U :: .bool b35_ :: .int .i64 i36_ :: .int .i64 i37_ :: uu 348 []))
def zGO (S : SatT) (K : KT) (X0 : XT) : (XT) → XT := fun X fr h => cwp S tab f1_M (f1_M 2) (sq Tryz.f3 30 1073730852) (kSeq (fun fr h => X (mask (f1_M 2) fr) h) (kBlk 2 (kBlk 1 (zEW S K X0)))) fr h
def zHg (S : SatT) (K : KT) (X0 : XT) (s0_ s27_ s31_ : Sl) (i32_ : Int) (b35_ : Bool) (i36_ i37_ : Int) (h : H) : Prop := zA (zGO S K X0) (zdp s0_ s27_ s31_ i32_ b35_ i36_ i37_) h
def zHj (S : SatT) (K : KT) (X0 : XT) (s0_ s27_ s31_ : Sl) (i32_ : Int) (b35_ : Bool) (i36_ : Int) (h : H) : Prop :=
 X0 (zrV s0_ s27_ s31_ i32_ b35_ (w64 (i36_ + (1)))) h
def zHi (S : SatT) (K : KT) (X0 : XT) (s0_ s27_ s31_ : Sl) (i32_ : Int) (b35_ : Bool) (i36_ : Int) (h : H) : Prop :=
 zHj S K X0 s0_ s27_ s31_ i32_ b35_ i36_ h
def zFs (S : SatT) (K : KT) (X0 X2 : XT) (s0_ s27_ s31_ : Sl) (i32_ : Int) (b35_ : Bool) (i36_ i37_ : Int) (h : H) : Prop :=
 bif (decide (i37_ < (3))) then
 bif b35_ then
 ixS s27_ 1 i36_ fun p0 =>
 ldS p0 h fun s1 =>
 ixS s1 1 i37_ fun p2 =>
 ldI .i64 p2 h fun n3 =>
 bif (decide (n3 > (0))) then
 bif (i32_ != (0)) then
 K (.bool false) h
 else
 ixS s31_ 1 (0) fun p4 =>
 ldS p4 h fun s5 =>
 bif (decide ((w64 ((s31_.len : Int) * (s5.len : Int))) > (w64 ((w64 (i36_ + (1))) * (w64 (i37_ + (1))))))) then
 K (.bool false) h
 else
 X2 (zdp s0_ s27_ s31_ i32_ true i36_ (w64 (i37_ + (1)))) h
 else
 X2 (zdp s0_ s27_ s31_ i32_ true i36_ (w64 (i37_ + (1)))) h
 else
 ixS s27_ 1 i36_ fun p6 =>
 ldS p6 h fun s7 =>
 ixS s7 1 i37_ fun p8 =>
 ldI .i64 p8 h fun n9 =>
 ixS s27_ 1 i36_ fun p10 =>
 ldS p10 h fun s11 =>
 ixS s11 1 i37_ fun p12 =>
 ldI .i64 p12 h fun n13 =>
 bif (decide (n13 > (0))) then
 bif (i32_ != (0)) then
 K (.bool false) h
 else
 ixS s31_ 1 (0) fun p14 =>
 ldS p14 h fun s15 =>
 bif (decide ((w64 ((s31_.len : Int) * (s15.len : Int))) > (w64 ((w64 (i36_ + (1))) * (w64 (i37_ + (1))))))) then
 K (.bool false) h
 else
 X2 (zdp s0_ s27_ s31_ i32_ (decide (n9 > (0))) i36_ (w64 (i37_ + (1)))) h
 else
 X2 (zdp s0_ s27_ s31_ i32_ (decide (n9 > (0))) i36_ (w64 (i37_ + (1)))) h
 else
 zHi S K X0 s0_ s27_ s31_ i32_ b35_ i36_ h
theorem zxt (S : SatT) (K : KT) (X0 X2 : XT) (s0_ s27_ s31_ : Sl) (i32_ : Int) (b35_ : Bool) (i36_ i37_ : Int) (h : H) : zGO S K X0 X2 (zdp s0_ s27_ s31_ i32_ b35_ i36_ i37_) h = zFs S K X0 X2 s0_ s27_ s31_ i32_ b35_ i36_ i37_ h := by kernel_rfl
theorem zxr (S : SatT) (K : KT) (X0 : XT) (s0_ s27_ s31_ : Sl) (i32_ i36_ : Int) (I_ : Bool → Int → H → Prop) (m_ : Bool → Int → H → Nat)
  (hs : ∀ (X2 : XT) (b35_ : Bool) (i37_ : Int) (h : H), I_ b35_ i37_ h → (∀ (b35_' : Bool) (i37_' : Int) (h' : H), I_ b35_' i37_' h' → m_ b35_' i37_' h' < m_ b35_ i37_ h → X2 (zdp s0_ s27_ s31_ i32_ b35_' i36_ i37_') h') → zFs S K X0 X2 s0_ s27_ s31_ i32_ b35_ i36_ i37_ h) (b35_ : Bool) (i37_ : Int) {h : H} (h0 : I_ b35_ i37_ h) : zHg S K X0 s0_ s27_ s31_ i32_ b35_ i36_ i37_ h :=
 ze (σ := (Bool) × (Int)) (fun s_ => zdp s0_ s27_ s31_ i32_ (s_.1) i36_ (s_.2)) (fun s_ h => I_ (s_.1) (s_.2) h) (fun s_ h => m_ (s_.1) (s_.2) h)
  (fun X s_ h hi hx => (zxt S K X0 X s0_ s27_ s31_ i32_ (s_.1) i36_ (s_.2) h).mpr (hs X (s_.1) (s_.2) h hi fun b35_' i37_' h' hi' hm' => hx (b35_', i37_') h' hi' hm')) (b35_, i37_) h0
def zFt (S : SatT) (K : KT) (X0 : XT) (s0_ s27_ s31_ : Sl) (i32_ : Int) (b35_ : Bool) (i36_ : Int) (h : H) : Prop :=
 bif (decide (i36_ < (3))) then
 zHg S K X0 s0_ s27_ s31_ i32_ b35_ i36_ (0) h
 else
 bif (b35_ != (i32_ == (0))) then
 K (.bool false) h
 else
 callV S znU [.sl s0_] h fun v1 h0 =>
 viaT v1 fun vs2 =>
 exA vs2 0 fun cs3 =>
 viaT v1 fun vs4 =>
 exI .i64 vs4 1 fun n5 =>
 viaT v1 fun vs6 =>
 exI .i64 vs6 2 fun n7 =>
 newO [.int .i64 (0), .sl Sl.nil] h0 fun p8 h9 =>
 stN p8 2 cs3 h9 fun h10 =>
 ldA p8 2 h10 fun cs11 =>
 callV S zkO [.agg cs11, .int .i64 n5, .int .i64 n7] h10 fun v13 h12 =>
 viaT v13 fun vs14 =>
 exI .i64 vs14 0 fun n15 =>
 viaT v13 fun vs16 =>
 exI .i64 vs16 1 fun n17 =>
 ldA p8 2 h12 fun cs18 =>
 callV S znT [.agg cs18, .int .i64 n5, .int .i64 n7] h12 fun v20 h19 =>
 viaT v20 fun vs21 =>
 exI .i64 vs21 0 fun n22 =>
 viaT v20 fun vs23 =>
 exI .i64 vs23 1 fun n24 =>
 callV S znS [.sl s0_] h19 fun v26 h25 =>
 viaT v26 fun vs27 =>
 exA vs27 0 fun cs28 =>
 viaT v26 fun vs29 =>
 exS vs29 1 fun s30 =>
 newO [.int .i64 (0), .sl Sl.nil] h25 fun p31 h32 =>
 stN p31 2 cs28 h32 fun h33 =>
 ldA p31 2 h33 fun cs34 =>
 callV S zkQ [.agg cs34, .sl s30] h33 fun v36 h35 =>
 viaT v36 fun vs37 =>
 exB vs37 0 fun b38 =>
 viaT v36 fun vs39 =>
 exI .i64 vs39 1 fun n40 =>
 ldA p31 2 h35 fun cs41 =>
 callV S znR [.agg cs41, .sl s30] h35 fun v43 h42 =>
 viaT v43 fun vs44 =>
 exB vs44 0 fun b45 =>
 viaT v43 fun vs46 =>
 exI .i64 vs46 1 fun n47 =>
 callV S znQ [.sl s0_] h42 fun v49 h48 =>
 viaT v49 fun vs50 =>
 exA vs50 0 fun cs51 =>
 viaT v49 fun vs52 =>
 exS vs52 1 fun s53 =>
 newO [.int .i64 (0), .sl Sl.nil] h48 fun p54 h55 =>
 stN p54 2 cs51 h55 fun h56 =>
 ldA p54 2 h56 fun cs57 =>
 callV S zkP [.agg cs57, .sl s53] h56 fun v59 h58 =>
 viaT v59 fun vs60 =>
 exB vs60 0 fun b61 =>
 viaT v59 fun vs62 =>
 exI .i64 vs62 1 fun n63 =>
 ldA p54 2 h58 fun cs64 =>
 callV S znP [.agg cs64, .sl s53] h58 fun v66 h65 =>
 viaT v66 fun vs67 =>
 exB vs67 0 fun b68 =>
 viaT v66 fun vs69 =>
 exI .i64 vs69 1 fun n70 =>
 bif (n17 == n24) then
 bif (n15 == n22) then
 bif (n40 == n47) then
 bif (b38 == b45) then
 bif (n63 == n70) then
 K (.bool (b61 == b68)) h65
 else
 K (.bool false) h65
 else
 K (.bool false) h65
 else
 K (.bool false) h65
 else
 K (.bool false) h65
 else
 K (.bool false) h65
theorem zxu (S : SatT) (K : KT) (X0 : XT) (s0_ s27_ s31_ : Sl) (i32_ : Int) (b35_ : Bool) (i36_ : Int) (h : H) : zGP S K X0 (zrV s0_ s27_ s31_ i32_ b35_ i36_) h = zFt S K X0 s0_ s27_ s31_ i32_ b35_ i36_ h := by kernel_rfl
theorem zxs (S : SatT) (K : KT) (s0_ s27_ s31_ : Sl) (i32_ : Int) (I_ : Bool → Int → H → Prop) (m_ : Bool → Int → H → Nat)
  (hs : ∀ (X0 : XT) (b35_ : Bool) (i36_ : Int) (h : H), I_ b35_ i36_ h → (∀ (b35_' : Bool) (i36_' : Int) (h' : H), I_ b35_' i36_' h' → m_ b35_' i36_' h' < m_ b35_ i36_ h → X0 (zrV s0_ s27_ s31_ i32_ b35_' i36_') h') → zFt S K X0 s0_ s27_ s31_ i32_ b35_ i36_ h) (b35_ : Bool) (i36_ : Int) {h : H} (h0 : I_ b35_ i36_ h) : zHh S K s0_ s27_ s31_ i32_ b35_ i36_ h :=
 ze (σ := (Bool) × (Int)) (fun s_ => zrV s0_ s27_ s31_ i32_ (s_.1) (s_.2)) (fun s_ h => I_ (s_.1) (s_.2) h) (fun s_ h => m_ (s_.1) (s_.2) h)
  (fun X s_ h hi hx => (zxu S K X s0_ s27_ s31_ i32_ (s_.1) (s_.2) h).mpr (hs X (s_.1) (s_.2) h hi fun b35_' i36_' h' hi' hm' => hx (b35_', i36_') h' hi' hm')) (b35_, i36_) h0
def zqG (S : SatT) (K : KT) (s0_ s27_ s31_ : Sl) (i32_ : Int) (b35_ : Bool) (i36_ : Int) (h : H) : Prop :=
 zHh S K s0_ s27_ s31_ i32_ b35_ i36_ h
theorem zxG (S : SatT) (K : KT) (s0_ s27_ s31_ : Sl) (i32_ : Int) (b35_ : Bool) (i36_ : Int) (h : H) : (zrg S K) .normal (zAY s0_ s27_ s31_ i32_ b35_ i36_) h = zqG S K s0_ s27_ s31_ i32_ b35_ i36_ h := by
 unfold zqG
 refine (zC _ _ _ _).trans ?_
 refine (zgr zDS).trans ?_
 refine (ziy zDR).trans ?_
 kernel_rfl
def zqH (S : SatT) (K : KT) (s0_ s27_ s31_ : Sl) (i32_ : Int) (b35_ : Bool) (h : H) : Prop :=
 zcu S (zrg S K) s0_ s27_ s31_ i32_ b35_ h
theorem zxH (S : SatT) (K : KT) (s0_ s27_ s31_ : Sl) (i32_ : Int) (b35_ : Bool) (h : H) : (zrh S K) .normal (zrK s0_ s27_ s31_ i32_ b35_) h = zqH S K s0_ s27_ s31_ i32_ b35_ h := by
 unfold zqH
 refine (zC _ _ _ _).trans ?_
 refine (zf zDU).trans ?_
 refine (zf zDT).trans ?_
 exact zct S _ _ s0_ s27_ s31_ i32_ b35_ h
theorem zDQ : (sq Tryz.f3 19 524283) = .skip := by kernel_rfl
theorem zDP : (sq Tryz.f3 17 131071) = .seq (sq Tryz.f3 18 262142) (sq Tryz.f3 18 262143) := by kernel_rfl
def zrf (S : SatT) (K : KT) : Kont := kSeq (cwp S tab f1_M [] (sq Tryz.f3 18 262143) (kFun tab (Tryz.f3).results.toList K)) (kFun tab (Tryz.f3).results.toList K)
def zrJ (s0_ : Sl) (p38_ : Pt) (i39_ i40_ : Int) : Frame := (.sl s0_ :: uu 37 (.ptr p38_ :: .int .i64 i39_ :: .int .i64 i40_ :: uu 345 []))
def zcs (S : SatT) (k : Kont) (s0_ s27_ s31_ : Sl) (i32_ : Int) (b253_ : Bool) (h : H) : Prop :=
 callV S znU [.sl s0_] h fun v1 h0 =>
 viaT v1 fun vs2 =>
 exA vs2 0 fun cs3 =>
 viaT v1 fun vs4 =>
 exI .i64 vs4 1 fun n5 =>
 viaT v1 fun vs6 =>
 exI .i64 vs6 2 fun n7 =>
 newO [.int .i64 (0), .sl Sl.nil] h0 fun p8 h9 =>
 stN p8 2 cs3 h9 fun h10 =>
 k .normal (zrJ s0_ p8 n5 n7) h10
theorem zcr (S : SatT) (k : Kont) (m : List Nat) (s0_ s27_ s31_ : Sl) (i32_ : Int) (b253_ : Bool) (h : H) : cwp S tab f1_M m (sq Tryz.f3 18 262142) k (zjP s0_ s27_ s31_ i32_ b253_) h = zcs S k s0_ s27_ s31_ i32_ b253_ h := by kernel_rfl
theorem zDO : (sq Tryz.f3 18 262143) = .seq (sq Tryz.f3 19 524286) (sq Tryz.f3 19 524287) := by kernel_rfl
def zre (S : SatT) (K : KT) : Kont := kSeq (cwp S tab f1_M [] (sq Tryz.f3 19 524287) (kFun tab (Tryz.f3).results.toList K)) (kFun tab (Tryz.f3).results.toList K)
def zrI (s0_ : Sl) (p38_ : Pt) (i39_ i40_ : Int) (i41_ i42_ : Int) : Frame := (.sl s0_ :: uu 37 (.ptr p38_ :: .int .i64 i39_ :: .int .i64 i40_ :: .int .i64 i41_ :: .int .i64 i42_ :: uu 343 []))
def zcq (S : SatT) (k : Kont) (s0_ : Sl) (p38_ : Pt) (i39_ i40_ : Int) (h : H) : Prop :=
 ldA p38_ 2 h fun cs0 =>
 callV S zkO [.agg cs0, .int .i64 i39_, .int .i64 i40_] h fun v2 h1 =>
 viaT v2 fun vs3 =>
 exI .i64 vs3 0 fun n4 =>
 viaT v2 fun vs5 =>
 exI .i64 vs5 1 fun n6 =>
 k .normal (zrI s0_ p38_ i39_ i40_ n4 n6) h1
theorem zcp (S : SatT) (k : Kont) (m : List Nat) (s0_ : Sl) (p38_ : Pt) (i39_ i40_ : Int) (h : H) : cwp S tab f1_M m (sq Tryz.f3 19 524286) k (zrJ s0_ p38_ i39_ i40_) h = zcq S k s0_ p38_ i39_ i40_ h := by kernel_rfl
theorem zDN : (sq Tryz.f3 19 524287) = .seq (sq Tryz.f3 20 1048574) (sq Tryz.f3 20 1048575) := by kernel_rfl
def zrd (S : SatT) (K : KT) : Kont := kSeq (cwp S tab f1_M [] (sq Tryz.f3 20 1048575) (kFun tab (Tryz.f3).results.toList K)) (kFun tab (Tryz.f3).results.toList K)
def zrH (s0_ : Sl) (i41_ i42_ : Int) (i43_ i44_ : Int) : Frame := (.sl s0_ :: uu 40 (.int .i64 i41_ :: .int .i64 i42_ :: .int .i64 i43_ :: .int .i64 i44_ :: uu 341 []))
def zco (S : SatT) (k : Kont) (s0_ : Sl) (p38_ : Pt) (i39_ i40_ : Int) (i41_ i42_ : Int) (h : H) : Prop :=
 ldA p38_ 2 h fun cs0 =>
 callV S znT [.agg cs0, .int .i64 i39_, .int .i64 i40_] h fun v2 h1 =>
 viaT v2 fun vs3 =>
 exI .i64 vs3 0 fun n4 =>
 viaT v2 fun vs5 =>
 exI .i64 vs5 1 fun n6 =>
 k .normal (zrH s0_ i41_ i42_ n4 n6) h1
theorem zcn (S : SatT) (k : Kont) (m : List Nat) (s0_ : Sl) (p38_ : Pt) (i39_ i40_ : Int) (i41_ i42_ : Int) (h : H) : cwp S tab f1_M m (sq Tryz.f3 20 1048574) k (zrI s0_ p38_ i39_ i40_ i41_ i42_) h = zco S k s0_ p38_ i39_ i40_ i41_ i42_ h := by kernel_rfl
theorem zDM : (sq Tryz.f3 20 1048575) = .seq (sq Tryz.f3 21 2097150) (sq Tryz.f3 21 2097151) := by kernel_rfl
def zrc (S : SatT) (K : KT) : Kont := kSeq (cwp S tab f1_M [] (sq Tryz.f3 21 2097151) (kFun tab (Tryz.f3).results.toList K)) (kFun tab (Tryz.f3).results.toList K)
def zrG (s0_ : Sl) (i41_ i42_ : Int) (i43_ i44_ : Int) (p45_ : Pt) (s46_ : Sl) : Frame := (.sl s0_ :: uu 40 (.int .i64 i41_ :: .int .i64 i42_ :: .int .i64 i43_ :: .int .i64 i44_ :: .ptr p45_ :: .sl s46_ :: uu 339 []))
def zcm (S : SatT) (k : Kont) (s0_ : Sl) (i41_ i42_ : Int) (i43_ i44_ : Int) (h : H) : Prop :=
 callV S znS [.sl s0_] h fun v1 h0 =>
 viaT v1 fun vs2 =>
 exA vs2 0 fun cs3 =>
 viaT v1 fun vs4 =>
 exS vs4 1 fun s5 =>
 newO [.int .i64 (0), .sl Sl.nil] h0 fun p6 h7 =>
 stN p6 2 cs3 h7 fun h8 =>
 k .normal (zrG s0_ i41_ i42_ i43_ i44_ p6 s5) h8
theorem zcl (S : SatT) (k : Kont) (m : List Nat) (s0_ : Sl) (i41_ i42_ : Int) (i43_ i44_ : Int) (h : H) : cwp S tab f1_M m (sq Tryz.f3 21 2097150) k (zrH s0_ i41_ i42_ i43_ i44_) h = zcm S k s0_ i41_ i42_ i43_ i44_ h := by kernel_rfl
theorem zDL : (sq Tryz.f3 21 2097151) = .seq (sq Tryz.f3 22 4194302) (sq Tryz.f3 22 4194303) := by kernel_rfl
def zrb (S : SatT) (K : KT) : Kont := kSeq (cwp S tab f1_M [] (sq Tryz.f3 22 4194303) (kFun tab (Tryz.f3).results.toList K)) (kFun tab (Tryz.f3).results.toList K)
def zrF (s0_ : Sl) (i41_ i42_ : Int) (i43_ i44_ : Int) (p45_ : Pt) (s46_ : Sl) (b47_ : Bool) (i48_ : Int) : Frame := (.sl s0_ :: uu 40 (.int .i64 i41_ :: .int .i64 i42_ :: .int .i64 i43_ :: .int .i64 i44_ :: .ptr p45_ :: .sl s46_ :: .bool b47_ :: .int .i64 i48_ :: uu 337 []))
def zck (S : SatT) (k : Kont) (s0_ : Sl) (i41_ i42_ : Int) (i43_ i44_ : Int) (p45_ : Pt) (s46_ : Sl) (h : H) : Prop :=
 ldA p45_ 2 h fun cs0 =>
 callV S zkQ [.agg cs0, .sl s46_] h fun v2 h1 =>
 viaT v2 fun vs3 =>
 exB vs3 0 fun b4 =>
 viaT v2 fun vs5 =>
 exI .i64 vs5 1 fun n6 =>
 k .normal (zrF s0_ i41_ i42_ i43_ i44_ p45_ s46_ b4 n6) h1
theorem zcj (S : SatT) (k : Kont) (m : List Nat) (s0_ : Sl) (i41_ i42_ : Int) (i43_ i44_ : Int) (p45_ : Pt) (s46_ : Sl) (h : H) : cwp S tab f1_M m (sq Tryz.f3 22 4194302) k (zrG s0_ i41_ i42_ i43_ i44_ p45_ s46_) h = zck S k s0_ i41_ i42_ i43_ i44_ p45_ s46_ h := by kernel_rfl
theorem zDK : (sq Tryz.f3 22 4194303) = .seq (sq Tryz.f3 23 8388606) (sq Tryz.f3 23 8388607) := by kernel_rfl
def zra (S : SatT) (K : KT) : Kont := kSeq (cwp S tab f1_M [] (sq Tryz.f3 23 8388607) (kFun tab (Tryz.f3).results.toList K)) (kFun tab (Tryz.f3).results.toList K)
def zrE (s0_ : Sl) (i41_ i42_ : Int) (i43_ i44_ : Int) (b47_ : Bool) (i48_ : Int) (b49_ : Bool) (i50_ : Int) : Frame := (.sl s0_ :: uu 40 (.int .i64 i41_ :: .int .i64 i42_ :: .int .i64 i43_ :: .int .i64 i44_ :: U :: U :: .bool b47_ :: .int .i64 i48_ :: .bool b49_ :: .int .i64 i50_ :: uu 335 []))
def zci (S : SatT) (k : Kont) (s0_ : Sl) (i41_ i42_ : Int) (i43_ i44_ : Int) (p45_ : Pt) (s46_ : Sl) (b47_ : Bool) (i48_ : Int) (h : H) : Prop :=
 ldA p45_ 2 h fun cs0 =>
 callV S znR [.agg cs0, .sl s46_] h fun v2 h1 =>
 viaT v2 fun vs3 =>
 exB vs3 0 fun b4 =>
 viaT v2 fun vs5 =>
 exI .i64 vs5 1 fun n6 =>
 k .normal (zrE s0_ i41_ i42_ i43_ i44_ b47_ i48_ b4 n6) h1
theorem zch (S : SatT) (k : Kont) (m : List Nat) (s0_ : Sl) (i41_ i42_ : Int) (i43_ i44_ : Int) (p45_ : Pt) (s46_ : Sl) (b47_ : Bool) (i48_ : Int) (h : H) : cwp S tab f1_M m (sq Tryz.f3 23 8388606) k (zrF s0_ i41_ i42_ i43_ i44_ p45_ s46_ b47_ i48_) h = zci S k s0_ i41_ i42_ i43_ i44_ p45_ s46_ b47_ i48_ h := by kernel_rfl
theorem zDJ : (sq Tryz.f3 23 8388607) = .seq (sq Tryz.f3 24 16777214) (sq Tryz.f3 24 16777215) := by kernel_rfl
def zqZ (S : SatT) (K : KT) : Kont := kSeq (cwp S tab f1_M [] (sq Tryz.f3 24 16777215) (kFun tab (Tryz.f3).results.toList K)) (kFun tab (Tryz.f3).results.toList K)
def zrD (i41_ i42_ : Int) (i43_ i44_ : Int) (b47_ : Bool) (i48_ : Int) (b49_ : Bool) (i50_ : Int) (p51_ : Pt) (s52_ : Sl) : Frame := (uu 41 (.int .i64 i41_ :: .int .i64 i42_ :: .int .i64 i43_ :: .int .i64 i44_ :: U :: U :: .bool b47_ :: .int .i64 i48_ :: .bool b49_ :: .int .i64 i50_ :: .ptr p51_ :: .sl s52_ :: uu 333 []))
def zcg (S : SatT) (k : Kont) (s0_ : Sl) (i41_ i42_ : Int) (i43_ i44_ : Int) (b47_ : Bool) (i48_ : Int) (b49_ : Bool) (i50_ : Int) (h : H) : Prop :=
 callV S znQ [.sl s0_] h fun v1 h0 =>
 viaT v1 fun vs2 =>
 exA vs2 0 fun cs3 =>
 viaT v1 fun vs4 =>
 exS vs4 1 fun s5 =>
 newO [.int .i64 (0), .sl Sl.nil] h0 fun p6 h7 =>
 stN p6 2 cs3 h7 fun h8 =>
 k .normal (zrD i41_ i42_ i43_ i44_ b47_ i48_ b49_ i50_ p6 s5) h8
theorem zcf (S : SatT) (k : Kont) (m : List Nat) (s0_ : Sl) (i41_ i42_ : Int) (i43_ i44_ : Int) (b47_ : Bool) (i48_ : Int) (b49_ : Bool) (i50_ : Int) (h : H) : cwp S tab f1_M m (sq Tryz.f3 24 16777214) k (zrE s0_ i41_ i42_ i43_ i44_ b47_ i48_ b49_ i50_) h = zcg S k s0_ i41_ i42_ i43_ i44_ b47_ i48_ b49_ i50_ h := by kernel_rfl
theorem zDI : (sq Tryz.f3 24 16777215) = .seq (sq Tryz.f3 25 33554430) (sq Tryz.f3 25 33554431) := by kernel_rfl
def zqY (S : SatT) (K : KT) : Kont := kSeq (cwp S tab f1_M [] (sq Tryz.f3 25 33554431) (kFun tab (Tryz.f3).results.toList K)) (kFun tab (Tryz.f3).results.toList K)
def zrC (i41_ i42_ : Int) (i43_ i44_ : Int) (b47_ : Bool) (i48_ : Int) (b49_ : Bool) (i50_ : Int) (p51_ : Pt) (s52_ : Sl) (b53_ : Bool) (i54_ : Int) : Frame := (uu 41 (.int .i64 i41_ :: .int .i64 i42_ :: .int .i64 i43_ :: .int .i64 i44_ :: U :: U :: .bool b47_ :: .int .i64 i48_ :: .bool b49_ :: .int .i64 i50_ :: .ptr p51_ :: .sl s52_ :: .bool b53_ :: .int .i64 i54_ :: uu 331 []))
def zce (S : SatT) (k : Kont) (i41_ i42_ : Int) (i43_ i44_ : Int) (b47_ : Bool) (i48_ : Int) (b49_ : Bool) (i50_ : Int) (p51_ : Pt) (s52_ : Sl) (h : H) : Prop :=
 ldA p51_ 2 h fun cs0 =>
 callV S zkP [.agg cs0, .sl s52_] h fun v2 h1 =>
 viaT v2 fun vs3 =>
 exB vs3 0 fun b4 =>
 viaT v2 fun vs5 =>
 exI .i64 vs5 1 fun n6 =>
 k .normal (zrC i41_ i42_ i43_ i44_ b47_ i48_ b49_ i50_ p51_ s52_ b4 n6) h1
theorem zcd (S : SatT) (k : Kont) (m : List Nat) (i41_ i42_ : Int) (i43_ i44_ : Int) (b47_ : Bool) (i48_ : Int) (b49_ : Bool) (i50_ : Int) (p51_ : Pt) (s52_ : Sl) (h : H) : cwp S tab f1_M m (sq Tryz.f3 25 33554430) k (zrD i41_ i42_ i43_ i44_ b47_ i48_ b49_ i50_ p51_ s52_) h = zce S k i41_ i42_ i43_ i44_ b47_ i48_ b49_ i50_ p51_ s52_ h := by kernel_rfl
theorem zDH : (sq Tryz.f3 25 33554431) = .seq (sq Tryz.f3 26 67108862) (sq Tryz.f3 26 67108863) := by kernel_rfl
def zqX (S : SatT) (K : KT) : Kont := kSeq (cwp S tab f1_M [] (sq Tryz.f3 26 67108863) (kFun tab (Tryz.f3).results.toList K)) (kFun tab (Tryz.f3).results.toList K)
def zrB (i41_ i42_ : Int) (i43_ i44_ : Int) (b47_ : Bool) (i48_ : Int) (b49_ : Bool) (i50_ : Int) (b53_ : Bool) (i54_ : Int) (b55_ : Bool) (i56_ : Int) : Frame := (uu 41 (.int .i64 i41_ :: .int .i64 i42_ :: .int .i64 i43_ :: .int .i64 i44_ :: U :: U :: .bool b47_ :: .int .i64 i48_ :: .bool b49_ :: .int .i64 i50_ :: U :: U :: .bool b53_ :: .int .i64 i54_ :: .bool b55_ :: .int .i64 i56_ :: uu 329 []))
def zcc (S : SatT) (k : Kont) (i41_ i42_ : Int) (i43_ i44_ : Int) (b47_ : Bool) (i48_ : Int) (b49_ : Bool) (i50_ : Int) (p51_ : Pt) (s52_ : Sl) (b53_ : Bool) (i54_ : Int) (h : H) : Prop :=
 ldA p51_ 2 h fun cs0 =>
 callV S znP [.agg cs0, .sl s52_] h fun v2 h1 =>
 viaT v2 fun vs3 =>
 exB vs3 0 fun b4 =>
 viaT v2 fun vs5 =>
 exI .i64 vs5 1 fun n6 =>
 k .normal (zrB i41_ i42_ i43_ i44_ b47_ i48_ b49_ i50_ b53_ i54_ b4 n6) h1
theorem zcb (S : SatT) (k : Kont) (m : List Nat) (i41_ i42_ : Int) (i43_ i44_ : Int) (b47_ : Bool) (i48_ : Int) (b49_ : Bool) (i50_ : Int) (p51_ : Pt) (s52_ : Sl) (b53_ : Bool) (i54_ : Int) (h : H) : cwp S tab f1_M m (sq Tryz.f3 26 67108862) k (zrC i41_ i42_ i43_ i44_ b47_ i48_ b49_ i50_ p51_ s52_ b53_ i54_) h = zcc S k i41_ i42_ i43_ i44_ b47_ i48_ b49_ i50_ p51_ s52_ b53_ i54_ h := by kernel_rfl
theorem zDG : (sq Tryz.f3 26 67108863) = .seq (sq Tryz.f3 27 134217726) (sq Tryz.f3 27 134217727) := by kernel_rfl
def zqW (S : SatT) (K : KT) : Kont := kSeq (cwp S tab f1_M [] (sq Tryz.f3 27 134217727) (kFun tab (Tryz.f3).results.toList K)) (kFun tab (Tryz.f3).results.toList K)
def XG (b2_ : Bool) : Frame := (U :: U :: .bool b2_ :: uu 383 [])
def zca (S : SatT) (k : Kont) (i41_ i42_ : Int) (i43_ i44_ : Int) (b47_ : Bool) (i48_ : Int) (b49_ : Bool) (i50_ : Int) (b53_ : Bool) (i54_ : Int) (b55_ : Bool) (i56_ : Int) (h : H) : Prop :=
 bif (i42_ == i44_) then
 bif (i41_ == i43_) then
 bif (i48_ == i50_) then
 bif (b47_ == b49_) then
 bif (i54_ == i56_) then
 k .normal (XG (b53_ == b55_)) h
 else
 k .normal (XG false) h
 else
 k .normal (XG false) h
 else
 k .normal (XG false) h
 else
 k .normal (XG false) h
 else
 k .normal (XG false) h
theorem zbZ (S : SatT) (k : Kont) (m : List Nat) (i41_ i42_ : Int) (i43_ i44_ : Int) (b47_ : Bool) (i48_ : Int) (b49_ : Bool) (i50_ : Int) (b53_ : Bool) (i54_ : Int) (b55_ : Bool) (i56_ : Int) (h : H) : cwp S tab f1_M m (sq Tryz.f3 27 134217726) k (zrB i41_ i42_ i43_ i44_ b47_ i48_ b49_ i50_ b53_ i54_ b55_ i56_) h = zca S k i41_ i42_ i43_ i44_ b47_ i48_ b49_ i50_ b53_ i54_ b55_ i56_ h := by kernel_rfl
theorem zDF : (sq Tryz.f3 27 134217727) = .ret := by kernel_rfl
def zqw (S : SatT) (K : KT) (b2_ : Bool) (h : H) : Prop :=
 K (.bool b2_) h
theorem zxw (S : SatT) (K : KT) (b2_ : Bool) (h : H) : (zqW S K) .normal (XG b2_) h = zqw S K b2_ h := by
 unfold zqw
 refine (zC _ _ _ _).trans ?_
 refine (QF zDF).trans ?_
 kernel_rfl
def zqx (S : SatT) (K : KT) (i41_ i42_ : Int) (i43_ i44_ : Int) (b47_ : Bool) (i48_ : Int) (b49_ : Bool) (i50_ : Int) (b53_ : Bool) (i54_ : Int) (b55_ : Bool) (i56_ : Int) (h : H) : Prop :=
 zca S (zqW S K) i41_ i42_ i43_ i44_ b47_ i48_ b49_ i50_ b53_ i54_ b55_ i56_ h
theorem zxx (S : SatT) (K : KT) (i41_ i42_ : Int) (i43_ i44_ : Int) (b47_ : Bool) (i48_ : Int) (b49_ : Bool) (i50_ : Int) (b53_ : Bool) (i54_ : Int) (b55_ : Bool) (i56_ : Int) (h : H) : (zqX S K) .normal (zrB i41_ i42_ i43_ i44_ b47_ i48_ b49_ i50_ b53_ i54_ b55_ i56_) h = zqx S K i41_ i42_ i43_ i44_ b47_ i48_ b49_ i50_ b53_ i54_ b55_ i56_ h := by
 unfold zqx
 refine (zC _ _ _ _).trans ?_
 refine (zf zDG).trans ?_
 exact zbZ S _ _ i41_ i42_ i43_ i44_ b47_ i48_ b49_ i50_ b53_ i54_ b55_ i56_ h
def zqy (S : SatT) (K : KT) (i41_ i42_ : Int) (i43_ i44_ : Int) (b47_ : Bool) (i48_ : Int) (b49_ : Bool) (i50_ : Int) (p51_ : Pt) (s52_ : Sl) (b53_ : Bool) (i54_ : Int) (h : H) : Prop :=
 zcc S (zqX S K) i41_ i42_ i43_ i44_ b47_ i48_ b49_ i50_ p51_ s52_ b53_ i54_ h
theorem zxy (S : SatT) (K : KT) (i41_ i42_ : Int) (i43_ i44_ : Int) (b47_ : Bool) (i48_ : Int) (b49_ : Bool) (i50_ : Int) (p51_ : Pt) (s52_ : Sl) (b53_ : Bool) (i54_ : Int) (h : H) : (zqY S K) .normal (zrC i41_ i42_ i43_ i44_ b47_ i48_ b49_ i50_ p51_ s52_ b53_ i54_) h = zqy S K i41_ i42_ i43_ i44_ b47_ i48_ b49_ i50_ p51_ s52_ b53_ i54_ h := by
 unfold zqy
 refine (zC _ _ _ _).trans ?_
 refine (zf zDH).trans ?_
 exact zcb S _ _ i41_ i42_ i43_ i44_ b47_ i48_ b49_ i50_ p51_ s52_ b53_ i54_ h
def zqz (S : SatT) (K : KT) (i41_ i42_ : Int) (i43_ i44_ : Int) (b47_ : Bool) (i48_ : Int) (b49_ : Bool) (i50_ : Int) (p51_ : Pt) (s52_ : Sl) (h : H) : Prop :=
 zce S (zqY S K) i41_ i42_ i43_ i44_ b47_ i48_ b49_ i50_ p51_ s52_ h
theorem zxz (S : SatT) (K : KT) (i41_ i42_ : Int) (i43_ i44_ : Int) (b47_ : Bool) (i48_ : Int) (b49_ : Bool) (i50_ : Int) (p51_ : Pt) (s52_ : Sl) (h : H) : (zqZ S K) .normal (zrD i41_ i42_ i43_ i44_ b47_ i48_ b49_ i50_ p51_ s52_) h = zqz S K i41_ i42_ i43_ i44_ b47_ i48_ b49_ i50_ p51_ s52_ h := by
 unfold zqz
 refine (zC _ _ _ _).trans ?_
 refine (zf zDI).trans ?_
 exact zcd S _ _ i41_ i42_ i43_ i44_ b47_ i48_ b49_ i50_ p51_ s52_ h
def zqA (S : SatT) (K : KT) (s0_ : Sl) (i41_ i42_ : Int) (i43_ i44_ : Int) (b47_ : Bool) (i48_ : Int) (b49_ : Bool) (i50_ : Int) (h : H) : Prop :=
 zcg S (zqZ S K) s0_ i41_ i42_ i43_ i44_ b47_ i48_ b49_ i50_ h
theorem zxA (S : SatT) (K : KT) (s0_ : Sl) (i41_ i42_ : Int) (i43_ i44_ : Int) (b47_ : Bool) (i48_ : Int) (b49_ : Bool) (i50_ : Int) (h : H) : (zra S K) .normal (zrE s0_ i41_ i42_ i43_ i44_ b47_ i48_ b49_ i50_) h = zqA S K s0_ i41_ i42_ i43_ i44_ b47_ i48_ b49_ i50_ h := by
 unfold zqA
 refine (zC _ _ _ _).trans ?_
 refine (zf zDJ).trans ?_
 exact zcf S _ _ s0_ i41_ i42_ i43_ i44_ b47_ i48_ b49_ i50_ h
def zqB (S : SatT) (K : KT) (s0_ : Sl) (i41_ i42_ : Int) (i43_ i44_ : Int) (p45_ : Pt) (s46_ : Sl) (b47_ : Bool) (i48_ : Int) (h : H) : Prop :=
 zci S (zra S K) s0_ i41_ i42_ i43_ i44_ p45_ s46_ b47_ i48_ h
theorem zxB (S : SatT) (K : KT) (s0_ : Sl) (i41_ i42_ : Int) (i43_ i44_ : Int) (p45_ : Pt) (s46_ : Sl) (b47_ : Bool) (i48_ : Int) (h : H) : (zrb S K) .normal (zrF s0_ i41_ i42_ i43_ i44_ p45_ s46_ b47_ i48_) h = zqB S K s0_ i41_ i42_ i43_ i44_ p45_ s46_ b47_ i48_ h := by
 unfold zqB
 refine (zC _ _ _ _).trans ?_
 refine (zf zDK).trans ?_
 exact zch S _ _ s0_ i41_ i42_ i43_ i44_ p45_ s46_ b47_ i48_ h
def zqC (S : SatT) (K : KT) (s0_ : Sl) (i41_ i42_ : Int) (i43_ i44_ : Int) (p45_ : Pt) (s46_ : Sl) (h : H) : Prop :=
 zck S (zrb S K) s0_ i41_ i42_ i43_ i44_ p45_ s46_ h
theorem zxC (S : SatT) (K : KT) (s0_ : Sl) (i41_ i42_ : Int) (i43_ i44_ : Int) (p45_ : Pt) (s46_ : Sl) (h : H) : (zrc S K) .normal (zrG s0_ i41_ i42_ i43_ i44_ p45_ s46_) h = zqC S K s0_ i41_ i42_ i43_ i44_ p45_ s46_ h := by
 unfold zqC
 refine (zC _ _ _ _).trans ?_
 refine (zf zDL).trans ?_
 exact zcj S _ _ s0_ i41_ i42_ i43_ i44_ p45_ s46_ h
def zqD (S : SatT) (K : KT) (s0_ : Sl) (i41_ i42_ : Int) (i43_ i44_ : Int) (h : H) : Prop :=
 zcm S (zrc S K) s0_ i41_ i42_ i43_ i44_ h
theorem zxD (S : SatT) (K : KT) (s0_ : Sl) (i41_ i42_ : Int) (i43_ i44_ : Int) (h : H) : (zrd S K) .normal (zrH s0_ i41_ i42_ i43_ i44_) h = zqD S K s0_ i41_ i42_ i43_ i44_ h := by
 unfold zqD
 refine (zC _ _ _ _).trans ?_
 refine (zf zDM).trans ?_
 exact zcl S _ _ s0_ i41_ i42_ i43_ i44_ h
def zqE (S : SatT) (K : KT) (s0_ : Sl) (p38_ : Pt) (i39_ i40_ : Int) (i41_ i42_ : Int) (h : H) : Prop :=
 zco S (zrd S K) s0_ p38_ i39_ i40_ i41_ i42_ h
theorem zxE (S : SatT) (K : KT) (s0_ : Sl) (p38_ : Pt) (i39_ i40_ : Int) (i41_ i42_ : Int) (h : H) : (zre S K) .normal (zrI s0_ p38_ i39_ i40_ i41_ i42_) h = zqE S K s0_ p38_ i39_ i40_ i41_ i42_ h := by
 unfold zqE
 refine (zC _ _ _ _).trans ?_
 refine (zf zDN).trans ?_
 exact zcn S _ _ s0_ p38_ i39_ i40_ i41_ i42_ h
def zqF (S : SatT) (K : KT) (s0_ : Sl) (p38_ : Pt) (i39_ i40_ : Int) (h : H) : Prop :=
 zcq S (zre S K) s0_ p38_ i39_ i40_ h
theorem zxF (S : SatT) (K : KT) (s0_ : Sl) (p38_ : Pt) (i39_ i40_ : Int) (h : H) : (zrf S K) .normal (zrJ s0_ p38_ i39_ i40_) h = zqF S K s0_ p38_ i39_ i40_ h := by
 unfold zqF
 refine (zC _ _ _ _).trans ?_
 refine (zf zDO).trans ?_
 exact zcp S _ _ s0_ p38_ i39_ i40_ h
def Qm (S : SatT) (K : KT) (s0_ s27_ s31_ : Sl) (i32_ : Int) (b253_ : Bool) (h : H) : Prop :=
 bif b253_ then
 zcw S (zrh S K) s0_ s27_ s31_ i32_ b253_ h
 else
 zcs S (zrf S K) s0_ s27_ s31_ i32_ b253_ h
theorem zxI (S : SatT) (K : KT) (s0_ s27_ s31_ : Sl) (i32_ : Int) (b253_ : Bool) (h : H) : (zri S K) .normal (zjP s0_ s27_ s31_ i32_ b253_) h = Qm S K s0_ s27_ s31_ i32_ b253_ h := by
 unfold Qm
 refine (zC _ _ _ _).trans ?_
 refine (yk zDW (t := b253_) rfl).trans (xF ?_ ?_)
 ·refine (zf zDV).trans ?_
  exact zcv S _ _ s0_ s27_ s31_ i32_ b253_ h
 ·refine (yj zDQ).trans ?_
  refine (zC _ _ _ _).trans ?_
  refine (zf zDP).trans ?_
  exact zcr S _ _ s0_ s27_ s31_ i32_ b253_ h
def zqI (S : SatT) (K : KT) (s0_ s27_ : Sl) (i28_ : Int) (s31_ : Sl) (i32_ : Int) (b251_ : Bool) (h : H) : Prop :=
 bif b251_ then
 zjM S (zEX S K) s0_ s27_ i28_ s31_ i32_ b251_ h
 else
 zcy S (zri S K) s0_ s27_ i28_ s31_ i32_ b251_ h
theorem zxJ (S : SatT) (K : KT) (s0_ s27_ : Sl) (i28_ : Int) (s31_ : Sl) (i32_ : Int) (b251_ : Bool) (h : H) : (zrj S K) .normal (XH s0_ s27_ i28_ s31_ i32_ b251_) h = zqI S K s0_ s27_ i28_ s31_ i32_ b251_ h := by
 unfold zqI
 refine (zC _ _ _ _).trans ?_
 refine (yk zEb (t := b251_) rfl).trans (xF ?_ ?_)
 ·refine (zf zEa).trans ?_
  exact zcz S _ _ s0_ s27_ i28_ s31_ i32_ b251_ h
 ·refine (yj zDZ).trans ?_
  refine (zC _ _ _ _).trans ?_
  refine (zf zDY).trans ?_
  refine (zf zDX).trans ?_
  exact zcx S _ _ s0_ s27_ i28_ s31_ i32_ b251_ h
def zqJ (S : SatT) (K : KT) (s0_ s27_ : Sl) (i28_ : Int) (s29_ : Sl) (i30_ : Int) (s31_ : Sl) (i32_ : Int) (s33_ : Sl) (i34_ : Int) (h : H) : Prop :=
 zcB S (zrj S K) s0_ s27_ i28_ s29_ i30_ s31_ i32_ s33_ i34_ h
theorem zxK (S : SatT) (K : KT) (s0_ s27_ : Sl) (i28_ : Int) (s29_ : Sl) (i30_ : Int) (s31_ : Sl) (i32_ : Int) (s33_ : Sl) (i34_ : Int) (h : H) : (zrk S K) .normal (zrL s0_ s27_ i28_ s29_ i30_ s31_ i32_ s33_ i34_) h = zqJ S K s0_ s27_ i28_ s29_ i30_ s31_ i32_ s33_ i34_ h := by
 unfold zqJ
 refine (zC _ _ _ _).trans ?_
 refine (zf zEd).trans ?_
 refine (zf zEc).trans ?_
 exact zcA S _ _ s0_ s27_ i28_ s29_ i30_ s31_ i32_ s33_ i34_ h
def zqK (S : SatT) (K : KT) (s0_ : Sl) (p26_ : Pt) (s27_ : Sl) (i28_ : Int) (s29_ : Sl) (i30_ : Int) (s31_ : Sl) (i32_ : Int) (h : H) : Prop :=
 zcD S (zrk S K) s0_ p26_ s27_ i28_ s29_ i30_ s31_ i32_ h
theorem zxL (S : SatT) (K : KT) (s0_ : Sl) (p26_ : Pt) (s27_ : Sl) (i28_ : Int) (s29_ : Sl) (i30_ : Int) (s31_ : Sl) (i32_ : Int) (h : H) : (zrl S K) .normal (zrM s0_ p26_ s27_ i28_ s29_ i30_ s31_ i32_) h = zqK S K s0_ p26_ s27_ i28_ s29_ i30_ s31_ i32_ h := by
 unfold zqK
 refine (zC _ _ _ _).trans ?_
 refine (zf zEe).trans ?_
 exact zcC S _ _ s0_ p26_ s27_ i28_ s29_ i30_ s31_ i32_ h
def zqL (S : SatT) (K : KT) (s0_ : Sl) (p26_ : Pt) (s27_ : Sl) (i28_ : Int) (s29_ : Sl) (i30_ : Int) (h : H) : Prop :=
 zcF S (zrl S K) s0_ p26_ s27_ i28_ s29_ i30_ h
theorem zxM (S : SatT) (K : KT) (s0_ : Sl) (p26_ : Pt) (s27_ : Sl) (i28_ : Int) (s29_ : Sl) (i30_ : Int) (h : H) : (zrm S K) .normal (zrN s0_ p26_ s27_ i28_ s29_ i30_) h = zqL S K s0_ p26_ s27_ i28_ s29_ i30_ h := by
 unfold zqL
 refine (zC _ _ _ _).trans ?_
 refine (zf zEf).trans ?_
 exact zcE S _ _ s0_ p26_ s27_ i28_ s29_ i30_ h
def zqM (S : SatT) (K : KT) (s0_ : Sl) (p26_ : Pt) (s27_ : Sl) (i28_ : Int) (h : H) : Prop :=
 zcH S (zrm S K) s0_ p26_ s27_ i28_ h
theorem zxN (S : SatT) (K : KT) (s0_ : Sl) (p26_ : Pt) (s27_ : Sl) (i28_ : Int) (h : H) : (zrn S K) .normal (zrO s0_ p26_ s27_ i28_) h = zqM S K s0_ p26_ s27_ i28_ h := by
 unfold zqM
 refine (zC _ _ _ _).trans ?_
 refine (zf zEg).trans ?_
 exact zcG S _ _ s0_ p26_ s27_ i28_ h
def zqN (S : SatT) (K : KT) (s0_ : Sl) (p26_ : Pt) (h : H) : Prop :=
 zcJ S (zrn S K) s0_ p26_ h
theorem zxO (S : SatT) (K : KT) (s0_ : Sl) (p26_ : Pt) (h : H) : (zro S K) .normal (zjQ s0_ p26_) h = zqN S K s0_ p26_ h := by
 unfold zqN
 refine (zC _ _ _ _).trans ?_
 refine (zf zEh).trans ?_
 exact zcI S _ _ s0_ p26_ h
def zfL (S : SatT) (K : KT) (s0_ : Sl) (b209_ : Bool) (h : H) : Prop :=
 bif b209_ then
 zcO S (zEY S K) s0_ b209_ h
 else
 YP S (zro S K) s0_ b209_ h
theorem zxP (S : SatT) (K : KT) (s0_ : Sl) (b209_ : Bool) (h : H) : (zrp S K) .normal (Qn s0_ b209_) h = zfL S K s0_ b209_ h := by
 unfold zfL
 refine (zC _ _ _ _).trans ?_
 refine (yk zEk (t := b209_) rfl).trans (xF ?_ ?_)
 ·refine (zf zEj).trans ?_
  exact zcN S _ _ s0_ b209_ h
 ·refine (yj zEi).trans ?_
  refine (zC _ _ _ _).trans ?_
  refine (zf zqt).trans ?_
  exact zcM S _ _ s0_ b209_ h
def zqO (S : SatT) (K : KT) (s0_ : Sl) (i10_ i23_ : Int) (i24_ i25_ : Int) (h : H) : Prop :=
 zcQ S (zrp S K) s0_ i10_ i23_ i24_ i25_ h
theorem zxQ (S : SatT) (K : KT) (s0_ : Sl) (i10_ i23_ : Int) (i24_ i25_ : Int) (h : H) : (zrq S K) .normal (zrP s0_ i10_ i23_ i24_ i25_) h = zqO S K s0_ i10_ i23_ i24_ i25_ h := by
 unfold zqO
 refine (zC _ _ _ _).trans ?_
 refine (zf zEl).trans ?_
 exact zcP S _ _ s0_ i10_ i23_ i24_ i25_ h
def zqP (S : SatT) (K : KT) (s0_ : Sl) (i4_ i5_ i10_ : Int) (p22_ : Pt) (i23_ : Int) (h : H) : Prop :=
 zcS S (zrq S K) s0_ i4_ i5_ i10_ p22_ i23_ h
theorem zxR (S : SatT) (K : KT) (s0_ : Sl) (i4_ i5_ i10_ : Int) (p22_ : Pt) (i23_ : Int) (h : H) : (zrr S K) .normal (zrQ s0_ i4_ i5_ i10_ p22_ i23_) h = zqP S K s0_ i4_ i5_ i10_ p22_ i23_ h := by
 unfold zqP
 refine (zC _ _ _ _).trans ?_
 refine (zf zEm).trans ?_
 exact zcR S _ _ s0_ i4_ i5_ i10_ p22_ i23_ h
def zjH (S : SatT) (K : KT) (s0_ : Sl) (p3_ : Pt) (i4_ i5_ i10_ : Int) (b186_ : Bool) (h : H) : Prop :=
 bif b186_ then
 zjN S (zEZ S K) s0_ p3_ i4_ i5_ i10_ b186_ h
 else
 zcU S (zrr S K) s0_ p3_ i4_ i5_ i10_ b186_ h
theorem zjS (S : SatT) (K : KT) (s0_ : Sl) (p3_ : Pt) (i4_ i5_ i10_ : Int) (b186_ : Bool) (h : H) : (zrs S K) .normal (Qo s0_ p3_ i4_ i5_ i10_ b186_) h = zjH S K s0_ p3_ i4_ i5_ i10_ b186_ h := by
 unfold zjH
 refine (zC _ _ _ _).trans ?_
 refine (yk zEq (t := b186_) rfl).trans (xF ?_ ?_)
 ·refine (zf zEp).trans ?_
  exact zcV S _ _ s0_ p3_ i4_ i5_ i10_ b186_ h
 ·refine (yj zEo).trans ?_
  refine (zC _ _ _ _).trans ?_
  refine (zf zEn).trans ?_
  exact zcT S _ _ s0_ p3_ i4_ i5_ i10_ b186_ h
def zqQ (S : SatT) (K : KT) (s0_ : Sl) (p3_ : Pt) (i4_ i5_ : Int) (i7_ i10_ : Int) (i20_ i21_ : Int) (h : H) : Prop :=
 zcX S (zrs S K) s0_ p3_ i4_ i5_ i7_ i10_ i20_ i21_ h
theorem zxS (S : SatT) (K : KT) (s0_ : Sl) (p3_ : Pt) (i4_ i5_ : Int) (i7_ i10_ : Int) (i20_ i21_ : Int) (h : H) : (zrt S K) .normal (zrR s0_ p3_ i4_ i5_ i7_ i10_ i20_ i21_) h = zqQ S K s0_ p3_ i4_ i5_ i7_ i10_ i20_ i21_ h := by
 unfold zqQ
 refine (zC _ _ _ _).trans ?_
 refine (zf zEs).trans ?_
 refine (zf zEr).trans ?_
 exact zcW S _ _ s0_ p3_ i4_ i5_ i7_ i10_ i20_ i21_ h
theorem zDE : (sq Tryz.f3 12 4091) = .skip := by kernel_rfl
def zEV (S : SatT) (K : KT) : Kont := kSeq (cwp S tab f1_M [] (sq Tryz.f3 11 2047) (kFun tab (Tryz.f3).results.toList K)) (kFun tab (Tryz.f3).results.toList K)
def zcL (S : SatT) (k : Kont) (s0_ : Sl) (p3_ : Pt) (i4_ i5_ : Int) (i7_ i10_ : Int) (b165_ : Bool) (h : H) : Prop :=
 callA S zwo [.sl s0_] h fun cs1 h0 =>
 newO [.int .i64 (0), .sl Sl.nil] h0 fun p2 h3 =>
 stN p2 2 cs1 h3 fun h4 =>
 k .normal (zjQ s0_ p2) h4
theorem zcK (S : SatT) (k : Kont) (m : List Nat) (s0_ : Sl) (p3_ : Pt) (i4_ i5_ : Int) (i7_ i10_ : Int) (b165_ : Bool) (h : H) : cwp S tab f1_M m (sq Tryz.f3 11 2046) k (Qp s0_ p3_ i4_ i5_ i7_ i10_ b165_) h = zcL S k s0_ p3_ i4_ i5_ i7_ i10_ b165_ h := by kernel_rfl
def zjI (S : SatT) (K : KT) (s0_ : Sl) (p3_ : Pt) (i4_ i5_ : Int) (i7_ i10_ : Int) (b165_ : Bool) (h : H) : Prop :=
 bif b165_ then
 zcZ S (zrt S K) s0_ p3_ i4_ i5_ i7_ i10_ b165_ h
 else
 zcL S (zEV S K) s0_ p3_ i4_ i5_ i7_ i10_ b165_ h
theorem zjT (S : SatT) (K : KT) (s0_ : Sl) (p3_ : Pt) (i4_ i5_ : Int) (i7_ i10_ : Int) (b165_ : Bool) (h : H) : (zhB S K) .normal (Qp s0_ p3_ i4_ i5_ i7_ i10_ b165_) h = zjI S K s0_ p3_ i4_ i5_ i7_ i10_ b165_ h := by
 unfold zjI
 refine (zC _ _ _ _).trans ?_
 refine (yk zEu (t := b165_) rfl).trans (xF ?_ ?_)
 ·refine (zf zEt).trans ?_
  exact zcY S _ _ s0_ p3_ i4_ i5_ i7_ i10_ b165_ h
 ·refine (yj zDE).trans ?_
  refine (zC _ _ _ _).trans ?_
  refine (zf zqt).trans ?_
  exact zcK S _ _ s0_ p3_ i4_ i5_ i7_ i10_ b165_ h
def zqR (S : SatT) (K : KT) (s0_ : Sl) (p3_ : Pt) (i4_ i5_ : Int) (i7_ i10_ i11_ : Int) (b163_ : Bool) (h : H) : Prop :=
 bif b163_ then
 zjO S (zFa S K) s0_ p3_ i4_ i5_ i7_ i10_ i11_ b163_ h
 else
 zdd S (zhB S K) s0_ p3_ i4_ i5_ i7_ i10_ i11_ b163_ h
theorem zxT (S : SatT) (K : KT) (s0_ : Sl) (p3_ : Pt) (i4_ i5_ : Int) (i7_ i10_ i11_ : Int) (b163_ : Bool) (h : H) : (zru S K) .normal (vM s0_ p3_ i4_ i5_ i7_ i10_ i11_ b163_) h = zqR S K s0_ p3_ i4_ i5_ i7_ i10_ i11_ b163_ h := by
 unfold zqR
 refine (zC _ _ _ _).trans ?_
 refine (yk zEx (t := b163_) rfl).trans (xF ?_ ?_)
 ·refine (zf zEw).trans ?_
  exact zde S _ _ s0_ p3_ i4_ i5_ i7_ i10_ i11_ b163_ h
 ·refine (yj zEv).trans ?_
  refine (zC _ _ _ _).trans ?_
  refine (zf zqv).trans ?_
  refine (zf zqu).trans ?_
  exact zdc S _ _ s0_ p3_ i4_ i5_ i7_ i10_ i11_ b163_ h
def zqS (S : SatT) (K : KT) (s0_ : Sl) (p3_ : Pt) (i4_ i5_ : Int) (s6_ : Sl) (i7_ i10_ i11_ : Int) (b14_ : Bool) (i15_ : Int) (b16_ : Bool) (i17_ : Int) (b18_ : Bool) (i19_ : Int) (h : H) : Prop :=
 zdg S (zru S K) s0_ p3_ i4_ i5_ s6_ i7_ i10_ i11_ b14_ i15_ b16_ i17_ b18_ i19_ h
theorem zxU (S : SatT) (K : KT) (s0_ : Sl) (p3_ : Pt) (i4_ i5_ : Int) (s6_ : Sl) (i7_ i10_ i11_ : Int) (b14_ : Bool) (i15_ : Int) (b16_ : Bool) (i17_ : Int) (b18_ : Bool) (i19_ : Int) (h : H) : (zrv S K) .normal (zrS s0_ p3_ i4_ i5_ s6_ i7_ i10_ i11_ b14_ i15_ b16_ i17_ b18_ i19_) h = zqS S K s0_ p3_ i4_ i5_ s6_ i7_ i10_ i11_ b14_ i15_ b16_ i17_ b18_ i19_ h := by
 unfold zqS
 refine (zC _ _ _ _).trans ?_
 refine (zf zEy).trans ?_
 exact zdf S _ _ s0_ p3_ i4_ i5_ s6_ i7_ i10_ i11_ b14_ i15_ b16_ i17_ b18_ i19_ h
def zqT (S : SatT) (K : KT) (s0_ : Sl) (p3_ : Pt) (i4_ i5_ : Int) (s6_ : Sl) (i7_ i10_ i11_ : Int) (b14_ : Bool) (i15_ : Int) (b16_ : Bool) (i17_ : Int) (h : H) : Prop :=
 zdi S (zrv S K) s0_ p3_ i4_ i5_ s6_ i7_ i10_ i11_ b14_ i15_ b16_ i17_ h
theorem zxV (S : SatT) (K : KT) (s0_ : Sl) (p3_ : Pt) (i4_ i5_ : Int) (s6_ : Sl) (i7_ i10_ i11_ : Int) (b14_ : Bool) (i15_ : Int) (b16_ : Bool) (i17_ : Int) (h : H) : (zrw S K) .normal (zrT s0_ p3_ i4_ i5_ s6_ i7_ i10_ i11_ b14_ i15_ b16_ i17_) h = zqT S K s0_ p3_ i4_ i5_ s6_ i7_ i10_ i11_ b14_ i15_ b16_ i17_ h := by
 unfold zqT
 refine (zC _ _ _ _).trans ?_
 refine (zf zEz).trans ?_
 exact zdh S _ _ s0_ p3_ i4_ i5_ s6_ i7_ i10_ i11_ b14_ i15_ b16_ i17_ h
def zqU (S : SatT) (K : KT) (s0_ : Sl) (p3_ : Pt) (i4_ i5_ : Int) (s6_ : Sl) (i7_ i10_ i11_ : Int) (b14_ : Bool) (i15_ : Int) (h : H) : Prop :=
 zdk S (zrw S K) s0_ p3_ i4_ i5_ s6_ i7_ i10_ i11_ b14_ i15_ h
theorem zxW (S : SatT) (K : KT) (s0_ : Sl) (p3_ : Pt) (i4_ i5_ : Int) (s6_ : Sl) (i7_ i10_ i11_ : Int) (b14_ : Bool) (i15_ : Int) (h : H) : (zrx S K) .normal (zrU s0_ p3_ i4_ i5_ s6_ i7_ i10_ i11_ b14_ i15_) h = zqU S K s0_ p3_ i4_ i5_ s6_ i7_ i10_ i11_ b14_ i15_ h := by
 unfold zqU
 refine (zC _ _ _ _).trans ?_
 refine (zf zEA).trans ?_
 exact zdj S _ _ s0_ p3_ i4_ i5_ s6_ i7_ i10_ i11_ b14_ i15_ h
theorem zDD : (sq Tryz.f3 11 2043) = .skip := by kernel_rfl
def zqV (S : SatT) (K : KT) : Kont := kSeq (cwp S tab f1_M [] (sq Tryz.f3 10 1023) (kFun tab (Tryz.f3).results.toList K)) (kFun tab (Tryz.f3).results.toList K)
def zEU (S : SatT) (K : KT) : Kont := kSeq (cwp S tab f1_M [] (sq Tryz.f3 11 2045) (zqV S K)) (zqV S K)
def zdb (S : SatT) (k : Kont) (s0_ : Sl) (p3_ : Pt) (i4_ i5_ : Int) (s6_ : Sl) (i7_ i10_ i11_ : Int) (b113_ : Bool) (h : H) : Prop :=
 k .normal (Qp s0_ p3_ i4_ i5_ i7_ i10_ (i11_ == (0))) h
theorem zda (S : SatT) (k : Kont) (m : List Nat) (s0_ : Sl) (p3_ : Pt) (i4_ i5_ : Int) (s6_ : Sl) (i7_ i10_ i11_ : Int) (b113_ : Bool) (h : H) : cwp S tab f1_M m (sq Tryz.f3 11 2044) k (zjR s0_ p3_ i4_ i5_ s6_ i7_ i10_ i11_ b113_) h = zdb S k s0_ p3_ i4_ i5_ s6_ i7_ i10_ i11_ b113_ h := by kernel_rfl
def zjJ (S : SatT) (K : KT) (s0_ : Sl) (p3_ : Pt) (i4_ i5_ : Int) (s6_ : Sl) (i7_ i10_ i11_ : Int) (b113_ : Bool) (h : H) : Prop :=
 bif b113_ then
 zdm S (zrx S K) s0_ p3_ i4_ i5_ s6_ i7_ i10_ i11_ b113_ h
 else
 zdb S (zEU S K) s0_ p3_ i4_ i5_ s6_ i7_ i10_ i11_ b113_ h
theorem zxX (S : SatT) (K : KT) (s0_ : Sl) (p3_ : Pt) (i4_ i5_ : Int) (s6_ : Sl) (i7_ i10_ i11_ : Int) (b113_ : Bool) (h : H) : (zry S K) .normal (zjR s0_ p3_ i4_ i5_ s6_ i7_ i10_ i11_ b113_) h = zjJ S K s0_ p3_ i4_ i5_ s6_ i7_ i10_ i11_ b113_ h := by
 unfold zjJ
 refine (zC _ _ _ _).trans ?_
 refine (yk zEC (t := b113_) rfl).trans (xF ?_ ?_)
 ·refine (zf zEB).trans ?_
  exact zdl S _ _ s0_ p3_ i4_ i5_ s6_ i7_ i10_ i11_ b113_ h
 ·refine (yj zDD).trans ?_
  refine (zC _ _ _ _).trans ?_
  refine (zf zqv).trans ?_
  refine (zf zqu).trans ?_
  exact zda S _ _ s0_ p3_ i4_ i5_ s6_ i7_ i10_ i11_ b113_ h
def zEM (S : SatT) (K : KT) (s0_ : Sl) (p3_ : Pt) (i4_ i5_ : Int) (s6_ : Sl) (i7_ i10_ i11_ : Int) (b111_ : Bool) (h : H) : Prop :=
 bif b111_ then
 zrA S (zFb S K) s0_ p3_ i4_ i5_ s6_ i7_ i10_ i11_ b111_ h
 else
 zdo S (zry S K) s0_ p3_ i4_ i5_ s6_ i7_ i10_ i11_ b111_ h
theorem zFi (S : SatT) (K : KT) (s0_ : Sl) (p3_ : Pt) (i4_ i5_ : Int) (s6_ : Sl) (i7_ i10_ i11_ : Int) (b111_ : Bool) (h : H) : (zrz S K) .normal (zhL s0_ p3_ i4_ i5_ s6_ i7_ i10_ i11_ b111_) h = zEM S K s0_ p3_ i4_ i5_ s6_ i7_ i10_ i11_ b111_ h := by
 unfold zEM
 refine (zC _ _ _ _).trans ?_
 refine (yk zEH (t := b111_) rfl).trans (xF ?_ ?_)
 ·refine (zf zEG).trans ?_
  exact zfN S _ _ s0_ p3_ i4_ i5_ s6_ i7_ i10_ i11_ b111_ h
 ·refine (yj zEF).trans ?_
  refine (zC _ _ _ _).trans ?_
  refine (zf zEE).trans ?_
  refine (zf zED).trans ?_
  exact zdn S _ _ s0_ p3_ i4_ i5_ s6_ i7_ i10_ i11_ b111_ h
def zEN (S : SatT) (K : KT) (s0_ : Sl) (p3_ : Pt) (i4_ i5_ : Int) (s6_ : Sl) (i7_ : Int) (s8_ : Sl) (i9_ i10_ : Int) (i11_ i12_ i13_ : Int) (h : H) : Prop :=
 zhC S (zrz S K) s0_ p3_ i4_ i5_ s6_ i7_ s8_ i9_ i10_ i11_ i12_ i13_ h
theorem zFj (S : SatT) (K : KT) (s0_ : Sl) (p3_ : Pt) (i4_ i5_ : Int) (s6_ : Sl) (i7_ : Int) (s8_ : Sl) (i9_ i10_ : Int) (i11_ i12_ i13_ : Int) (h : H) : (zAQ S K) .normal (zFc s0_ p3_ i4_ i5_ s6_ i7_ s8_ i9_ i10_ i11_ i12_ i13_) h = zEN S K s0_ p3_ i4_ i5_ s6_ i7_ s8_ i9_ i10_ i11_ i12_ i13_ h := by
 unfold zEN
 refine (zC _ _ _ _).trans ?_
 refine (zf zEJ).trans ?_
 refine (zf zEI).trans ?_
 exact zfO S _ _ s0_ p3_ i4_ i5_ s6_ i7_ s8_ i9_ i10_ i11_ i12_ i13_ h
def zEO (S : SatT) (K : KT) (s0_ : Sl) (p3_ : Pt) (i4_ i5_ : Int) (s6_ : Sl) (i7_ : Int) (s8_ : Sl) (i9_ i10_ i11_ : Int) (h : H) : Prop :=
 zhD S (zAQ S K) s0_ p3_ i4_ i5_ s6_ i7_ s8_ i9_ i10_ i11_ h
theorem zFk (S : SatT) (K : KT) (s0_ : Sl) (p3_ : Pt) (i4_ i5_ : Int) (s6_ : Sl) (i7_ : Int) (s8_ : Sl) (i9_ i10_ i11_ : Int) (h : H) : (zAR S K) .normal (zFd s0_ p3_ i4_ i5_ s6_ i7_ s8_ i9_ i10_ i11_) h = zEO S K s0_ p3_ i4_ i5_ s6_ i7_ s8_ i9_ i10_ i11_ h := by
 unfold zEO
 refine (zC _ _ _ _).trans ?_
 refine (zf zEK).trans ?_
 exact zfP S _ _ s0_ p3_ i4_ i5_ s6_ i7_ s8_ i9_ i10_ i11_ h
def zEP (S : SatT) (K : KT) (s0_ : Sl) (p3_ : Pt) (i4_ i5_ : Int) (s6_ : Sl) (i7_ : Int) (s8_ : Sl) (i9_ : Int) (h : H) : Prop :=
 zhE S (zAR S K) s0_ p3_ i4_ i5_ s6_ i7_ s8_ i9_ h
theorem zFl (S : SatT) (K : KT) (s0_ : Sl) (p3_ : Pt) (i4_ i5_ : Int) (s6_ : Sl) (i7_ : Int) (s8_ : Sl) (i9_ : Int) (h : H) : (zAS S K) .normal (zFe s0_ p3_ i4_ i5_ s6_ i7_ s8_ i9_) h = zEP S K s0_ p3_ i4_ i5_ s6_ i7_ s8_ i9_ h := by
 unfold zEP
 refine (zC _ _ _ _).trans ?_
 refine (zf zEL).trans ?_
 exact zfQ S _ _ s0_ p3_ i4_ i5_ s6_ i7_ s8_ i9_ h
def zEQ (S : SatT) (K : KT) (s0_ : Sl) (p3_ : Pt) (i4_ i5_ : Int) (s6_ : Sl) (i7_ : Int) (h : H) : Prop :=
 zhF S (zAS S K) s0_ p3_ i4_ i5_ s6_ i7_ h
theorem zFm (S : SatT) (K : KT) (s0_ : Sl) (p3_ : Pt) (i4_ i5_ : Int) (s6_ : Sl) (i7_ : Int) (h : H) : (zAT S K) .normal (zFf s0_ p3_ i4_ i5_ s6_ i7_) h = zEQ S K s0_ p3_ i4_ i5_ s6_ i7_ h := by
 unfold zEQ
 refine (zC _ _ _ _).trans ?_
 refine (zf zGQ).trans ?_
 exact zfR S _ _ s0_ p3_ i4_ i5_ s6_ i7_ h
def zER (S : SatT) (K : KT) (s0_ : Sl) (p3_ : Pt) (i4_ i5_ : Int) (h : H) : Prop :=
 zhG S (zAT S K) s0_ p3_ i4_ i5_ h
theorem zFn (S : SatT) (K : KT) (s0_ : Sl) (p3_ : Pt) (i4_ i5_ : Int) (h : H) : (zAU S K) .normal (zFg s0_ p3_ i4_ i5_) h = zER S K s0_ p3_ i4_ i5_ h := by
 unfold zER
 refine (zC _ _ _ _).trans ?_
 refine (zf zGR).trans ?_
 exact zfS S _ _ s0_ p3_ i4_ i5_ h
def zES (S : SatT) (K : KT) (s0_ : Sl) (b58_ : Bool) (h : H) : Prop :=
 bif b58_ then
 zhI S (zAV S K) s0_ b58_ h
 else
 zhH S (zAU S K) s0_ b58_ h
theorem zFp (S : SatT) (K : KT) (s0_ : Sl) (b58_ : Bool) (h : H) : (zAW S K) .normal (zxv s0_ b58_) h = zES S K s0_ b58_ h := by
 unfold zES
 refine (zC _ _ _ _).trans ?_
 refine (yk zGW (t := b58_) rfl).trans (xF ?_ ?_)
 ·refine (zf zGV).trans ?_
  exact zfU S _ _ s0_ b58_ h
 ·refine (yj zGT).trans ?_
  refine (zC _ _ _ _).trans ?_
  refine (zf zGS).trans ?_
  exact zfT S _ _ s0_ b58_ h
def zET (S : SatT) (K : KT) (s0_ : Sl) (h : H) : Prop :=
 zhJ S (zAW S K) s0_ h
theorem zFq (S : SatT) (K : KT) (s0_ : Sl) (h : H) : (zAX S K) .normal (zFh s0_) h = zET S K s0_ h := by
 unfold zET
 refine (zC _ _ _ _).trans ?_
 refine (zf zGY).trans ?_
 refine (zf zGX).trans ?_
 exact zfV S _ _ s0_ h
def zbW (S : SatT) (K : KT) (x0 : Sl) (h : H) : Prop :=
 zhK S (zAX S K) x0 h
theorem zfM (S : SatT) (K : KT) (x0 : Sl) (h : H) : cwp S tab f1_M [] (za Tryz.f3) (kFun tab Tryz.f3.results.toList K) (fr0 Tryz.f3 [.sl x0]) h = zbW S K x0 h := by
 unfold zbW
 refine (zf zGZ).trans ?_
 exact zfW S _ _ x0 h
theorem zFr (x0 : Sl) (h : H) (K : Bool → H → Prop) (hm : zbW (Sat Tryz.prog) (fun v h' => ∃ r, v = .bool r ∧ K r h') x0 h) : callB (Sat Tryz.prog) i_f1 [.sl x0] h K := by
 have := Sat.ex tok mixed f1_M Tryz.func3 (c := za Tryz.f3) (by kernel_rfl) (zb Tryz.func3 (c := za Tryz.f3) (by kernel_rfl) (by decide)) ((zfM _ _ x0 h).mpr hm)
 obtain ⟨v, h2, h3, r, rfl, h4⟩ := this; exact ⟨r, h2, h3, h4⟩
end Go.Proofs.YtlcgclmobfdbcaaGreat.Cl
set_option linter.unusedVariables false
set_option linter.unusedSimpArgs false
namespace Go.Proofs.YtlcgclmobfdbcaaGreat.Cl
open Go
theorem YF {k : Nat} {h : H} {K : H → Prop} (hk : ∀ h1, Ext h h1 → h1.length = h.length + k → K h1) : qE k h K :=
 hk _ (Ext.app _ _) (by simp)
theorem wH {h : H} {len z n : Nat} {cs : List AVal} (hn : n < h.length) (hc : cs.length = len * z) {K : Sl → H → Prop}
  (hk : ∀ s' h', Ow h' s' z cs → s'.len = len → s'.o = some n → But (some n) h h' → h'.length = h.length → K s' h') : vE len z cs h n K :=
 hk _ _ ⟨hc, .inr ⟨n, rfl, rfl, rfl, rfl, by simp [hn]⟩⟩ rfl rfl ⟨by simp, fun i hi hne => by rw [List.getElem?_set, if_neg (fun e => hne (by rw [e]))]⟩ (by simp)
abbrev pt (o : Nat) : Pt := ⟨some o, 1, 0⟩
def Var (h : H) (o : Nat) (v : AVal) : Prop := h[o]? = some (.own [v])
theorem Var.lt {h o v} (x : Var h o v) : o < h.length := (List.getElem?_eq_some_iff.1 x).1
theorem Var.cell {h o v} (x : Var h o v) : Cl.cell h (pt o) = some v := by
 have x' : h[o]? = some (.own [v]) := x
 simp [Cl.cell, cells, x']
theorem Var.ext {h h' o v} (x : Var h o v) (e : Ext h h') : Var h' o v := e.own x
theorem Var.but {h h' o v} {p : Option Nat} (x : Var h o v) (b : But p h h') (hn : p ≠ some o) : Var h' o v := b.get x hn
theorem Var.ldI {h o n} {k : IntKind} (x : Var h o (.int k n)) {K : Int → Prop} (hk : K n) : Cl.ldI k (pt o) h K := ⟨n, x.cell, hk⟩
theorem Var.ldS {h o n} (x : Var h o (.sl n)) {K : Sl → Prop} (hk : K n) : Cl.ldS (pt o) h K := ⟨n, x.cell, hk⟩
theorem Var.ldP {h o n} (x : Var h o (.ptr n)) {K : Pt → Prop} (hk : K n) : Cl.ldP (pt o) h K := ⟨n, x.cell, hk⟩
theorem Var.ldV {h o n} (x : Var h o n) {K : AVal → Prop} (hk : K n) : Cl.ldV (pt o) h K := ⟨n, x.cell, hk⟩
theorem Var.st {h o v} (x : Var h o v) (u : AVal) {K : H → Prop} (hk : ∀ h', Var h' o u → But (some o) h h' → h'.length = h.length → K h') : Cl.st1 (pt o) u h K := by
 have hl := x.lt
 refine ⟨h.set o (.own [u]), ?_, hk _ (by unfold Var; simp [hl]) ⟨by simp, fun i hi hne => by rw [List.getElem?_set, if_neg (fun e => hne (by rw [e]))]⟩ (by simp)⟩
 have x' : h[o]? = some (.own [v]) := x
 simp [put1, wA, x']
theorem zS {v : AVal} {h : H} {K : Pt → H → Prop} (hk : ∀ h', Var h' h.length v → Ext h h' → h'.length = h.length + 1 → K (pt h.length) h') : newO [v] h K :=
 hk _ (by unfold Var; simp) (Ext.app _ _) (by simp)
theorem But.cellE {o : Option Nat} {h h' : H} {p : Pt} {v : AVal} (b : But o h h') (e : cell h p = some v) (hn : o ≠ p.o ∨ o = none) : cell h' p = cell h p := by
 unfold cell at *
 cases hp : p.o with
 | none => rfl
 | some i =>
  rw [hp] at e hn
  simp only at e ⊢
  obtain ⟨c, h1, h2⟩ := Option.bind_eq_some_iff.1 e
  have hl := qu h1
  have : h'[i]? = h[i]? := b.2 i hl (by rcases hn with hn | hn; exact hn; rw [hn]; simp)
  have hc : cells h' i p.n = cells h i p.n := by unfold cells; rw [this]
  rw [hc]
theorem Ext.cellE {h h' : H} {p : Pt} {v : AVal} (b : Ext h h') (e : Cl.cell h p = some v) : Cl.cell h' p = Cl.cell h p := (b.but none).cellE e (.inr rfl)
def Till (n : Nat) (h h' : H) : Prop := h.length ≤ h'.length ∧ ∀ i, i < n → i < h.length → h'[i]? = h[i]?
theorem Till.refl (n h) : Till n h h := ⟨Nat.le_refl _, fun _ _ _ => rfl⟩
theorem Till.trans {n a b c} (x : Till n a b) (y : Till n b c) : Till n a c := ⟨Nat.le_trans x.1 y.1, fun i h1 h2 => by rw [y.2 i h1 (by have := x.1; omega), x.2 i h1 h2]⟩
theorem Till.ext {n : Nat} {a b : H} (x : Till n a b) (hn : a.length ≤ n) : Ext a b := Ext.of x.1 fun i hi => x.2 i (by omega) hi
theorem Till.le {n m : Nat} {a b : H} (x : Till n a b) (h : m ≤ n) : Till m a b := ⟨x.1, fun i h1 h2 => x.2 i (by omega) h2⟩
theorem Till.get {n : Nat} {h h' : H} (x : Till n h h') {o : Nat} {v : AObj} (e : h[o]? = some v) (ho : o < n) : h'[o]? = some v := by rw [x.2 o ho (List.getElem?_eq_some_iff.1 e).1]; exact e
end Go.Proofs.YtlcgclmobfdbcaaGreat.Cl
set_option linter.unusedVariables false
set_option linter.unusedSimpArgs false
namespace Go.Proofs.YtlcgclmobfdbcaaGreat.Cl
open Go
def Obj (h : H) (o : Nat) (cs : List AVal) : Prop := h[o]? = some (.own cs)
theorem Obj.lt {h o cs} (x : Obj h o cs) : o < h.length := (List.getElem?_eq_some_iff.1 x).1
theorem Obj.ext {h h' o cs} (x : Obj h o cs) (e : Ext h h') : Obj h' o cs := e.own x
theorem Obj.but {h h' o cs} {p : Option Nat} (x : Obj h o cs) (b : But p h h') (hn : p ≠ some o) : Obj h' o cs := b.get x hn
theorem zi {k : Nat} {cs : List AVal} {h : H} {K : Pt → H → Prop} (hk : ∀ h', Obj h' h.length cs → Ext h h' → h'.length = h.length + 1 → K ⟨some h.length, k, 0⟩ h') (hc : cs.length = k := by rfl) : newK k cs h K :=
 ⟨hc, hk _ (by unfold Obj; simp) (Ext.app _ _) (by simp)⟩
theorem zl {cs : List AVal} {h : H} {K : Pt → H → Prop} (hk : ∀ h', Obj h' h.length cs → Ext h h' → h'.length = h.length + 1 → K ⟨some h.length, cs.length, 0⟩ h') : newO cs h K :=
 hk _ (by unfold Obj; simp) (Ext.app _ _) (by simp)
theorem zg {o : Nat} {n off : Nat} {K : Prop} (hk : K) : isPt ⟨some o, n, off⟩ K := ⟨rfl, hk⟩
theorem Obj.cellE {h o cs} (x : Obj h o cs) {n i : Nat} (hn : cs.length = n) : Cl.cell h (Pt.add ⟨some o, n, 0⟩ i) = cs[i]? := by
 have x' : h[o]? = some (.own cs) := x
 simp [Cl.cell, Pt.add, cells, x', hn]
theorem Obj.ldI {h o cs} (x : Obj h o cs) {n i : Nat} {k : IntKind} {m : Int} (hn : cs.length = n) (e : cs[i]? = some (.int k m)) {K : Int → Prop} (hk : K m) : Cl.ldI k (Pt.add ⟨some o, n, 0⟩ i) h K := ⟨m, by rw [x.cellE hn, e], hk⟩
theorem Obj.ldS {h o cs} (x : Obj h o cs) {n i : Nat} {m : Sl} (hn : cs.length = n) (e : cs[i]? = some (.sl m)) {K : Sl → Prop} (hk : K m) : Cl.ldS (Pt.add ⟨some o, n, 0⟩ i) h K := ⟨m, by rw [x.cellE hn, e], hk⟩
theorem Obj.ldA {h o cs} (x : Obj h o cs) {n : Nat} (hn : cs.length = n) {K : List AVal → Prop} (hk : K cs) : Cl.ldA ⟨some o, n, 0⟩ n h K := zFY x hn hk
theorem Obj.stA {h o cs} (x : Obj h o cs) {n m : Nat} {vs : List AVal} {K : H → Prop} (hk : ∀ h', Obj h' o vs → But (some o) h h' → h'.length = h.length → K h') (hn : cs.length = n := by rfl) (hv : vs.length = m := by rfl) (hm : m = n := by rfl) : Cl.stN ⟨some o, n, 0⟩ m vs h K := by
 subst hm
 exact zFL x hn hv fun b e => hk _ e b (by simp)
theorem Obj.st1 {h o cs} (x : Obj h o cs) {n i : Nat} (hn : cs.length = n) (hi : i < n) (v : AVal) {K : H → Prop} (hk : ∀ h', Obj h' o (cs.set i v) → But (some o) h h' → h'.length = h.length → K h') : Cl.st1 (Pt.add ⟨some o, n, 0⟩ i) v h K := by
 have x' : h[o]? = some (.own cs) := x
 have hl := x.lt
 refine ⟨h.set o (.own (cs.set i v)), ?_, hk _ (by unfold Obj; simp [hl]) ⟨by simp, fun j hj hne => by rw [List.getElem?_set, if_neg (fun e => hne (by rw [e]))]⟩ (by simp)⟩
 unfold put1 wA Pt.add
 simp [x', hn, hi]
def Chg (P : Nat → Prop) (h h' : H) : Prop := h.length ≤ h'.length ∧ ∀ i, i < h.length → ¬ P i → h'[i]? = h[i]?
theorem Chg.refl (P h) : Chg P h h := ⟨Nat.le_refl _, fun _ _ _ => rfl⟩
theorem Chg.trans {P a b c} (x : Chg P a b) (y : Chg P b c) : Chg P a c := ⟨Nat.le_trans x.1 y.1, fun i hi hn => by rw [y.2 i (by have := x.1; omega) hn, x.2 i hi hn]⟩
theorem Chg.to {P Q : Nat → Prop} {a b : H} (x : Chg P a b) (hq : ∀ i, i < a.length → P i → Q i) : Chg Q a b := ⟨x.1, fun i hi hn => x.2 i hi fun hp => hn (hq i hi hp)⟩
theorem Ext.chg {a b : H} (x : Ext a b) (P) : Chg P a b := ⟨x.len, fun i hi _ => x.get hi⟩
theorem But.chg {a b : H} {o : Option Nat} (x : But o a b) {P : Nat → Prop} (hp : ∀ i, o = some i → P i) : Chg P a b := ⟨x.1, fun i hi hn => x.2 i hi fun e => hn (hp i e)⟩
theorem Chg.get {P} {h h' : H} (b : Chg P h h') {i : Nat} {v : AObj} (e : h[i]? = some v) (hn : ¬ P i) : h'[i]? = some v := by
 rw [b.2 i (List.getElem?_eq_some_iff.1 e).1 hn, e]
theorem Chg.ext {P} {h h' : H} (b : Chg P h h') (hn : ∀ i, P i → h.length ≤ i) : Ext h h' := Ext.of b.1 fun i hi => b.2 i hi fun p => by have := hn i p; omega
theorem Ext.chg_ {P} {h a b : H} (x : Ext h a) (y : Chg P a b) (hn : ∀ i, P i → h.length ≤ i) : Ext h b :=
 Ext.of (Nat.le_trans x.len y.1) fun i hi => by
  rw [y.2 i (by have := x.len; omega) (fun p => by have := hn i p; omega), x.get hi]
theorem Chg.range {P} {h h' : H} (b : Chg P h h') {o n off k cs} (e : range h o n off k = some cs) (hn : ∀ i, o = some i → ¬ P i) : range h' o n off k = some cs := by
 obtain ⟨i, xs, rfl, hc, hl, rfl⟩ := yL e
 refine yT ?_ hl
 have := qu hc
 unfold Cl.cells at hc ⊢
 rw [b.2 i this (hn i rfl)]; exact hc
theorem Rd.chg {P} {h h' : H} {s z cs} (r : Rd h s z cs) (b : Chg P h h') (hn : ∀ i, s.o = some i → ¬ P i) : Rd h' s z cs :=
 ⟨r.len, r.at_.imp id fun ⟨x, y, e⟩ => ⟨x, y, b.range e hn⟩⟩
theorem Ow.chg {P} {h h' : H} {s z cs} (r : Ow h s z cs) (b : Chg P h h') (hn : ∀ i, s.o = some i → ¬ P i) : Ow h' s z cs :=
 ⟨r.len, r.at_.imp id fun ⟨i, a, x, c, d, e⟩ => ⟨i, a, x, c, d, b.get e (hn i a)⟩⟩
theorem Var.chg {P} {h h' o v} (x : Var h o v) (b : Chg P h h') (hn : ¬ P o) : Var h' o v := b.get x hn
theorem Obj.chg {P} {h h' o v} (x : Obj h o v) (b : Chg P h h') (hn : ¬ P o) : Obj h' o v := b.get x hn
def RdSS (h : H) (s : Sl) (ls : List (List Int)) : Prop :=
 ∃ vs : List Sl, vs.length = ls.length ∧ Rd h s 1 (vs.map .sl) ∧ ∀ (i : Nat) v l, vs[i]? = some v → ls[i]? = some l → Rd h v 1 (ic l)
theorem RdSS.len {h s ls} (r : RdSS h s ls) : s.len = ls.length := by
 obtain ⟨vs, h1, h2, _⟩ := r
 have := h2.len
 simp at this
 omega
theorem RdSS.ext {h h' s ls} (r : RdSS h s ls) (x : Ext h h') : RdSS h' s ls := by
 obtain ⟨vs, h1, h2, h3⟩ := r
 exact ⟨vs, h1, h2.ext x, fun i v l a b => (h3 i v l a b).ext x⟩
theorem Rd.ilen {h : H} {s : Sl} {l : List Int} (r : Rd h s 1 (ic l)) : s.len = l.length := by have := r.len; rw [xz] at this; omega
theorem RdSS.ld {h s ls} (r : RdSS h s ls) {i : Int} (h0 : 0 ≤ i) (h1 : i < ls.length) {K : Sl → Prop} (hk : ∀ v l, ls[i.toNat]? = some l → Rd h v 1 (ic l) → v.len = l.length → K v) : ixS s 1 i fun p => Cl.ldS p h K := by
 obtain ⟨vs, e1, e2, e3⟩ := r
 refine e2.ldS h0 (by omega) fun v hv => ?_
 have hl : ls[i.toNat]? = some ls[i.toNat] := List.getElem?_eq_getElem (by omega)
 have := e3 i.toNat v _ hv hl
 exact hk v _ hl this this.ilen
def NewSS (n : Nat) (h : H) (s : Sl) (ls : List (List Int)) : Prop :=
 ∃ vs : List Sl, vs.length = ls.length ∧ Ow h s 1 (vs.map .sl) ∧ Fr n s ∧ (∀ (i : Nat) v l, vs[i]? = some v → ls[i]? = some l → Ow h v 1 (ic l) ∧ Fr n v) ∧
  (∀ (i j : Nat) v w, i ≠ j → vs[i]? = some v → vs[j]? = some w → ∀ o, v.o = some o → w.o ≠ some o) ∧ ∀ (i : Nat) v, vs[i]? = some v → ∀ o, v.o = some o → s.o ≠ some o
theorem NewSS.rd {n h s ls} (r : NewSS n h s ls) : RdSS h s ls := by
 obtain ⟨vs, h1, h2, _, h3, _⟩ := r
 exact ⟨vs, h1, h2.rd, fun i v l a b => (h3 i v l a b).1.rd⟩
theorem NewSS.le {n m h s ls} (r : NewSS n h s ls) (hm : m ≤ n) : NewSS m h s ls := by
 obtain ⟨vs, h1, h2, h3, h4, h5⟩ := r
 exact ⟨vs, h1, h2, h3.le hm, fun i v l a b => (h4 i v l a b).imp id fun f => f.le hm, h5⟩
theorem NewSS.nil (n h) : NewSS n h Sl.nil [] := ⟨[], rfl, Ow.nil _ _, Fr.nil _, fun i v l a => by simp at a, fun i j v w _ a => by simp at a, fun i v a => by simp at a⟩
theorem NewSS.mk0 {n h s} (o : Ow h s 1 []) (f : Fr n s) : NewSS n h s [] := ⟨[], rfl, o, f, fun i v l a => by simp at a, fun i j v w _ a => by simp at a, fun i v a => by simp at a⟩
theorem wC {α β : Type} {l : List α} {m : List β} (e : l.length = m.length) {i : Nat} {a : α} (h : l[i]? = some a) : ∃ b, m[i]? = some b :=
 ⟨m[i]'(by have := (List.getElem?_eq_some_iff.1 h).1; omega), List.getElem?_eq_getElem (by have := (List.getElem?_eq_some_iff.1 h).1; omega)⟩
theorem NewSS.chg {P n h h' s ls} (r : NewSS n h s ls) (b : Chg P h h') (hn : ∀ i, n ≤ i → i < h.length → ¬ P i) : NewSS n h' s ls := by
 obtain ⟨vs, h1, h2, h3, h4, h5⟩ := r
 refine ⟨vs, h1, h2.chg b fun o e => hn o (h3 o e) (h2.lt e), h3, fun i v l a c => ?_, h5⟩
 obtain ⟨x, y⟩ := h4 i v l a c
 exact ⟨x.chg b fun o e => hn o (y o e) (x.lt e), y⟩
theorem NewSS.ext {n h h' s ls} (r : NewSS n h s ls) (x : Ext h h') : NewSS n h' s ls := r.chg (x.chg fun _ => False) fun _ _ _ f => f
theorem RdSS.chg {P h h' s ls} (r : RdSS h s ls) (b : Chg P h h') (hn : ∀ i, i < h.length → ¬ P i) : RdSS h' s ls := r.ext (Ext.of b.1 fun i hi => b.2 i hi (hn i hi))
theorem NewSS.app {n h s ls} (r : NewSS n h s ls) {v : Sl} {l : List Int} (ov : Ow h v 1 (ic l)) (fv : Fr n v) (hap : ∀ o, v.o = some o → s.o ≠ some o ∧ ∀ vs : List Sl, Ow h s 1 (vs.map .sl) → ∀ w ∈ vs, w.o ≠ some o)
  {x : Sl} (rx : Rd h x 1 [.sl v]) (hl : (ls.length : Int) + 1 ≤ lim) (hnh : n ≤ h.length) {K : Sl → H → Prop} (hk : ∀ s' h', NewSS n h' s' (ls ++ [l]) → But s.o h h' → (∀ o, s.o = some o → s'.o = some o) → (s.o = none → ∀ o, s'.o = some o → h.length ≤ o) → K s' h') : Cl.app s x 1 h K := by
 obtain ⟨vs, h1, h2, h3, h4, h5, h6⟩ := r
 have hx : x.len = 1 := by have := rx.len; simp at this; omega
 have hs : s.len = ls.length := by have := h2.len; simp at this; omega
 refine yw (by omega) h2 rx (by rw [hs, hx]; exact_mod_cast hl) fun s' h' o' ln b k1 k2 => ?_
 have hso : ∀ o, s'.o = some o → s.o = some o ∨ h.length ≤ o := fun o e => by
  cases hq : s.o with
  | none => exact .inr (k2 hq o e)
  | some p => rw [k1 p hq] at e; exact .inl e
 refine hk s' h' ⟨vs ++ [v], by simp [h1], by simpa using o', ?_, ?_, ?_, ?_⟩ b k1 k2
 ·intro o e
  rcases hso o e with e | e
  ·exact h3 o e
  ·omega
 ·intro i w l' a c
  rw [List.getElem?_append] at a c
  rw [h1] at a
  split at a
  ·next hi =>
   rw [if_pos hi] at c
   obtain ⟨p, q⟩ := h4 i w l' a c
   refine ⟨p.but b ?_, q⟩
   cases hw : w.o with
   | none =>
    cases hq : s.o with
    | none => exact .inr rfl
    | some _ => exact .inl (by simp)
   | some o => exact .inl (by rw [← hw]; intro e; exact h6 i w a o hw (by rw [e, hw]))
  ·next hi =>
   rw [if_neg hi] at c
   have : i = ls.length := by
    have := (List.getElem?_eq_some_iff.1 c).1
    simp at this; omega
   subst this
   simp at a c
   subst a c
   refine ⟨ov.but b ?_, fv⟩
   cases hw : v.o with
   | none =>
    cases hq : s.o with
    | none => exact .inr rfl
    | some _ => exact .inl (by simp)
   | some o => exact .inl (by intro e; exact (hap o hw).1 e)
 ·intro i j w u hne a c o e
  have hwl : ∀ {k : Nat} {y : Sl}, (vs ++ [v])[k]? = some y → vs[k]? = some y ∨ (k = vs.length ∧ y = v) := fun {k y} e => by
   rw [List.getElem?_append] at e
   split at e
   ·exact .inl e
   ·have : k = vs.length := by
     have := (List.getElem?_eq_some_iff.1 e).1
     simp at this; omega
    subst this
    simp at e
    exact .inr ⟨rfl, e.symm⟩
  rcases hwl a with a1 | ⟨rfl, rfl⟩
  ·rcases hwl c with c1 | ⟨rfl, rfl⟩
   ·exact h5 i j w u hne a1 c1 o e
   ·intro e2
    exact (hap o e2).2 vs h2 w (List.mem_of_getElem? a1) e
  ·rcases hwl c with c1 | ⟨rfl, rfl⟩
   ·exact (hap o e).2 vs h2 u (List.mem_of_getElem? c1)
   ·exact absurd rfl hne
 ·intro i w a o e
  have hlt : o < h.length ∧ s.o ≠ some o := by
   rw [List.getElem?_append] at a
   split at a
   ·obtain ⟨l', hl'⟩ := wC h1 a
    exact ⟨(h4 i w l' a hl').1.lt e, h6 i w a o e⟩
   ·have : w = v := by
     have := List.mem_of_getElem? a
     simpa using this
    subst this
    exact ⟨ov.lt e, (hap o e).1⟩
  intro e2
  rcases hso o e2 with e3 | e3
  ·exact hlt.2 e3
  ·omega
theorem NewSS.app_new {n m h s ls} (r : NewSS n h s ls) {v : Sl} {l : List Int} (ov : Ow h v 1 (ic l)) (fv : Fr m v) (hnm : n ≤ m) (hm : ∃ h0 : H, NewSS n h0 s ls ∧ h0.length ≤ m ∧ Ext h0 h)
  {x : Sl} (rx : Rd h x 1 [.sl v]) (hl : (ls.length : Int) + 1 ≤ lim) (hnh : n ≤ h.length) {K : Sl → H → Prop} (hk : ∀ s' h', NewSS n h' s' (ls ++ [l]) → But s.o h h' → (∀ o, s.o = some o → s'.o = some o) → (s.o = none → ∀ o, s'.o = some o → h.length ≤ o) → K s' h') : Cl.app s x 1 h K := by
 obtain ⟨h0, r0, hlen, ex⟩ := hm
 refine r.app ov (fv.le hnm) (fun o e => ?_) rx hl hnh hk
 obtain ⟨vs, h1, h2, h3, h4, h5, h6⟩ := r0
 have ho := fv o e
 refine ⟨fun e2 => by have := h2.lt e2; omega, fun us hu w hw => ?_⟩
 intro e2
 have hq : us = vs := by
  have a := hu.rd.sread (by omega)
  have b := (h2.ext ex).rd.sread (by omega)
  rw [a] at b
  have : us.map AVal.sl = vs.map AVal.sl := Option.some.inj b
  exact List.map_inj_right (fun a b e => by simpa using e) |>.1 this
 subst hq
 obtain ⟨i, hi⟩ := List.getElem?_of_mem hw
 obtain ⟨l', hl'⟩ := wC h1 hi
 have := (h4 i w l' hi hl').1.lt e2
 omega
def NewP (P : Nat → Prop) (h : H) (s : Sl) (ls : List (List Int)) : Prop :=
 ∃ vs : List Sl, vs.length = ls.length ∧ Ow h s 1 (vs.map .sl) ∧ (∀ o, s.o = some o → P o) ∧ (∀ (i : Nat) v l, vs[i]? = some v → ls[i]? = some l → Ow h v 1 (ic l) ∧ ∀ o, v.o = some o → P o) ∧
  (∀ (i j : Nat) v w, i ≠ j → vs[i]? = some v → vs[j]? = some w → ∀ o, v.o = some o → w.o ≠ some o) ∧ ∀ (i : Nat) v, vs[i]? = some v → ∀ o, v.o = some o → s.o ≠ some o
theorem NewSS.p {n h s ls} (r : NewSS n h s ls) {P : Nat → Prop} (hp : ∀ i, n ≤ i → i < h.length → P i) : NewP P h s ls := by
 obtain ⟨vs, h1, h2, h3, h4, h5⟩ := r
 exact ⟨vs, h1, h2, fun o e => hp o (h3 o e) (h2.lt e), fun i v l a b => ⟨(h4 i v l a b).1, fun o e => hp o ((h4 i v l a b).2 o e) ((h4 i v l a b).1.lt e)⟩, h5⟩
theorem NewP.ss {P h s ls} (r : NewP P h s ls) {n : Nat} (hp : ∀ i, P i → n ≤ i) : NewSS n h s ls := by
 obtain ⟨vs, h1, h2, h3, h4, h5⟩ := r
 exact ⟨vs, h1, h2, fun o e => hp o (h3 o e), fun i v l a b => (h4 i v l a b).imp id fun f o e => hp o (f o e), h5⟩
theorem NewP.chg {P Q h h' s ls} (r : NewP P h s ls) (b : Chg Q h h') (hn : ∀ i, P i → i < h.length → ¬ Q i) : NewP P h' s ls := by
 obtain ⟨vs, h1, h2, h3, h4, h5⟩ := r
 refine ⟨vs, h1, h2.chg b fun o e => hn o (h3 o e) (h2.lt e), h3, fun i v l a c => ?_, h5⟩
 obtain ⟨x, y⟩ := h4 i v l a c
 exact ⟨x.chg b fun o e => hn o (y o e) (x.lt e), y⟩
theorem NewP.ext {P h h' s ls} (r : NewP P h s ls) (x : Ext h h') : NewP P h' s ls := r.chg (x.chg fun _ => False) fun _ _ _ f => f
theorem NewP.rd {P h s ls} (r : NewP P h s ls) : RdSS h s ls := by
 obtain ⟨vs, h1, h2, _, h3, _⟩ := r
 exact ⟨vs, h1, h2.rd, fun i v l a b => (h3 i v l a b).1.rd⟩
end Go.Proofs.YtlcgclmobfdbcaaGreat.Cl
set_option linter.unusedVariables false
set_option linter.unusedSimpArgs false
namespace Go.Proofs.YtlcgclmobfdbcaaGreat.Cl
open Go
abbrev SP : SatT := Sat Tryz.prog
abbrev Tile := Int × Int × Int × Int
def tc (t : Tile) : List AVal := [i64 t.1, i64 t.2.1, i64 t.2.2.1, i64 t.2.2.2]
def tcs (ts : List Tile) : List AVal := (ts.map tc).flatten
theorem qy (t : Tile) : (tc t).length = 4 := rfl
theorem xK : ∀ ts : List Tile, (tcs ts).length = ts.length * 4
 | [] => rfl
 | t :: ts => by
  have := xK ts
  unfold tcs at *
  simp only [List.map_cons, List.flatten_cons, List.length_append, qy, List.length_cons]
  omega
theorem ZB (a b : List Tile) : tcs (a ++ b) = tcs a ++ tcs b := by simp [tcs]
theorem xk (a : Tile) (b : List Tile) : tcs (a :: b) = tc a ++ tcs b := by simp [tcs]
theorem ziJ : ∀ (ts : List Tile) (i : Nat) (t : Tile), ts[i]? = some t → ((tcs ts).drop (i * 4)).take 4 = tc t
 | [], i, t, e => by simp at e
 | a :: ts, 0, t, e => by
  simp at e; subst e
  rw [xk]; simp [List.take_append, qy]
  rw [List.take_of_length_le (by simp [qy])]
 | a :: ts, i + 1, t, e => by
  rw [xk, show (i + 1) * 4 = (tc a).length + i * 4 by rw [qy]; omega, ← List.drop_drop, List.drop_left]
  exact ziJ ts i t (by simpa using e)
theorem Rd.ldT {h : H} {s : Sl} {ts : List Tile} (r : Rd h s 4 (tcs ts)) {i : Int} (h0 : 0 ≤ i) (h1 : i < ts.length) {K : List AVal → Prop} (hk : ∀ t, ts[i.toNat]? = some t → K (tc t)) : ixS s 4 i fun p => Cl.ldA p 4 h K := by
 have hlen : ts.length = s.len := by have := r.len; rw [xK] at this; omega
 have hx : ts[i.toNat]? = some ts[i.toNat] := List.getElem?_eq_getElem (by omega)
 exact r.ldA h0 (by omega) (by rw [ziJ ts _ _ hx]; exact hk _ hx)
theorem Rd.tlen {h : H} {s : Sl} {ts : List Tile} (r : Rd h s 4 (tcs ts)) : s.len = ts.length := by have := r.len; rw [xK] at this; omega
def turn (t : Tile) : Tile := (t.2.2.2, t.1, t.2.1, t.2.2.1)
def yN (n : Int) : Prop := -9223372036854775808 ≤ n ∧ n < 9223372036854775808
def qV (c : Int) (t : Tile) : Bool := decide (0 ≤ t.1 ∧ t.1 ≤ c - 1) && decide (0 ≤ t.2.1 ∧ t.2.1 ≤ c - 1) && decide (0 ≤ t.2.2.1 ∧ t.2.2.1 ≤ c - 1) && decide (0 ≤ t.2.2.2 ∧ t.2.2.2 ≤ c - 1)
attribute [local simp] newK newO ixA ldI ldA stN st1 Cl.range cell Cl.cells putN put1 wA zhl zju zgP ziP Pt.add yQ Ext.app Ext.refl cutA isPt
theorem znB (a b c : Int) (h : H) : callB SP zeU [i64 a, i64 b, i64 c] h fun r h' => r = decide (b ≤ a ∧ a ≤ c) ∧ h' = h := by
 apply zwu
 unfold zaf
 refine zc (fun h1 => ?_) (fun h1 => ?_)
 all_goals simp; try omega
theorem ziH (a b c : Int) (h : H) : callB SP WX [i64 a, i64 b, i64 c] h fun r h' => r = decide (b ≤ a ∧ a ≤ c) ∧ h' = h := by
 apply zwR
 unfold zaX
 refine zc (fun h1 => ?_) (fun h1 => ?_)
 all_goals simp; try omega
def zhn {α : Type} (q : α → Bool) (l : List α) : Int := match l.findIdx? q with | some i => (i : Int) | none => -1
theorem zoC {α : Type} {q : α → Bool} {l : List α} {i : Nat} {x : α} (hx : l[i]? = some x) (hq : q x = true) (hn : ∀ j y, j < i → l[j]? = some y → q y = false) : zhn q l = i := by
 unfold zhn
 have : l.findIdx? q = some i := by
  rw [List.findIdx?_eq_some_iff_getElem]
  obtain ⟨h1, h2⟩ := List.getElem?_eq_some_iff.1 hx
  refine ⟨h1, by rw [h2]; exact hq, fun j hj => ?_⟩
  rw [hn j _ hj (List.getElem?_eq_getElem (by omega))]; simp
 rw [this]
theorem zkR {α : Type} {q : α → Bool} {l : List α} (hn : ∀ y ∈ l, q y = false) : zhn q l = -1 := by
 unfold zhn
 have : l.findIdx? q = none := by
  rw [List.findIdx?_eq_none_iff]
  intro x hx; rw [hn x hx]
 rw [this]
theorem zwq {α : Type} (q : α → Bool) (l : List α) : decide (zhn q l ≥ 0) = l.any q := by
 unfold zhn
 cases h : l.findIdx? q with
 | none =>
  rw [List.findIdx?_eq_none_iff] at h
  have : l.any q = false := by rw [List.any_eq_false]; intro x hx; rw [h x hx]; simp
  rw [this]; simp
 | some i =>
  have h2 : l.any q = true := by
   rw [List.findIdx?_eq_some_iff_getElem] at h
   obtain ⟨h1, h2, _⟩ := h
   exact List.any_eq_true.2 ⟨_, List.getElem_mem h1, h2⟩
  rw [h2]; simp
theorem Xt {h0 : H} {s : Sl} {l : List Int} (r : Rd h0 s 1 (ic l)) (hl : l.length < 4000000000000000000) (g : Nat) (cap : List AVal) (q : Int → Bool)
  (hg : ∀ x ∈ l, ∀ h, Ext h0 h → callB SP g (i64 x :: cap) h fun b h' => b = q x ∧ Ext h h') : callI SP .i64 znZ [.sl s, .func g cap] h0 fun n h' => n = zhn q l ∧ Ext h0 h' := by
 have hlen : s.len = l.length := by have := r.len; rw [xz] at this; omega
 apply zsG
 unfold XO
 refine zlk _ _ s _ _ (fun i h => 0 ≤ i ∧ i ≤ l.length ∧ Ext h0 h ∧ ∀ j y, j < i.toNat → l[j]? = some y → q y = false) (fun i _ => (l.length - i).toNat) ?_ _ ⟨by omega, by omega, Ext.refl _, fun j y hj => by omega⟩
 intro X i h ⟨i0, i1, hx, hn⟩ hX
 unfold zhS
 refine zc (fun hi => ?_) (fun hi => ?_)
 ·refine (r.ext hx).ldI i0 (by omega) fun x hxe => wi ?_
  refine (hg x (List.mem_of_getElem? hxe) h hx).to ?_
  rintro _ h' ⟨rfl, hx'⟩
  refine yE (fun hq => ?_) (fun hq => ?_)
  ·refine ⟨i, rfl, ?_, hx.trans hx'⟩
   rw [zoC hxe hq hn]; omega
  ·rw [zd (by omega) (by omega)]
   refine hX _ _ ⟨by omega, by omega, hx.trans hx', fun j y hj hy => ?_⟩ (by omega)
   by_cases hji : j = i.toNat
   ·subst hji; rw [hxe] at hy; cases hy; exact hq
   ·exact hn j y (by omega) hy
 ·refine ⟨_, rfl, ?_, hx⟩
  rw [zkR]
  intro y hy
  obtain ⟨j, hj, rfl⟩ := List.mem_iff_getElem.1 hy
  exact hn j _ (by omega) (List.getElem?_eq_getElem hj)
theorem Zs {h0 : H} {s : Sl} {l : List Int} (r : Rd h0 s 1 (ic l)) (hl : l.length < 4000000000000000000) (g : Nat) (cap : List AVal) (q : Int → Bool)
  (hg : ∀ x ∈ l, ∀ h, Ext h0 h → callB SP g (i64 x :: cap) h fun b h' => b = q x ∧ Ext h h') : callB SP zoh [.sl s, .func g cap] h0 fun b h' => b = l.any q ∧ Ext h0 h' := by
 apply zth
 unfold Wa
 refine (Xt r hl g cap q hg).to ?_
 rintro _ h' ⟨rfl, hx⟩
 exact ⟨_, rfl, zwq q l, hx⟩
theorem znF (x c : Int) (o : Nat) (h : H) (ho : h[o]? = some (.own [i64 c])) : callB SP zog [i64 x, .ptr ⟨some o, 1, 0⟩] h fun b h' => b = (!decide (0 ≤ x ∧ x ≤ w64 (c - 1))) ∧ h' = h := by
 apply ztg
 unfold X9
 refine ⟨c, by simp [ho], ?_⟩
 dsimp only
 refine (ziH _ _ _ _).to ?_
 rintro _ _ ⟨rfl, rfl⟩
 exact ⟨_, rfl, rfl, rfl⟩
theorem zvZ (t : Tile) (c : Int) (h : H) : callB SP zor [.agg (tc t), i64 c] h fun b h' => b = qV (w64 (c - 1) + 1) t ∧ Ext h h' := by
 apply zuz
 simp only [WC, newK, newO]
 refine ⟨rfl, ⟨by omega, by omega, by omega⟩, rfl, rfl, ?_⟩
 refine (Zs (l := [t.1, t.2.1, t.2.2.1, t.2.2.2]) ⟨rfl, .inr ⟨rfl, rfl, ?_⟩⟩ (by simp) zog _ (fun x => !decide (0 ≤ x ∧ x ≤ w64 (c - 1))) ?_).to ?_
 ·simp [tc, ic]
 ·intro x _ h' hx
  refine (znF x c _ h' (hx.own (by simp))).to ?_
  rintro _ _ ⟨rfl, rfl⟩
  exact ⟨rfl, Ext.refl _⟩
 ·rintro _ h' ⟨rfl, l, rfl⟩
  refine ⟨_, rfl, ?_, by simp⟩
  simp [qV, Bool.and_assoc]
theorem zmH (t : Tile) : tcs [t] = tc t := by simp [tcs]
theorem znz (c : Int) (hc : yN (c - 1)) (t : Tile) (h : H) : callB SP zoq [i64 c, .agg (tc t)] h fun b h' => b = qV c t ∧ Ext h h' := by
 apply zuv
 simp only [Wz, newK]
 refine ⟨rfl, ?_⟩
 refine zma _ _ _ _ (fun i h' => 0 ≤ i ∧ i ≤ 4 ∧ h' = h ++ [.own (tc t)] ∧ ∀ j y, j < i.toNat → [t.1, t.2.1, t.2.2.1, t.2.2.2][j]? = some y → 0 ≤ y ∧ y ≤ c - 1) (fun i _ => (4 - i).toNat) ?_ _ ⟨by omega, by omega, rfl, fun j y hj => by omega⟩
 rintro X i _ ⟨i0, i1, rfl, hn⟩ hX
 unfold ziq zux
 refine zc (fun hi => ?_) (fun hi => ?_)
 ·have hx : ∃ x, [t.1, t.2.1, t.2.2.1, t.2.2.2][i.toNat]? = some x := ⟨_, List.getElem?_eq_getElem (by simp; omega)⟩
  obtain ⟨x, hx⟩ := hx
  refine ⟨⟨i0, hi⟩, rfl, x, ?_, ?_⟩
  ·have hg : (tc t)[i.toNat]? = some (i64 x) := by
    rw [show tc t = ic [t.1, t.2.1, t.2.2.1, t.2.2.2] from rfl]
    unfold ic
    rw [List.getElem?_map, hx]; rfl
   simp [hg, qy]
  ·dsimp only
   rw [zd hc.1 hc.2, zd (by omega) (by omega)]
   refine (znB _ _ _ _).to ?_
   rintro _ _ ⟨rfl, rfl⟩
   refine zF (fun hq => ?_) (fun hq => ?_)
   ·refine ⟨_, rfl, ?_, by simp⟩
    rw [decide_eq_false_iff_not] at hq
    have hm := List.mem_of_getElem? hx
    simp only [List.mem_cons, List.not_mem_nil, or_false] at hm
    unfold qV
    rcases hm with rfl | rfl | rfl | rfl <;> simp [hq]
   ·refine hX _ _ ⟨by omega, by omega, rfl, fun j y hj hy => ?_⟩ (by omega)
    by_cases hji : j = i.toNat
    ·subst hji; rw [hx] at hy; cases hy; exact of_decide_eq_true hq
    ·exact hn j y (by omega) hy
 ·refine ⟨_, rfl, ?_, by simp⟩
  unfold qV
  have h4 : i.toNat = 4 := by omega
  rw [h4] at hn
  have a0 := hn 0 _ (by omega) rfl
  have a1 := hn 1 _ (by omega) rfl
  have a2 := hn 2 _ (by omega) rfl
  have a3 := hn 3 _ (by omega) rfl
  simp [a0, a1, a2, a3]
def tl (t : Tile) : List Int := [t.1, t.2.1, t.2.2.1, t.2.2.2]
def upto (k : Int) : Nat → List Int
 | 0 => []
 | n + 1 => k :: upto (k + 1) n
theorem Ow.st1 {h : H} {s : Sl} {z : Nat} {l : List Int} (r : Ow h s z (ic l)) {i j : Int} (hz : 0 < z) (h0 : 0 ≤ i) (h1 : i < s.len) (j0 : 0 ≤ j) (j1 : j < z) (x : Int) {K : H → Prop}
  (hk : ∀ h', Ow h' s z (ic (l.set (i.toNat * z + j.toNat) x)) → But s.o h h' → h'.length = h.length → K h') : ixS s z i fun p => ixA p z 1 j fun q => Cl.st1 q (i64 x) h K := by
 obtain ⟨a, b⟩ | ⟨o, a, b, c, d, e⟩ := r.at_
 ·omega
 ·have hlen := r.len
  rw [xz] at hlen
  have hb : i.toNat * z + j.toNat < l.length := by
   have : (i.toNat + 1) * z ≤ s.len * z := Nat.mul_le_mul_right _ (by omega)
   rw [Nat.add_mul] at this; omega
  have ho : o < h.length := (List.getElem?_eq_some_iff.1 e).1
  refine ⟨⟨h0, h1⟩, b, by simp [a], ⟨j0, j1⟩, by simp [Pt.add, a], h.set o (.own (ic (l.set (i.toNat * z + j.toNat) x))), ?_, hk _ ⟨by rw [xz]; simpa using hlen, .inr ⟨o, a, b, c, d, by simp [List.getElem?_set, ho]⟩⟩ ?_ (by simp)⟩
  ·unfold put1 wA Pt.add
   have : (ic l).set (i.toNat * z + j.toNat) (i64 x) = ic (l.set (i.toNat * z + j.toNat) x) := by unfold ic; rw [List.map_set]
   simp [a, c, d, e, xz, hlen, this]
   omega
  ·rw [a]
   exact ⟨by simp, fun k hk hn => by rw [List.getElem?_set, if_neg (fun e => hn (by rw [e]))]⟩
attribute [local simp] newK newO ixA ldI ldA stN st1 Cl.range cell Cl.cells putN put1 wA zhl zju zgP ziP Pt.add yQ Ext.app Ext.refl cutA isPt
def cmpL : List Int → List Int → Int
 | [], [] => 0
 | [], _ :: _ => -1
 | _ :: _, [] => 1
 | a :: l, b :: m => if a < b then -1 else if a > b then 1 else cmpL l m
theorem znI (x : Int) (h : H) : callB SP zjm [i64 x] h fun b h' => b = false ∧ h' = h := by
 apply zsw
 unfold XI
 exact ⟨_, rfl, by simp, rfl⟩
theorem zgz (x y : Int) (h : H) : callI SP .i64 znY [i64 x, i64 y] h fun n h' => n = (if x < y then -1 else if x > y then 1 else 0) ∧ h' = h := by
 apply zsE
 unfold XN
 refine (znI x h).to ?_
 rintro _ _ ⟨rfl, rfl⟩
 refine (znI y _).to ?_
 rintro _ _ ⟨rfl, rfl⟩
 refine zc (fun h1 => ⟨_, rfl, by simp [h1], rfl⟩) (fun h1 => zc (fun h2 => ⟨_, rfl, by simp [h1, h2], rfl⟩) (fun h2 => ⟨_, rfl, by simp [h1, h2], rfl⟩))
theorem wJ {α : Type} {l : List α} {i : Nat} {x : α} (e : l[i]? = some x) : l.drop i = x :: l.drop (i + 1) := by
 obtain ⟨h, rfl⟩ := List.getElem?_eq_some_iff.1 e
 exact List.drop_eq_getElem_cons h
theorem zkw {h0 : H} {s s' : Sl} {l l' : List Int} (r : Rd h0 s 1 (ic l)) (r' : Rd h0 s' 1 (ic l')) (hl : l.length < 4000000000000000000) : callI SP .i64 zof [.sl s, .sl s'] h0 fun n h' => n = cmpL l l' ∧ h' = h0 := by
 have hlen : s.len = l.length := by have := r.len; rw [xz] at this; omega
 have hlen' : s'.len = l'.length := by have := r'.len; rw [xz] at this; omega
 apply ztd
 unfold X1
 refine zlw _ _ s s' s _ (fun i h => 0 ≤ i ∧ i ≤ l.length ∧ i ≤ l'.length ∧ h = h0 ∧ cmpL l l' = cmpL (l.drop i.toNat) (l'.drop i.toNat)) (fun i _ => (l.length - i).toNat) ?_ _ ⟨by omega, by omega, by omega, rfl, by simp⟩
 rintro X i _ ⟨i0, i1, i2, rfl, he⟩ hX
 unfold zhZ ztf
 refine zc (fun hi => ?_) (fun hi => ?_)
 ·refine r.ldI i0 (by omega) fun x hx => zc (fun hj => ?_) (fun hj => ?_)
  ·refine ⟨_, rfl, ?_, rfl⟩
   rw [he, wJ hx, List.drop_eq_nil_of_le (show l'.length ≤ i.toNat by omega)]; rfl
  ·refine r'.ldI i0 (by omega) fun y hy => ?_
   refine (zgz x y _).to ?_
   rintro _ _ ⟨rfl, rfl⟩
   rw [wJ hx, wJ hy, cmpL] at he
   refine zL (fun hq => ⟨_, rfl, ?_, rfl⟩) (fun hq => ?_)
   ·rw [he]
    split
    ·rfl
    ·split
     ·rfl
     ·next h1 h2 => simp [h1, h2] at hq
   ·rw [zd (by omega) (by omega)]
    refine hX _ _ ⟨by omega, by omega, by omega, rfl, ?_⟩ (by omega)
    rw [he, show (i + 1).toNat = i.toNat + 1 by omega]
    split
    ·next h1 => simp [h1] at hq
    ·split
     ·next h1 h2 => simp [h1, h2] at hq
     ·rfl
 ·have e1 : l.drop i.toNat = [] := List.drop_eq_nil_of_le (by omega)
  refine zc (fun hj => ⟨_, rfl, ?_, rfl⟩) (fun hj => ⟨_, rfl, ?_, rfl⟩)
  ·have hy : l'[i.toNat]? = some _ := List.getElem?_eq_getElem (by omega)
   rw [he, e1, wJ hy]; rfl
  ·rw [he, e1, List.drop_eq_nil_of_le (show l'.length ≤ i.toNat by omega)]; rfl
def cmpT (a b : Tile) : Int := cmpL (tl a) (tl b)
theorem zgv (a b : Tile) (h : H) : callI SP .i64 qB [.agg (tc a), .agg (tc b)] h fun n h' => n = cmpT a b ∧ Ext h h' := by
 apply zuy
 simp only [WB, newK]
 refine ⟨rfl, rfl, ⟨by omega, by omega, by omega⟩, rfl, rfl, ⟨by omega, by omega, by omega⟩, rfl, rfl, ?_⟩
 refine (zkw (l := tl a) (l' := tl b) ⟨rfl, .inr ⟨rfl, rfl, ?_⟩⟩ ⟨rfl, .inr ⟨rfl, rfl, ?_⟩⟩ (by simp [tl])).to ?_
 ·simp [tc, tl, ic]
 ·simp [tc, tl, ic]
 ·rintro _ _ ⟨rfl, rfl⟩
  exact ⟨_, rfl, rfl, by simp⟩
theorem Xp (a b : Tile) (h : H) : callB SP zjq [.agg (tc a), .agg (tc b)] h fun r h' => r = decide (cmpT a b < 0) ∧ Ext h h' := by
 apply zur
 simp only [Wx, newK]
 refine ⟨rfl, rfl, ?_⟩
 refine zlY _ _ _ _ (fun i h' => 0 ≤ i ∧ i ≤ 4 ∧ h' = h ++ [.own (tc a)] ++ [.own (tc b)] ∧ cmpT a b = cmpL ((tl a).drop i.toNat) ((tl b).drop i.toNat)) (fun i _ => (4 - i).toNat) ?_ _ ⟨by omega, by omega, rfl, by simp [cmpT]⟩
 rintro X i _ ⟨i0, i1, rfl, he⟩ hX
 unfold zio zut
 refine zc (fun hi => ?_) (fun hi => ?_)
 ·have hx : (tl a)[i.toNat]? = some _ := List.getElem?_eq_getElem (by simp [tl]; omega)
  have hy : (tl b)[i.toNat]? = some _ := List.getElem?_eq_getElem (by simp [tl]; omega)
  rw [wJ hx, wJ hy, cmpL] at he
  have gx := zGb hx
  have gy := zGb hy
  refine qJ (cs := tc a) (by simp) rfl i0 hi gx (qJ (cs := tc b) (by simp) rfl i0 hi gy (zL (fun hq => ?_) (fun hq => ?_)))
  ·refine qJ (cs := tc a) (by simp) rfl i0 hi gx (qJ (cs := tc b) (by simp) rfl i0 hi gy ⟨_, rfl, ?_, by simp⟩)
   rw [he]
   by_cases h1 : (tl a)[i.toNat]'(by simp [tl]; omega) < (tl b)[i.toNat]'(by simp [tl]; omega)
   ·simp [h1]
   ·have h2 : (tl a)[i.toNat]'(by simp [tl]; omega) > (tl b)[i.toNat]'(by simp [tl]; omega) := by omega
    simp [h1, h2]
  ·rw [zd (by omega) (by omega)]
   refine hX _ _ ⟨by omega, by omega, rfl, ?_⟩ (by omega)
   rw [he, if_neg (by omega), if_neg (by omega), show (i + 1).toNat = i.toNat + 1 by omega]
 ·refine ⟨_, rfl, ?_, by simp⟩
  rw [he, List.drop_eq_nil_of_le (by simp [tl]; omega), List.drop_eq_nil_of_le (by simp [tl]; omega)]
  rfl
theorem Ow.stC {h : H} {s : Sl} {cs : List AVal} (r : Ow h s 1 cs) {i : Int} (h0 : 0 ≤ i) (h1 : i < s.len) (v : AVal) {K : H → Prop}
  (hk : ∀ h', Ow h' s 1 (cs.set i.toNat v) → But s.o h h' → h'.length = h.length → K h') : ixS s 1 i fun p => Cl.st1 p v h K := by
 obtain ⟨a, b⟩ | ⟨o, a, b, c, d, e⟩ := r.at_
 ·omega
 ·have hlen := r.len
  have ho : o < h.length := (List.getElem?_eq_some_iff.1 e).1
  refine ⟨⟨h0, h1⟩, b, by simp [a], h.set o (.own (cs.set i.toNat v)), ?_, hk _ ⟨by simpa using hlen, .inr ⟨o, a, b, c, d, by simp [List.getElem?_set, ho]⟩⟩ ?_ (by simp)⟩
  ·unfold put1 wA
   simp [a, c, d, e, hlen]
   omega
  ·rw [a]
   exact ⟨by simp, fun k hk hn => by rw [List.getElem?_set, if_neg (fun e => hn (by rw [e]))]⟩
theorem Ow.stI {h : H} {s : Sl} {l : List Int} (r : Ow h s 1 (ic l)) {i : Int} (h0 : 0 ≤ i) (h1 : i < s.len) (x : Int) {K : H → Prop}
  (hk : ∀ h', Ow h' s 1 (ic (l.set i.toNat x)) → But s.o h h' → h'.length = h.length → K h') : ixS s 1 i fun p => Cl.st1 p (.int .i64 x) h K :=
 r.stC h0 h1 _ fun h' o b n => hk h' (by
  have : (ic l).set i.toNat (i64 x) = ic (l.set i.toNat x) := by unfold ic; rw [List.map_set]
  rw [← this]; exact o) b n
theorem Ow.stA {h : H} {s : Sl} {z : Nat} {cs : List AVal} (r : Ow h s z cs) {i : Int} (h0 : 0 ≤ i) (h1 : i < s.len) (vs : List AVal) (hv : vs.length = z) {K : H → Prop}
  (hk : ∀ h', Ow h' s z (yQ cs (i.toNat * z) vs) → But s.o h h' → h'.length = h.length → K h') : ixS s z i fun p => Cl.stN p z vs h K := by
 obtain ⟨a, b⟩ | ⟨o, a, b, c, d, e⟩ := r.at_
 ·omega
 ·have hlen := r.len
  have ho : o < h.length := (List.getElem?_eq_some_iff.1 e).1
  have hb : i.toNat * z + z ≤ s.len * z := by
   have : (i.toNat + 1) * z ≤ s.len * z := Nat.mul_le_mul_right _ (by omega)
   rw [Nat.add_mul] at this; omega
  have hsl : (yQ cs (i.toNat * z) vs).length = s.len * z := by
   unfold yQ
   rw [List.length_append, List.length_append, List.length_take, List.length_drop, hlen, hv]; omega
  refine ⟨⟨h0, h1⟩, b, by simp [a], h.set o (.own (yQ cs (i.toNat * z) vs)), hv, ?_, hk _ ⟨hsl, .inr ⟨o, a, b, c, d, by simp [List.getElem?_set, ho]⟩⟩ ?_ (by simp)⟩
  ·unfold putN wA
   simp [a, c, d, e, hlen, hv]
   omega
  ·rw [a]
   exact ⟨by simp, fun k hk hn => by rw [List.getElem?_set, if_neg (fun e => hn (by rw [e]))]⟩
theorem QS : ∀ (l : List Tile) (i : Nat) (t : Tile), i < l.length → yQ (tcs l) (i * 4) (tc t) = tcs (l.set i t)
 | [], i, t, h => by simp at h
 | a :: l, 0, t, h => by
  unfold yQ
  simp [xk, tc]
 | a :: l, i + 1, t, h => by
  have ih := QS l i t (by simpa using h)
  rw [List.set_cons_succ, xk, xk, ← ih]
  unfold yQ
  rw [show (i + 1) * 4 = (tc a).length + i * 4 by rw [qy]; omega, show (tc a).length + i * 4 + (tc t).length = (tc a).length + (i * 4 + (tc t).length) by omega]
  rw [List.take_length_add_append, List.drop_length_add_append]
  simp
end Go.Proofs.YtlcgclmobfdbcaaGreat.Cl
set_option linter.unusedVariables false
set_option linter.unusedSimpArgs false
namespace Go.Proofs.YtlcgclmobfdbcaaGreat.Cl
open Go
def SetC (c : Int) (s : Sl) : List AVal := [i64 c, .sl s]
def ve (ls : List (List Int)) : Nat := (ls.map List.length).sum
theorem ZC {ls : List (List Int)} {l : List Int} (h : l ∈ ls) : l.length ≤ ve ls := by
 unfold ve
 induction ls with
 | nil => simp at h
 | cons a ls ih =>
  simp only [List.map_cons, List.sum_cons]
  rcases List.mem_cons.1 h with rfl | h
  ·omega
  ·have := ih h; omega
def zHQ (k : Int) : List (List Int) → List (List Int)
 | [] => []
 | l :: ls => upto k l.length :: zHQ (k + l.length) ls
theorem NewSS.top {n : Nat} {hx h0 : H} {s : Sl} {ls : List (List Int)} (r : NewSS n hx s ls) {Q : Nat → Prop} (c : Chg Q hx h0) (hq : ∀ o, n ≤ o → ¬ Q o) (vs : List Sl) (hv : Ow h0 s 1 (vs.map .sl)) : ∀ v ∈ vs, ∀ o, v.o = some o → n ≤ o ∧ o < hx.length := by
 obtain ⟨us, h1, h2, h3, h4, _⟩ := r
 have hu := h2.chg c fun o e => hq o (h3 o e)
 have hq : vs = us := by
  have a := hu.rd.sread (by omega)
  have b := hv.rd.sread (by omega)
  rw [a] at b
  have : us.map AVal.sl = vs.map AVal.sl := Option.some.inj b
  exact (List.map_inj_right (fun a b e => by simpa using e) |>.1 this).symm
 subst hq
 intro v hm o e
 obtain ⟨i, hi⟩ := List.getElem?_of_mem hm
 obtain ⟨l, hl⟩ := wC h1 hi
 obtain ⟨p, q⟩ := h4 i v l hi hl
 exact ⟨q o e, p.lt e⟩
end Go.Proofs.YtlcgclmobfdbcaaGreat.Cl
