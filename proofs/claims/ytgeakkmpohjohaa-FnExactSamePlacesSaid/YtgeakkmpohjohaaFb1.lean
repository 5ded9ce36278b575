/- Contracts of functions, joined. No claim is stated here. -/
import Derived.Test.YtgeakkmpohjohaaFT
import Derived.Test.YtgeakkmpohjohaaFb0
import Derived.Test.YtgeakkmpohjohaaFa2
/- Typed forms of functions of the program, and their links. Printed by program. No claim is stated here. -/
set_option linter.unusedVariables false
namespace Go.Proofs.Ytgeakkmpohjohaa.Cl
open Go
/-! ### (*loop.example/g01354/impl.filler).fits -/
def impl_filler_fits_M : Nat → List Nat := fun i => bif i == 1017 then [8, 9] else bif i == 1016 then [18] else bif i == 2016 then [0, 0, 2, 0, 8, 24, 56, 0, 248, 504, 1022, 2047, 4095] else bif i == 1015 then [4, 11, 14, 18, 174] else bif i == 1014 then [4, 11, 13, 14, 18] else bif i == 2014 then [0, 0, 2, 0, 0, 24, 62, 0, 128, 384, 896, 0, 3968, 8064, 16382, 32767, 0, 0, 196664, 0, 524288, 1572864, 3670016, 0, 16252928, 33030144, 67043384, 134217727, 268435455] else bif i == 1013 then [8, 9] else bif i == 1012 then [4, 6, 11, 13, 14, 17, 120] else bif i == 1011 then [8, 9] else bif i == 1010 then [4, 6, 10, 11, 12, 13, 14, 16, 17, 99] else bif i == 2010 then [0, 1, 3, 7, 7, 31, 63, 127, 255, 511, 1023, 2047, 4095, 4095, 16383, 4095, 36863, 131071, 262143, 524287, 1048575] else bif i == 1009 then [8, 9] else bif i == 1008 then [4, 6, 10, 11, 12, 13, 14, 16, 17, 78] else bif i == 2008 then [0, 1, 3, 7, 7, 31, 63, 127, 255, 511, 1023, 2047, 4095, 4095, 16383, 4095, 36863, 131071, 262143, 524287, 1048575] else bif i == 1007 then [8, 9] else bif i == 1006 then [4, 6, 10, 11, 12, 13, 14, 16, 17, 52] else bif i == 1005 then [3, 4, 6, 10, 11, 12, 13, 14, 16, 17] else bif i == 1004 then [3, 4, 6, 10, 11, 12, 13, 14, 15, 16] else bif i == 1003 then [3, 4, 6, 10, 11, 12, 13, 14, 15] else bif i == 2003 then [0, 1, 3, 7, 15, 0, 63, 127, 0, 256, 768, 1792, 3840, 0, 0, 24831, 65535] else bif i == 1002 then [3, 4, 6, 10, 11, 12, 13] else bif i == 2002 then [0, 0, 3, 0, 0, 24, 7, 127] else bif i == 1001 then [1, 3, 4, 6, 10, 11] else bif i == 2001 then [0, 1, 3, 7, 15, 0, 32, 96, 224, 480, 992, 2016, 31, 8191] else bif i == 1000 then [1, 3, 4, 6] else []
theorem impl_filler_fits_sp : (bodyOf Try.f46) = .seq (sub [0] (bodyOf Try.f46)) (sub [1] (bodyOf Try.f46)) := by kernel_rfl
def impl_filler_fits_ks0 (S : SatT) (K : AVal → H → Prop) : Kont := kSeq (cwp S tab impl_filler_fits_M [] (sub [1] (bodyOf Try.f46)) (kFun tab (Try.f46).results.toList K)) (kFun tab (Try.f46).results.toList K)
def impl_filler_fits_f0 (i1_ : Int) (i3_ : Int) (p4_ : Pt) (p6_ : Pt) : Frame := [U, .int .i64 i1_, U, .int .i64 i3_, .ptr p4_, U, .ptr p6_, U, U, U, U, U, U, U, U, U, U, U, U, U, U, U, U, U, U, U, U, U, U, U, U, U, U, U, U, U, U, U, U, U, U, U, U, U, U, U, U, U, U, U, U, U, U, U, U, U, U, U, U, U, U, U, U, U, U, U, U, U, U, U, U, U, U, U, U, U, U, U, U, U, U, U, U, U, U, U, U, U, U, U, U, U, U, U, U, U, U, U, U, U, U, U, U, U, U, U, U, U, U, U, U, U, U, U, U, U, U, U, U, U, U, U, U, U, U, U, U, U, U, U, U, U, U, U, U, U, U, U, U, U, U, U, U, U, U, U, U, U, U, U, U, U, U, U, U, U, U, U, U, U, U, U, U, U, U, U, U, U, U, U, U, U, U, U, U, U, U, U, U, U, U, U, U, U, U, U, U, U]
def impl_filler_fits_g0_0 (S : SatT) (k : Kont) (x0 : Pt) (x1 : Int) (x2 : Int) (x3 : Int) (h : H) : Prop :=
 newO [.ptr x0] h fun p0 h1 =>
 newO [.int .i64 x2] h1 fun p2 h3 =>
 k .normal (impl_filler_fits_f0 x1 x3 p0 p2) h3
theorem impl_filler_fits_g0_0_link (S : SatT) (k : Kont) (m : List Nat) (x0 : Pt) (x1 : Int) (x2 : Int) (x3 : Int) (h : H) : cwp S tab impl_filler_fits_M m (sub [0] (bodyOf Try.f46)) k (fr0 Try.f46 [.ptr x0, .int .i64 x1, .int .i64 x2, .int .i64 x3]) h = impl_filler_fits_g0_0 S k x0 x1 x2 x3 h := by kernel_rfl
theorem impl_filler_fits_sp_1 : (sub [1] (bodyOf Try.f46)) = .seq (sub [1, 0] (bodyOf Try.f46)) (sub [1, 1] (bodyOf Try.f46)) := by kernel_rfl
def impl_filler_fits_ks1 (S : SatT) (K : AVal → H → Prop) : Kont := kSeq (cwp S tab impl_filler_fits_M [] (sub [1, 1] (bodyOf Try.f46)) (kFun tab (Try.f46).results.toList K)) (kFun tab (Try.f46).results.toList K)
def impl_filler_fits_f1 (i1_ : Int) (i3_ : Int) (p4_ : Pt) (p6_ : Pt) (i10_ : Int) (i11_ : Int) : Frame := [U, .int .i64 i1_, U, .int .i64 i3_, .ptr p4_, U, .ptr p6_, U, U, U, .int .i64 i10_, .int .i64 i11_, U, U, U, U, U, U, U, U, U, U, U, U, U, U, U, U, U, U, U, U, U, U, U, U, U, U, U, U, U, U, U, U, U, U, U, U, U, U, U, U, U, U, U, U, U, U, U, U, U, U, U, U, U, U, U, U, U, U, U, U, U, U, U, U, U, U, U, U, U, U, U, U, U, U, U, U, U, U, U, U, U, U, U, U, U, U, U, U, U, U, U, U, U, U, U, U, U, U, U, U, U, U, U, U, U, U, U, U, U, U, U, U, U, U, U, U, U, U, U, U, U, U, U, U, U, U, U, U, U, U, U, U, U, U, U, U, U, U, U, U, U, U, U, U, U, U, U, U, U, U, U, U, U, U, U, U, U, U, U, U, U, U, U, U, U, U, U, U, U, U, U, U, U, U, U, U]
def impl_filler_fits_g1_0 (S : SatT) (k : Kont) (i1_ : Int) (i3_ : Int) (p4_ : Pt) (p6_ : Pt) (h : H) : Prop :=
 ldP p4_ h fun p0 =>
 nilC (.ptr p0) (
 isPt p0 (
 ldS (Pt.add p0 2) h fun s1 =>
 ldP p4_ h fun p2 =>
 nilC (.ptr p2) (
 isPt p2 (
 ldS (Pt.add p2 2) h fun s3 =>
 ixS s3 1 (0) fun p4 =>
 ldS p4 h fun s5 =>
 k .normal (impl_filler_fits_f1 i1_ i3_ p4_ p6_ (s1.len : Int) (s5.len : Int)) h))))
theorem impl_filler_fits_g1_0_link (S : SatT) (k : Kont) (m : List Nat) (i1_ : Int) (i3_ : Int) (p4_ : Pt) (p6_ : Pt) (h : H) : cwp S tab impl_filler_fits_M m (sub [1, 0] (bodyOf Try.f46)) k (impl_filler_fits_f0 i1_ i3_ p4_ p6_) h = impl_filler_fits_g1_0 S k i1_ i3_ p4_ p6_ h := by kernel_rfl
theorem impl_filler_fits_sp_1_1 : (sub [1, 1] (bodyOf Try.f46)) = .seq (sub [1, 1, 0] (bodyOf Try.f46)) (sub [1, 1, 1] (bodyOf Try.f46)) := by kernel_rfl
def impl_filler_fits_ks2 (S : SatT) (K : AVal → H → Prop) : Kont := kSeq (cwp S tab impl_filler_fits_M [] (sub [1, 1, 1] (bodyOf Try.f46)) (kFun tab (Try.f46).results.toList K)) (kFun tab (Try.f46).results.toList K)
def impl_filler_fits_f2 (i3_ : Int) (p4_ : Pt) (p6_ : Pt) (i10_ : Int) (i11_ : Int) (i12_ : Int) (i13_ : Int) : Frame := [U, U, U, .int .i64 i3_, .ptr p4_, U, .ptr p6_, U, U, U, .int .i64 i10_, .int .i64 i11_, .int .i64 i12_, .int .i64 i13_, U, U, U, U, U, U, U, U, U, U, U, U, U, U, U, U, U, U, U, U, U, U, U, U, U, U, U, U, U, U, U, U, U, U, U, U, U, U, U, U, U, U, U, U, U, U, U, U, U, U, U, U, U, U, U, U, U, U, U, U, U, U, U, U, U, U, U, U, U, U, U, U, U, U, U, U, U, U, U, U, U, U, U, U, U, U, U, U, U, U, U, U, U, U, U, U, U, U, U, U, U, U, U, U, U, U, U, U, U, U, U, U, U, U, U, U, U, U, U, U, U, U, U, U, U, U, U, U, U, U, U, U, U, U, U, U, U, U, U, U, U, U, U, U, U, U, U, U, U, U, U, U, U, U, U, U, U, U, U, U, U, U, U, U, U, U, U, U, U, U, U, U, U, U]
def impl_filler_fits_g2_0 (S : SatT) (k : Kont) (i1_ : Int) (i3_ : Int) (p4_ : Pt) (p6_ : Pt) (i10_ : Int) (i11_ : Int) (h : H) : Prop :=
 nz i11_ (
 nz i11_ (
 k .normal (impl_filler_fits_f2 i3_ p4_ p6_ i10_ i11_ (w64 (Int.tdiv i1_ i11_)) (Int.tmod i1_ i11_)) h))
theorem impl_filler_fits_g2_0_link (S : SatT) (k : Kont) (m : List Nat) (i1_ : Int) (i3_ : Int) (p4_ : Pt) (p6_ : Pt) (i10_ : Int) (i11_ : Int) (h : H) : cwp S tab impl_filler_fits_M m (sub [1, 1, 0] (bodyOf Try.f46)) k (impl_filler_fits_f1 i1_ i3_ p4_ p6_ i10_ i11_) h = impl_filler_fits_g2_0 S k i1_ i3_ p4_ p6_ i10_ i11_ h := by kernel_rfl
theorem impl_filler_fits_sp_1_1_1 : (sub [1, 1, 1] (bodyOf Try.f46)) = .seq (sub [1, 1, 1, 0] (bodyOf Try.f46)) (sub [1, 1, 1, 1] (bodyOf Try.f46)) := by kernel_rfl
def impl_filler_fits_ks3 (S : SatT) (K : AVal → H → Prop) : Kont := kSeq (cwp S tab impl_filler_fits_M [] (sub [1, 1, 1, 1] (bodyOf Try.f46)) (kFun tab (Try.f46).results.toList K)) (kFun tab (Try.f46).results.toList K)
def impl_filler_fits_f3 (i3_ : Int) (p4_ : Pt) (p6_ : Pt) (i10_ : Int) (i11_ : Int) (i12_ : Int) (i13_ : Int) (p14_ : Pt) (p15_ : Pt) : Frame := [U, U, U, .int .i64 i3_, .ptr p4_, U, .ptr p6_, U, U, U, .int .i64 i10_, .int .i64 i11_, .int .i64 i12_, .int .i64 i13_, .ptr p14_, .ptr p15_, U, U, U, U, U, U, U, U, U, U, U, U, U, U, U, U, U, U, U, U, U, U, U, U, U, U, U, U, U, U, U, U, U, U, U, U, U, U, U, U, U, U, U, U, U, U, U, U, U, U, U, U, U, U, U, U, U, U, U, U, U, U, U, U, U, U, U, U, U, U, U, U, U, U, U, U, U, U, U, U, U, U, U, U, U, U, U, U, U, U, U, U, U, U, U, U, U, U, U, U, U, U, U, U, U, U, U, U, U, U, U, U, U, U, U, U, U, U, U, U, U, U, U, U, U, U, U, U, U, U, U, U, U, U, U, U, U, U, U, U, U, U, U, U, U, U, U, U, U, U, U, U, U, U, U, U, U, U, U, U, U, U, U, U, U, U, U, U, U, U, U, U]
def impl_filler_fits_g3_0 (S : SatT) (k : Kont) (i3_ : Int) (p4_ : Pt) (p6_ : Pt) (i10_ : Int) (i11_ : Int) (i12_ : Int) (i13_ : Int) (h : H) : Prop :=
 slotK 17 h fun h0 =>
 ldP p4_ h0 fun p1 =>
 nilC (.ptr p1) (
 isPt p1 (
 isPt (Pt.add p1 0) (
 ldS (Pt.add (Pt.add p1 0) 1) h0 fun s2 =>
 ixS s2 4 i3_ fun p3 =>
 ldA p3 4 h0 fun cs4 =>
 ldP p4_ h0 fun p5 =>
 nilC (.ptr p5) (
 isPt p5 (
 isPt (Pt.add p5 0) (
 ldI .i64 (Pt.add (Pt.add p5 0) 0) h0 fun n6 =>
 newOat [.int .i64 (0), .int .i64 (0), .int .i64 (0), .int .i64 (0)] h0 (h.length + 13) fun p7 h8 =>
(cell h8 (Pt.add (Pt.add p5 0) 0) = cell h0 (Pt.add (Pt.add p5 0) 0)) ∧ (
(cell h8 p4_ = cell h0 p4_) ∧ (
(range h8 p3.o p3.n p3.off 4 = range h0 p3.o p3.n p3.off 4) ∧ (
(cell h8 (Pt.add (Pt.add p1 0) 1) = cell h0 (Pt.add (Pt.add p1 0) 1)) ∧ (
(cell h8 p4_ = cell h0 p4_) ∧ (
 newOat [.int .i64 (0)] h8 (h.length + 14) fun p9 h10 =>
(cell h10 (Pt.add (Pt.add p5 0) 0) = cell h0 (Pt.add (Pt.add p5 0) 0)) ∧ (
(cell h10 p4_ = cell h0 p4_) ∧ (
(range h10 p3.o p3.n p3.off 4 = range h0 p3.o p3.n p3.off 4) ∧ (
(cell h10 (Pt.add (Pt.add p1 0) 1) = cell h0 (Pt.add (Pt.add p1 0) 1)) ∧ (
(cell h10 p4_ = cell h0 p4_) ∧ (
 stN p7 4 cs4 h10 fun h11 =>
(cell h11 (Pt.add (Pt.add p5 0) 0) = cell h0 (Pt.add (Pt.add p5 0) 0)) ∧ (
(cell h11 p4_ = cell h0 p4_) ∧ (
 st1 p9 (.int .i64 n6) h11 fun h12 =>
 k .normal (impl_filler_fits_f3 i3_ p4_ p6_ i10_ i11_ i12_ i13_ p7 p9) h12))))))))))))))))))
theorem impl_filler_fits_g3_0_link (S : SatT) (k : Kont) (m : List Nat) (i3_ : Int) (p4_ : Pt) (p6_ : Pt) (i10_ : Int) (i11_ : Int) (i12_ : Int) (i13_ : Int) (h : H) : cwp S tab impl_filler_fits_M m (sub [1, 1, 1, 0] (bodyOf Try.f46)) k (impl_filler_fits_f2 i3_ p4_ p6_ i10_ i11_ i12_ i13_) h = impl_filler_fits_g3_0 S k i3_ p4_ p6_ i10_ i11_ i12_ i13_ h := by kernel_rfl
theorem impl_filler_fits_sp_1_1_1_1 : (sub [1, 1, 1, 1] (bodyOf Try.f46)) = .seq (sub [1, 1, 1, 1, 0] (bodyOf Try.f46)) (sub [1, 1, 1, 1, 1] (bodyOf Try.f46)) := by kernel_rfl
def impl_filler_fits_ks4 (S : SatT) (K : AVal → H → Prop) : Kont := kSeq (cwp S tab impl_filler_fits_M [] (sub [1, 1, 1, 1, 1] (bodyOf Try.f46)) (kFun tab (Try.f46).results.toList K)) (kFun tab (Try.f46).results.toList K)
def impl_filler_fits_f4 (i3_ : Int) (p4_ : Pt) (p6_ : Pt) (i10_ : Int) (i11_ : Int) (i12_ : Int) (i13_ : Int) (p14_ : Pt) (p15_ : Pt) (f16_ : AVal) : Frame := [U, U, U, .int .i64 i3_, .ptr p4_, U, .ptr p6_, U, U, U, .int .i64 i10_, .int .i64 i11_, .int .i64 i12_, .int .i64 i13_, .ptr p14_, .ptr p15_, f16_, U, U, U, U, U, U, U, U, U, U, U, U, U, U, U, U, U, U, U, U, U, U, U, U, U, U, U, U, U, U, U, U, U, U, U, U, U, U, U, U, U, U, U, U, U, U, U, U, U, U, U, U, U, U, U, U, U, U, U, U, U, U, U, U, U, U, U, U, U, U, U, U, U, U, U, U, U, U, U, U, U, U, U, U, U, U, U, U, U, U, U, U, U, U, U, U, U, U, U, U, U, U, U, U, U, U, U, U, U, U, U, U, U, U, U, U, U, U, U, U, U, U, U, U, U, U, U, U, U, U, U, U, U, U, U, U, U, U, U, U, U, U, U, U, U, U, U, U, U, U, U, U, U, U, U, U, U, U, U, U, U, U, U, U, U, U, U, U, U, U, U]
def impl_filler_fits_g4_0 (S : SatT) (k : Kont) (i3_ : Int) (p4_ : Pt) (p6_ : Pt) (i10_ : Int) (i11_ : Int) (i12_ : Int) (i13_ : Int) (p14_ : Pt) (p15_ : Pt) (h : H) : Prop :=
 k .normal (impl_filler_fits_f4 i3_ p4_ p6_ i10_ i11_ i12_ i13_ p14_ p15_ (.func 58 [.ptr p4_, .ptr p14_])) h
theorem impl_filler_fits_g4_0_link (S : SatT) (k : Kont) (m : List Nat) (i3_ : Int) (p4_ : Pt) (p6_ : Pt) (i10_ : Int) (i11_ : Int) (i12_ : Int) (i13_ : Int) (p14_ : Pt) (p15_ : Pt) (h : H) : cwp S tab impl_filler_fits_M m (sub [1, 1, 1, 1, 0] (bodyOf Try.f46)) k (impl_filler_fits_f3 i3_ p4_ p6_ i10_ i11_ i12_ i13_ p14_ p15_) h = impl_filler_fits_g4_0 S k i3_ p4_ p6_ i10_ i11_ i12_ i13_ p14_ p15_ h := by kernel_rfl
theorem impl_filler_fits_sp_1_1_1_1_1 : (sub [1, 1, 1, 1, 1] (bodyOf Try.f46)) = .seq (sub [1, 1, 1, 1, 1, 0] (bodyOf Try.f46)) (sub [1, 1, 1, 1, 1, 1] (bodyOf Try.f46)) := by kernel_rfl
def impl_filler_fits_ks5 (S : SatT) (K : AVal → H → Prop) : Kont := kSeq (cwp S tab impl_filler_fits_M [] (sub [1, 1, 1, 1, 1, 1] (bodyOf Try.f46)) (kFun tab (Try.f46).results.toList K)) (kFun tab (Try.f46).results.toList K)
def impl_filler_fits_f5 (i3_ : Int) (p4_ : Pt) (p6_ : Pt) (i10_ : Int) (i11_ : Int) (i12_ : Int) (i13_ : Int) (p14_ : Pt) (f16_ : AVal) (f17_ : AVal) : Frame := [U, U, U, .int .i64 i3_, .ptr p4_, U, .ptr p6_, U, U, U, .int .i64 i10_, .int .i64 i11_, .int .i64 i12_, .int .i64 i13_, .ptr p14_, U, f16_, f17_, U, U, U, U, U, U, U, U, U, U, U, U, U, U, U, U, U, U, U, U, U, U, U, U, U, U, U, U, U, U, U, U, U, U, U, U, U, U, U, U, U, U, U, U, U, U, U, U, U, U, U, U, U, U, U, U, U, U, U, U, U, U, U, U, U, U, U, U, U, U, U, U, U, U, U, U, U, U, U, U, U, U, U, U, U, U, U, U, U, U, U, U, U, U, U, U, U, U, U, U, U, U, U, U, U, U, U, U, U, U, U, U, U, U, U, U, U, U, U, U, U, U, U, U, U, U, U, U, U, U, U, U, U, U, U, U, U, U, U, U, U, U, U, U, U, U, U, U, U, U, U, U, U, U, U, U, U, U, U, U, U, U, U, U, U, U, U, U, U, U]
def impl_filler_fits_g5_0 (S : SatT) (k : Kont) (i3_ : Int) (p4_ : Pt) (p6_ : Pt) (i10_ : Int) (i11_ : Int) (i12_ : Int) (i13_ : Int) (p14_ : Pt) (p15_ : Pt) (f16_ : AVal) (h : H) : Prop :=
 k .normal (impl_filler_fits_f5 i3_ p4_ p6_ i10_ i11_ i12_ i13_ p14_ f16_ (.func 59 [.ptr p6_, .ptr p4_, .ptr p15_])) h
theorem impl_filler_fits_g5_0_link (S : SatT) (k : Kont) (m : List Nat) (i3_ : Int) (p4_ : Pt) (p6_ : Pt) (i10_ : Int) (i11_ : Int) (i12_ : Int) (i13_ : Int) (p14_ : Pt) (p15_ : Pt) (f16_ : AVal) (h : H) : cwp S tab impl_filler_fits_M m (sub [1, 1, 1, 1, 1, 0] (bodyOf Try.f46)) k (impl_filler_fits_f4 i3_ p4_ p6_ i10_ i11_ i12_ i13_ p14_ p15_ f16_) h = impl_filler_fits_g5_0 S k i3_ p4_ p6_ i10_ i11_ i12_ i13_ p14_ p15_ f16_ h := by kernel_rfl
theorem impl_filler_fits_sp_1_1_1_1_1_1 : (sub [1, 1, 1, 1, 1, 1] (bodyOf Try.f46)) = .seq (sub [1, 1, 1, 1, 1, 1, 0] (bodyOf Try.f46)) (sub [1, 1, 1, 1, 1, 1, 1] (bodyOf Try.f46)) := by kernel_rfl
theorem impl_filler_fits_sp_1_1_1_1_1_1_0 : (sub [1, 1, 1, 1, 1, 1, 0] (bodyOf Try.f46)) = .block 0 (sub [1, 1, 1, 1, 1, 1, 0, 0] (bodyOf Try.f46)) := by kernel_rfl
theorem impl_filler_fits_sp_1_1_1_1_1_1_0_0 : (sub [1, 1, 1, 1, 1, 1, 0, 0] (bodyOf Try.f46)) = .seq (sub [1, 1, 1, 1, 1, 1, 0, 0, 0] (bodyOf Try.f46)) (sub [1, 1, 1, 1, 1, 1, 0, 0, 1] (bodyOf Try.f46)) := by kernel_rfl
def impl_filler_fits_ks6 (S : SatT) (K : AVal → H → Prop) : Kont := kSeq (cwp S tab impl_filler_fits_M [] (sub [1, 1, 1, 1, 1, 1, 1] (bodyOf Try.f46)) (kFun tab (Try.f46).results.toList K)) (kFun tab (Try.f46).results.toList K)
def impl_filler_fits_ks7 (S : SatT) (K : AVal → H → Prop) : Kont := kSeq (cwp S tab impl_filler_fits_M (impl_filler_fits_M 0) (sub [1, 1, 1, 1, 1, 1, 0, 0, 1] (bodyOf Try.f46)) (kBlk 0 (impl_filler_fits_ks6 S K))) (kBlk 0 (impl_filler_fits_ks6 S K))
def impl_filler_fits_f6 (p4_ : Pt) (p6_ : Pt) (i10_ : Int) (i11_ : Int) (i12_ : Int) (i13_ : Int) (p14_ : Pt) (f16_ : AVal) (f17_ : AVal) (b52_ : Bool) : Frame := [U, U, U, U, .ptr p4_, U, .ptr p6_, U, U, U, .int .i64 i10_, .int .i64 i11_, .int .i64 i12_, .int .i64 i13_, .ptr p14_, U, f16_, f17_, U, U, U, U, U, U, U, U, U, U, U, U, U, U, U, U, U, U, U, U, U, U, U, U, U, U, U, U, U, U, U, U, U, U, .bool b52_, U, U, U, U, U, U, U, U, U, U, U, U, U, U, U, U, U, U, U, U, U, U, U, U, U, U, U, U, U, U, U, U, U, U, U, U, U, U, U, U, U, U, U, U, U, U, U, U, U, U, U, U, U, U, U, U, U, U, U, U, U, U, U, U, U, U, U, U, U, U, U, U, U, U, U, U, U, U, U, U, U, U, U, U, U, U, U, U, U, U, U, U, U, U, U, U, U, U, U, U, U, U, U, U, U, U, U, U, U, U, U, U, U, U, U, U, U, U, U, U, U, U, U, U, U, U, U, U, U, U, U, U, U, U, U]
def impl_filler_fits_g6_0 (S : SatT) (k : Kont) (i3_ : Int) (p4_ : Pt) (p6_ : Pt) (i10_ : Int) (i11_ : Int) (i12_ : Int) (i13_ : Int) (p14_ : Pt) (f16_ : AVal) (f17_ : AVal) (h : H) : Prop :=
 ldP p4_ h fun p0 =>
 nilC (.ptr p0) (
 isPt p0 (
 ldS (Pt.add p0 2) h fun s1 =>
 ixS s1 1 i12_ fun p2 =>
 ldS p2 h fun s3 =>
 ixS s3 1 i13_ fun p4 =>
 ldI .i64 p4 h fun n5 =>
 bif (decide (n5 ≥ (0))) then
 ldP p4_ h fun p6 =>
 nilC (.ptr p6) (
 isPt p6 (
 ldS (Pt.add p6 2) h fun s7 =>
 ixS s7 1 i12_ fun p8 =>
 ldS p8 h fun s9 =>
 ixS s9 1 i13_ fun p10 =>
 ldI .i64 p10 h fun n11 =>
 k .normal (impl_filler_fits_f6 p4_ p6_ i10_ i11_ i12_ i13_ p14_ f16_ f17_ (n11 != i3_)) h))
 else
 k .normal (impl_filler_fits_f6 p4_ p6_ i10_ i11_ i12_ i13_ p14_ f16_ f17_ false) h))
theorem impl_filler_fits_g6_0_link (S : SatT) (k : Kont) (m : List Nat) (i3_ : Int) (p4_ : Pt) (p6_ : Pt) (i10_ : Int) (i11_ : Int) (i12_ : Int) (i13_ : Int) (p14_ : Pt) (f16_ : AVal) (f17_ : AVal) (h : H) : cwp S tab impl_filler_fits_M m (sub [1, 1, 1, 1, 1, 1, 0, 0, 0] (bodyOf Try.f46)) k (impl_filler_fits_f5 i3_ p4_ p6_ i10_ i11_ i12_ i13_ p14_ f16_ f17_) h = impl_filler_fits_g6_0 S k i3_ p4_ p6_ i10_ i11_ i12_ i13_ p14_ f16_ f17_ h := by kernel_rfl
theorem impl_filler_fits_sp_1_1_1_1_1_1_0_0_1 : (sub [1, 1, 1, 1, 1, 1, 0, 0, 1] (bodyOf Try.f46)) = .cond (.tmp 52) (sub [1, 1, 1, 1, 1, 1, 0, 0, 1, 0] (bodyOf Try.f46)) (sub [1, 1, 1, 1, 1, 1, 0, 0, 1, 1] (bodyOf Try.f46)) := by kernel_rfl
theorem impl_filler_fits_sp_1_1_1_1_1_1_0_0_1_0 : (sub [1, 1, 1, 1, 1, 1, 0, 0, 1, 0] (bodyOf Try.f46)) = .seq (sub [1, 1, 1, 1, 1, 1, 0, 0, 1, 0, 0] (bodyOf Try.f46)) (sub [1, 1, 1, 1, 1, 1, 0, 0, 1, 0, 1] (bodyOf Try.f46)) := by kernel_rfl
def impl_filler_fits_ks8 (S : SatT) (K : AVal → H → Prop) : Kont := kSeq (cwp S tab impl_filler_fits_M (impl_filler_fits_M 0) (sub [1, 1, 1, 1, 1, 1, 0, 0, 1, 0, 1] (bodyOf Try.f46)) (kBlk 0 (impl_filler_fits_ks6 S K))) (kBlk 0 (impl_filler_fits_ks6 S K))
def impl_filler_fits_f7 (i8_ : Int) (b9_ : Bool) : Frame := [U, U, U, U, U, U, U, U, .int .i64 i8_, .bool b9_, U, U, U, U, U, U, U, U, U, U, U, U, U, U, U, U, U, U, U, U, U, U, U, U, U, U, U, U, U, U, U, U, U, U, U, U, U, U, U, U, U, U, U, U, U, U, U, U, U, U, U, U, U, U, U, U, U, U, U, U, U, U, U, U, U, U, U, U, U, U, U, U, U, U, U, U, U, U, U, U, U, U, U, U, U, U, U, U, U, U, U, U, U, U, U, U, U, U, U, U, U, U, U, U, U, U, U, U, U, U, U, U, U, U, U, U, U, U, U, U, U, U, U, U, U, U, U, U, U, U, U, U, U, U, U, U, U, U, U, U, U, U, U, U, U, U, U, U, U, U, U, U, U, U, U, U, U, U, U, U, U, U, U, U, U, U, U, U, U, U, U, U, U, U, U, U, U, U]
def impl_filler_fits_g7_0 (S : SatT) (k : Kont) (p4_ : Pt) (p6_ : Pt) (i10_ : Int) (i11_ : Int) (i12_ : Int) (i13_ : Int) (p14_ : Pt) (f16_ : AVal) (f17_ : AVal) (b52_ : Bool) (h : H) : Prop :=
 k .normal (impl_filler_fits_f7 (0) false) h
theorem impl_filler_fits_g7_0_link (S : SatT) (k : Kont) (m : List Nat) (p4_ : Pt) (p6_ : Pt) (i10_ : Int) (i11_ : Int) (i12_ : Int) (i13_ : Int) (p14_ : Pt) (f16_ : AVal) (f17_ : AVal) (b52_ : Bool) (h : H) : cwp S tab impl_filler_fits_M m (sub [1, 1, 1, 1, 1, 1, 0, 0, 1, 0, 0] (bodyOf Try.f46)) k (impl_filler_fits_f6 p4_ p6_ i10_ i11_ i12_ i13_ p14_ f16_ f17_ b52_) h = impl_filler_fits_g7_0 S k p4_ p6_ i10_ i11_ i12_ i13_ p14_ f16_ f17_ b52_ h := by kernel_rfl
theorem impl_filler_fits_sp_1_1_1_1_1_1_0_0_1_0_1 : (sub [1, 1, 1, 1, 1, 1, 0, 0, 1, 0, 1] (bodyOf Try.f46)) = .ret := by kernel_rfl
def impl_filler_fits_r7 (S : SatT) (K : AVal → H → Prop) (i8_ : Int) (b9_ : Bool) (h : H) : Prop :=
 K (.tuple [.int .i64 i8_, .bool b9_]) h
theorem impl_filler_fits_cut7 (S : SatT) (K : AVal → H → Prop) (i8_ : Int) (b9_ : Bool) (h : H) : (impl_filler_fits_ks8 S K) .normal (impl_filler_fits_f7 i8_ b9_) h = impl_filler_fits_r7 S K i8_ b9_ h := by
  unfold impl_filler_fits_r7
  refine (kSeq_n _ _ _ _).trans ?_
  refine (cwp_sp_ret impl_filler_fits_sp_1_1_1_1_1_1_0_0_1_0_1).trans ?_
  refine (kBlk_r _ _ _ _).trans ?_
  refine (kSeq_r _ _ _ _).trans ?_
  kernel_rfl
theorem impl_filler_fits_sp_1_1_1_1_1_1_0_0_1_1 : (sub [1, 1, 1, 1, 1, 1, 0, 0, 1, 1] (bodyOf Try.f46)) = .seq (sub [1, 1, 1, 1, 1, 1, 0, 0, 1, 1, 0] (bodyOf Try.f46)) (sub [1, 1, 1, 1, 1, 1, 0, 0, 1, 1, 1] (bodyOf Try.f46)) := by kernel_rfl
def impl_filler_fits_ks9 (S : SatT) (K : AVal → H → Prop) : Kont := kSeq (cwp S tab impl_filler_fits_M (impl_filler_fits_M 0) (sub [1, 1, 1, 1, 1, 1, 0, 0, 1, 1, 1] (bodyOf Try.f46)) (kBlk 0 (impl_filler_fits_ks6 S K))) (kBlk 0 (impl_filler_fits_ks6 S K))
def impl_filler_fits_f8 (p4_ : Pt) (p6_ : Pt) (i10_ : Int) (i11_ : Int) (i12_ : Int) (i13_ : Int) (p14_ : Pt) (f16_ : AVal) (f17_ : AVal) (b78_ : Bool) : Frame := [U, U, U, U, .ptr p4_, U, .ptr p6_, U, U, U, .int .i64 i10_, .int .i64 i11_, .int .i64 i12_, .int .i64 i13_, .ptr p14_, U, f16_, f17_, U, U, U, U, U, U, U, U, U, U, U, U, U, U, U, U, U, U, U, U, U, U, U, U, U, U, U, U, U, U, U, U, U, U, U, U, U, U, U, U, U, U, U, U, U, U, U, U, U, U, U, U, U, U, U, U, U, U, U, U, .bool b78_, U, U, U, U, U, U, U, U, U, U, U, U, U, U, U, U, U, U, U, U, U, U, U, U, U, U, U, U, U, U, U, U, U, U, U, U, U, U, U, U, U, U, U, U, U, U, U, U, U, U, U, U, U, U, U, U, U, U, U, U, U, U, U, U, U, U, U, U, U, U, U, U, U, U, U, U, U, U, U, U, U, U, U, U, U, U, U, U, U, U, U, U, U, U, U, U, U, U, U, U, U, U, U, U, U, U, U, U, U]
def impl_filler_fits_g8_0 (S : SatT) (k : Kont) (p4_ : Pt) (p6_ : Pt) (i10_ : Int) (i11_ : Int) (i12_ : Int) (i13_ : Int) (p14_ : Pt) (f16_ : AVal) (f17_ : AVal) (b52_ : Bool) (h : H) : Prop :=
 bif (i12_ == (0)) then
 viaF f16_ [.int .i64 (1), .int .i64 i13_] fun g0 ys1 =>
 callB S g0 ys1 h fun b3 h2 =>
 bif (!b3) then
 k .normal (impl_filler_fits_f8 p4_ p6_ i10_ i11_ i12_ i13_ p14_ f16_ f17_ true) h2
 else
 bif (decide (i12_ > (0))) then
 viaF f17_ [.int .i64 i13_] fun g4 ys5 =>
 callI S .i64 g4 ys5 h2 fun n7 h6 =>
 ixA p14_ 4 1 (1) fun p8 =>
 ldI .i64 p8 h6 fun n9 =>
(cell h2 p8 = cell h6 p8) ∧ (
 k .normal (impl_filler_fits_f8 p4_ p6_ i10_ i11_ i12_ i13_ p14_ f16_ f17_ (n7 != n9)) h6)
 else
 k .normal (impl_filler_fits_f8 p4_ p6_ i10_ i11_ i12_ i13_ p14_ f16_ f17_ false) h2
 else
 bif (decide (i12_ > (0))) then
 viaF f17_ [.int .i64 i13_] fun g10 ys11 =>
 callI S .i64 g10 ys11 h fun n13 h12 =>
 ixA p14_ 4 1 (1) fun p14 =>
 ldI .i64 p14 h12 fun n15 =>
(cell h p14 = cell h12 p14) ∧ (
 k .normal (impl_filler_fits_f8 p4_ p6_ i10_ i11_ i12_ i13_ p14_ f16_ f17_ (n13 != n15)) h12)
 else
 k .normal (impl_filler_fits_f8 p4_ p6_ i10_ i11_ i12_ i13_ p14_ f16_ f17_ false) h
theorem impl_filler_fits_g8_0_link (S : SatT) (k : Kont) (m : List Nat) (p4_ : Pt) (p6_ : Pt) (i10_ : Int) (i11_ : Int) (i12_ : Int) (i13_ : Int) (p14_ : Pt) (f16_ : AVal) (f17_ : AVal) (b52_ : Bool) (h : H) : cwp S tab impl_filler_fits_M m (sub [1, 1, 1, 1, 1, 1, 0, 0, 1, 1, 0] (bodyOf Try.f46)) k (impl_filler_fits_f6 p4_ p6_ i10_ i11_ i12_ i13_ p14_ f16_ f17_ b52_) h = impl_filler_fits_g8_0 S k p4_ p6_ i10_ i11_ i12_ i13_ p14_ f16_ f17_ b52_ h := by kernel_rfl
theorem impl_filler_fits_sp_1_1_1_1_1_1_0_0_1_1_1 : (sub [1, 1, 1, 1, 1, 1, 0, 0, 1, 1, 1] (bodyOf Try.f46)) = .cond (.tmp 78) (sub [1, 1, 1, 1, 1, 1, 0, 0, 1, 1, 1, 0] (bodyOf Try.f46)) (sub [1, 1, 1, 1, 1, 1, 0, 0, 1, 1, 1, 1] (bodyOf Try.f46)) := by kernel_rfl
theorem impl_filler_fits_sp_1_1_1_1_1_1_0_0_1_1_1_0 : (sub [1, 1, 1, 1, 1, 1, 0, 0, 1, 1, 1, 0] (bodyOf Try.f46)) = .seq (sub [1, 1, 1, 1, 1, 1, 0, 0, 1, 1, 1, 0, 0] (bodyOf Try.f46)) (sub [1, 1, 1, 1, 1, 1, 0, 0, 1, 1, 1, 0, 1] (bodyOf Try.f46)) := by kernel_rfl
def impl_filler_fits_ks10 (S : SatT) (K : AVal → H → Prop) : Kont := kSeq (cwp S tab impl_filler_fits_M (impl_filler_fits_M 0) (sub [1, 1, 1, 1, 1, 1, 0, 0, 1, 1, 1, 0, 1] (bodyOf Try.f46)) (kBlk 0 (impl_filler_fits_ks6 S K))) (kBlk 0 (impl_filler_fits_ks6 S K))
def impl_filler_fits_f9 (i8_ : Int) (b9_ : Bool) : Frame := [U, U, U, U, U, U, U, U, .int .i64 i8_, .bool b9_, U, U, U, U, U, U, U, U, U, U, U, U, U, U, U, U, U, U, U, U, U, U, U, U, U, U, U, U, U, U, U, U, U, U, U, U, U, U, U, U, U, U, U, U, U, U, U, U, U, U, U, U, U, U, U, U, U, U, U, U, U, U, U, U, U, U, U, U, U, U, U, U, U, U, U, U, U, U, U, U, U, U, U, U, U, U, U, U, U, U, U, U, U, U, U, U, U, U, U, U, U, U, U, U, U, U, U, U, U, U, U, U, U, U, U, U, U, U, U, U, U, U, U, U, U, U, U, U, U, U, U, U, U, U, U, U, U, U, U, U, U, U, U, U, U, U, U, U, U, U, U, U, U, U, U, U, U, U, U, U, U, U, U, U, U, U, U, U, U, U, U, U, U, U, U, U, U, U]
def impl_filler_fits_g9_0 (S : SatT) (k : Kont) (p4_ : Pt) (p6_ : Pt) (i10_ : Int) (i11_ : Int) (i12_ : Int) (i13_ : Int) (p14_ : Pt) (f16_ : AVal) (f17_ : AVal) (b78_ : Bool) (h : H) : Prop :=
 k .normal (impl_filler_fits_f9 (0) false) h
theorem impl_filler_fits_g9_0_link (S : SatT) (k : Kont) (m : List Nat) (p4_ : Pt) (p6_ : Pt) (i10_ : Int) (i11_ : Int) (i12_ : Int) (i13_ : Int) (p14_ : Pt) (f16_ : AVal) (f17_ : AVal) (b78_ : Bool) (h : H) : cwp S tab impl_filler_fits_M m (sub [1, 1, 1, 1, 1, 1, 0, 0, 1, 1, 1, 0, 0] (bodyOf Try.f46)) k (impl_filler_fits_f8 p4_ p6_ i10_ i11_ i12_ i13_ p14_ f16_ f17_ b78_) h = impl_filler_fits_g9_0 S k p4_ p6_ i10_ i11_ i12_ i13_ p14_ f16_ f17_ b78_ h := by kernel_rfl
theorem impl_filler_fits_sp_1_1_1_1_1_1_0_0_1_1_1_0_1 : (sub [1, 1, 1, 1, 1, 1, 0, 0, 1, 1, 1, 0, 1] (bodyOf Try.f46)) = .ret := by kernel_rfl
def impl_filler_fits_r9 (S : SatT) (K : AVal → H → Prop) (i8_ : Int) (b9_ : Bool) (h : H) : Prop :=
 K (.tuple [.int .i64 i8_, .bool b9_]) h
theorem impl_filler_fits_cut9 (S : SatT) (K : AVal → H → Prop) (i8_ : Int) (b9_ : Bool) (h : H) : (impl_filler_fits_ks10 S K) .normal (impl_filler_fits_f9 i8_ b9_) h = impl_filler_fits_r9 S K i8_ b9_ h := by
  unfold impl_filler_fits_r9
  refine (kSeq_n _ _ _ _).trans ?_
  refine (cwp_sp_ret impl_filler_fits_sp_1_1_1_1_1_1_0_0_1_1_1_0_1).trans ?_
  refine (kBlk_r _ _ _ _).trans ?_
  refine (kSeq_r _ _ _ _).trans ?_
  kernel_rfl
theorem impl_filler_fits_sp_1_1_1_1_1_1_0_0_1_1_1_1 : (sub [1, 1, 1, 1, 1, 1, 0, 0, 1, 1, 1, 1] (bodyOf Try.f46)) = .seq (sub [1, 1, 1, 1, 1, 1, 0, 0, 1, 1, 1, 1, 0] (bodyOf Try.f46)) (sub [1, 1, 1, 1, 1, 1, 0, 0, 1, 1, 1, 1, 1] (bodyOf Try.f46)) := by kernel_rfl
def impl_filler_fits_ks11 (S : SatT) (K : AVal → H → Prop) : Kont := kSeq (cwp S tab impl_filler_fits_M (impl_filler_fits_M 0) (sub [1, 1, 1, 1, 1, 1, 0, 0, 1, 1, 1, 1, 1] (bodyOf Try.f46)) (kBlk 0 (impl_filler_fits_ks6 S K))) (kBlk 0 (impl_filler_fits_ks6 S K))
def impl_filler_fits_f10 (p4_ : Pt) (p6_ : Pt) (i10_ : Int) (i11_ : Int) (i12_ : Int) (i13_ : Int) (p14_ : Pt) (f16_ : AVal) (f17_ : AVal) (b99_ : Bool) : Frame := [U, U, U, U, .ptr p4_, U, .ptr p6_, U, U, U, .int .i64 i10_, .int .i64 i11_, .int .i64 i12_, .int .i64 i13_, .ptr p14_, U, f16_, f17_, U, U, U, U, U, U, U, U, U, U, U, U, U, U, U, U, U, U, U, U, U, U, U, U, U, U, U, U, U, U, U, U, U, U, U, U, U, U, U, U, U, U, U, U, U, U, U, U, U, U, U, U, U, U, U, U, U, U, U, U, U, U, U, U, U, U, U, U, U, U, U, U, U, U, U, U, U, U, U, U, U, .bool b99_, U, U, U, U, U, U, U, U, U, U, U, U, U, U, U, U, U, U, U, U, U, U, U, U, U, U, U, U, U, U, U, U, U, U, U, U, U, U, U, U, U, U, U, U, U, U, U, U, U, U, U, U, U, U, U, U, U, U, U, U, U, U, U, U, U, U, U, U, U, U, U, U, U, U, U, U, U, U, U, U, U, U, U, U, U, U, U, U]
def impl_filler_fits_g10_0 (S : SatT) (k : Kont) (p4_ : Pt) (p6_ : Pt) (i10_ : Int) (i11_ : Int) (i12_ : Int) (i13_ : Int) (p14_ : Pt) (f16_ : AVal) (f17_ : AVal) (b78_ : Bool) (h : H) : Prop :=
 bif (i13_ == (0)) then
 viaF f16_ [.int .i64 (0), .int .i64 i12_] fun g0 ys1 =>
 callB S g0 ys1 h fun b3 h2 =>
 bif (!b3) then
 k .normal (impl_filler_fits_f10 p4_ p6_ i10_ i11_ i12_ i13_ p14_ f16_ f17_ true) h2
 else
 bif (decide (i13_ > (0))) then
 viaF f17_ [.int .i64 i11_] fun g4 ys5 =>
 callI S .i64 g4 ys5 h2 fun n7 h6 =>
 ixA p14_ 4 1 (0) fun p8 =>
 ldI .i64 p8 h6 fun n9 =>
(cell h2 p8 = cell h6 p8) ∧ (
 k .normal (impl_filler_fits_f10 p4_ p6_ i10_ i11_ i12_ i13_ p14_ f16_ f17_ (n7 != n9)) h6)
 else
 k .normal (impl_filler_fits_f10 p4_ p6_ i10_ i11_ i12_ i13_ p14_ f16_ f17_ false) h2
 else
 bif (decide (i13_ > (0))) then
 viaF f17_ [.int .i64 i11_] fun g10 ys11 =>
 callI S .i64 g10 ys11 h fun n13 h12 =>
 ixA p14_ 4 1 (0) fun p14 =>
 ldI .i64 p14 h12 fun n15 =>
(cell h p14 = cell h12 p14) ∧ (
 k .normal (impl_filler_fits_f10 p4_ p6_ i10_ i11_ i12_ i13_ p14_ f16_ f17_ (n13 != n15)) h12)
 else
 k .normal (impl_filler_fits_f10 p4_ p6_ i10_ i11_ i12_ i13_ p14_ f16_ f17_ false) h
theorem impl_filler_fits_g10_0_link (S : SatT) (k : Kont) (m : List Nat) (p4_ : Pt) (p6_ : Pt) (i10_ : Int) (i11_ : Int) (i12_ : Int) (i13_ : Int) (p14_ : Pt) (f16_ : AVal) (f17_ : AVal) (b78_ : Bool) (h : H) : cwp S tab impl_filler_fits_M m (sub [1, 1, 1, 1, 1, 1, 0, 0, 1, 1, 1, 1, 0] (bodyOf Try.f46)) k (impl_filler_fits_f8 p4_ p6_ i10_ i11_ i12_ i13_ p14_ f16_ f17_ b78_) h = impl_filler_fits_g10_0 S k p4_ p6_ i10_ i11_ i12_ i13_ p14_ f16_ f17_ b78_ h := by kernel_rfl
theorem impl_filler_fits_sp_1_1_1_1_1_1_0_0_1_1_1_1_1 : (sub [1, 1, 1, 1, 1, 1, 0, 0, 1, 1, 1, 1, 1] (bodyOf Try.f46)) = .cond (.tmp 99) (sub [1, 1, 1, 1, 1, 1, 0, 0, 1, 1, 1, 1, 1, 0] (bodyOf Try.f46)) (sub [1, 1, 1, 1, 1, 1, 0, 0, 1, 1, 1, 1, 1, 1] (bodyOf Try.f46)) := by kernel_rfl
theorem impl_filler_fits_sp_1_1_1_1_1_1_0_0_1_1_1_1_1_0 : (sub [1, 1, 1, 1, 1, 1, 0, 0, 1, 1, 1, 1, 1, 0] (bodyOf Try.f46)) = .seq (sub [1, 1, 1, 1, 1, 1, 0, 0, 1, 1, 1, 1, 1, 0, 0] (bodyOf Try.f46)) (sub [1, 1, 1, 1, 1, 1, 0, 0, 1, 1, 1, 1, 1, 0, 1] (bodyOf Try.f46)) := by kernel_rfl
def impl_filler_fits_ks12 (S : SatT) (K : AVal → H → Prop) : Kont := kSeq (cwp S tab impl_filler_fits_M (impl_filler_fits_M 0) (sub [1, 1, 1, 1, 1, 1, 0, 0, 1, 1, 1, 1, 1, 0, 1] (bodyOf Try.f46)) (kBlk 0 (impl_filler_fits_ks6 S K))) (kBlk 0 (impl_filler_fits_ks6 S K))
def impl_filler_fits_f11 (i8_ : Int) (b9_ : Bool) : Frame := [U, U, U, U, U, U, U, U, .int .i64 i8_, .bool b9_, U, U, U, U, U, U, U, U, U, U, U, U, U, U, U, U, U, U, U, U, U, U, U, U, U, U, U, U, U, U, U, U, U, U, U, U, U, U, U, U, U, U, U, U, U, U, U, U, U, U, U, U, U, U, U, U, U, U, U, U, U, U, U, U, U, U, U, U, U, U, U, U, U, U, U, U, U, U, U, U, U, U, U, U, U, U, U, U, U, U, U, U, U, U, U, U, U, U, U, U, U, U, U, U, U, U, U, U, U, U, U, U, U, U, U, U, U, U, U, U, U, U, U, U, U, U, U, U, U, U, U, U, U, U, U, U, U, U, U, U, U, U, U, U, U, U, U, U, U, U, U, U, U, U, U, U, U, U, U, U, U, U, U, U, U, U, U, U, U, U, U, U, U, U, U, U, U, U]
def impl_filler_fits_g11_0 (S : SatT) (k : Kont) (p4_ : Pt) (p6_ : Pt) (i10_ : Int) (i11_ : Int) (i12_ : Int) (i13_ : Int) (p14_ : Pt) (f16_ : AVal) (f17_ : AVal) (b99_ : Bool) (h : H) : Prop :=
 k .normal (impl_filler_fits_f11 (0) false) h
theorem impl_filler_fits_g11_0_link (S : SatT) (k : Kont) (m : List Nat) (p4_ : Pt) (p6_ : Pt) (i10_ : Int) (i11_ : Int) (i12_ : Int) (i13_ : Int) (p14_ : Pt) (f16_ : AVal) (f17_ : AVal) (b99_ : Bool) (h : H) : cwp S tab impl_filler_fits_M m (sub [1, 1, 1, 1, 1, 1, 0, 0, 1, 1, 1, 1, 1, 0, 0] (bodyOf Try.f46)) k (impl_filler_fits_f10 p4_ p6_ i10_ i11_ i12_ i13_ p14_ f16_ f17_ b99_) h = impl_filler_fits_g11_0 S k p4_ p6_ i10_ i11_ i12_ i13_ p14_ f16_ f17_ b99_ h := by kernel_rfl
theorem impl_filler_fits_sp_1_1_1_1_1_1_0_0_1_1_1_1_1_0_1 : (sub [1, 1, 1, 1, 1, 1, 0, 0, 1, 1, 1, 1, 1, 0, 1] (bodyOf Try.f46)) = .ret := by kernel_rfl
def impl_filler_fits_r11 (S : SatT) (K : AVal → H → Prop) (i8_ : Int) (b9_ : Bool) (h : H) : Prop :=
 K (.tuple [.int .i64 i8_, .bool b9_]) h
theorem impl_filler_fits_cut11 (S : SatT) (K : AVal → H → Prop) (i8_ : Int) (b9_ : Bool) (h : H) : (impl_filler_fits_ks12 S K) .normal (impl_filler_fits_f11 i8_ b9_) h = impl_filler_fits_r11 S K i8_ b9_ h := by
  unfold impl_filler_fits_r11
  refine (kSeq_n _ _ _ _).trans ?_
  refine (cwp_sp_ret impl_filler_fits_sp_1_1_1_1_1_1_0_0_1_1_1_1_1_0_1).trans ?_
  refine (kBlk_r _ _ _ _).trans ?_
  refine (kSeq_r _ _ _ _).trans ?_
  kernel_rfl
theorem impl_filler_fits_sp_1_1_1_1_1_1_0_0_1_1_1_1_1_1 : (sub [1, 1, 1, 1, 1, 1, 0, 0, 1, 1, 1, 1, 1, 1] (bodyOf Try.f46)) = .seq (sub [1, 1, 1, 1, 1, 1, 0, 0, 1, 1, 1, 1, 1, 1, 0] (bodyOf Try.f46)) (sub [1, 1, 1, 1, 1, 1, 0, 0, 1, 1, 1, 1, 1, 1, 1] (bodyOf Try.f46)) := by kernel_rfl
def impl_filler_fits_ks13 (S : SatT) (K : AVal → H → Prop) : Kont := kSeq (cwp S tab impl_filler_fits_M (impl_filler_fits_M 0) (sub [1, 1, 1, 1, 1, 1, 0, 0, 1, 1, 1, 1, 1, 1, 1] (bodyOf Try.f46)) (kBlk 0 (impl_filler_fits_ks6 S K))) (kBlk 0 (impl_filler_fits_ks6 S K))
def impl_filler_fits_f12 (p4_ : Pt) (p6_ : Pt) (i11_ : Int) (i13_ : Int) (p14_ : Pt) (f17_ : AVal) (b120_ : Bool) : Frame := [U, U, U, U, .ptr p4_, U, .ptr p6_, U, U, U, U, .int .i64 i11_, U, .int .i64 i13_, .ptr p14_, U, U, f17_, U, U, U, U, U, U, U, U, U, U, U, U, U, U, U, U, U, U, U, U, U, U, U, U, U, U, U, U, U, U, U, U, U, U, U, U, U, U, U, U, U, U, U, U, U, U, U, U, U, U, U, U, U, U, U, U, U, U, U, U, U, U, U, U, U, U, U, U, U, U, U, U, U, U, U, U, U, U, U, U, U, U, U, U, U, U, U, U, U, U, U, U, U, U, U, U, U, U, U, U, U, U, .bool b120_, U, U, U, U, U, U, U, U, U, U, U, U, U, U, U, U, U, U, U, U, U, U, U, U, U, U, U, U, U, U, U, U, U, U, U, U, U, U, U, U, U, U, U, U, U, U, U, U, U, U, U, U, U, U, U, U, U, U, U, U, U, U, U, U, U, U, U]
def impl_filler_fits_g12_0 (S : SatT) (k : Kont) (p4_ : Pt) (p6_ : Pt) (i10_ : Int) (i11_ : Int) (i12_ : Int) (i13_ : Int) (p14_ : Pt) (f16_ : AVal) (f17_ : AVal) (b99_ : Bool) (h : H) : Prop :=
 bif (i12_ == (w64 (i10_ - (1)))) then
 viaF f16_ [.int .i64 (3), .int .i64 i13_] fun g0 ys1 =>
 callB S g0 ys1 h fun b3 h2 =>
 bif (!b3) then
 k .normal (impl_filler_fits_f12 p4_ p6_ i11_ i13_ p14_ f17_ true) h2
 else
 bif (i13_ == (w64 (i11_ - (1)))) then
 viaF f16_ [.int .i64 (2), .int .i64 i12_] fun g4 ys5 =>
 callB S g4 ys5 h2 fun b7 h6 =>
 k .normal (impl_filler_fits_f12 p4_ p6_ i11_ i13_ p14_ f17_ (!b7)) h6
 else
 k .normal (impl_filler_fits_f12 p4_ p6_ i11_ i13_ p14_ f17_ false) h2
 else
 bif (i13_ == (w64 (i11_ - (1)))) then
 viaF f16_ [.int .i64 (2), .int .i64 i12_] fun g8 ys9 =>
 callB S g8 ys9 h fun b11 h10 =>
 k .normal (impl_filler_fits_f12 p4_ p6_ i11_ i13_ p14_ f17_ (!b11)) h10
 else
 k .normal (impl_filler_fits_f12 p4_ p6_ i11_ i13_ p14_ f17_ false) h
theorem impl_filler_fits_g12_0_link (S : SatT) (k : Kont) (m : List Nat) (p4_ : Pt) (p6_ : Pt) (i10_ : Int) (i11_ : Int) (i12_ : Int) (i13_ : Int) (p14_ : Pt) (f16_ : AVal) (f17_ : AVal) (b99_ : Bool) (h : H) : cwp S tab impl_filler_fits_M m (sub [1, 1, 1, 1, 1, 1, 0, 0, 1, 1, 1, 1, 1, 1, 0] (bodyOf Try.f46)) k (impl_filler_fits_f10 p4_ p6_ i10_ i11_ i12_ i13_ p14_ f16_ f17_ b99_) h = impl_filler_fits_g12_0 S k p4_ p6_ i10_ i11_ i12_ i13_ p14_ f16_ f17_ b99_ h := by kernel_rfl
theorem impl_filler_fits_sp_1_1_1_1_1_1_0_0_1_1_1_1_1_1_1 : (sub [1, 1, 1, 1, 1, 1, 0, 0, 1, 1, 1, 1, 1, 1, 1] (bodyOf Try.f46)) = .cond (.tmp 120) (sub [1, 1, 1, 1, 1, 1, 0, 0, 1, 1, 1, 1, 1, 1, 1, 0] (bodyOf Try.f46)) (sub [1, 1, 1, 1, 1, 1, 0, 0, 1, 1, 1, 1, 1, 1, 1, 1] (bodyOf Try.f46)) := by kernel_rfl
theorem impl_filler_fits_sp_1_1_1_1_1_1_0_0_1_1_1_1_1_1_1_0 : (sub [1, 1, 1, 1, 1, 1, 0, 0, 1, 1, 1, 1, 1, 1, 1, 0] (bodyOf Try.f46)) = .seq (sub [1, 1, 1, 1, 1, 1, 0, 0, 1, 1, 1, 1, 1, 1, 1, 0, 0] (bodyOf Try.f46)) (sub [1, 1, 1, 1, 1, 1, 0, 0, 1, 1, 1, 1, 1, 1, 1, 0, 1] (bodyOf Try.f46)) := by kernel_rfl
def impl_filler_fits_ks14 (S : SatT) (K : AVal → H → Prop) : Kont := kSeq (cwp S tab impl_filler_fits_M (impl_filler_fits_M 0) (sub [1, 1, 1, 1, 1, 1, 0, 0, 1, 1, 1, 1, 1, 1, 1, 0, 1] (bodyOf Try.f46)) (kBlk 0 (impl_filler_fits_ks6 S K))) (kBlk 0 (impl_filler_fits_ks6 S K))
def impl_filler_fits_f13 (i8_ : Int) (b9_ : Bool) : Frame := [U, U, U, U, U, U, U, U, .int .i64 i8_, .bool b9_, U, U, U, U, U, U, U, U, U, U, U, U, U, U, U, U, U, U, U, U, U, U, U, U, U, U, U, U, U, U, U, U, U, U, U, U, U, U, U, U, U, U, U, U, U, U, U, U, U, U, U, U, U, U, U, U, U, U, U, U, U, U, U, U, U, U, U, U, U, U, U, U, U, U, U, U, U, U, U, U, U, U, U, U, U, U, U, U, U, U, U, U, U, U, U, U, U, U, U, U, U, U, U, U, U, U, U, U, U, U, U, U, U, U, U, U, U, U, U, U, U, U, U, U, U, U, U, U, U, U, U, U, U, U, U, U, U, U, U, U, U, U, U, U, U, U, U, U, U, U, U, U, U, U, U, U, U, U, U, U, U, U, U, U, U, U, U, U, U, U, U, U, U, U, U, U, U, U]
def impl_filler_fits_g13_0 (S : SatT) (k : Kont) (p4_ : Pt) (p6_ : Pt) (i11_ : Int) (i13_ : Int) (p14_ : Pt) (f17_ : AVal) (b120_ : Bool) (h : H) : Prop :=
 k .normal (impl_filler_fits_f13 (0) false) h
theorem impl_filler_fits_g13_0_link (S : SatT) (k : Kont) (m : List Nat) (p4_ : Pt) (p6_ : Pt) (i11_ : Int) (i13_ : Int) (p14_ : Pt) (f17_ : AVal) (b120_ : Bool) (h : H) : cwp S tab impl_filler_fits_M m (sub [1, 1, 1, 1, 1, 1, 0, 0, 1, 1, 1, 1, 1, 1, 1, 0, 0] (bodyOf Try.f46)) k (impl_filler_fits_f12 p4_ p6_ i11_ i13_ p14_ f17_ b120_) h = impl_filler_fits_g13_0 S k p4_ p6_ i11_ i13_ p14_ f17_ b120_ h := by kernel_rfl
theorem impl_filler_fits_sp_1_1_1_1_1_1_0_0_1_1_1_1_1_1_1_0_1 : (sub [1, 1, 1, 1, 1, 1, 0, 0, 1, 1, 1, 1, 1, 1, 1, 0, 1] (bodyOf Try.f46)) = .ret := by kernel_rfl
def impl_filler_fits_r13 (S : SatT) (K : AVal → H → Prop) (i8_ : Int) (b9_ : Bool) (h : H) : Prop :=
 K (.tuple [.int .i64 i8_, .bool b9_]) h
theorem impl_filler_fits_cut13 (S : SatT) (K : AVal → H → Prop) (i8_ : Int) (b9_ : Bool) (h : H) : (impl_filler_fits_ks14 S K) .normal (impl_filler_fits_f13 i8_ b9_) h = impl_filler_fits_r13 S K i8_ b9_ h := by
  unfold impl_filler_fits_r13
  refine (kSeq_n _ _ _ _).trans ?_
  refine (cwp_sp_ret impl_filler_fits_sp_1_1_1_1_1_1_0_0_1_1_1_1_1_1_1_0_1).trans ?_
  refine (kBlk_r _ _ _ _).trans ?_
  refine (kSeq_r _ _ _ _).trans ?_
  kernel_rfl
theorem impl_filler_fits_sp_1_1_1_1_1_1_0_0_1_1_1_1_1_1_1_1 : (sub [1, 1, 1, 1, 1, 1, 0, 0, 1, 1, 1, 1, 1, 1, 1, 1] (bodyOf Try.f46)) = .skip := by kernel_rfl
theorem impl_filler_fits_sp_1_1_1_1_1_1_1 : (sub [1, 1, 1, 1, 1, 1, 1] (bodyOf Try.f46)) = .seq (sub [1, 1, 1, 1, 1, 1, 1, 0] (bodyOf Try.f46)) (sub [1, 1, 1, 1, 1, 1, 1, 1] (bodyOf Try.f46)) := by kernel_rfl
def impl_filler_fits_ks15 (S : SatT) (K : AVal → H → Prop) : Kont := kSeq (cwp S tab impl_filler_fits_M [] (sub [1, 1, 1, 1, 1, 1, 1, 1] (bodyOf Try.f46)) (kFun tab (Try.f46).results.toList K)) (kFun tab (Try.f46).results.toList K)
def impl_filler_fits_f14 (p4_ : Pt) (i11_ : Int) (i13_ : Int) (p14_ : Pt) (i18_ : Int) : Frame := [U, U, U, U, .ptr p4_, U, U, U, U, U, U, .int .i64 i11_, U, .int .i64 i13_, .ptr p14_, U, U, U, .int .i64 i18_, U, U, U, U, U, U, U, U, U, U, U, U, U, U, U, U, U, U, U, U, U, U, U, U, U, U, U, U, U, U, U, U, U, U, U, U, U, U, U, U, U, U, U, U, U, U, U, U, U, U, U, U, U, U, U, U, U, U, U, U, U, U, U, U, U, U, U, U, U, U, U, U, U, U, U, U, U, U, U, U, U, U, U, U, U, U, U, U, U, U, U, U, U, U, U, U, U, U, U, U, U, U, U, U, U, U, U, U, U, U, U, U, U, U, U, U, U, U, U, U, U, U, U, U, U, U, U, U, U, U, U, U, U, U, U, U, U, U, U, U, U, U, U, U, U, U, U, U, U, U, U, U, U, U, U, U, U, U, U, U, U, U, U, U, U, U, U, U, U]
def impl_filler_fits_g14_0 (S : SatT) (k : Kont) (p4_ : Pt) (p6_ : Pt) (i11_ : Int) (i13_ : Int) (p14_ : Pt) (f17_ : AVal) (b120_ : Bool) (h : H) : Prop :=
 ldI .i64 p6_ h fun n0 =>
 ixA p14_ 4 1 (3) fun p1 =>
 ldI .i64 p1 h fun n2 =>
 viaF f17_ [.int .i64 i13_] fun g3 ys4 =>
 callI S .i64 g3 ys4 h fun n6 h5 =>
(cell h5 p1 = cell h p1) ∧ (
(cell h5 p6_ = cell h p6_) ∧ (
 ldP p4_ h5 fun p7 =>
(cell h p4_ = cell h5 p4_) ∧ (
 nilC (.ptr p7) (
 isPt p7 (
 ldS (Pt.add p7 4) h5 fun s8 =>
(cell h (Pt.add p7 4) = cell h5 (Pt.add p7 4)) ∧ (
 ixS s8 1 i13_ fun p9 =>
 ldI .i64 p9 h5 fun n10 =>
(cell h p9 = cell h5 p9) ∧ (
 viaF f17_ [.int .i64 i11_] fun g11 ys12 =>
 callI S .i64 g11 ys12 h5 fun n14 h13 =>
(cell h13 p9 = cell h5 p9) ∧ (
(cell h13 (Pt.add p7 4) = cell h5 (Pt.add p7 4)) ∧ (
(cell h13 p4_ = cell h5 p4_) ∧ (
(cell h13 p1 = cell h p1) ∧ (
(cell h13 p6_ = cell h p6_) ∧ (
 ldP p4_ h13 fun p15 =>
(cell h5 p4_ = cell h13 p4_) ∧ (
(cell h p4_ = cell h13 p4_) ∧ (
 nilC (.ptr p15) (
 isPt p15 (
 ldS (Pt.add p15 4) h13 fun s16 =>
(cell h5 (Pt.add p15 4) = cell h13 (Pt.add p15 4)) ∧ (
(cell h (Pt.add p15 4) = cell h13 (Pt.add p15 4)) ∧ (
 ixS s16 1 i11_ fun p17 =>
 ldI .i64 p17 h13 fun n18 =>
(cell h5 p17 = cell h13 p17) ∧ (
(cell h p17 = cell h13 p17) ∧ (
 k .normal (impl_filler_fits_f14 p4_ i11_ i13_ p14_ (w64 ((w64 (n0 + (w64 ((w64 (n2 - n6)) * n10)))) - (w64 (n14 * n18))))) h13))))))))))))))))))))
theorem impl_filler_fits_g14_0_link (S : SatT) (k : Kont) (m : List Nat) (p4_ : Pt) (p6_ : Pt) (i11_ : Int) (i13_ : Int) (p14_ : Pt) (f17_ : AVal) (b120_ : Bool) (h : H) : cwp S tab impl_filler_fits_M m (sub [1, 1, 1, 1, 1, 1, 1, 0] (bodyOf Try.f46)) k (impl_filler_fits_f12 p4_ p6_ i11_ i13_ p14_ f17_ b120_) h = impl_filler_fits_g14_0 S k p4_ p6_ i11_ i13_ p14_ f17_ b120_ h := by kernel_rfl
theorem impl_filler_fits_sp_1_1_1_1_1_1_1_1 : (sub [1, 1, 1, 1, 1, 1, 1, 1] (bodyOf Try.f46)) = .seq (sub [1, 1, 1, 1, 1, 1, 1, 1, 0] (bodyOf Try.f46)) (sub [1, 1, 1, 1, 1, 1, 1, 1, 1] (bodyOf Try.f46)) := by kernel_rfl
theorem impl_filler_fits_sp_1_1_1_1_1_1_1_1_0 : (sub [1, 1, 1, 1, 1, 1, 1, 1, 0] (bodyOf Try.f46)) = .seq (sub [1, 1, 1, 1, 1, 1, 1, 1, 0, 0] (bodyOf Try.f46)) (sub [1, 1, 1, 1, 1, 1, 1, 1, 0, 1] (bodyOf Try.f46)) := by kernel_rfl
def impl_filler_fits_ks16 (S : SatT) (K : AVal → H → Prop) : Kont := kSeq (cwp S tab impl_filler_fits_M [] (sub [1, 1, 1, 1, 1, 1, 1, 1, 1] (bodyOf Try.f46)) (kFun tab (Try.f46).results.toList K)) (kFun tab (Try.f46).results.toList K)
def impl_filler_fits_ks17 (S : SatT) (K : AVal → H → Prop) : Kont := kSeq (cwp S tab impl_filler_fits_M [] (sub [1, 1, 1, 1, 1, 1, 1, 1, 0, 1] (bodyOf Try.f46)) (impl_filler_fits_ks16 S K)) (impl_filler_fits_ks16 S K)
def impl_filler_fits_f15 (p4_ : Pt) (i11_ : Int) (p14_ : Pt) (i18_ : Int) (b174_ : Bool) : Frame := [U, U, U, U, .ptr p4_, U, U, U, U, U, U, .int .i64 i11_, U, U, .ptr p14_, U, U, U, .int .i64 i18_, U, U, U, U, U, U, U, U, U, U, U, U, U, U, U, U, U, U, U, U, U, U, U, U, U, U, U, U, U, U, U, U, U, U, U, U, U, U, U, U, U, U, U, U, U, U, U, U, U, U, U, U, U, U, U, U, U, U, U, U, U, U, U, U, U, U, U, U, U, U, U, U, U, U, U, U, U, U, U, U, U, U, U, U, U, U, U, U, U, U, U, U, U, U, U, U, U, U, U, U, U, U, U, U, U, U, U, U, U, U, U, U, U, U, U, U, U, U, U, U, U, U, U, U, U, U, U, U, U, U, U, U, U, U, U, U, U, U, U, U, U, U, U, U, U, U, U, U, U, U, U, U, U, U, U, .bool b174_, U, U, U, U, U, U, U, U, U, U, U, U, U]
def impl_filler_fits_g15_0 (S : SatT) (k : Kont) (p4_ : Pt) (i11_ : Int) (i13_ : Int) (p14_ : Pt) (i18_ : Int) (h : H) : Prop :=
 k .normal (impl_filler_fits_f15 p4_ i11_ p14_ i18_ (decide (i13_ < (w64 (i11_ - (1)))))) h
theorem impl_filler_fits_g15_0_link (S : SatT) (k : Kont) (m : List Nat) (p4_ : Pt) (i11_ : Int) (i13_ : Int) (p14_ : Pt) (i18_ : Int) (h : H) : cwp S tab impl_filler_fits_M m (sub [1, 1, 1, 1, 1, 1, 1, 1, 0, 0] (bodyOf Try.f46)) k (impl_filler_fits_f14 p4_ i11_ i13_ p14_ i18_) h = impl_filler_fits_g15_0 S k p4_ i11_ i13_ p14_ i18_ h := by kernel_rfl
theorem impl_filler_fits_sp_1_1_1_1_1_1_1_1_0_1 : (sub [1, 1, 1, 1, 1, 1, 1, 1, 0, 1] (bodyOf Try.f46)) = .cond (.tmp 174) (sub [1, 1, 1, 1, 1, 1, 1, 1, 0, 1, 0] (bodyOf Try.f46)) (sub [1, 1, 1, 1, 1, 1, 1, 1, 0, 1, 1] (bodyOf Try.f46)) := by kernel_rfl
def impl_filler_fits_f16 (i18_ : Int) : Frame := [U, U, U, U, U, U, U, U, U, U, U, U, U, U, U, U, U, U, .int .i64 i18_, U, U, U, U, U, U, U, U, U, U, U, U, U, U, U, U, U, U, U, U, U, U, U, U, U, U, U, U, U, U, U, U, U, U, U, U, U, U, U, U, U, U, U, U, U, U, U, U, U, U, U, U, U, U, U, U, U, U, U, U, U, U, U, U, U, U, U, U, U, U, U, U, U, U, U, U, U, U, U, U, U, U, U, U, U, U, U, U, U, U, U, U, U, U, U, U, U, U, U, U, U, U, U, U, U, U, U, U, U, U, U, U, U, U, U, U, U, U, U, U, U, U, U, U, U, U, U, U, U, U, U, U, U, U, U, U, U, U, U, U, U, U, U, U, U, U, U, U, U, U, U, U, U, U, U, U, U, U, U, U, U, U, U, U, U, U, U, U, U]
def impl_filler_fits_g16_0 (S : SatT) (k : Kont) (p4_ : Pt) (i11_ : Int) (p14_ : Pt) (i18_ : Int) (b174_ : Bool) (h : H) : Prop :=
 ixA p14_ 4 1 (2) fun p0 =>
 ldI .i64 p0 h fun n1 =>
 ldP p4_ h fun p2 =>
 nilC (.ptr p2) (
 isPt p2 (
 ldS (Pt.add p2 4) h fun s3 =>
 ixS s3 1 i11_ fun p4 =>
 ldI .i64 p4 h fun n5 =>
 k .normal (impl_filler_fits_f16 (w64 (i18_ + (w64 (n1 * n5))))) h))
theorem impl_filler_fits_g16_0_link (S : SatT) (k : Kont) (m : List Nat) (p4_ : Pt) (i11_ : Int) (p14_ : Pt) (i18_ : Int) (b174_ : Bool) (h : H) : cwp S tab impl_filler_fits_M m (sub [1, 1, 1, 1, 1, 1, 1, 1, 0, 1, 0] (bodyOf Try.f46)) k (impl_filler_fits_f15 p4_ i11_ p14_ i18_ b174_) h = impl_filler_fits_g16_0 S k p4_ i11_ p14_ i18_ b174_ h := by kernel_rfl
theorem impl_filler_fits_sp_1_1_1_1_1_1_1_1_1 : (sub [1, 1, 1, 1, 1, 1, 1, 1, 1] (bodyOf Try.f46)) = .seq (sub [1, 1, 1, 1, 1, 1, 1, 1, 1, 0] (bodyOf Try.f46)) (sub [1, 1, 1, 1, 1, 1, 1, 1, 1, 1] (bodyOf Try.f46)) := by kernel_rfl
def impl_filler_fits_ks18 (S : SatT) (K : AVal → H → Prop) : Kont := kSeq (cwp S tab impl_filler_fits_M [] (sub [1, 1, 1, 1, 1, 1, 1, 1, 1, 1] (bodyOf Try.f46)) (kFun tab (Try.f46).results.toList K)) (kFun tab (Try.f46).results.toList K)
def impl_filler_fits_f17 (i8_ : Int) (b9_ : Bool) : Frame := [U, U, U, U, U, U, U, U, .int .i64 i8_, .bool b9_, U, U, U, U, U, U, U, U, U, U, U, U, U, U, U, U, U, U, U, U, U, U, U, U, U, U, U, U, U, U, U, U, U, U, U, U, U, U, U, U, U, U, U, U, U, U, U, U, U, U, U, U, U, U, U, U, U, U, U, U, U, U, U, U, U, U, U, U, U, U, U, U, U, U, U, U, U, U, U, U, U, U, U, U, U, U, U, U, U, U, U, U, U, U, U, U, U, U, U, U, U, U, U, U, U, U, U, U, U, U, U, U, U, U, U, U, U, U, U, U, U, U, U, U, U, U, U, U, U, U, U, U, U, U, U, U, U, U, U, U, U, U, U, U, U, U, U, U, U, U, U, U, U, U, U, U, U, U, U, U, U, U, U, U, U, U, U, U, U, U, U, U, U, U, U, U, U, U]
def impl_filler_fits_g17_0 (S : SatT) (k : Kont) (i18_ : Int) (h : H) : Prop :=
 k .normal (impl_filler_fits_f17 i18_ true) h
theorem impl_filler_fits_g17_0_link (S : SatT) (k : Kont) (m : List Nat) (i18_ : Int) (h : H) : cwp S tab impl_filler_fits_M m (sub [1, 1, 1, 1, 1, 1, 1, 1, 1, 0] (bodyOf Try.f46)) k (impl_filler_fits_f16 i18_) h = impl_filler_fits_g17_0 S k i18_ h := by kernel_rfl
theorem impl_filler_fits_sp_1_1_1_1_1_1_1_1_1_1 : (sub [1, 1, 1, 1, 1, 1, 1, 1, 1, 1] (bodyOf Try.f46)) = .ret := by kernel_rfl
def impl_filler_fits_r17 (S : SatT) (K : AVal → H → Prop) (i8_ : Int) (b9_ : Bool) (h : H) : Prop :=
 K (.tuple [.int .i64 i8_, .bool b9_]) h
theorem impl_filler_fits_cut17 (S : SatT) (K : AVal → H → Prop) (i8_ : Int) (b9_ : Bool) (h : H) : (impl_filler_fits_ks18 S K) .normal (impl_filler_fits_f17 i8_ b9_) h = impl_filler_fits_r17 S K i8_ b9_ h := by
  unfold impl_filler_fits_r17
  refine (kSeq_n _ _ _ _).trans ?_
  refine (cwp_sp_ret impl_filler_fits_sp_1_1_1_1_1_1_1_1_1_1).trans ?_
  kernel_rfl
def impl_filler_fits_r16 (S : SatT) (K : AVal → H → Prop) (i18_ : Int) (h : H) : Prop :=
 impl_filler_fits_g17_0 S (impl_filler_fits_ks18 S K) i18_ h
theorem impl_filler_fits_cut16 (S : SatT) (K : AVal → H → Prop) (i18_ : Int) (h : H) : (impl_filler_fits_ks16 S K) .normal (impl_filler_fits_f16 i18_) h = impl_filler_fits_r16 S K i18_ h := by
  unfold impl_filler_fits_r16
  refine (kSeq_n _ _ _ _).trans ?_
  refine (cwp_sp_seq impl_filler_fits_sp_1_1_1_1_1_1_1_1_1).trans ?_
  exact impl_filler_fits_g17_0_link S _ _ i18_ h
theorem impl_filler_fits_sp_1_1_1_1_1_1_1_1_0_1_1 : (sub [1, 1, 1, 1, 1, 1, 1, 1, 0, 1, 1] (bodyOf Try.f46)) = .skip := by kernel_rfl
def impl_filler_fits_ks19 (S : SatT) (K : AVal → H → Prop) : Kont := kSeq (cwp S tab impl_filler_fits_M [] (sub [1, 1, 1, 1, 1, 1, 1, 1, 1, 1] (bodyOf Try.f46)) (kFun tab (Try.f46).results.toList K)) (kFun tab (Try.f46).results.toList K)
def impl_filler_fits_g17_1 (S : SatT) (k : Kont) (p4_ : Pt) (i11_ : Int) (p14_ : Pt) (i18_ : Int) (b174_ : Bool) (h : H) : Prop :=
 k .normal (impl_filler_fits_f17 i18_ true) h
theorem impl_filler_fits_g17_1_link (S : SatT) (k : Kont) (m : List Nat) (p4_ : Pt) (i11_ : Int) (p14_ : Pt) (i18_ : Int) (b174_ : Bool) (h : H) : cwp S tab impl_filler_fits_M m (sub [1, 1, 1, 1, 1, 1, 1, 1, 1, 0] (bodyOf Try.f46)) k (impl_filler_fits_f15 p4_ i11_ p14_ i18_ b174_) h = impl_filler_fits_g17_1 S k p4_ i11_ p14_ i18_ b174_ h := by kernel_rfl
def impl_filler_fits_r15 (S : SatT) (K : AVal → H → Prop) (p4_ : Pt) (i11_ : Int) (p14_ : Pt) (i18_ : Int) (b174_ : Bool) (h : H) : Prop :=
 bif b174_ then
 impl_filler_fits_g16_0 S (impl_filler_fits_ks16 S K) p4_ i11_ p14_ i18_ b174_ h
 else
 impl_filler_fits_g17_1 S (impl_filler_fits_ks19 S K) p4_ i11_ p14_ i18_ b174_ h
theorem impl_filler_fits_cut15 (S : SatT) (K : AVal → H → Prop) (p4_ : Pt) (i11_ : Int) (p14_ : Pt) (i18_ : Int) (b174_ : Bool) (h : H) : (impl_filler_fits_ks17 S K) .normal (impl_filler_fits_f15 p4_ i11_ p14_ i18_ b174_) h = impl_filler_fits_r15 S K p4_ i11_ p14_ i18_ b174_ h := by
  unfold impl_filler_fits_r15
  refine (kSeq_n _ _ _ _).trans ?_
  refine (cwp_sp_cond impl_filler_fits_sp_1_1_1_1_1_1_1_1_0_1 (t := b174_) rfl).trans (bif_cong ?_ ?_)
  · exact impl_filler_fits_g16_0_link S _ _ p4_ i11_ p14_ i18_ b174_ h
  · refine (cwp_sp_skip impl_filler_fits_sp_1_1_1_1_1_1_1_1_0_1_1).trans ?_
    refine (kSeq_n _ _ _ _).trans ?_
    refine (cwp_sp_seq impl_filler_fits_sp_1_1_1_1_1_1_1_1_1).trans ?_
    exact impl_filler_fits_g17_1_link S _ _ p4_ i11_ p14_ i18_ b174_ h
def impl_filler_fits_r14 (S : SatT) (K : AVal → H → Prop) (p4_ : Pt) (i11_ : Int) (i13_ : Int) (p14_ : Pt) (i18_ : Int) (h : H) : Prop :=
 impl_filler_fits_g15_0 S (impl_filler_fits_ks17 S K) p4_ i11_ i13_ p14_ i18_ h
theorem impl_filler_fits_cut14 (S : SatT) (K : AVal → H → Prop) (p4_ : Pt) (i11_ : Int) (i13_ : Int) (p14_ : Pt) (i18_ : Int) (h : H) : (impl_filler_fits_ks15 S K) .normal (impl_filler_fits_f14 p4_ i11_ i13_ p14_ i18_) h = impl_filler_fits_r14 S K p4_ i11_ i13_ p14_ i18_ h := by
  unfold impl_filler_fits_r14
  refine (kSeq_n _ _ _ _).trans ?_
  refine (cwp_sp_seq impl_filler_fits_sp_1_1_1_1_1_1_1_1).trans ?_
  refine (cwp_sp_seq impl_filler_fits_sp_1_1_1_1_1_1_1_1_0).trans ?_
  exact impl_filler_fits_g15_0_link S _ _ p4_ i11_ i13_ p14_ i18_ h
def impl_filler_fits_r12 (S : SatT) (K : AVal → H → Prop) (p4_ : Pt) (p6_ : Pt) (i11_ : Int) (i13_ : Int) (p14_ : Pt) (f17_ : AVal) (b120_ : Bool) (h : H) : Prop :=
 bif b120_ then
 impl_filler_fits_g13_0 S (impl_filler_fits_ks14 S K) p4_ p6_ i11_ i13_ p14_ f17_ b120_ h
 else
 impl_filler_fits_g14_0 S (impl_filler_fits_ks15 S K) p4_ p6_ i11_ i13_ p14_ f17_ b120_ h
theorem impl_filler_fits_cut12 (S : SatT) (K : AVal → H → Prop) (p4_ : Pt) (p6_ : Pt) (i11_ : Int) (i13_ : Int) (p14_ : Pt) (f17_ : AVal) (b120_ : Bool) (h : H) : (impl_filler_fits_ks13 S K) .normal (impl_filler_fits_f12 p4_ p6_ i11_ i13_ p14_ f17_ b120_) h = impl_filler_fits_r12 S K p4_ p6_ i11_ i13_ p14_ f17_ b120_ h := by
  unfold impl_filler_fits_r12
  refine (kSeq_n _ _ _ _).trans ?_
  refine (cwp_sp_cond impl_filler_fits_sp_1_1_1_1_1_1_0_0_1_1_1_1_1_1_1 (t := b120_) rfl).trans (bif_cong ?_ ?_)
  · refine (cwp_sp_seq impl_filler_fits_sp_1_1_1_1_1_1_0_0_1_1_1_1_1_1_1_0).trans ?_
    exact impl_filler_fits_g13_0_link S _ _ p4_ p6_ i11_ i13_ p14_ f17_ b120_ h
  · refine (cwp_sp_skip impl_filler_fits_sp_1_1_1_1_1_1_0_0_1_1_1_1_1_1_1_1).trans ?_
    refine (kBlk_n _ _ _ _).trans ?_
    refine (kSeq_n _ _ _ _).trans ?_
    refine (cwp_sp_seq impl_filler_fits_sp_1_1_1_1_1_1_1).trans ?_
    exact impl_filler_fits_g14_0_link S _ _ p4_ p6_ i11_ i13_ p14_ f17_ b120_ h
def impl_filler_fits_r10 (S : SatT) (K : AVal → H → Prop) (p4_ : Pt) (p6_ : Pt) (i10_ : Int) (i11_ : Int) (i12_ : Int) (i13_ : Int) (p14_ : Pt) (f16_ : AVal) (f17_ : AVal) (b99_ : Bool) (h : H) : Prop :=
 bif b99_ then
 impl_filler_fits_g11_0 S (impl_filler_fits_ks12 S K) p4_ p6_ i10_ i11_ i12_ i13_ p14_ f16_ f17_ b99_ h
 else
 impl_filler_fits_g12_0 S (impl_filler_fits_ks13 S K) p4_ p6_ i10_ i11_ i12_ i13_ p14_ f16_ f17_ b99_ h
theorem impl_filler_fits_cut10 (S : SatT) (K : AVal → H → Prop) (p4_ : Pt) (p6_ : Pt) (i10_ : Int) (i11_ : Int) (i12_ : Int) (i13_ : Int) (p14_ : Pt) (f16_ : AVal) (f17_ : AVal) (b99_ : Bool) (h : H) : (impl_filler_fits_ks11 S K) .normal (impl_filler_fits_f10 p4_ p6_ i10_ i11_ i12_ i13_ p14_ f16_ f17_ b99_) h = impl_filler_fits_r10 S K p4_ p6_ i10_ i11_ i12_ i13_ p14_ f16_ f17_ b99_ h := by
  unfold impl_filler_fits_r10
  refine (kSeq_n _ _ _ _).trans ?_
  refine (cwp_sp_cond impl_filler_fits_sp_1_1_1_1_1_1_0_0_1_1_1_1_1 (t := b99_) rfl).trans (bif_cong ?_ ?_)
  · refine (cwp_sp_seq impl_filler_fits_sp_1_1_1_1_1_1_0_0_1_1_1_1_1_0).trans ?_
    exact impl_filler_fits_g11_0_link S _ _ p4_ p6_ i10_ i11_ i12_ i13_ p14_ f16_ f17_ b99_ h
  · refine (cwp_sp_seq impl_filler_fits_sp_1_1_1_1_1_1_0_0_1_1_1_1_1_1).trans ?_
    exact impl_filler_fits_g12_0_link S _ _ p4_ p6_ i10_ i11_ i12_ i13_ p14_ f16_ f17_ b99_ h
def impl_filler_fits_r8 (S : SatT) (K : AVal → H → Prop) (p4_ : Pt) (p6_ : Pt) (i10_ : Int) (i11_ : Int) (i12_ : Int) (i13_ : Int) (p14_ : Pt) (f16_ : AVal) (f17_ : AVal) (b78_ : Bool) (h : H) : Prop :=
 bif b78_ then
 impl_filler_fits_g9_0 S (impl_filler_fits_ks10 S K) p4_ p6_ i10_ i11_ i12_ i13_ p14_ f16_ f17_ b78_ h
 else
 impl_filler_fits_g10_0 S (impl_filler_fits_ks11 S K) p4_ p6_ i10_ i11_ i12_ i13_ p14_ f16_ f17_ b78_ h
theorem impl_filler_fits_cut8 (S : SatT) (K : AVal → H → Prop) (p4_ : Pt) (p6_ : Pt) (i10_ : Int) (i11_ : Int) (i12_ : Int) (i13_ : Int) (p14_ : Pt) (f16_ : AVal) (f17_ : AVal) (b78_ : Bool) (h : H) : (impl_filler_fits_ks9 S K) .normal (impl_filler_fits_f8 p4_ p6_ i10_ i11_ i12_ i13_ p14_ f16_ f17_ b78_) h = impl_filler_fits_r8 S K p4_ p6_ i10_ i11_ i12_ i13_ p14_ f16_ f17_ b78_ h := by
  unfold impl_filler_fits_r8
  refine (kSeq_n _ _ _ _).trans ?_
  refine (cwp_sp_cond impl_filler_fits_sp_1_1_1_1_1_1_0_0_1_1_1 (t := b78_) rfl).trans (bif_cong ?_ ?_)
  · refine (cwp_sp_seq impl_filler_fits_sp_1_1_1_1_1_1_0_0_1_1_1_0).trans ?_
    exact impl_filler_fits_g9_0_link S _ _ p4_ p6_ i10_ i11_ i12_ i13_ p14_ f16_ f17_ b78_ h
  · refine (cwp_sp_seq impl_filler_fits_sp_1_1_1_1_1_1_0_0_1_1_1_1).trans ?_
    exact impl_filler_fits_g10_0_link S _ _ p4_ p6_ i10_ i11_ i12_ i13_ p14_ f16_ f17_ b78_ h
def impl_filler_fits_r6 (S : SatT) (K : AVal → H → Prop) (p4_ : Pt) (p6_ : Pt) (i10_ : Int) (i11_ : Int) (i12_ : Int) (i13_ : Int) (p14_ : Pt) (f16_ : AVal) (f17_ : AVal) (b52_ : Bool) (h : H) : Prop :=
 bif b52_ then
 impl_filler_fits_g7_0 S (impl_filler_fits_ks8 S K) p4_ p6_ i10_ i11_ i12_ i13_ p14_ f16_ f17_ b52_ h
 else
 impl_filler_fits_g8_0 S (impl_filler_fits_ks9 S K) p4_ p6_ i10_ i11_ i12_ i13_ p14_ f16_ f17_ b52_ h
theorem impl_filler_fits_cut6 (S : SatT) (K : AVal → H → Prop) (p4_ : Pt) (p6_ : Pt) (i10_ : Int) (i11_ : Int) (i12_ : Int) (i13_ : Int) (p14_ : Pt) (f16_ : AVal) (f17_ : AVal) (b52_ : Bool) (h : H) : (impl_filler_fits_ks7 S K) .normal (impl_filler_fits_f6 p4_ p6_ i10_ i11_ i12_ i13_ p14_ f16_ f17_ b52_) h = impl_filler_fits_r6 S K p4_ p6_ i10_ i11_ i12_ i13_ p14_ f16_ f17_ b52_ h := by
  unfold impl_filler_fits_r6
  refine (kSeq_n _ _ _ _).trans ?_
  refine (cwp_sp_cond impl_filler_fits_sp_1_1_1_1_1_1_0_0_1 (t := b52_) rfl).trans (bif_cong ?_ ?_)
  · refine (cwp_sp_seq impl_filler_fits_sp_1_1_1_1_1_1_0_0_1_0).trans ?_
    exact impl_filler_fits_g7_0_link S _ _ p4_ p6_ i10_ i11_ i12_ i13_ p14_ f16_ f17_ b52_ h
  · refine (cwp_sp_seq impl_filler_fits_sp_1_1_1_1_1_1_0_0_1_1).trans ?_
    exact impl_filler_fits_g8_0_link S _ _ p4_ p6_ i10_ i11_ i12_ i13_ p14_ f16_ f17_ b52_ h
def impl_filler_fits_r5 (S : SatT) (K : AVal → H → Prop) (i3_ : Int) (p4_ : Pt) (p6_ : Pt) (i10_ : Int) (i11_ : Int) (i12_ : Int) (i13_ : Int) (p14_ : Pt) (f16_ : AVal) (f17_ : AVal) (h : H) : Prop :=
 impl_filler_fits_g6_0 S (impl_filler_fits_ks7 S K) i3_ p4_ p6_ i10_ i11_ i12_ i13_ p14_ f16_ f17_ h
theorem impl_filler_fits_cut5 (S : SatT) (K : AVal → H → Prop) (i3_ : Int) (p4_ : Pt) (p6_ : Pt) (i10_ : Int) (i11_ : Int) (i12_ : Int) (i13_ : Int) (p14_ : Pt) (f16_ : AVal) (f17_ : AVal) (h : H) : (impl_filler_fits_ks5 S K) .normal (impl_filler_fits_f5 i3_ p4_ p6_ i10_ i11_ i12_ i13_ p14_ f16_ f17_) h = impl_filler_fits_r5 S K i3_ p4_ p6_ i10_ i11_ i12_ i13_ p14_ f16_ f17_ h := by
  unfold impl_filler_fits_r5
  refine (kSeq_n _ _ _ _).trans ?_
  refine (cwp_sp_seq impl_filler_fits_sp_1_1_1_1_1_1).trans ?_
  refine (cwp_sp_block impl_filler_fits_sp_1_1_1_1_1_1_0).trans ?_
  refine (cwp_sp_seq impl_filler_fits_sp_1_1_1_1_1_1_0_0).trans ?_
  exact impl_filler_fits_g6_0_link S _ _ i3_ p4_ p6_ i10_ i11_ i12_ i13_ p14_ f16_ f17_ h
def impl_filler_fits_r4 (S : SatT) (K : AVal → H → Prop) (i3_ : Int) (p4_ : Pt) (p6_ : Pt) (i10_ : Int) (i11_ : Int) (i12_ : Int) (i13_ : Int) (p14_ : Pt) (p15_ : Pt) (f16_ : AVal) (h : H) : Prop :=
 impl_filler_fits_g5_0 S (impl_filler_fits_ks5 S K) i3_ p4_ p6_ i10_ i11_ i12_ i13_ p14_ p15_ f16_ h
theorem impl_filler_fits_cut4 (S : SatT) (K : AVal → H → Prop) (i3_ : Int) (p4_ : Pt) (p6_ : Pt) (i10_ : Int) (i11_ : Int) (i12_ : Int) (i13_ : Int) (p14_ : Pt) (p15_ : Pt) (f16_ : AVal) (h : H) : (impl_filler_fits_ks4 S K) .normal (impl_filler_fits_f4 i3_ p4_ p6_ i10_ i11_ i12_ i13_ p14_ p15_ f16_) h = impl_filler_fits_r4 S K i3_ p4_ p6_ i10_ i11_ i12_ i13_ p14_ p15_ f16_ h := by
  unfold impl_filler_fits_r4
  refine (kSeq_n _ _ _ _).trans ?_
  refine (cwp_sp_seq impl_filler_fits_sp_1_1_1_1_1).trans ?_
  exact impl_filler_fits_g5_0_link S _ _ i3_ p4_ p6_ i10_ i11_ i12_ i13_ p14_ p15_ f16_ h
def impl_filler_fits_r3 (S : SatT) (K : AVal → H → Prop) (i3_ : Int) (p4_ : Pt) (p6_ : Pt) (i10_ : Int) (i11_ : Int) (i12_ : Int) (i13_ : Int) (p14_ : Pt) (p15_ : Pt) (h : H) : Prop :=
 impl_filler_fits_g4_0 S (impl_filler_fits_ks4 S K) i3_ p4_ p6_ i10_ i11_ i12_ i13_ p14_ p15_ h
theorem impl_filler_fits_cut3 (S : SatT) (K : AVal → H → Prop) (i3_ : Int) (p4_ : Pt) (p6_ : Pt) (i10_ : Int) (i11_ : Int) (i12_ : Int) (i13_ : Int) (p14_ : Pt) (p15_ : Pt) (h : H) : (impl_filler_fits_ks3 S K) .normal (impl_filler_fits_f3 i3_ p4_ p6_ i10_ i11_ i12_ i13_ p14_ p15_) h = impl_filler_fits_r3 S K i3_ p4_ p6_ i10_ i11_ i12_ i13_ p14_ p15_ h := by
  unfold impl_filler_fits_r3
  refine (kSeq_n _ _ _ _).trans ?_
  refine (cwp_sp_seq impl_filler_fits_sp_1_1_1_1).trans ?_
  exact impl_filler_fits_g4_0_link S _ _ i3_ p4_ p6_ i10_ i11_ i12_ i13_ p14_ p15_ h
def impl_filler_fits_r2 (S : SatT) (K : AVal → H → Prop) (i3_ : Int) (p4_ : Pt) (p6_ : Pt) (i10_ : Int) (i11_ : Int) (i12_ : Int) (i13_ : Int) (h : H) : Prop :=
 impl_filler_fits_g3_0 S (impl_filler_fits_ks3 S K) i3_ p4_ p6_ i10_ i11_ i12_ i13_ h
theorem impl_filler_fits_cut2 (S : SatT) (K : AVal → H → Prop) (i3_ : Int) (p4_ : Pt) (p6_ : Pt) (i10_ : Int) (i11_ : Int) (i12_ : Int) (i13_ : Int) (h : H) : (impl_filler_fits_ks2 S K) .normal (impl_filler_fits_f2 i3_ p4_ p6_ i10_ i11_ i12_ i13_) h = impl_filler_fits_r2 S K i3_ p4_ p6_ i10_ i11_ i12_ i13_ h := by
  unfold impl_filler_fits_r2
  refine (kSeq_n _ _ _ _).trans ?_
  refine (cwp_sp_seq impl_filler_fits_sp_1_1_1).trans ?_
  exact impl_filler_fits_g3_0_link S _ _ i3_ p4_ p6_ i10_ i11_ i12_ i13_ h
def impl_filler_fits_r1 (S : SatT) (K : AVal → H → Prop) (i1_ : Int) (i3_ : Int) (p4_ : Pt) (p6_ : Pt) (i10_ : Int) (i11_ : Int) (h : H) : Prop :=
 impl_filler_fits_g2_0 S (impl_filler_fits_ks2 S K) i1_ i3_ p4_ p6_ i10_ i11_ h
theorem impl_filler_fits_cut1 (S : SatT) (K : AVal → H → Prop) (i1_ : Int) (i3_ : Int) (p4_ : Pt) (p6_ : Pt) (i10_ : Int) (i11_ : Int) (h : H) : (impl_filler_fits_ks1 S K) .normal (impl_filler_fits_f1 i1_ i3_ p4_ p6_ i10_ i11_) h = impl_filler_fits_r1 S K i1_ i3_ p4_ p6_ i10_ i11_ h := by
  unfold impl_filler_fits_r1
  refine (kSeq_n _ _ _ _).trans ?_
  refine (cwp_sp_seq impl_filler_fits_sp_1_1).trans ?_
  exact impl_filler_fits_g2_0_link S _ _ i1_ i3_ p4_ p6_ i10_ i11_ h
def impl_filler_fits_r0 (S : SatT) (K : AVal → H → Prop) (i1_ : Int) (i3_ : Int) (p4_ : Pt) (p6_ : Pt) (h : H) : Prop :=
 impl_filler_fits_g1_0 S (impl_filler_fits_ks1 S K) i1_ i3_ p4_ p6_ h
theorem impl_filler_fits_cut0 (S : SatT) (K : AVal → H → Prop) (i1_ : Int) (i3_ : Int) (p4_ : Pt) (p6_ : Pt) (h : H) : (impl_filler_fits_ks0 S K) .normal (impl_filler_fits_f0 i1_ i3_ p4_ p6_) h = impl_filler_fits_r0 S K i1_ i3_ p4_ p6_ h := by
  unfold impl_filler_fits_r0
  refine (kSeq_n _ _ _ _).trans ?_
  refine (cwp_sp_seq impl_filler_fits_sp_1).trans ?_
  exact impl_filler_fits_g1_0_link S _ _ i1_ i3_ p4_ p6_ h
def impl_filler_fits_main (S : SatT) (K : AVal → H → Prop) (x0 : Pt) (x1 : Int) (x2 : Int) (x3 : Int) (h : H) : Prop :=
 impl_filler_fits_g0_0 S (impl_filler_fits_ks0 S K) x0 x1 x2 x3 h
theorem impl_filler_fits_main_link (S : SatT) (K : AVal → H → Prop) (x0 : Pt) (x1 : Int) (x2 : Int) (x3 : Int) (h : H) : cwp S tab impl_filler_fits_M [] (bodyOf Try.f46) (kFun tab Try.f46.results.toList K) (fr0 Try.f46 [.ptr x0, .int .i64 x1, .int .i64 x2, .int .i64 x3]) h = impl_filler_fits_main S K x0 x1 x2 x3 h := by 
  unfold impl_filler_fits_main
  refine (cwp_sp_seq impl_filler_fits_sp).trans ?_
  exact impl_filler_fits_g0_0_link S _ _ x0 x1 x2 x3 h
theorem impl_filler_fits_call (x0 : Pt) (x1 : Int) (x2 : Int) (x3 : Int) (h : H) (K : AVal → H → Prop) (hm : impl_filler_fits_main (Sat Try.prog) (fun v h' => K v h') x0 x1 x2 x3 h) : callV (Sat Try.prog) i_impl_filler_fits [.ptr x0, .int .i64 x1, .int .i64 x2, .int .i64 x3] h K := by
  have := Sat.ex tok mixed impl_filler_fits_M Try.func46 (c := bodyOf Try.f46) (by kernel_rfl) (calls_of Try.func46 (c := bodyOf Try.f46) (by kernel_rfl) (by decide)) ((impl_filler_fits_main_link _ _ x0 x1 x2 x3 h).mpr hm)
  exact this

end Go.Proofs.Ytgeakkmpohjohaa.Cl

/- Fillings by places: the program's test of a tile at a place behind a state. No claim is stated here. -/
set_option linter.unusedVariables false
set_option linter.unusedSimpArgs false
namespace Go.Proofs.Ytgeakkmpohjohaa.Cl
open Go
theorem Rd.ixO {h : H} {s : Sl} {z : Nat} {cs : List AVal} (r : Rd h s z cs) {i : Int} (h0 : 0 ≤ i) (h1 : i < s.len) {K : Pt → Prop}
    (hk : ∀ p : Pt, p.o = s.o → range h p.o p.n p.off z = some ((cs.drop (i.toNat * z)).take z) → K p) : ixS s z i K := by
  obtain hl | ⟨a, b, c⟩ := r.at_
  · omega
  · refine ⟨⟨h0, h1⟩, a, b, hk ⟨s.o, s.n, s.off + i.toNat * z⟩ rfl ?_⟩
    refine range_sub c ?_
    have : (i.toNat + 1) * z ≤ s.len * z := Nat.mul_le_mul_right _ (by omega)
    rw [Nat.add_mul] at this; omega
theorem newOat_obj {cs : List AVal} {h : H} {n : Nat} (hn : n < h.length) {K : Pt → H → Prop} (hk : ∀ h', Obj h' n cs → But (some n) h h' → h'.length = h.length → K ⟨some n, cs.length, 0⟩ h') : newOat cs h n K :=
  hk _ (by unfold Obj; simp [hn]) ⟨by simp, fun i hi hne => by rw [List.getElem?_set, if_neg (fun e => hne (by rw [e]))]⟩ (by simp)
theorem sne {a b : Nat} (h : a ≠ b) : some a ≠ some b := fun e => h (Option.some.inj e)
/-- The cells of a filler. -/
def FilC (c : Int) (u q bq pw cn al : Sl) : List AVal := [i64 c, .sl u, .sl q, .sl bq, .sl pw, .sl cn, .sl al]
def powL (c w : Nat) : List Int := (List.range (w + 1)).map fun k => ((c ^ k : Nat) : Int)
theorem powL_at {c w k : Nat} (h : k ≤ w) : (powL c w).getD k 0 = ((c ^ k : Nat) : Int) := by
  unfold powL
  rw [List.getD_eq_getElem?_getD, List.getElem?_map, List.getElem?_range (by omega)]; rfl
theorem powL_len (c w : Nat) : (powL c w).length = w + 1 := by unfold powL; simp
/-- A filler in memory; its counts and what is alive are not looked at. -/
structure FilH (c : Int) (ts : List Tile) (plan borders : List (List Int)) (u q bq pw : Sl) (h : H) : Prop where
  ru : Rd h u 4 (tcs ts)
  rq : RdSS h q plan
  rb : RdSS h bq borders
  rp : Rd h pw 1 (ic (powL c.toNat (rw_ plan 0).length))
theorem FilH.ext {c ts plan borders u q bq pw} {h h' : H} (f : FilH c ts plan borders u q bq pw h) (x : Ext h h') : FilH c ts plan borders u q bq pw h' :=
  ⟨f.ru.ext x, f.rq.ext x, f.rb.ext x, f.rp.ext x⟩
section
variable {c : Int} {ts : List Tile} {plan borders : List (List Int)} {u q bq pw cn al : Sl} {fo : Nat}
theorem border_c (hp : PlanOK c ts.length plan borders) {h : H} {a4 a14 i : Nat} (f : FilH c ts plan borders u q bq pw h) (ob : Obj h fo (FilC c u q bq pw cn al)) (v4 : Var h a4 (.ptr ⟨some fo, 7, 0⟩)) (o14 : Obj h a14 (tc (tat ts i))) {side k : Nat} (hs : side < 4) (hk : k < if side % 2 = 1 then (rw_ plan 0).length else plan.length) :
    callB SP i_impl_filler_fits_1 [i64 side, i64 k, .ptr (pt a4), .ptr ⟨some a14, 4, 0⟩] h fun r h' => r = brd ts borders side k i ∧ h' = h := by
  have hlen := (hp.2.2.2 side hs).1
  have hbl := hp.2.2.1
  apply impl_filler_fits_1_call
  unfold impl_filler_fits_1_main
  refine v4.ldP ⟨rfl, rfl, ob.ldS (i := 3) rfl rfl ?_⟩
  refine f.rb.ldG (by omega) (by omega) fun v rv lv => ?_
  rw [Int.toNat_natCast] at lv
  refine bif_eq (fun q0 => ⟨_, rfl, by unfold brd; rw [show ((rw_ borders side).length == 0) = true by rw [beq_iff_eq]; omega]; rfl, rfl⟩) (fun q0 => ?_)
  refine v4.ldP ⟨rfl, rfl, ob.ldS (i := 3) rfl rfl ?_⟩
  refine f.rb.ldG (by omega) (by omega) fun v rv lv => ?_
  rw [Int.toNat_natCast] at rv lv
  have hk2 : k < (rw_ borders side).length := by
    rcases hlen with h | h
    · omega
    · rw [h]; exact hk
  refine rv.ldG (by omega) (by omega) ?_
  rw [Int.toNat_natCast]
  refine o14.sdI (by omega) (by omega) ⟨_, rfl, ?_, rfl⟩
  rw [Int.toNat_natCast]
  unfold brd
  rw [show ((rw_ borders side).length == 0) = false by rw [beq_eq_false_iff_ne]; omega, Bool.false_or]
  rfl
theorem fdigit_c (hs : setOK c ts) (hp : PlanOK c ts.length plan borders) {h : H} {a4 a6 a15 s : Nat} (f : FilH c ts plan borders u q bq pw h) (ob : Obj h fo (FilC c u q bq pw cn al)) (v4 : Var h a4 (.ptr ⟨some fo, 7, 0⟩)) (v6 : Var h a6 (i64 s)) (v15 : Var h a15 (i64 c)) (hsl : s ≤ 46656) {k : Nat} (hk : k ≤ (rw_ plan 0).length) :
    callI SP .i64 i_impl_filler_fits_2 [i64 k, .ptr (pt a6), .ptr (pt a4), .ptr (pt a15)] h fun r h' => r = ((dig c.toNat s k : Nat) : Int) ∧ h' = h := by
  obtain ⟨d1, d2, d3, d4, d5, d6, d7, d8, d9⟩ := dims hs hp
  apply impl_filler_fits_2_call
  unfold impl_filler_fits_2_main
  refine v6.ldI (v4.ldP ⟨rfl, rfl, ob.ldS (i := 4) rfl rfl ?_⟩)
  refine f.rp.ldG (by omega) (by rw [powL_len]; omega) ?_
  rw [Int.toNat_natCast, powL_at hk]
  have hp0 : 0 < c.toNat ^ k := Nat.pow_pos d2
  refine ⟨by omega, v15.ldI ⟨by omega, _, rfl, ?_, rfl⟩⟩
  rw [tdiv_nat, w64_div (by omega)]
  have : Int.tmod ((s / c.toNat ^ k : Nat) : Int) c = Int.tmod ((s / c.toNat ^ k : Nat) : Int) (c.toNat : Int) := by rw [d3]
  rw [this, tmod_nat]
  rfl
/-- The next state, in the machine's numbers. -/
theorem stepI_w {D : Dp} (ok : D.OK) {s p i : Nat} (hi : i < D.n) (hb : D.c ^ (D.w + 1) ≤ 46656) (hs : s < D.c ^ (D.w + 1)) :
    w64 (w64 ((s : Int) + w64 (w64 ((D.so i : Int) - (dig D.c s (p % D.w) : Nat)) * ((D.c ^ (p % D.w) : Nat) : Int))) - w64 (((dig D.c s D.w : Nat) : Int) * ((D.c ^ D.w : Nat) : Int))) = (setD D.c (p % D.w) (D.so i) (s % D.top) : Int) := by
  have ht : D.c ^ D.w ≤ 46656 := by
    rw [Nat.pow_succ] at hb
    have := Nat.mul_le_mul_left (D.c ^ D.w) ok.hc
    omega
  have b1 := set_bound ok hi (s := s) (p := p) ht
  have h1 := setD_eq D.c (p % D.w) (D.so i) (s % D.top)
  rw [show D.top = D.c ^ D.w from rfl, dig_mod (Nat.mod_lt _ ok.hw)] at h1
  have h2 := Nat.div_add_mod s (D.c ^ D.w)
  have h3 : ((D.c ^ D.w * (s / D.c ^ D.w) : Nat) : Int) + ((s % D.c ^ D.w : Nat) : Int) = s := by exact_mod_cast h2
  have hc : D.c ≤ 46656 := by
    have := Nat.pow_le_pow_right ok.hc (show 1 ≤ D.w + 1 by omega)
    rw [Nat.pow_one] at this; omega
  have h4 := ok.so i hi
  have h5 := dig_lt ok.hc (v := s) (k := p % D.w)
  have e1 : w64 ((D.so i : Int) - (dig D.c s (p % D.w) : Nat)) = (D.so i : Int) - (dig D.c s (p % D.w) : Nat) := w64_of (by omega) (by omega)
  rw [dig_top hs, e1, ← Int.natCast_mul, Nat.mul_comm (s / D.c ^ D.w)]
  obtain ⟨A, hA⟩ : ∃ A, ((D.so i : Int) - (dig D.c s (p % D.w) : Nat)) * ((D.c ^ (p % D.w) : Nat) : Int) = A := ⟨_, rfl⟩
  obtain ⟨B, hB⟩ : ∃ B, D.c ^ D.w * (s / D.c ^ D.w) = B := ⟨_, rfl⟩
  obtain ⟨M, hM⟩ : ∃ M, s % D.c ^ D.w = M := ⟨_, rfl⟩
  rw [show D.top = D.c ^ D.w from rfl]
  rw [hA] at b1 h1 ⊢
  rw [hB] at h2 h3 ⊢
  rw [hM] at h1 h2 h3 ⊢
  rw [w64_of (n := A) (by omega) (by omega), w64_of (n := (s : Int) + A) (by omega) (by omega), w64_of (n := (B : Int)) (by omega) (by omega), w64_of (by omega) (by omega), h1]
  omega
theorem can_bool : ∀ P A0 B0 A1 B1 A2 B2 A3 B3 N V : Bool, ((!P && (!((A0 && !B0) || (A1 && !B1)) && ((A2 || B2) && (A3 || B3)))) && (A1 || N) && (A0 || V)) =
    (!P && (!((A1 && !B1) || (!A1 && !N)) && (!((A0 && !B0) || (!A0 && !V)) && !((!A3 && !B3) || (!A2 && !B2))))) := by decide
set_option maxHeartbeats 1000000 in
theorem fits_c (hs : setOK c ts) (hp : PlanOK c ts.length plan borders) {h : H} (f : FilH c ts plan borders u q bq pw h) (ob : Obj h fo (FilC c u q bq pw cn al)) {s p i : Nat} (hsl : s < (dpOf c ts plan borders).c ^ ((dpOf c ts plan borders).w + 1)) (hi : i < ts.length) (hpl : p < plan.length * (rw_ plan 0).length) :
    callV SP i_impl_filler_fits [.ptr ⟨some fo, 7, 0⟩, i64 p, i64 s, i64 i] h fun v h' => v = .tuple [i64 (if (dpOf c ts plan borders).can s p i = true then ((dpOf c ts plan borders).stepI s p i : Int) else 0), .bool ((dpOf c ts plan borders).can s p i)] ∧ Ext h h' := by
  obtain ⟨d1, d2, d3, d4, d5, d6, d7, d8, d9⟩ := dims hs hp
  have ok := dp_ok hs hp
  have hb : (dpOf c ts plan borders).c ^ ((dpOf c ts plan borders).w + 1) ≤ 46656 := pow_small d1 (by show (rw_ plan 0).length + 1 ≤ 6; omega)
  have hst := stepI_w ok (p := p) hi hb hsl
  have hs46 : s ≤ 46656 := by omega
  obtain ⟨y1, x1'⟩ := place_dims d4 hpl
  have hql := f.rq.len
  have htl := f.ru.tlen
  have e0 := side_nat hs hi (k := 0) (by omega)
  have e1 := side_nat hs hi (k := 1) (by omega)
  have e2 := side_nat hs hi (k := 2) (by omega)
  have e3 := side_nat hs hi (k := 3) (by omega)
  suffices HK : ∀ K0 : AVal → H → Prop, (∀ h', Ext h h' → (dpOf c ts plan borders).can s p i = false → K0 (.tuple [.int .i64 0, .bool false]) h') → (∀ h', Ext h h' → (dpOf c ts plan borders).can s p i = true → K0 (.tuple [i64 ((dpOf c ts plan borders).stepI s p i : Nat), .bool true]) h') → callV SP i_impl_filler_fits [.ptr ⟨some fo, 7, 0⟩, i64 p, i64 s, i64 i] h K0 from
    HK _ (fun h' x e => ⟨by rw [e]; rfl, x⟩) (fun h' x e => ⟨by rw [e]; rfl, x⟩)
  intro K0 hKf0 hKt0
  apply impl_filler_fits_call
  unfold impl_filler_fits_main impl_filler_fits_g0_0
  refine newO_var fun h1 v4 x1 l1 => ?_
  refine newO_var fun h3 v6 x3 l3 => ?_
  have v4 := v4.ext x3
  have x13 := x1.trans x3
  rw [impl_filler_fits_cut0]
  unfold impl_filler_fits_r0 impl_filler_fits_g1_0
  have f3 := f.ext x13
  have ob3 := ob.ext x13
  refine v4.ldP ⟨rfl, rfl, ob3.ldS (i := 2) rfl rfl ?_⟩
  refine v4.ldP ⟨rfl, rfl, ob3.ldS (i := 2) rfl rfl ?_⟩
  refine f3.rq.ldG (i := 0) (by omega) (by omega) fun v0 rv0 lv0 => ?_
  replace lv0 : v0.len = (rw_ plan 0).length := lv0
  clear rv0
  rw [impl_filler_fits_cut1]
  unfold impl_filler_fits_r1 impl_filler_fits_g2_0
  rw [lv0, hql]
  refine ⟨by omega, by omega, ?_⟩
  rw [tdiv_nat, tmod_nat, w64_div (by omega), impl_filler_fits_cut2]
  unfold impl_filler_fits_r2 impl_filler_fits_g3_0
  refine slotK_in fun k0 xk lk => ?_
  have v4k := v4.ext xk
  have v6k := v6.ext xk
  have fk := f3.ext xk
  have obk := ob3.ext xk
  have obl := ob.lt
  refine v4k.ldP ⟨rfl, rfl, rfl, obk.ldS (i := 1) rfl rfl ?_⟩
  refine fk.ru.ixO (by omega) (by omega) fun p3 po3 hp3 => ?_
  rw [Int.toNat_natCast, tcs_at ts i _ (at_tat (n := ((i : Nat) : Int)) (by rw [Int.toNat_natCast]; exact hi))] at hp3
  have hu3 : ∀ o, p3.o = some o → o < h.length := fun o eo => by
    obtain hl | ⟨_, _, cc⟩ := f.ru.at_
    · omega
    · obtain ⟨o', xs, w1, w2, _⟩ := range_some cc
      rw [po3] at eo; rw [eo] at w1; cases w1
      exact cells_lt w2
  have hne : ∀ n, h.length ≤ n → some n ≠ p3.o := fun n hn e => by have := hu3 n e.symm; omega
  refine ⟨_, hp3, ?_⟩
  refine v4k.ldP ⟨rfl, rfl, rfl, obk.ldI (i := 0) (m := c) rfl rfl ?_⟩
  refine newOat_obj (by omega) fun h8 o8 b8 n8 => ?_
  have ob8 := obk.but b8 (sne (by omega))
  have v48 := v4k.but b8 (sne (by omega))
  have r8 := b8.range hp3 (hne _ (by omega))
  refine ⟨(ob8.cellE (i := 0) rfl).trans (obk.cellE (i := 0) rfl).symm, v48.cell.trans v4k.cell.symm, r8.trans hp3.symm, (ob8.cellE (i := 1) rfl).trans (obk.cellE (i := 1) rfl).symm, v48.cell.trans v4k.cell.symm, ?_⟩
  refine newOat_var (by omega) fun h10 v15 b10 n10 => ?_
  have ob10 := ob8.but b10 (sne (by omega))
  have v410 := v48.but b10 (sne (by omega))
  have r10 := b10.range r8 (hne _ (by omega))
  have o10 := o8.but b10 (sne (by omega))
  refine ⟨(ob10.cellE (i := 0) rfl).trans (obk.cellE (i := 0) rfl).symm, v410.cell.trans v4k.cell.symm, r10.trans hp3.symm, (ob10.cellE (i := 1) rfl).trans (obk.cellE (i := 1) rfl).symm, v410.cell.trans v4k.cell.symm, ?_⟩
  refine o10.stA fun h11 o11 b11 n11 => ?_
  have ob11 := ob10.but b11 (sne (by omega))
  have v411 := v410.but b11 (sne (by omega))
  refine ⟨(ob11.cellE (i := 0) rfl).trans (obk.cellE (i := 0) rfl).symm, v411.cell.trans v4k.cell.symm, ?_⟩
  refine (v15.but b11 (sne (by omega))).st _ fun g v15 b12 n12 => ?_
  have xg : Ext h3 g := (((xk.but_ b8 (some_le (by omega))).but_ b10 (some_le (by omega))).but_ b11 (some_le (by omega))).but_ b12 (some_le (by omega))
  have o14 := o11.but b12 (sne (by omega))
  have v4 := v4.ext xg
  have v6 := v6.ext xg
  have f := f3.ext xg
  have ob := ob3.ext xg
  have xh := x13.trans xg
  rw [impl_filler_fits_cut3]
  unfold impl_filler_fits_r3 impl_filler_fits_g4_0
  rw [impl_filler_fits_cut4]
  unfold impl_filler_fits_r4 impl_filler_fits_g5_0
  rw [impl_filler_fits_cut5]
  unfold impl_filler_fits_r5 impl_filler_fits_g6_0
  have hKf := hKf0 g xh
  have hKt := hKt0 g xh
  have hcan : (dpOf c ts plan borders).can s p i = (bOK ts plan borders (p / (rw_ plan 0).length) (p % (rw_ plan 0).length) i && (p / (rw_ plan 0).length == 0 || dig c.toNat s (p % (rw_ plan 0).length) == (sd (tat ts i) 1).toNat) && (p % (rw_ plan 0).length == 0 || dig c.toNat s (rw_ plan 0).length == (sd (tat ts i) 0).toNat)) := rfl
  have hstI : (dpOf c ts plan borders).stepI s p i = setD c.toNat (p % (rw_ plan 0).length) (sd (tat ts i) 3).toNat (s % c.toNat ^ (rw_ plan 0).length) + if p % (rw_ plan 0).length + 1 < (rw_ plan 0).length then (sd (tat ts i) 2).toNat * c.toNat ^ (rw_ plan 0).length else 0 := rfl
  have hsi := Dp.stepI_lt ok (p := p) (r := s) hi
  replace hst : w64 (w64 ((s : Int) + w64 (w64 (((sd (tat ts i) 3).toNat : Int) - (dig c.toNat s (p % (rw_ plan 0).length) : Nat)) * ((c.toNat ^ (p % (rw_ plan 0).length) : Nat) : Int))) - w64 (((dig c.toNat s (rw_ plan 0).length : Nat) : Int) * ((c.toNat ^ (rw_ plan 0).length : Nat) : Int))) = (setD c.toNat (p % (rw_ plan 0).length) (sd (tat ts i) 3).toNat (s % c.toNat ^ (rw_ plan 0).length) : Int) := hst
  unfold bOK at hcan
  generalize (dpOf c ts plan borders).can s p i = cn at hcan hKf hKt
  generalize (dpOf c ts plan borders).stepI s p i = sI at hstI hKt hsi
  replace hsi : sI ≤ 46656 := by omega
  obtain ⟨y, hyd⟩ : ∃ y, p / (rw_ plan 0).length = y := ⟨_, rfl⟩
  obtain ⟨x, hxd⟩ : ∃ x, p % (rw_ plan 0).length = x := ⟨_, rfl⟩
  rw [hyd] at y1 hcan
  rw [hxd] at x1' hcan hst hstI
  rw [hyd, hxd]
  rw [can_bool] at hcan
  obtain ⟨W, hW⟩ : ∃ W, (rw_ plan 0).length = W := ⟨_, rfl⟩
  have hxy : x < (rw_ plan y).length := by rw [(hp.1.2 y y1).1]; exact x1'
  have beqC : ∀ a b : Nat, ((a : Int) != (b : Int)) = !(a == b) := fun a b => by
    rw [Bool.eq_iff_iff]
    simp only [bne_iff_ne, ne_eq, Bool.not_eq_true', beq_eq_false_iff_ne]
    omega
  have bord : ∀ (side k : Nat) (K : Bool → H → Prop), side < 4 → (k < if side % 2 = 1 then (rw_ plan 0).length else plan.length) → K (brd ts borders side k i) g → callB SP i_impl_filler_fits_1 [i64 side, i64 k, .ptr (pt h.length), .ptr ⟨some (h3.length + 13), 4, 0⟩] g K := fun side k K hsd hk hK =>
    (border_c hp f ob v4 o14 hsd hk).to (by rintro _ _ ⟨rfl, rfl⟩; exact hK)
  have digt : ∀ (k : Nat) (K : Int → H → Prop), k ≤ (rw_ plan 0).length → K ((dig c.toNat s k : Nat) : Int) g → callI SP .i64 i_impl_filler_fits_2 [i64 k, .ptr (pt h1.length), .ptr (pt h.length), .ptr (pt (h3.length + 14))] g K := fun k K hk hK =>
    (fdigit_c hs hp f ob v4 v6 v15 hs46 hk).to (by rintro _ _ ⟨rfl, rfl⟩; exact hK)
  -- the next state
  have R14 : cn = true → impl_filler_fits_g14_0 SP (impl_filler_fits_ks15 SP K0) (pt h.length) (pt h1.length) (rw_ plan 0).length x ⟨some (h3.length + 13), 4, 0⟩ (.func 59 [.ptr (pt h1.length), .ptr (pt h.length), .ptr (pt (h3.length + 14))]) false g := fun hc => by
    unfold impl_filler_fits_g14_0
    refine v6.ldI ?_
    refine o14.sdI (k := 3) (by omega) (by omega) ?_
    refine via_func (digt x _ (by omega) ⟨rfl, rfl, v4.ldP ⟨rfl, rfl, rfl, ob.ldS (i := 4) rfl rfl ⟨rfl, ?_⟩⟩⟩)
    refine f.rp.ixC (by omega) (by rw [powL_len]; omega) fun p9 hp9 => ⟨_, hp9, rfl, ?_⟩
    rw [Int.toNat_natCast, powL_at (by omega)] at hp9
    refine via_func (digt (rw_ plan 0).length _ (by omega) ⟨rfl, rfl, rfl, rfl, rfl, v4.ldP ⟨rfl, rfl, rfl, rfl, ob.ldS (i := 4) rfl rfl ⟨rfl, rfl, ?_⟩⟩⟩)
    refine f.rp.ixC (by omega) (by rw [powL_len]; omega) fun p17 hp17 => ⟨_, hp17, rfl, rfl, ?_⟩
    rw [Int.toNat_natCast, Int.toNat_natCast, powL_at (by omega), powL_at (by omega), show sd (tat ts ((i : Nat) : Int)) (Int.toNat 3) = ((sd (tat ts i) 3).toNat : Int) from e3, hst, impl_filler_fits_cut14]
    unfold impl_filler_fits_r14 impl_filler_fits_g15_0
    rw [impl_filler_fits_cut15, w64_of (n := ((rw_ plan 0).length : Int) - 1) (by omega) (by omega)]
    unfold impl_filler_fits_r15
    refine bif_dec (fun q1 => ?_) (fun q1 => ?_)
    · rw [if_pos (by omega)] at hstI
      unfold impl_filler_fits_g16_0
      refine o14.sdI (k := 2) (by omega) (by omega) (v4.ldP ⟨rfl, rfl, ob.ldS (i := 4) rfl rfl ?_⟩)
      refine f.rp.ldG (by omega) (by rw [powL_len]; omega) ?_
      rw [Int.toNat_natCast, powL_at (by omega), show sd (tat ts ((i : Nat) : Int)) (Int.toNat 2) = ((sd (tat ts i) 2).toNat : Int) from e2, ← Int.natCast_mul]
      rw [w64_of (n := (((sd (tat ts i) 2).toNat * c.toNat ^ (rw_ plan 0).length : Nat) : Int)) (by omega) (by omega), w64_of (by omega) (by omega), ← Int.natCast_add, ← hstI, impl_filler_fits_cut16]
      unfold impl_filler_fits_r16 impl_filler_fits_g17_0
      rw [impl_filler_fits_cut17]
      exact hKt hc
    · rw [if_neg (by omega), Nat.add_zero] at hstI
      rw [← hstI]
      unfold impl_filler_fits_g17_1
      show impl_filler_fits_ks18 SP K0 .normal (impl_filler_fits_f17 _ true) g
      rw [impl_filler_fits_cut17]
      exact hKt hc
  have R12 : ∀ b, b = ((!(y + 1 != plan.length) && !brd ts borders 3 x i) || (!(x + 1 != (rw_ plan 0).length) && !brd ts borders 2 y i)) → cn = !b → (impl_filler_fits_ks13 SP K0) .normal (impl_filler_fits_f12 (pt h.length) (pt h1.length) (rw_ plan 0).length x ⟨some (h3.length + 13), 4, 0⟩ (.func 59 [.ptr (pt h1.length), .ptr (pt h.length), .ptr (pt (h3.length + 14))]) b) g := fun b e ec => by
    rw [impl_filler_fits_cut12]
    unfold impl_filler_fits_r12
    refine bif_b (fun qb => ?_) (fun qb => ?_)
    · unfold impl_filler_fits_g13_0
      rw [impl_filler_fits_cut13]
      exact hKf (by rw [ec, qb]; rfl)
    · rw [qb]
      exact R14 (by rw [ec, qb]; rfl)
  have beqE : ∀ (a b : Nat), (b : Int) ≤ 5 → 0 < b → ((a : Int) = (w64 ((b : Int) - 1)) ↔ a + 1 = b) := fun a b h5 h0 => by rw [w64_of (by omega) (by omega)]; omega
  have hH5 : (plan.length : Int) ≤ 5 := by omega
  have hW5 : ((rw_ plan 0).length : Int) ≤ 5 := by omega
  -- the south and the east
  have G12 : cn = !((!(y + 1 != plan.length) && !brd ts borders 3 x i) || (!(x + 1 != (rw_ plan 0).length) && !brd ts borders 2 y i)) → ∀ b, impl_filler_fits_g12_0 SP (impl_filler_fits_ks13 SP K0) (pt h.length) (pt h1.length) plan.length (rw_ plan 0).length y x ⟨some (h3.length + 13), 4, 0⟩ (.func 58 [.ptr (pt h.length), .ptr ⟨some (h3.length + 13), 4, 0⟩]) (.func 59 [.ptr (pt h1.length), .ptr (pt h.length), .ptr (pt (h3.length + 14))]) b g := fun ec bb => by
    unfold impl_filler_fits_g12_0
    have east : (!(y + 1 != plan.length) && !brd ts borders 3 x i) = false → bif ((x : Int) == (w64 (((rw_ plan 0).length : Int) - 1))) then viaF (.func 58 [.ptr (pt h.length), .ptr ⟨some (h3.length + 13), 4, 0⟩]) [.int .i64 2, .int .i64 y] fun g8 ys9 => callB SP g8 ys9 g fun b11 h10 => (impl_filler_fits_ks13 SP K0) .normal (impl_filler_fits_f12 (pt h.length) (pt h1.length) (rw_ plan 0).length x ⟨some (h3.length + 13), 4, 0⟩ (.func 59 [.ptr (pt h1.length), .ptr (pt h.length), .ptr (pt (h3.length + 14))]) (!b11)) h10
        else (impl_filler_fits_ks13 SP K0) .normal (impl_filler_fits_f12 (pt h.length) (pt h1.length) (rw_ plan 0).length x ⟨some (h3.length + 13), 4, 0⟩ (.func 59 [.ptr (pt h1.length), .ptr (pt h.length), .ptr (pt (h3.length + 14))]) false) g := fun ev => by
      refine bif_eq (fun q1 => ?_) (fun q1 => ?_)
      · rw [beqE _ _ hW5 d4] at q1
        have ex : (x + 1 != (rw_ plan 0).length) = false := by rw [bne_eq_false_iff_eq]; exact q1
        refine via_func (bord 2 y _ (by omega) (by rw [if_neg (by omega)]; exact y1) ?_)
        refine R12 _ (by rw [ev, ex]; rfl) (by rw [ec, ev, ex]; rfl)
      · have ex : (x + 1 != (rw_ plan 0).length) = true := by rw [bne_iff_ne]; exact fun e => q1 ((beqE _ _ hW5 d4).2 e)
        refine R12 _ (by rw [ev, ex]; rfl) (by rw [ec, ev, ex]; rfl)
    refine bif_eq (fun q1 => ?_) (fun q1 => ?_)
    · rw [beqE _ _ hH5 d6] at q1
      have ey : (y + 1 != plan.length) = false := by rw [bne_eq_false_iff_eq]; exact q1
      refine via_func (bord 3 x _ (by omega) (by rw [if_pos (by omega)]; exact x1') ?_)
      refine bif_not (fun q2 => R12 _ (by rw [ey, q2]; rfl) (by rw [ec, ey, q2]; rfl)) (fun q2 => ?_)
      exact east (by rw [ey, q2]; rfl)
    · have ey : (y + 1 != plan.length) = true := by rw [bne_iff_ne]; exact fun e => q1 ((beqE _ _ hH5 d6).2 e)
      exact east (by rw [ey]; rfl)
  have R10 : ∀ b, b = ((x == 0 && !brd ts borders 0 y i) || (!(x == 0) && !(dig c.toNat s (rw_ plan 0).length == (sd (tat ts i) 0).toNat))) → cn = (!b && !((!(y + 1 != plan.length) && !brd ts borders 3 x i) || (!(x + 1 != (rw_ plan 0).length) && !brd ts borders 2 y i))) → (impl_filler_fits_ks11 SP K0) .normal (impl_filler_fits_f10 (pt h.length) (pt h1.length) plan.length (rw_ plan 0).length y x ⟨some (h3.length + 13), 4, 0⟩ (.func 58 [.ptr (pt h.length), .ptr ⟨some (h3.length + 13), 4, 0⟩]) (.func 59 [.ptr (pt h1.length), .ptr (pt h.length), .ptr (pt (h3.length + 14))]) b) g := fun b e ec => by
    rw [impl_filler_fits_cut10]
    unfold impl_filler_fits_r10
    refine bif_b (fun qb => ?_) (fun qb => ?_)
    · unfold impl_filler_fits_g11_0
      rw [impl_filler_fits_cut11]
      exact hKf (by rw [ec, qb]; rfl)
    · exact G12 (by rw [ec, qb]; rfl) _
  -- the west
  have G10 : cn = (!((x == 0 && !brd ts borders 0 y i) || (!(x == 0) && !(dig c.toNat s (rw_ plan 0).length == (sd (tat ts i) 0).toNat))) && !((!(y + 1 != plan.length) && !brd ts borders 3 x i) || (!(x + 1 != (rw_ plan 0).length) && !brd ts borders 2 y i))) → ∀ b, impl_filler_fits_g10_0 SP (impl_filler_fits_ks11 SP K0) (pt h.length) (pt h1.length) plan.length (rw_ plan 0).length y x ⟨some (h3.length + 13), 4, 0⟩ (.func 58 [.ptr (pt h.length), .ptr ⟨some (h3.length + 13), 4, 0⟩]) (.func 59 [.ptr (pt h1.length), .ptr (pt h.length), .ptr (pt (h3.length + 14))]) b g := fun ec bb => by
    unfold impl_filler_fits_g10_0
    refine bif_eq (fun q1 => ?_) (fun q1 => ?_)
    · have ex : (x == 0) = true := by rw [beq_iff_eq]; omega
      refine via_func (bord 0 y _ (by omega) (by rw [if_neg (by omega)]; exact y1) ?_)
      refine bif_not (fun q2 => R10 _ (by rw [ex, q2]; rfl) (by rw [ec, ex, q2]; rfl)) (fun q2 => ?_)
      refine bif_dec (fun q3 => by omega) (fun q3 => ?_)
      exact R10 _ (by rw [ex, q2]; rfl) (by rw [ec, ex, q2]; rfl)
    · have ex : (x == 0) = false := by rw [beq_eq_false_iff_ne]; omega
      refine bif_dec (fun q3 => ?_) (fun q3 => by omega)
      refine via_func (digt (rw_ plan 0).length _ (by omega) ?_)
      refine o14.sdI (k := 0) (by omega) (by omega) ⟨rfl, ?_⟩
      rw [show sd (tat ts ((i : Nat) : Int)) (Int.toNat 0) = ((sd (tat ts i) 0).toNat : Int) from e0, beqC]
      exact R10 _ (by rw [ex]; rfl) (by rw [ec, ex]; rfl)
  have R8 : ∀ b, b = ((y == 0 && !brd ts borders 1 x i) || (!(y == 0) && !(dig c.toNat s x == (sd (tat ts i) 1).toNat))) → cn = (!b && (!((x == 0 && !brd ts borders 0 y i) || (!(x == 0) && !(dig c.toNat s (rw_ plan 0).length == (sd (tat ts i) 0).toNat))) && !((!(y + 1 != plan.length) && !brd ts borders 3 x i) || (!(x + 1 != (rw_ plan 0).length) && !brd ts borders 2 y i)))) → (impl_filler_fits_ks9 SP K0) .normal (impl_filler_fits_f8 (pt h.length) (pt h1.length) plan.length (rw_ plan 0).length y x ⟨some (h3.length + 13), 4, 0⟩ (.func 58 [.ptr (pt h.length), .ptr ⟨some (h3.length + 13), 4, 0⟩]) (.func 59 [.ptr (pt h1.length), .ptr (pt h.length), .ptr (pt (h3.length + 14))]) b) g := fun b e ec => by
    rw [impl_filler_fits_cut8]
    unfold impl_filler_fits_r8
    refine bif_b (fun qb => ?_) (fun qb => ?_)
    · unfold impl_filler_fits_g9_0
      rw [impl_filler_fits_cut9]
      exact hKf (by rw [ec, qb]; rfl)
    · exact G10 (by rw [ec, qb]; rfl) _
  -- the north
  have G8 : cn = (!((y == 0 && !brd ts borders 1 x i) || (!(y == 0) && !(dig c.toNat s x == (sd (tat ts i) 1).toNat))) && (!((x == 0 && !brd ts borders 0 y i) || (!(x == 0) && !(dig c.toNat s (rw_ plan 0).length == (sd (tat ts i) 0).toNat))) && !((!(y + 1 != plan.length) && !brd ts borders 3 x i) || (!(x + 1 != (rw_ plan 0).length) && !brd ts borders 2 y i)))) → ∀ b, impl_filler_fits_g8_0 SP (impl_filler_fits_ks9 SP K0) (pt h.length) (pt h1.length) plan.length (rw_ plan 0).length y x ⟨some (h3.length + 13), 4, 0⟩ (.func 58 [.ptr (pt h.length), .ptr ⟨some (h3.length + 13), 4, 0⟩]) (.func 59 [.ptr (pt h1.length), .ptr (pt h.length), .ptr (pt (h3.length + 14))]) b g := fun ec bb => by
    unfold impl_filler_fits_g8_0
    refine bif_eq (fun q1 => ?_) (fun q1 => ?_)
    · have ey : (y == 0) = true := by rw [beq_iff_eq]; omega
      refine via_func (bord 1 x _ (by omega) (by rw [if_pos (by omega)]; exact x1') ?_)
      refine bif_not (fun q2 => R8 _ (by rw [ey, q2]; rfl) (by rw [ec, ey, q2]; rfl)) (fun q2 => ?_)
      refine bif_dec (fun q3 => by omega) (fun q3 => ?_)
      exact R8 _ (by rw [ey, q2]; rfl) (by rw [ec, ey, q2]; rfl)
    · have ey : (y == 0) = false := by rw [beq_eq_false_iff_ne]; omega
      refine bif_dec (fun q3 => ?_) (fun q3 => by omega)
      refine via_func (digt x _ (by omega) ?_)
      refine o14.sdI (k := 1) (by omega) (by omega) ⟨rfl, ?_⟩
      rw [show sd (tat ts ((i : Nat) : Int)) (Int.toNat 1) = ((sd (tat ts i) 1).toNat : Int) from e1, beqC]
      exact R8 _ (by rw [ey]; rfl) (by rw [ec, ey]; rfl)
  have R6 : ∀ b, b = (decide (G plan y x ≥ 0) && G plan y x != (i : Int)) → (impl_filler_fits_ks7 SP K0) .normal (impl_filler_fits_f6 (pt h.length) (pt h1.length) plan.length (rw_ plan 0).length y x ⟨some (h3.length + 13), 4, 0⟩ (.func 58 [.ptr (pt h.length), .ptr ⟨some (h3.length + 13), 4, 0⟩]) (.func 59 [.ptr (pt h1.length), .ptr (pt h.length), .ptr (pt (h3.length + 14))]) b) g := fun b e => by
    rw [impl_filler_fits_cut6]
    unfold impl_filler_fits_r6
    rw [← e] at hcan
    refine bif_b (fun qb => ?_) (fun qb => ?_)
    · unfold impl_filler_fits_g7_0
      rw [impl_filler_fits_cut7]
      exact hKf (by rw [hcan, qb]; rfl)
    · exact G8 (by rw [hcan, qb]; rfl) _
  refine v4.ldP ⟨rfl, rfl, ob.ldS (i := 2) rfl rfl ?_⟩
  refine f.rq.ldG (by omega) (by omega) fun v rv lv => ?_
  rw [Int.toNat_natCast] at rv lv
  refine rv.ldG (by omega) (by omega) ?_
  rw [Int.toNat_natCast, show (rw_ plan y).getD x 0 = G plan y x from rfl]
  refine bif_dec (fun qp => ?_) (fun qp => ?_)
  · refine v4.ldP ⟨rfl, rfl, ob.ldS (i := 2) rfl rfl ?_⟩
    refine f.rq.ldG (by omega) (by omega) fun v rv lv => ?_
    rw [Int.toNat_natCast] at rv lv
    refine rv.ldG (by omega) (by omega) ?_
    rw [Int.toNat_natCast, show (rw_ plan y).getD x 0 = G plan y x from rfl]
    exact R6 _ (by rw [decide_eq_true qp, Bool.true_and])
  · exact R6 _ (by rw [decide_eq_false qp, Bool.false_and])
end
end Go.Proofs.Ytgeakkmpohjohaa.Cl

/- Fillings by places: the program's filler. No claim is stated here. -/
set_option linter.unusedVariables false
set_option linter.unusedSimpArgs false
namespace Go.Proofs.Ytgeakkmpohjohaa.Cl
open Go
section
variable (D : Dp) (p : Nat)
def CntRow (l : List Int) : Prop := l.length = D.lim ∧ ∀ s, s < D.lim → 0 ≤ l.getD s 0 ∧ l.getD s 0 ≤ 1000000000000001 ∧ (0 < l.getD s 0 ↔ D.reach D.stepI p s)
def RXo (s i : Nat) : Prop := D.reach D.stepI p s ∧ i < D.n ∧ D.can s p i = true
def CntI (st i : Nat) (l : List Int) : Prop := l.length = D.lim ∧ ∀ r, r < D.lim → 0 ≤ l.getD r 0 ∧ l.getD r 0 ≤ 1000000000000001 ∧
  (0 < l.getD r 0 ↔ ∃ s' i', (s' < st ∨ s' = st ∧ i' < i) ∧ RXo D p s' i' ∧ r = D.stepI s' p i')
def AlvRow (bl : List Bool) : Prop := bl.length = D.lim ∧ ∀ s, s < D.lim → (bl.getD s false = true ↔ D.alive p s)
end
section
variable {D : Dp} {p : Nat}
theorem CntI.start : CntI D p 0 0 (List.replicate D.lim 0) := ⟨by simp, fun r hr => by
  have : (List.replicate D.lim (0 : Int)).getD r 0 = 0 := by rw [List.getD_eq_getElem?_getD, List.getElem?_replicate, if_pos hr]; rfl
  rw [this]
  exact ⟨by omega, by omega, ⟨fun e => by omega, fun ⟨s, i, h, _⟩ => by omega⟩⟩⟩
theorem CntI.skip {st i : Nat} {l : List Int} (a : CntI D p st i l) (hn : ¬ RXo D p st i) : CntI D p st (i + 1) l := by
  refine ⟨a.1, fun r hr => ?_⟩
  obtain ⟨b1, b2, b3⟩ := a.2 r hr
  refine ⟨b1, b2, b3.trans ⟨fun ⟨s, j, h1, h2, h3⟩ => ⟨s, j, by omega, h2, h3⟩, fun ⟨s, j, h1, h2, h3⟩ => ?_⟩⟩
  by_cases e : s = st ∧ j = i
  · rw [e.1, e.2] at h2; exact absurd h2 hn
  · exact ⟨s, j, by omega, h2, h3⟩
theorem CntI.add {st i : Nat} {l : List Int} (a : CntI D p st i l) (hn : RXo D p st i) (hs : D.stepI st p i < D.lim) {n : Int} (n0 : 0 < n) (n1 : n ≤ 1000000000000001) : CntI D p st (i + 1) (l.set (D.stepI st p i) (mnI 1000000000000001 (w64 (l.getD (D.stepI st p i) 0 + n)))) := by
  refine ⟨by rw [List.length_set]; exact a.1, fun r hr => ?_⟩
  rw [getD_set (by rw [a.1]; exact hs)]
  split
  · next e =>
    obtain ⟨b1, b2, _⟩ := a.2 _ hs
    rw [w64_of (by omega) (by omega)]
    have hm : 0 < mnI 1000000000000001 (l.getD (D.stepI st p i) 0 + n) ∧ mnI 1000000000000001 (l.getD (D.stepI st p i) 0 + n) ≤ 1000000000000001 := by unfold mnI; split <;> omega
    exact ⟨by omega, hm.2, ⟨fun _ => ⟨st, i, by omega, hn, e.symm⟩, fun _ => hm.1⟩⟩
  · next e =>
    obtain ⟨b1, b2, b3⟩ := a.2 r hr
    refine ⟨b1, b2, b3.trans ⟨fun ⟨s, j, h1, h2, h3⟩ => ⟨s, j, by omega, h2, h3⟩, fun ⟨s, j, h1, h2, h3⟩ => ?_⟩⟩
    by_cases e2 : s = st ∧ j = i
    · rw [e2.1, e2.2] at h3; exact absurd h3.symm e
    · exact ⟨s, j, by omega, h2, h3⟩
theorem CntI.next {st i : Nat} {l : List Int} (a : CntI D p st i l) (hn : ∀ j, i ≤ j → ¬ RXo D p st j) : CntI D p (st + 1) 0 l := by
  refine ⟨a.1, fun r hr => ?_⟩
  obtain ⟨b1, b2, b3⟩ := a.2 r hr
  refine ⟨b1, b2, b3.trans ⟨fun ⟨s, j, h1, h2, h3⟩ => ⟨s, j, by omega, h2, h3⟩, fun ⟨s, j, h1, h2, h3⟩ => ?_⟩⟩
  by_cases e : s = st ∧ i ≤ j
  · rw [e.1] at h2; exact absurd h2 (hn j e.2)
  · exact ⟨s, j, by omega, h2, h3⟩
theorem CntI.row {l : List Int} (ok : D.OK) (a : CntI D p D.lim 0 l) : CntRow D (p + 1) l := by
  refine ⟨a.1, fun r hr => ?_⟩
  obtain ⟨b1, b2, b3⟩ := a.2 r hr
  refine ⟨b1, b2, b3.trans ⟨fun ⟨s, j, _, ⟨h1, h2, h3⟩, h5⟩ => ⟨s, j, h1, h2, h3, h5⟩, fun ⟨s, j, h1, h2, h3, h5⟩ => ⟨s, j, .inl (Dp.reach_lt ok p s h1), ⟨h1, h2, h3⟩, h5⟩⟩⟩
theorem alive_end {s : Nat} : D.alive D.size s ↔ D.reach D.stepI D.size s := by
  unfold Dp.alive
  rw [Nat.sub_self]
  exact ⟨fun h => h.1, fun h => ⟨h, trivial⟩⟩
theorem alive_step {s : Nat} (hp : p < D.size) (h : D.reach D.stepI p s) : D.alive p s ↔ ∃ i, i < D.n ∧ D.can s p i = true ∧ D.alive (p + 1) (D.stepI s p i) := by
  unfold Dp.alive
  rw [show D.size - p = (D.size - (p + 1)) + 1 by omega]
  constructor
  · rintro ⟨_, i, hi, h1, h2⟩
    exact ⟨i, hi, h1, ⟨s, i, h, hi, h1, rfl⟩, h2⟩
  · rintro ⟨i, hi, h1, _, h2⟩
    exact ⟨h, i, hi, h1, h2⟩
end
/-- A table of counts. -/
def CntT (D : Dp) (n : Nat) (h : H) (v : Sl) : Prop := ∃ vs : List Sl, vs.length = n ∧ Rd h v 1 (vs.map .sl) ∧ ∀ (j : Nat) w, vs[j]? = some w → ∃ l, Rd h w 1 (ic l) ∧ CntRow D j l
/-- The table of what is alive. -/
def AlvT (D : Dp) (h : H) (v : Sl) : Prop := ∃ vs : List Sl, vs.length = D.size + 1 ∧ Rd h v 1 (vs.map .sl) ∧ ∀ (j : Nat) w, vs[j]? = some w → ∃ bl : List Bool, Rd h w 1 (bl.map .bool) ∧ AlvRow D j bl
theorem AlvT.ext {D : Dp} {h h' : H} {v : Sl} (t : AlvT D h v) (x : Ext h h') : AlvT D h' v := by
  obtain ⟨vs, a, b, c⟩ := t
  exact ⟨vs, a, b.ext x, fun j w e => by obtain ⟨l, r, y⟩ := c j w e; exact ⟨l, r.ext x, y⟩⟩
theorem CntT.ext {D : Dp} {n : Nat} {h h' : H} {v : Sl} (t : CntT D n h v) (x : Ext h h') : CntT D n h' v := by
  obtain ⟨vs, a, b, c⟩ := t
  exact ⟨vs, a, b.ext x, fun j w e => by obtain ⟨l, r, y⟩ := c j w e; exact ⟨l, r.ext x, y⟩⟩
section
variable {c : Int} {ts : List Tile} {plan borders : List (List Int)} {u q bq pw cn al : Sl} {fo : Nat}
theorem size_c (hs : setOK c ts) (hp : PlanOK c ts.length plan borders) {h : H} (f : FilH c ts plan borders u q bq pw h) (ob : Obj h fo (FilC c u q bq pw cn al)) : callI SP .i64 i_impl_filler_size [.ptr ⟨some fo, 7, 0⟩] h fun n h' => n = ((plan.length * (rw_ plan 0).length : Nat) : Int) ∧ h' = h := by
  obtain ⟨d1, d2, d3, d4, d5, d6, d7, d8, d9⟩ := dims hs hp
  have hql := f.rq.len
  apply impl_filler_size_call
  unfold impl_filler_size_main
  refine ⟨rfl, rfl, ob.ldS (i := 2) rfl rfl ⟨rfl, rfl, ob.ldS (i := 2) rfl rfl ?_⟩⟩
  refine f.rq.ldG (i := 0) (by omega) (by omega) fun v0 rv0 lv0 => ?_
  replace lv0 : v0.len = (rw_ plan 0).length := lv0
  refine ⟨_, rfl, ?_, rfl⟩
  rw [lv0, hql, ← Int.natCast_mul]
  exact w64_nat (by omega)
/-- The counts are made: place by place. -/
theorem newL2_c (hs : setOK c ts) (hp : PlanOK c ts.length plan borders) {K0 : AVal → H → Prop} {g1 : H} {a0 oc : Nat}
    (hst : ∀ g, Chg (fun i => i = fo ∨ i = oc) g1 g → FilH c ts plan borders u q bq pw g ∧ Obj g a0 (SetC c u)) (hcf : oc ≠ fo) {cn0 : Sl}
    (ob : Obj g1 fo (FilC c u q bq pw cn0 Sl.nil)) {w0 : Sl} {l0 : List Int} (t0 : Ow g1 cn0 1 [.sl w0]) (hoc : cn0.o = some oc) (r0 : Rd g1 w0 1 (ic l0)) (y0 : CntRow (dpOf c ts plan borders) 0 l0) (hw0 : w0.o ≠ some oc ∧ w0.o ≠ some fo)
    (hK : ∀ g cn, Chg (fun i => i = fo ∨ i = oc) g1 g → Obj g fo (FilC c u q bq pw cn Sl.nil) → (∃ vs : List Sl, vs.length = (dpOf c ts plan borders).size + 1 ∧ ∀ g', But (some fo) g g' → Rd g' cn 1 (vs.map .sl) ∧ ∀ (j : Nat) w, vs[j]? = some w → ∃ l, Rd g' w 1 (ic l) ∧ CntRow (dpOf c ts plan borders) j l) → impl_newFiller_C2 SP K0 ⟨some a0, 2, 0⟩ ⟨some fo, 7, 0⟩ ((dpOf c ts plan borders).lim : Nat) g) :
    impl_newFiller_L2 SP K0 ⟨some a0, 2, 0⟩ ⟨some fo, 7, 0⟩ ((dpOf c ts plan borders).lim : Nat) ((dpOf c ts plan borders).size : Nat) 0 g1 := by
  obtain ⟨d1, d2, d3, d4, d5, d6, d7, d8, d9⟩ := dims hs hp
  have ok := dp_ok hs hp
  have hfit := fun {h : H} {cn al : Sl} (f : FilH c ts plan borders u q bq pw h) (ob : Obj h fo (FilC c u q bq pw cn al)) (s p i : Nat) (a : s < (dpOf c ts plan borders).c ^ ((dpOf c ts plan borders).w + 1)) (b : i < ts.length) (d : p < plan.length * (rw_ plan 0).length) => fits_c hs hp f ob a b d
  have Dn' : (dpOf c ts plan borders).n = ts.length := rfl
  have Ds' : (dpOf c ts plan borders).size = plan.length * (rw_ plan 0).length := rfl
  have Dc' : (dpOf c ts plan borders).c = c.toNat := rfl
  have Dw' : (dpOf c ts plan borders).w = (rw_ plan 0).length := rfl
  generalize dpOf c ts plan borders = D at ok hfit Dn' Ds' Dc' Dw' y0 hK ⊢
  have hlim : D.lim ≤ 46656 := pow_small (by omega) (by omega)
  have hlim0 : 0 < D.lim := Nat.pow_pos ok.hc
  refine impl_newFiller_rule2 _ _ _ _ _ _ (fun i g => ∃ (p : Nat) (cn : Sl) (vs : List Sl), i = p ∧ p ≤ D.size ∧ Obj g fo (FilC c u q bq pw cn Sl.nil) ∧ Ow g cn 1 (vs.map .sl) ∧ cn.o = some oc ∧ vs.length = p + 1 ∧ (∀ (j : Nat) w, vs[j]? = some w → ∃ l, Rd g w 1 (ic l) ∧ CntRow D j l ∧ w.o ≠ some oc ∧ w.o ≠ some fo) ∧ Chg (fun i => i = fo ∨ i = oc) g1 g) (fun i _ => (D.size - i).toNat) ?_ _
    ⟨0, cn0, [w0], rfl, by omega, ob, t0, hoc, rfl, fun j w hw => by
      have hj := (List.getElem?_eq_some_iff.1 hw).1
      simp at hj
      subst hj
      simp at hw; subst hw
      exact ⟨l0, r0, y0, hw0⟩, Chg.refl _ _⟩
  rintro X _ g0 ⟨p, cn, vs, rfl, hp', ob, tv, hoc, hvl, hrow, cg⟩ hX
  unfold impl_newFiller_b2
  obtain ⟨f0, o0⟩ := hst g0 cg
  have hol := tv.lt hoc
  have hfl := ob.lt
  have hcl : cn.len = p + 1 := by have := tv.len; rw [List.length_map, hvl, Nat.mul_one] at this; omega
  refine bif_dec (fun hi => ?_) (fun hi => ?_)
  · have hpl : p < D.size := by omega
    refine mkS_ow (by omega) (by unfold lim; omega) fun s11 h1 os11 ls11 so11 e1 => ?_
    have xa : Ext g0 h1 := by rw [e1]; exact Ext.app _ _
    have hz : (List.replicate (D.lim : Int).toNat [AVal.int .i64 0]).flatten = ic (List.replicate D.lim 0) := by
      unfold ic
      rw [List.map_replicate, Int.toNat_natCast]; simp
    rw [hz] at os11
    have ls11' : s11.len = D.lim := by rw [ls11]; omega
    refine ⟨rfl, rfl, (ob.ext xa).ldS (i := 5) rfl rfl ?_⟩
    refine (tv.ext xa).rd.ldS (by omega) (by omega) fun w hw => ?_
    rw [Int.toNat_natCast] at hw
    obtain ⟨lw, rw_, yw, wc, wf⟩ := hrow p w hw
    have lwl : w.len = D.lim := by have := rw_.ilen; rw [yw.1] at this; exact this
    rw [lwl]
    refine impl_newFiller_rule4 _ _ X _ _ _ _ _ _ _ _ _ (fun st g => ∃ (k : Nat) (l : List Int), st = k ∧ k ≤ D.lim ∧ Ow g s11 1 (ic l) ∧ CntI D p k 0 l ∧ Ext g0 g) (fun st _ => (D.lim - st).toNat) ?_ _
      ⟨0, _, rfl, by omega, os11, CntI.start, xa⟩
    rintro Y _ g2 ⟨st, l, rfl, hst', os2, cnt2, x2⟩ hY
    unfold impl_newFiller_b4 impl_newFiller_C4 impl_newFiller_C3
    refine bif_dec (fun hi2 => ?_) (fun hi2 => ?_)
    · have hstl : st < D.lim := by omega
      refine (rw_.ext x2).ldG (by omega) (by rw [yw.1]; omega) ?_
      rw [Int.toNat_natCast]
      obtain ⟨n0, n1, n2⟩ := yw.2 st hstl
      refine isPt_in ((o0.ext x2).ldS (i := 1) rfl rfl ?_)
      have hul := (f0.ext x2).ru.tlen
      rw [hul]
      refine impl_newFiller_rule6 _ _ X Y _ _ _ _ _ _ _ _ _ _ _ _ _ (fun i g => ∃ (k : Nat) (l : List Int), i = k ∧ k ≤ D.n ∧ Ow g s11 1 (ic l) ∧ CntI D p st k l ∧ Ext g0 g) (fun i _ => (D.n - i).toNat) ?_ _
        ⟨0, l, rfl, by omega, os2, cnt2, x2⟩
      rintro Z _ g3 ⟨i, l3, rfl, hin, os3, cnt3, x3⟩ hZ
      unfold impl_newFiller_b6 impl_newFiller_C6 impl_newFiller_C5
      have nxt : (∀ j, i ≤ j → ¬ RXo D p st j) → Y (impl_newFiller_e4 ⟨some a0, 2, 0⟩ ⟨some fo, 7, 0⟩ (D.lim : Nat) p s11 (D.size : Nat) p w (D.lim : Nat) (w64 (st + 1))) g3 := fun hn => by
        rw [w64_of (n := (st : Int) + 1) (by omega) (by omega)]
        exact hY _ _ ⟨st + 1, l3, by push_cast; rfl, by omega, os3, cnt3.next hn, x3⟩ (by omega)
      refine bif_dec (fun hi3 => ?_) (fun hi3 => nxt fun j hj hn => by have := hn.2.1; omega)
      refine bif_eq (fun q0 => nxt fun j hj hn => by have := n2.2 hn.1; omega) (fun q0 => ?_)
      have hre := n2.1 (by omega)
      refine (hfit (f0.ext x3) (ob.ext x3) st p i hstl (by omega) (by omega)).to ?_
      rintro _ g4 ⟨rfl, x4⟩
      refine ⟨_, rfl, _, rfl, _, rfl, _, rfl, ?_⟩
      have x04 := x3.trans x4
      have os4 := os3.ext x4
      rw [w64_of (n := (i : Int) + 1) (by omega) (by omega)]
      refine bif_b (fun qc => ?_) (fun qc => ?_)
      · rw [if_pos qc]
        have hsi : D.stepI st p i < D.lim := Dp.stepI_lt ok (by omega)
        refine os4.rd.ldG (by omega) (by rw [cnt3.1]; omega) ?_
        refine os4.stI (by omega) (by omega) _ fun g5 o5 b5 n5 => ?_
        rw [Int.toNat_natCast] at o5
        exact hZ _ _ ⟨i + 1, _, by push_cast; rfl, by omega, o5, cnt3.add ⟨hre, by omega, qc⟩ hsi (by omega) n1, x04.but_ b5 (by rw [so11]; exact some_le (Nat.le_refl _))⟩ (by omega)
      · exact hZ _ _ ⟨i + 1, l3, by push_cast; rfl, by omega, os4, cnt3.skip (fun h => by have := h.2.2; rw [qc] at this; cases this), x04⟩ (by omega)
    · have hstl : st = D.lim := by omega
      subst hstl
      have row := cnt2.row ok
      refine ⟨rfl, rfl, (ob.ext x2).ldS (i := 5) rfl rfl ?_⟩
      have lx2 := x2.len
      refine newS_ow (by rfl) fun sv g3 osv lsv sov e3 => ?_
      have x23 : Ext g2 g3 := by rw [e3]; exact Ext.app _ _
      have x03 := x2.trans x23
      refine app_ow (by omega) (tv.ext x03) osv.rd (by rw [hcl, lsv]; unfold lim; omega) fun s3 g4 os4 ls4 b4 k4 _ => ?_
      rw [hoc] at b4
      have so4 := k4 _ hoc
      have ob4 := (ob.ext x03).but b4 (sne hcf)
      refine ⟨rfl, rfl, ob4.st1 (n := 7) (i := 5) rfl (by decide) _ fun g5 ob5 b5 n5 => ?_⟩
      rw [w64_of (n := (p : Int) + 1) (by omega) (by omega)]
      have c5 : Chg (fun i => i = fo ∨ i = oc) g0 g5 := ((x03.chg _).trans (b4.chg fun i e => .inr (Option.some.inj e).symm)).trans (b5.chg fun i e => .inl (Option.some.inj e).symm)
      have hs11 : s11.o ≠ some oc ∧ s11.o ≠ some fo := by rw [so11]; exact ⟨sne (by omega), sne (by omega)⟩
      have keep : ∀ {w : Sl} {cs : List AVal}, Rd g2 w 1 cs → w.o ≠ some oc ∧ w.o ≠ some fo → Rd g5 w 1 cs := fun r hw => ((r.ext x23).but b4 (.inl (Ne.symm hw.1))).but b5 (.inl (Ne.symm hw.2))
      refine hX _ _ ⟨p + 1, s3, vs ++ [s11], by push_cast; rfl, by omega, ob5, (show Ow g4 s3 1 ((vs ++ [s11]).map .sl) from by rw [List.map_append]; exact os4).but b5 (.inl (by rw [so4]; exact sne (Ne.symm hcf))), so4, by simp [hvl], fun j w' hw' => ?_, cg.trans c5⟩ (by omega)
      rw [List.getElem?_append] at hw'
      split at hw'
      · next hlt =>
        obtain ⟨l', r', y', z'⟩ := hrow j w' hw'
        exact ⟨l', keep (r'.ext x2) z', y', z'⟩
      · next hge =>
        have hj := (List.getElem?_eq_some_iff.1 hw').1
        have hm := List.mem_of_getElem? hw'
        simp at hj hm
        subst hm
        have hjp : j = p + 1 := by omega
        subst hjp
        exact ⟨l, keep os2.rd hs11, row, hs11⟩
  · have hpl : p = D.size := by omega
    subst hpl
    refine hK g0 cn cg ob ⟨vs, hvl, fun g' b => ⟨tv.rd.but b (.inl (by rw [hoc]; exact sne (Ne.symm hcf))), fun j w hw => ?_⟩⟩
    obtain ⟨l', r', y', z1, z2⟩ := hrow j w hw
    exact ⟨l', r'.but b (.inl (Ne.symm z2)), y'⟩
end
end Go.Proofs.Ytgeakkmpohjohaa.Cl

/- Fillings by places: what is alive; the filler is made. No claim is stated here. -/
set_option linter.unusedVariables false
set_option linter.unusedSimpArgs false
namespace Go.Proofs.Ytgeakkmpohjohaa.Cl
open Go
theorem But.past {o : Option Nat} {g a c : H} {p : Nat} (b : But o g a) (x : But (some p) a c) (hp : g.length ≤ p) : But o g c :=
  ⟨Nat.le_trans b.1 x.1, fun i hi hn => by rw [x.2 i (by have := b.1; omega) (by intro e; have := Option.some.inj e; omega), b.2 i hi hn]⟩
theorem Ow.stB {h : H} {s : Sl} {l : List Bool} (r : Ow h s 1 (l.map .bool)) {i : Nat} (h1 : i < s.len) (x : Bool) {K : H → Prop}
    (hk : ∀ h', Ow h' s 1 ((l.set i x).map .bool) → But s.o h h' → h'.length = h.length → K h') : ixS s 1 (i : Int) fun p => Cl.st1 p (.bool x) h K :=
  r.stC (by omega) (by omega) _ fun h' o b n => hk h' (by rw [Int.toNat_natCast, ← List.map_set] at o; exact o) b n
section
variable {c : Int} {ts : List Tile} {plan borders : List (List Int)} {u q bq pw cn al : Sl} {fo : Nat}
set_option maxHeartbeats 1000000 in
theorem newL8_c (hs : setOK c ts) (hp : PlanOK c ts.length plan borders) {K0 : AVal → H → Prop} {g1 : H} {a0 oal : Nat} {cn alv : Sl}
    (hst : ∀ g, But (some oal) g1 g → FilH c ts plan borders u q bq pw g ∧ Obj g a0 (SetC c u) ∧ Obj g fo (FilC c u q bq pw cn alv))
    {vs : List Sl} (hvl : vs.length = (dpOf c ts plan borders).size + 1) (rvs1 : Rd g1 cn 1 (vs.map .sl)) (hca : cn.o ≠ some oal) (hcnt1 : ∀ (j : Nat) w, vs[j]? = some w → w.o ≠ some oal ∧ ∃ l, Rd g1 w 1 (ic l) ∧ CntRow (dpOf c ts plan borders) j l)
    (t0 : Ow g1 alv 1 ((List.replicate ((dpOf c ts plan borders).size + 1) Sl.nil).map .sl)) (hoa : alv.o = some oal)
    (hK : ∀ g, But (some oal) g1 g → AlvT (dpOf c ts plan borders) g alv → K0 (.ptr ⟨some fo, 7, 0⟩) g) :
    impl_newFiller_L8 SP K0 ⟨some a0, 2, 0⟩ ⟨some fo, 7, 0⟩ ((dpOf c ts plan borders).lim : Nat) ((dpOf c ts plan borders).size : Nat) g1 := by
  obtain ⟨d1, d2, d3, d4, d5, d6, d7, d8, d9⟩ := dims hs hp
  have ok := dp_ok hs hp
  have hfit := fun {h : H} {cn al : Sl} (f : FilH c ts plan borders u q bq pw h) (ob : Obj h fo (FilC c u q bq pw cn al)) (s p i : Nat) (a : s < (dpOf c ts plan borders).c ^ ((dpOf c ts plan borders).w + 1)) (b : i < ts.length) (d : p < plan.length * (rw_ plan 0).length) => fits_c hs hp f ob a b d
  have hsize := fun {h : H} {cn al : Sl} (f : FilH c ts plan borders u q bq pw h) (ob : Obj h fo (FilC c u q bq pw cn al)) => size_c hs hp f ob
  have Dn' : (dpOf c ts plan borders).n = ts.length := rfl
  have Ds' : (dpOf c ts plan borders).size = plan.length * (rw_ plan 0).length := rfl
  have Dc' : (dpOf c ts plan borders).c = c.toNat := rfl
  have Dw' : (dpOf c ts plan borders).w = (rw_ plan 0).length := rfl
  rw [← Ds'] at hsize
  generalize dpOf c ts plan borders = D at ok hfit hsize Dn' Ds' Dc' Dw' hst hvl hcnt1 t0 hK ⊢
  have hlim : D.lim ≤ 46656 := pow_small (by omega) (by omega)
  have hlim0 : 0 < D.lim := Nat.pow_pos ok.hc
  have hol1 := t0.lt hoa
  refine impl_newFiller_rule8 _ _ _ _ _ (fun i g => ∃ (p1 : Nat) (ws : List Sl), i = (p1 : Int) - 1 ∧ p1 ≤ D.size + 1 ∧ Ow g alv 1 (ws.map .sl) ∧ ws.length = D.size + 1 ∧ (∀ (j : Nat) w, p1 ≤ j → ws[j]? = some w → ∃ bl : List Bool, Rd g w 1 (bl.map .bool) ∧ AlvRow D j bl ∧ w.o ≠ some oal) ∧ But (some oal) g1 g) (fun i _ => (i + 1).toNat) ?_ _
    ⟨D.size + 1, _, by push_cast; omega, Nat.le_refl _, t0, by simp, fun j w hj hw => by
      have := (List.getElem?_eq_some_iff.1 hw).1
      simp at this; omega, But.refl _ _⟩
  rintro X _ g ⟨p1, ws, rfl, hp1, tv, hwl, hrow, bg⟩ hX
  unfold impl_newFiller_b8 impl_newFiller_C8
  have hal : alv.len = D.size + 1 := by have := tv.len; rw [List.length_map, hwl, Nat.mul_one] at this; omega
  refine bif_dec (fun hi => ?_) (fun hi => ?_)
  · obtain ⟨p, rfl⟩ : ∃ p, p1 = p + 1 := ⟨p1 - 1, by omega⟩
    rw [show ((p + 1 : Nat) : Int) - 1 = (p : Int) by omega] at hX ⊢
    obtain ⟨f0, o0, ob0⟩ := hst g bg
    refine ⟨rfl, rfl, ob0.ldS (i := 6) rfl rfl ?_⟩
    refine mkS_ow (by omega) (by unfold lim; omega) fun s1 h2 os1 ls1 so1 e2 => ?_
    have x2 : Ext g h2 := by rw [e2]; exact Ext.app _ _
    have l2 : h2.length = g.length + 1 := by rw [e2]; simp
    have hz : (List.replicate (D.lim : Int).toNat [AVal.bool false]).flatten = (List.replicate D.lim false).map .bool := by
      rw [List.map_replicate, Int.toNat_natCast]; simp
    rw [hz] at os1
    have ls1' : s1.len = D.lim := by rw [ls1]; omega
    refine ⟨((ob0.ext x2).cellE rfl).trans (ob0.cellE rfl).symm, ?_⟩
    refine (tv.ext x2).stC (by omega) (by omega) _ fun g4 tv4 b4 n4 => ?_
    rw [hoa] at b4
    rw [Int.toNat_natCast, ← List.map_set] at tv4
    have bg4 : But (some oal) g1 g4 := (bg.trans (x2.but _)).trans b4
    have lg1 := bg.1
    have hs1a : s1.o ≠ some oal := by rw [so1]; exact fun e => by have := Option.some.inj e; omega
    have os4 := os1.but b4 (.inl (Ne.symm hs1a))
    obtain ⟨f4, o4, ob4⟩ := hst g4 bg4
    refine ⟨rfl, rfl, ob4.ldS (i := 5) rfl rfl ?_⟩
    have hcl : cn.len = D.size + 1 := by have := rvs1.len; rw [List.length_map, hvl, Nat.mul_one] at this; omega
    refine (rvs1.but bg4 (.inl (Ne.symm hca))).ldS (by omega) (by omega) fun w hw => ?_
    rw [Int.toNat_natCast] at hw
    obtain ⟨hwa, lw, rw1, yw⟩ := hcnt1 p w hw
    have lwl : w.len = D.lim := by have := rw1.ilen; rw [yw.1] at this; exact this
    have hwg : w.o ≠ some g.length := fun e => by
      obtain hl | ⟨_, _, cc⟩ := rw1.at_
      · omega
      · obtain ⟨oc, xs, w1, w2, _⟩ := range_some cc
        rw [e] at w1; cases w1
        have := cells_lt w2
        omega
    have rw4 := rw1.but bg4 (.inl (Ne.symm hwa))
    have past : ∀ {g' : H}, But (some g.length) g4 g' → But (some oal) g1 g' := fun b => bg4.past b lg1
    have hn1 : g.length ≠ oal := by omega
    have tvk : ∀ {g' : H}, But (some g.length) g4 g' → Ow g' alv 1 ((ws.set p s1).map .sl) := fun b => tv4.but b (.inl (by rw [hoa]; exact sne hn1))
    have gets : (ws.set p s1)[p]? = some s1 := List.getElem?_set_self (by omega)
    rw [lwl]
    refine impl_newFiller_rule10 _ _ X _ _ _ _ _ _ (fun st g' => ∃ (k : Nat) (bl : List Bool), st = k ∧ k ≤ D.lim ∧ Ow g' s1 1 (bl.map .bool) ∧ bl.length = D.lim ∧ (∀ s, s < D.lim → (bl.getD s false = true ↔ s < k ∧ D.alive p s)) ∧ But (some g.length) g4 g') (fun st _ => (D.lim - st).toNat) ?_ _
      ⟨0, _, rfl, by omega, os4, by simp, fun s hs' => by
        have : (List.replicate D.lim false).getD s false = false := by rw [List.getD_eq_getElem?_getD, List.getElem?_replicate, if_pos hs']; rfl
        rw [this]
        exact ⟨(fun e => by cases e), fun e => by omega⟩, But.refl _ _⟩
    rintro Y _ g5 ⟨st, bl, rfl, hstl, os5, hbl, hb5, b5⟩ hY
    unfold impl_newFiller_b10 impl_newFiller_C10 impl_newFiller_C9 impl_newFiller_C11
    refine bif_dec (fun hi2 => ?_) (fun hi2 => ?_)
    · have hst' : st < D.lim := by omega
      have rw5 := rw4.but b5 (.inl (Ne.symm hwg))
      refine rw5.ldG (by omega) (by rw [yw.1]; omega) ?_
      rw [Int.toNat_natCast]
      obtain ⟨y1, y2, y3⟩ := yw.2 st hst'
      have nxt : ∀ (g' : H) (bl' : List Bool), Ow g' s1 1 (bl'.map .bool) → bl'.length = D.lim → (∀ s, s < D.lim → s ≠ st → (bl'.getD s false = true ↔ s < st ∧ D.alive p s)) → (bl'.getD st false = true ↔ D.alive p st) → But (some g.length) g4 g' → Y (impl_newFiller_e10 ⟨some a0, 2, 0⟩ ⟨some fo, 7, 0⟩ (D.lim : Nat) p w (D.lim : Nat) (w64 (st + 1))) g' := fun g' bl' o' hl' h1 h2 b' => by
        rw [w64_of (n := (st : Int) + 1) (by omega) (by omega)]
        refine hY _ _ ⟨st + 1, bl', by push_cast; rfl, by omega, o', hl', fun s hs' => ?_, b'⟩ (by omega)
        by_cases e : s = st
        · subst e; exact h2.trans ⟨fun h => ⟨by omega, h⟩, fun h => h.2⟩
        · exact (h1 s hs' e).trans ⟨fun h => ⟨by omega, h.2⟩, fun h => ⟨by omega, h.2⟩⟩
      refine bif_eq (fun q0 => nxt _ bl os5 hbl (fun s hs' _ => hb5 s hs') ((hb5 st hst').trans ⟨fun h => by omega, fun h => by have := y3.2 h.1; omega⟩) b5) (fun q0 => ?_)
      have hre := y3.1 (by omega)
      obtain ⟨f5, o5, ob5⟩ := hst g5 (past b5)
      refine ⟨rfl, rfl, ob5.ldS (i := 6) rfl rfl ?_⟩
      refine (tvk b5).rd.ldS (by omega) (by simp; omega) fun s1' hs1' => ?_
      rw [Int.toNat_natCast, gets] at hs1'
      cases hs1'
      refine (hsize f5 ob5).to ?_
      rintro _ _ ⟨rfl, rfl⟩
      refine ⟨rfl, rfl, ?_⟩
      refine os5.stB (by omega) _ fun g6 os6 b6 n6 => ?_
      rw [so1] at b6
      have b46 := b5.trans b6
      obtain ⟨f6, o6, ob6⟩ := hst g6 (past b46)
      refine isPt_in (o6.ldS (i := 1) rfl rfl ?_)
      rw [f6.ru.tlen]
      have eqp : ((p : Int) == (D.size : Int)) = decide (p = D.size) := by rw [Bool.eq_iff_iff, beq_iff_eq, decide_eq_true_eq]; omega
      rw [eqp] at os6
      refine impl_newFiller_rule12 _ _ X Y _ _ _ _ _ _ _ _ _ (fun i g' => ∃ (k : Nat) (bl' : List Bool), i = k ∧ k ≤ D.n ∧ Ow g' s1 1 (bl'.map .bool) ∧ bl'.length = D.lim ∧ (∀ s, s < D.lim → s ≠ st → (bl'.getD s false = true ↔ s < st ∧ D.alive p s)) ∧ (bl'.getD st false = true ↔ (p = D.size ∨ ∃ i', i' < k ∧ D.can st p i' = true ∧ D.alive (p + 1) (D.stepI st p i'))) ∧ But (some g.length) g4 g') (fun i _ => (D.n - i).toNat) ?_ _
        ⟨0, _, rfl, by omega, os6, by simp [hbl], fun s hs' hne => by rw [getDB_set (by omega), if_neg (Ne.symm hne)]; exact hb5 s hs', by
          rw [getDB_set (by omega), if_pos rfl, decide_eq_true_eq]
          exact ⟨fun h => .inl h, fun h => h.resolve_right (fun ⟨i', h1, _⟩ => by omega)⟩, b46⟩
      rintro Z _ g7 ⟨i, bl7, rfl, hin, os7, hbl7, hb7, hs7, b7⟩ hZ
      unfold impl_newFiller_b12 impl_newFiller_C12 impl_newFiller_C11
      obtain ⟨f7, o7, ob7⟩ := hst g7 (past b7)
      refine bif_dec (fun hi3 => ?_) (fun hi3 => ?_)
      · refine (hsize f7 ob7).to ?_
        rintro _ _ ⟨rfl, rfl⟩
        refine bif_eq (fun qp => ?_) (fun qp => ?_)
        · have hps : p = D.size := by omega
          refine nxt _ bl7 os7 hbl7 hb7 (hs7.trans ⟨fun _ => ?_, fun _ => .inl hps⟩) b7
          rw [hps, alive_end, ← hps]; exact hre
        have hpl : p < D.size := by omega
        refine ⟨rfl, rfl, ob7.ldS (i := 6) rfl rfl ?_⟩
        refine (tvk b7).rd.ldS (by omega) (by simp; omega) fun s1' hs1' => ?_
        rw [Int.toNat_natCast, gets] at hs1'
        cases hs1'
        refine Rd.ldB os7.rd (by omega) (by omega) fun b hb => ?_
        rw [Int.toNat_natCast] at hb
        have hbs : bl7.getD st false = b := by rw [List.getD_eq_getElem?_getD, hb]; rfl
        refine bif_b (fun qb => ?_) (fun qb => ?_)
        · refine nxt _ bl7 os7 hbl7 hb7 ⟨fun _ => ?_, fun _ => by rw [hbs, qb]⟩ b7
          obtain ⟨i', h1, h2, h3⟩ := (hs7.1 (by rw [hbs, qb])).resolve_left (by omega)
          exact (alive_step hpl hre).2 ⟨i', by omega, h2, h3⟩
        have hno : ¬ ∃ i', i' < i ∧ D.can st p i' = true ∧ D.alive (p + 1) (D.stepI st p i') := fun h => by
          have := hs7.2 (.inr h)
          rw [hbs, qb] at this; cases this
        refine (hfit f7 ob7 st p i hst' (by omega) (by omega)).to ?_
        rintro _ g8 ⟨rfl, x8⟩
        have b8 := b7.trans (x8.but (some g.length))
        have os8 := os7.ext x8
        obtain ⟨f8, o8, ob8⟩ := hst g8 (past b8)
        refine ⟨_, rfl, _, rfl, _, rfl, _, rfl, ?_⟩
        refine ⟨rfl, rfl, ob8.ldS (i := 6) rfl rfl ?_⟩
        refine (tvk b8).rd.ldS (by omega) (by simp; omega) fun s1' hs1' => ?_
        rw [Int.toNat_natCast, gets] at hs1'
        cases hs1'
        have fin : ∀ v : Bool, (v = true ↔ D.can st p i = true ∧ D.alive (p + 1) (D.stepI st p i)) → ixS s1 1 st fun p21 => Cl.st1 p21 (.bool v) g8 fun h22 => Z (impl_newFiller_e12 ⟨some a0, 2, 0⟩ ⟨some fo, 7, 0⟩ (D.lim : Nat) p st w (D.lim : Nat) st (ts.length : Nat) (w64 (i + 1))) h22 := fun v hv => by
          refine os8.stB (by omega) _ fun g9 os9 b9 n9 => ?_
          rw [so1] at b9
          rw [w64_of (n := (i : Int) + 1) (by omega) (by omega)]
          refine hZ _ _ ⟨i + 1, _, by push_cast; rfl, by omega, os9, by simp [hbl7], fun s hs' hne => by rw [getDB_set (by omega), if_neg (Ne.symm hne)]; exact hb7 s hs' hne, ?_, b8.trans b9⟩ (by omega)
          rw [getDB_set (by omega), if_pos rfl, hv]
          constructor
          · rintro ⟨h1, h2⟩; exact .inr ⟨i, by omega, h1, h2⟩
          · rintro (h | ⟨i', h1, h2, h3⟩)
            · omega
            · by_cases e : i' = i
              · subst e; exact ⟨h2, h3⟩
              · exact absurd ⟨i', by omega, h2, h3⟩ hno
        refine bif_b (fun qc => ?_) (fun qc => fin false (by rw [qc]; simp))
        refine ⟨rfl, rfl, ob8.ldS (i := 6) rfl rfl ?_⟩
        rw [w64_of (n := (p : Int) + 1) (by omega) (by omega)]
        refine (tvk b8).rd.ldS (by omega) (by simp; omega) fun w' hw' => ?_
        rw [show ((p : Int) + 1).toNat = p + 1 by omega, List.getElem?_set_ne (by omega)] at hw'
        obtain ⟨bn, rn, yn, hna⟩ := hrow (p + 1) w' (by omega) hw'
        rw [if_pos qc]
        have hsi : D.stepI st p i < D.lim := Dp.stepI_lt ok (by omega)
        have hw'g : w'.o ≠ some g.length := fun e => by
          obtain hl | ⟨_, _, cc⟩ := rn.at_
          · have := rn.len; rw [List.length_map, yn.1, hl] at this; omega
          · obtain ⟨oc, xs, w1, w2, _⟩ := range_some cc
            rw [e] at w1; cases w1
            have := cells_lt w2
            omega
        have rn8 := ((rn.ext x2).but b4 (.inl (Ne.symm hna))).but b8 (.inl (Ne.symm hw'g))
        refine Rd.ldB rn8 (by omega) (by rw [yn.1]; omega) fun b hb => ?_
        rw [Int.toNat_natCast] at hb
        refine fin b ?_
        have := yn.2 _ hsi
        rw [List.getD_eq_getElem?_getD, hb] at this
        exact this.trans ⟨fun h => ⟨qc, h⟩, fun h => h.2⟩
      · have hin' : i = D.n := by omega
        subst hin'
        refine nxt _ bl7 os7 hbl7 hb7 (hs7.trans ?_) b7
        rcases Nat.lt_or_ge p D.size with hpl | hpl
        · rw [alive_step hpl hre]
          exact ⟨fun h => h.resolve_left (by omega), fun h => .inr h⟩
        · have hps : p = D.size := by omega
          exact ⟨fun _ => by rw [hps, alive_end, ← hps]; exact hre, fun _ => .inl hps⟩
    · have hst' : st = D.lim := by omega
      subst hst'
      rw [w64_of (n := (p : Int) - 1) (by omega) (by omega)]
      refine hX _ _ ⟨p, _, rfl, by omega, tvk b5, by simp [hwl], fun j w' hj hw' => ?_, past b5⟩ (by omega)
      rcases Nat.lt_or_ge p j with hlt | hge
      · rw [List.getElem?_set_ne (by omega)] at hw'
        obtain ⟨bn, rn, yn, hna⟩ := hrow j w' (by omega) hw'
        have hw'g : w'.o ≠ some g.length := fun e => by
          obtain hl | ⟨_, _, cc⟩ := rn.at_
          · have := rn.len; rw [List.length_map, yn.1, hl] at this; omega
          · obtain ⟨oc, xs, w1, w2, _⟩ := range_some cc
            rw [e] at w1; cases w1
            have := cells_lt w2
            omega
        exact ⟨bn, ((rn.ext x2).but b4 (.inl (Ne.symm hna))).but b5 (.inl (Ne.symm hw'g)), yn, hna⟩
      · have hjp : j = p := by omega
        subst hjp
        rw [gets] at hw'
        cases hw'
        exact ⟨bl, os5.rd, ⟨hbl, fun s hs' => (hb5 s hs').trans ⟨fun h => h.2, fun h => ⟨hs', h⟩⟩⟩, hs1a⟩
  · have hp0 : p1 = 0 := by omega
    subst hp0
    refine hK g bg ⟨ws, hwl, tv.rd, fun j w hw => ?_⟩
    obtain ⟨bl, r, y, _⟩ := hrow j w (by omega) hw
    exact ⟨bl, r, y⟩
end
end Go.Proofs.Ytgeakkmpohjohaa.Cl

/- Fillings by places: the filler is made; the tiles that stand at a place. No claim is stated here. -/
set_option linter.unusedVariables false
set_option linter.unusedSimpArgs false
namespace Go.Proofs.Ytgeakkmpohjohaa.Cl
open Go
theorem powL_succ (c k : Nat) : powL c (k + 1) = powL c k ++ [((c ^ (k + 1) : Nat) : Int)] := by unfold powL; rw [List.range_succ, List.map_append]; rfl
theorem Rd.olt {h : H} {s : Sl} {z : Nat} {cs : List AVal} (r : Rd h s z cs) (hs : 0 < s.len) {i : Nat} (e : s.o = some i) : i < h.length := by
  obtain hl | ⟨_, _, c⟩ := r.at_
  · omega
  · obtain ⟨o, xs, e1, e2, _⟩ := range_some c
    rw [e] at e1; cases e1
    exact cells_lt e2
section
variable {c : Int} {ts : List Tile} {plan borders : List (List Int)} {u q bq : Sl}
theorem size_k (hs : setOK c ts) (hp : PlanOK c ts.length plan borders) {pw cn al : Sl} {fo : Nat} {h : H} (f : FilH c ts plan borders u q bq pw h) (ob : Obj h fo (FilC c u q bq pw cn al)) {K : Int → H → Prop} (x : K ((plan.length * (rw_ plan 0).length : Nat) : Int) h) : callI SP .i64 i_impl_filler_size [.ptr ⟨some fo, 7, 0⟩] h K :=
  (size_c hs hp f ob).to (by rintro _ _ ⟨rfl, rfl⟩; exact x)
set_option maxHeartbeats 1000000 in
theorem newFiller_c (hs : setOK c ts) (hp : PlanOK c ts.length plan borders) {h : H} (ru : Rd h u 4 (tcs ts)) (rq : RdSS h q plan) (rb : RdSS h bq borders) :
    callP SP i_impl_newFiller [.agg (SetC c u), .sl q, .sl bq] h fun p h' => (∃ fo pw cn al, p = ⟨some fo, 7, 0⟩ ∧ Obj h' fo (FilC c u q bq pw cn al) ∧ FilH c ts plan borders u q bq pw h' ∧ AlvT (dpOf c ts plan borders) h' al) ∧ Ext h h' := by
  obtain ⟨d1, d2, d3, d4, d5, d6, d7, d8, d9⟩ := dims hs hp
  have ok := dp_ok hs hp
  have hql := rq.len
  have hlim : (dpOf c ts plan borders).lim ≤ 46656 := pow_small (by show c.toNat ≤ 6; omega) (by show (rw_ plan 0).length + 1 ≤ 6; omega)
  have hlim0 : 0 < (dpOf c ts plan borders).lim := Nat.pow_pos ok.hc
  have elim : (dpOf c ts plan borders).lim = c.toNat ^ (rw_ plan 0).length * c.toNat := by show c.toNat ^ ((rw_ plan 0).length + 1) = _; rw [Nat.pow_succ]
  have esz : (dpOf c ts plan borders).size = plan.length * (rw_ plan 0).length := rfl
  apply impl_newFiller_call
  unfold impl_newFiller_main
  refine newK_obj fun h1 o0 x1 l1 => ?_
  refine o0.ldA rfl ?_
  refine newS_ow (by rfl) fun s3 h4 os3 ls3 so3 e4 => ?_
  have x4 : Ext h1 h4 := by rw [e4]; exact Ext.app _ _
  have l4 : h4.length = h1.length + 1 := by rw [e4]; simp
  refine ⟨rfl, ?_⟩
  refine newK_obj fun h6 ob6 x6 l6 => ?_
  have ob6 : Obj h6 h4.length (FilC c u q bq s3 Sl.nil Sl.nil) := ob6
  have x06 := x1.trans (x4.trans x6)
  refine (rq.ext x06).ldG (i := 0) (by omega) (by omega) fun v0 rv0 lv0 => ?_
  replace lv0 : v0.len = (rw_ plan 0).length := lv0
  clear rv0
  rw [lv0]
  refine impl_newFiller_rule0 _ _ _ _ _ (fun i g => ∃ (k : Nat) (pv : Sl), i = k ∧ k ≤ (rw_ plan 0).length ∧ Obj g h4.length (FilC c u q bq pv Sl.nil Sl.nil) ∧ Ow g pv 1 (ic (powL c.toNat k)) ∧ pv.o = some h1.length ∧ Ext h g ∧ Obj g h.length (SetC c u) ∧ h6.length ≤ g.length) (fun i _ => ((rw_ plan 0).length - i).toNat) ?_ _
    ⟨0, s3, rfl, by omega, ob6, os3.ext x6, so3, x06, o0.ext (x4.trans x6), Nat.le_refl _⟩
  rintro X _ g ⟨k, pv, rfl, hk, ob, op, so, xg, o0, lg⟩ hX
  unfold impl_newFiller_b0 impl_newFiller_C0
  have lpv : pv.len = k + 1 := by have := op.rd.ilen; rw [powL_len] at this; exact this
  have hck : c.toNat ^ (k + 1) ≤ 46656 := pow_small d1 (by omega)
  refine bif_dec (fun hi => ?_) (fun hi => ?_)
  · refine ⟨rfl, rfl, ob.ldS (i := 4) rfl rfl ⟨rfl, rfl, ob.ldS (i := 4) rfl rfl ⟨rfl, rfl, ob.ldS (i := 4) rfl rfl ?_⟩⟩⟩
    rw [lpv, w64_of (n := ((k + 1 : Nat) : Int) - 1) (by omega) (by omega), show ((k + 1 : Nat) : Int) - 1 = (k : Int) by omega]
    refine op.rd.ldG (by omega) (by rw [powL_len]; omega) ?_
    rw [Int.toNat_natCast, powL_at (Nat.le_refl _)]
    refine isPt_in (o0.ldI (i := 0) (m := c) rfl rfl ?_)
    have ec : w64 (((c.toNat ^ k : Nat) : Int) * c) = ((c.toNat ^ (k + 1) : Nat) : Int) := by
      rw [Nat.pow_succ] at hck ⊢
      rw [show ((c.toNat ^ k : Nat) : Int) * c = ((c.toNat ^ k * c.toNat : Nat) : Int) by rw [Int.natCast_mul, d3]]
      exact w64_nat (by omega)
    rw [ec]
    refine newS_ow (by rfl) fun s6 h7 os6 ls6 so6 e7 => ?_
    have x7 : Ext g h7 := by rw [e7]; exact Ext.app _ _
    refine ⟨((ob.ext x7).cellE rfl).trans (ob.cellE rfl).symm, ?_⟩
    refine app_ow (by omega) (op.ext x7) os6.rd (by rw [lpv, ls6]; unfold lim; omega) fun s8 h9 os8 ls8 b9 k9 _ => ?_
    rw [so] at b9
    have so8 := k9 _ so
    have ob9 := (ob.ext x7).but b9 (sne (by omega))
    refine ⟨rfl, rfl, ob9.st1 (n := 7) (i := 4) rfl (by decide) _ fun h10 ob10 b10 n10 => ?_⟩
    rw [w64_of (n := (k : Int) + 1) (by omega) (by omega)]
    have lb9 := b9.1
    have lx7 := x7.len
    refine hX _ _ ⟨k + 1, s8, by push_cast; rfl, by omega, ob10, ?_, so8, ((xg.trans x7).but_ b9 (some_le (by omega))).but_ b10 (some_le (by omega)), ((o0.ext x7).but b9 (sne (by omega))).but b10 (sne (by omega)), by omega⟩ (by omega)
    have o9 : Ow h9 s8 1 (ic (powL c.toNat (k + 1))) := by rw [powL_succ, ic_app]; exact os8
    exact o9.but b10 (.inl (by rw [so8]; exact sne (by omega)))
  · have hkw : k = (rw_ plan 0).length := by omega
    subst hkw
    refine ⟨rfl, rfl, ob.ldS (i := 4) rfl rfl ⟨rfl, rfl, ob.ldS (i := 4) rfl rfl ?_⟩⟩
    rw [lpv, w64_of (n := (((rw_ plan 0).length + 1 : Nat) : Int) - 1) (by omega) (by omega), show (((rw_ plan 0).length + 1 : Nat) : Int) - 1 = ((rw_ plan 0).length : Int) by omega]
    refine op.rd.ldG (by omega) (by rw [powL_len]; omega) ?_
    rw [Int.toNat_natCast, powL_at (Nat.le_refl _)]
    refine isPt_in (o0.ldI (i := 0) (m := c) rfl rfl ?_)
    have ec : w64 (((c.toNat ^ (rw_ plan 0).length : Nat) : Int) * c) = ((dpOf c ts plan borders).lim : Int) := by
      rw [elim]
      rw [elim] at hlim
      rw [show ((c.toNat ^ (rw_ plan 0).length : Nat) : Int) * c = ((c.toNat ^ (rw_ plan 0).length * c.toNat : Nat) : Int) by rw [Int.natCast_mul, d3]]
      exact w64_nat (by omega)
    rw [ec]
    refine mkS_ow (by omega) (by unfold lim; omega) fun s5 h7 os5 ls5 so5 e7 => ?_
    have x7 : Ext g h7 := by rw [e7]; exact Ext.app _ _
    have l7 : h7.length = g.length + 1 := by rw [e7]; simp
    have hz : (List.replicate (((dpOf c ts plan borders).lim : Nat) : Int).toNat [AVal.int .i64 0]).flatten = ic (List.replicate (dpOf c ts plan borders).lim 0) := by
      unfold ic
      rw [List.map_replicate, Int.toNat_natCast]; simp
    rw [hz] at os5
    have ls5' : s5.len = (dpOf c ts plan borders).lim := by rw [ls5]; omega
    refine os5.stI (i := 0) (by omega) (by omega) _ fun h8 os8 b8 n8 => ?_
    rw [so5] at b8
    have x8 : Ext g h8 := x7.but_ b8 (some_le (Nat.le_refl _))
    refine ⟨rfl, rfl, (ob.ext x8).ldS (i := 5) rfl rfl ?_⟩
    refine newS_ow (by rfl) fun s10 h11 os10 ls10 so10 e11 => ?_
    have x11 : Ext h8 h11 := by rw [e11]; exact Ext.app _ _
    have l11 : h11.length = h8.length + 1 := by rw [e11]; simp
    have x811 := x8.trans x11
    have lx811 := x811.len
    refine app_ow (by omega) (Ow.nil h11 1) os10.rd (by rw [ls10]; unfold lim; simp [Sl.nil]) fun s12 h13 os12 ls12 b13 _ k13 => ?_
    have x13 : Ext h11 h13 := b13.ext (fun i e => by cases e)
    have hoc : ∃ oc, s12.o = some oc := by
      obtain ⟨_, b⟩ | ⟨o, a, _⟩ := os12.at_
      · rw [ls10] at ls12; omega
      · exact ⟨o, a⟩
    obtain ⟨oc, hoc⟩ := hoc
    have hocl := k13 rfl oc hoc
    have xg13 := x811.trans x13
    have ob13 := ob.ext xg13
    refine ⟨rfl, rfl, ob13.st1 (n := 7) (i := 5) rfl (by decide) _ fun h14 ob14 b14 n14 => ?_⟩
    have xh14 : Ext h h14 := (xg.trans xg13).but_ b14 (some_le (by omega))
    have pw14 : Rd h14 pv 1 (ic (powL c.toNat (rw_ plan 0).length)) := (op.ext xg13).rd.but b14 (.inl (by rw [so]; exact sne (by omega)))
    have o014 := (o0.ext xg13).but b14 (sne (by omega))
    have fil : ∀ g', Ext h g' → Rd g' pv 1 (ic (powL c.toNat (rw_ plan 0).length)) → FilH c ts plan borders u q bq pv g' := fun g' x r => ⟨ru.ext x, rq.ext x, rb.ext x, r⟩
    refine size_k hs hp (fil _ xh14 pw14) ob14 ?_
    rw [← esz]
    have hst : ∀ g', Chg (fun i => i = h4.length ∨ i = oc) h14 g' → FilH c ts plan borders u q bq pv g' ∧ Obj g' h.length (SetC c u) := fun g' ch => by
      refine ⟨fil g' (xh14.chg_ ch fun i hi => by omega) (pw14.chg ch fun i e hi => by rw [so] at e; cases e; omega), o014.chg ch (by omega)⟩
    have t12 : Ow h14 s12 1 [.sl s5] := (show Ow h13 s12 1 [.sl s5] from os12).but b14 (.inl (by rw [hoc]; exact sne (by omega)))
    have row5 : Rd h14 s5 1 (ic ((List.replicate (dpOf c ts plan borders).lim 0).set 0 1)) := ((os8.ext x11).ext x13).rd.but b14 (.inl (by rw [so5]; exact sne (by omega)))
    have hcr : CntRow (dpOf c ts plan borders) 0 ((List.replicate (dpOf c ts plan borders).lim 0).set 0 1) := ⟨by simp, fun s hs' => by
      rw [getD_set (by simp; exact hlim0)]
      split
      · next e => exact ⟨by omega, by omega, ⟨fun _ => e.symm, fun _ => by omega⟩⟩
      · next e =>
        have : (List.replicate (dpOf c ts plan borders).lim (0 : Int)).getD s 0 = 0 := by rw [List.getD_eq_getElem?_getD, List.getElem?_replicate, if_pos hs']; rfl
        rw [this]
        exact ⟨by omega, by omega, ⟨fun e2 => by omega, fun e2 => absurd (show s = 0 from e2).symm e⟩⟩⟩
    refine newL2_c hs hp hst (by omega) ob14 t12 hoc row5 hcr ⟨by rw [so5]; exact sne (by omega), by rw [so5]; exact sne (by omega)⟩ ?_
    rintro g2 cn cg ob2 ⟨vs, hvl, hvs⟩
    obtain ⟨f2, o02⟩ := hst g2 cg
    have xh2 : Ext h g2 := xh14.chg_ cg fun i hi => by omega
    unfold impl_newFiller_C2
    refine size_k hs hp f2 ob2 ?_
    rw [← esz, w64_of (by omega) (by omega)]
    refine mkS_ow (by omega) (by unfold lim; omega) fun alv g3 osa lsa soa e3 => ?_
    have x3 : Ext g2 g3 := by rw [e3]; exact Ext.app _ _
    have hz2 : (List.replicate ((((dpOf c ts plan borders).size : Nat) : Int) + 1).toNat [AVal.sl Sl.nil]).flatten = (List.replicate ((dpOf c ts plan borders).size + 1) Sl.nil).map .sl := by
      rw [List.map_replicate, show ((((dpOf c ts plan borders).size : Nat) : Int) + 1).toNat = (dpOf c ts plan borders).size + 1 by omega]; simp
    rw [hz2] at osa
    have hf2 := ob2.lt
    refine ⟨rfl, rfl, (ob2.ext x3).st1 (n := 7) (i := 6) rfl (by decide) _ fun g4 ob4 b4 n4 => ?_⟩
    have ob4 : Obj g4 h4.length (FilC c u q bq pv cn alv) := ob4
    have b24 : But (some h4.length) g2 g4 := (x3.but _).trans b4
    have xh4 : Ext h g4 := (xh2.trans x3).but_ b4 (some_le (by omega))
    have pw4 : Rd g4 pv 1 (ic (powL c.toNat (rw_ plan 0).length)) := f2.rp.but b24 (.inl (by rw [so]; exact sne (by omega)))
    have o04 := (o02.ext x3).but b4 (sne (by omega))
    refine size_k hs hp (fil _ xh4 pw4) ob4 ?_
    rw [← esz]
    obtain ⟨rc4, rows4⟩ := hvs g4 b24
    obtain ⟨rc2, rows2⟩ := hvs g2 (But.refl _ _)
    have hcl : cn.len = (dpOf c ts plan borders).size + 1 := by have := rc2.len; rw [List.length_map, hvl, Nat.mul_one] at this; omega
    have lg2 : h14.length ≤ g2.length := cg.1
    have hgl := xg13.len
    refine newL8_c (u := u) (q := q) (bq := bq) (pw := pv) hs hp (fun g' b => ?_) hvl rc4 (fun e => by have := rc2.olt (by omega) e; omega) (fun j w hw => ⟨fun e => ?_, rows4 j w hw⟩) (osa.but b4 (.inl (by rw [soa]; exact sne (by omega)))) soa ?_
    · exact ⟨fil g' (xh4.but_ b (some_le (by omega))) (pw4.but b (.inl (by rw [so]; exact sne (by omega)))), o04.but b (sne (by omega)), ob4.but b (sne (by omega))⟩
    · obtain ⟨l, r, y⟩ := rows2 j w hw
      have := r.ilen
      rw [y.1] at this
      have := r.olt (by omega) e
      omega
    · intro g' b at_
      have xg' : Ext h g' := xh4.but_ b (some_le (by omega))
      exact ⟨_, rfl, ⟨h4.length, pv, cn, alv, rfl, ob4.but b (sne (by omega)), fil g' xg' (pw4.but b (.inl (by rw [so]; exact sne (by omega)))), at_⟩, xg'⟩
open Classical in
/-- The tiles that stand at a place, in order. -/
noncomputable def atL (D : Dp) (p k : Nat) : List Int := ((List.range k).filter fun i => decide (D.at_ p i)).map fun (i : Nat) => (i : Int)
open Classical in
theorem atL_succ (D : Dp) (p k : Nat) : atL D p (k + 1) = atL D p k ++ if D.at_ p k then [(k : Int)] else [] := by
  unfold atL
  rw [List.range_succ, List.filter_append, List.map_append]
  congr 1
  by_cases h : D.at_ p k
  · rw [if_pos h]; simp [h]
  · rw [if_neg h]; simp [h]
theorem atL_len (D : Dp) (p k : Nat) : (atL D p k).length ≤ k := by
  unfold atL
  rw [List.length_map]
  exact Nat.le_trans (List.length_filter_le _ _) (by simp)
theorem filler_at_c (hs : setOK c ts) (hp : PlanOK c ts.length plan borders) {h : H} {fo : Nat} {pw cn al : Sl} (ob : Obj h fo (FilC c u q bq pw cn al)) (f : FilH c ts plan borders u q bq pw h) (at_ : AlvT (dpOf c ts plan borders) h al) {p : Nat} (hpl : p < plan.length * (rw_ plan 0).length) :
    callS SP i_impl_filler_at [.ptr ⟨some fo, 7, 0⟩, i64 p] h fun v h' => Ow h' v 1 (ic (atL (dpOf c ts plan borders) p ts.length)) ∧ v.o = some h.length ∧ Ext h h' := by
  obtain ⟨d1, d2, d3, d4, d5, d6, d7, d8, d9⟩ := dims hs hp
  have ok := dp_ok hs hp
  have hfit := fun {h : H} {cn al : Sl} (f : FilH c ts plan borders u q bq pw h) (ob : Obj h fo (FilC c u q bq pw cn al)) (s p i : Nat) (a : s < (dpOf c ts plan borders).c ^ ((dpOf c ts plan borders).w + 1)) (b : i < ts.length) (d : p < plan.length * (rw_ plan 0).length) => fits_c hs hp f ob a b d
  have Dn' : (dpOf c ts plan borders).n = ts.length := rfl
  have Ds' : (dpOf c ts plan borders).size = plan.length * (rw_ plan 0).length := rfl
  have Dc' : (dpOf c ts plan borders).c = c.toNat := rfl
  have Dw' : (dpOf c ts plan borders).w = (rw_ plan 0).length := rfl
  generalize dpOf c ts plan borders = D at ok hfit Dn' Ds' Dc' Dw' at_ ⊢
  have hlim : D.lim ≤ 46656 := pow_small (by omega) (by omega)
  obtain ⟨vs, hvl, rvs, hrow⟩ := at_
  have hal : al.len = D.size + 1 := by have := rvs.len; rw [List.length_map, hvl, Nat.mul_one] at this; omega
  have hul := f.ru.tlen
  apply impl_filler_at_call
  unfold impl_filler_at_main
  refine newS_ow (by rfl) fun s0 h1 os0 ls0 so0 e1 => ?_
  have x1 : Ext h h1 := by rw [e1]; exact Ext.app _ _
  refine ⟨rfl, rfl, rfl, (ob.ext x1).ldS (i := 1) rfl rfl ?_⟩
  rw [hul]
  refine impl_filler_at_rule0 _ _ _ _ _ (fun s i g => ∃ k : Nat, i = k ∧ k ≤ ts.length ∧ Ow g s 1 (ic (atL D p k)) ∧ s.o = some h.length ∧ Ext h g) (fun _ i _ => (ts.length - i).toNat) ?_ _ _
    ⟨0, rfl, by omega, os0, so0, x1⟩
  rintro X s _ g ⟨i, rfl, hi, os, so, xg⟩ hX
  unfold impl_filler_at_b0 impl_filler_at_C0
  refine bif_dec (fun hi2 => ?_) (fun hi2 => ?_)
  · have hil : i < ts.length := by omega
    refine ⟨rfl, rfl, (ob.ext xg).ldS (i := 6) rfl rfl ?_⟩
    refine (rvs.ext xg).ldS (by omega) (by omega) fun w hw => ?_
    rw [Int.toNat_natCast] at hw
    obtain ⟨bl, rb1, yb⟩ := hrow p w hw
    have lw : w.len = D.lim := by have := rb1.len; rw [List.length_map, yb.1, Nat.mul_one] at this; omega
    rw [lw]
    have hls := os.rd.ilen
    have hal2 := atL_len D p i
    have nxt : ∀ g' s', Ow g' s' 1 (ic (atL D p (i + 1))) → s'.o = some h.length → Ext h g' → X (impl_filler_at_e0 ⟨some fo, 7, 0⟩ p s' (ts.length : Nat) (w64 (i + 1))) g' := fun g' s' o' so' x' => by
      rw [w64_of (n := (i : Int) + 1) (by omega) (by omega)]
      exact hX _ _ _ ⟨i + 1, by push_cast; rfl, by omega, o', so', x'⟩ (by omega)
    refine impl_filler_at_rule2 _ _ X _ _ _ _ _ _ (fun sv st g' => ∃ k : Nat, sv = s ∧ st = k ∧ k ≤ D.lim ∧ (∀ s', s' < k → ¬ (D.alive p s' ∧ D.can s' p i = true ∧ D.alive (p + 1) (D.stepI s' p i))) ∧ Ow g' s 1 (ic (atL D p i)) ∧ Ext h g') (fun _ st _ => (D.lim - st).toNat) ?_ _ _
      ⟨0, rfl, rfl, by omega, fun s' h => by omega, os, xg⟩
    rintro Y sv _ g2 ⟨st, esv, rfl, hst, hno, os2, x2⟩ hY
    subst esv
    unfold impl_filler_at_b2 impl_filler_at_C2 impl_filler_at_C1
    refine bif_dec (fun hi3 => ?_) (fun hi3 => ?_)
    · have hstl : st < D.lim := by omega
      have go : ∀ g', Ext h g' → Ow g' sv 1 (ic (atL D p i)) → ¬ (D.alive p st ∧ D.can st p i = true ∧ D.alive (p + 1) (D.stepI st p i)) → Y (impl_filler_at_e2 ⟨some fo, 7, 0⟩ p sv i (ts.length : Nat) i (D.lim : Nat) (w64 (st + 1))) g' := fun g' x' o' hn => by
        rw [w64_of (n := (st : Int) + 1) (by omega) (by omega)]
        refine hY _ _ _ ⟨st + 1, rfl, by push_cast; rfl, by omega, fun s' hs' => ?_, o', x'⟩ (by omega)
        by_cases e : s' = st
        · rw [e]; exact hn
        · exact hno s' (by omega)
      refine ⟨rfl, rfl, (ob.ext x2).ldS (i := 6) rfl rfl ?_⟩
      refine (rvs.ext x2).ldS (by omega) (by omega) fun w' hw' => ?_
      rw [Int.toNat_natCast, hw] at hw'
      cases hw'
      refine Rd.ldB (rb1.ext x2) (by omega) (by rw [yb.1]; omega) fun b hb => ?_
      rw [Int.toNat_natCast] at hb
      have hba : b = true ↔ D.alive p st := by
        have := yb.2 st hstl
        rw [List.getD_eq_getElem?_getD, hb] at this
        exact this
      refine bif_not (fun qb => go _ x2 os2 fun h => by have := hba.2 h.1; rw [qb] at this; cases this) (fun qb => ?_)
      refine (hfit (f.ext x2) (ob.ext x2) st p i hstl hil hpl).to ?_
      rintro _ g3 ⟨rfl, x3⟩
      have x03 := x2.trans x3
      have os3 := os2.ext x3
      refine ⟨_, rfl, _, rfl, _, rfl, _, rfl, ?_⟩
      refine bif_b (fun qc => ?_) (fun qc => go _ x03 os3 fun h => by have := h.2.1; rw [qc] at this; cases this)
      refine ⟨rfl, rfl, (ob.ext x03).ldS (i := 6) rfl rfl ?_⟩
      rw [w64_of (n := (p : Int) + 1) (by omega) (by omega)]
      refine (rvs.ext x03).ldS (by omega) (by omega) fun wn hwn => ?_
      rw [show ((p : Int) + 1).toNat = p + 1 by omega] at hwn
      obtain ⟨bn, rbn, ybn⟩ := hrow (p + 1) wn hwn
      rw [if_pos qc]
      have hsi : D.stepI st p i < D.lim := Dp.stepI_lt ok (by omega)
      refine Rd.ldB (rbn.ext x03) (by omega) (by rw [ybn.1]; omega) fun b2 hb2 => ?_
      rw [Int.toNat_natCast] at hb2
      have hba2 : b2 = true ↔ D.alive (p + 1) (D.stepI st p i) := by
        have := ybn.2 _ hsi
        rw [List.getD_eq_getElem?_getD, hb2] at this
        exact this
      refine bif_b (fun qb2 => ?_) (fun qb2 => go _ x03 os3 fun h => by have := hba2.2 h.2.2; rw [qb2] at this; cases this)
      refine pushO os3 (by unfold lim; omega) fun s' g5 os5 b5 k5 => ?_
      rw [so] at b5
      refine nxt _ _ ?_ (k5 _ so) (x03.but_ b5 (some_le (Nat.le_refl _)))
      rw [atL_succ, if_pos ⟨st, hba.1 qb, qc, hba2.1 qb2⟩]
      exact os5
    · have hstl : st = D.lim := by omega
      subst hstl
      refine nxt _ _ ?_ so x2
      rw [atL_succ, if_neg (fun ⟨s', h1, h2, h3⟩ => hno s' (Dp.reach_lt ok p s' h1.1) ⟨h1, h2, h3⟩), List.append_nil]
      exact os2
  · have hil : i = ts.length := by omega
    subst hil
    exact ⟨_, rfl, os, so, xg⟩
end
end Go.Proofs.Ytgeakkmpohjohaa.Cl

/- Fillings by places: the codes of plans and borders. No claim is stated here. -/
set_option linter.unusedVariables false
set_option linter.unusedSimpArgs false
namespace Go.Proofs.Ytgeakkmpohjohaa.Cl
open Go
/-- Has a list colours alone? -/
def ColL (c : Int) (l : List Int) : Prop := ∀ j, j < l.length → 0 ≤ l.getD j 0 ∧ l.getD j 0 ≤ c - 1
theorem any_col {c : Int} {l : List Int} : (!l.any fun x => !decide (0 ≤ x ∧ x ≤ c - 1)) = true ↔ ColL c l := by
  rw [Bool.not_eq_true', List.any_eq_false]
  unfold ColL
  constructor
  · intro h j hj
    have := h (l.getD j 0) (by rw [List.getD_eq_getElem?_getD, List.getElem?_eq_getElem hj]; exact List.getElem_mem hj)
    simpa using this
  · intro h x hx
    obtain ⟨j, hj, rfl⟩ := List.mem_iff_getElem.1 hx
    have := h j hj
    rw [List.getD_eq_getElem?_getD, List.getElem?_eq_getElem hj] at this
    simpa using this
section
variable {h0 : H} {c : Int} {s q bq : Sl} {ts : List Tile} {plan borders : List (List Int)}
theorem isWord_c {w : Sl} {l : List Int} (hc : 1 ≤ c ∧ c ≤ 6) (r : Rd h0 w 1 (ic l)) (h1 : 1 ≤ l.length) (h2 : l.length ≤ 20) : callB SP i_impl_Set_isWord [.agg (SetC c s), .sl w] h0 fun b h' => (b = true ↔ ColL c l) ∧ Ext h0 h' := by
  have hl := r.ilen
  apply impl_Set_isWord_call
  unfold impl_Set_isWord_main
  refine newK_obj fun h1 o1 x1 n1 => ?_
  refine within_k ?_
  refine bif_dec (fun _ => ?_) (fun hq => by omega)
  refine (containsFunc_int_c (r.ext x1) (by omega) i_impl_Set_isWord_1 _ (fun x => !decide (0 ≤ x ∧ x ≤ c - 1)) fun x _ h x1' => ?_).to ?_
  · apply impl_Set_isWord_1_call
    unfold impl_Set_isWord_1_main
    refine isPt_in ((o1.ext x1').ldI (i := 0) (m := c) rfl rfl ?_)
    rw [w64_of (by omega) (by omega)]
    exact within_k ⟨_, rfl, rfl, Ext.refl _⟩
  · rintro _ h' ⟨rfl, x⟩
    exact ⟨_, rfl, any_col, x1.trans x⟩
theorem l01Word_c {w : Sl} {l : List Int} (hc : 1 ≤ c ∧ c ≤ 6) (r : Rd h0 w 1 (ic l)) (h2 : l.length ≤ 1048576) : callB SP i_spec_l01Word [.agg (SetC c s), .sl w] h0 fun b h' => (b = true ↔ ColL c l) ∧ Ext h0 h' := by
  have hl := r.ilen
  apply spec_l01Word_call
  unfold spec_l01Word_main
  refine newK_obj fun h1 o1 x1 n1 => ?_
  refine spec_l01Word_rule0 _ _ _ _ (fun i h => ∃ k : Nat, i = k ∧ k ≤ l.length ∧ h = h1 ∧ ∀ j, j < k → 0 ≤ l.getD j 0 ∧ l.getD j 0 ≤ c - 1) (fun i _ => (l.length - i).toNat) ?_ _ ⟨0, rfl, by omega, rfl, fun j hj => by omega⟩
  rintro X _ _ ⟨k, rfl, hk, rfl, hj⟩ hX
  unfold spec_l01Word_b0 spec_l01Word_C0
  refine bif_dec (fun hi => ?_) (fun hi => ⟨_, rfl, ⟨fun _ j hjl => hj j (by omega), fun _ => rfl⟩, x1⟩)
  refine (r.ext x1).ldG (by omega) (by omega) ?_
  rw [Int.toNat_natCast]
  refine isPt_in (o1.ldI (i := 0) (m := c) rfl rfl ?_)
  rw [w64_of (n := c - 1) (by omega) (by omega), w64_of (n := (k : Int) + 1) (by omega) (by omega)]
  refine l01In_k ?_
  refine bif_not (fun hb => ⟨_, rfl, ?_, x1⟩) (fun hb => ?_)
  · simp only [Bool.false_eq_true, false_iff]
    intro t
    rw [decide_eq_false_iff_not] at hb
    exact hb (t k (by omega))
  · rw [decide_eq_true_eq] at hb
    refine hX _ _ ⟨k + 1, by push_cast; rfl, by omega, rfl, fun j hj2 => ?_⟩ (by omega)
    by_cases e : j = k
    · rw [e]; exact hb
    · exact hj j (by omega)
def PlanN (n : Nat) (plan : List (List Int)) : Prop := ∀ y x, y < plan.length → x < (rw_ plan y).length → -1 ≤ G plan y x ∧ G plan y x < n
def BordOK (c : Int) (plan borders : List (List Int)) : Prop := borders.length = 4 ∧ ∀ k, k < 4 → ((rw_ borders k).length = 0 ∨ (rw_ borders k).length = if k % 2 = 1 then (rw_ plan 0).length else plan.length) ∧ ColL c (rw_ borders k)
theorem planOK_iff {n : Nat} : PlanOK c n plan borders ↔ (PlanN n plan ∧ Tabl plan 5) ∧ BordOK c plan borders :=
  ⟨fun ⟨a, b, d, e⟩ => ⟨⟨b, a⟩, d, e⟩, fun ⟨⟨b, a⟩, d, e⟩ => ⟨a, b, d, e⟩⟩
theorem isPlan_c (r : Rd h0 s 4 (tcs ts)) (rr : RdSS h0 q plan) (sz : ts.length ≤ 1048576) (szr : plan.length ≤ 1048576) (hrs : ∀ l ∈ plan, l.length ≤ 1048576) :
    callB SP i_impl_Set_isPlan [.agg (SetC c s), .sl q] h0 fun b h' => (b = true ↔ PlanN ts.length plan ∧ Tabl plan 5) ∧ Ext h0 h' := by
  have hl := r.tlen
  have hq := rr.len
  apply impl_Set_isPlan_call
  unfold impl_Set_isPlan_main
  refine newK_obj fun h1 o1 x1 n1 => ?_
  refine impl_Set_isPlan_rule0 _ _ _ _ _ _ (fun i h => ∃ k : Nat, i = k ∧ k ≤ plan.length ∧ Ext h1 h ∧ ∀ y x, y < k → x < (rw_ plan y).length → -1 ≤ G plan y x ∧ G plan y x < ts.length) (fun i _ => (plan.length - i).toNat) ?_ _ ⟨0, rfl, by omega, Ext.refl _, fun y x hy => by omega⟩
  rintro X _ h ⟨y, rfl, hy, x, hj⟩ hX
  unfold impl_Set_isPlan_b0 impl_Set_isPlan_C0
  refine bif_dec (fun hi => ?_) (fun hi => ?_)
  · refine (rr.ext (x1.trans x)).ldG (by omega) (by omega) fun v rv lv => ?_
    rw [Int.toNat_natCast] at rv lv
    have hvl : (rw_ plan y).length ≤ 1048576 := hrs _ (List.mem_of_getElem? (at_rw (rows := plan) (y := y) (by omega)))
    refine impl_Set_isPlan_rule2 _ _ X _ _ _ _ _ _ _ (fun i h' => ∃ k : Nat, i = k ∧ k ≤ (rw_ plan y).length ∧ Ext h h' ∧ ∀ x, x < k → -1 ≤ G plan y x ∧ G plan y x < ts.length) (fun k _ => ((rw_ plan y).length - k).toNat) ?_ _ ⟨0, rfl, by omega, Ext.refl _, fun x hx => by omega⟩
    rintro Y _ h' ⟨k, rfl, hk, x', hkk⟩ hY
    unfold impl_Set_isPlan_b2 impl_Set_isPlan_C2 impl_Set_isPlan_C1
    have fwd : ∀ h2, Ext h' h2 → (-1 ≤ G plan y k ∧ G plan y k < ts.length) → k < (rw_ plan y).length → Y (impl_Set_isPlan_e2 q ⟨some h0.length, 2, 0⟩ q q.len y v v.len (w64 ((k : Int) + 1))) h2 := fun h2 x2 ho hlt => by
      rw [w64_of (by omega) (by omega)]
      refine hY _ _ ⟨k + 1, by push_cast; rfl, by omega, x'.trans x2, fun j hjj => ?_⟩ (by omega)
      by_cases e : j = k
      · rw [e]; exact ho
      · exact hkk j (by omega)
    refine bif_dec (fun hki => ?_) (fun hki => ?_)
    · refine (rv.ext x').ldG (by omega) (by omega) ?_
      rw [Int.toNat_natCast, show (rw_ plan y).getD k 0 = G plan y k from rfl]
      refine bif_ne (fun hne => ?_) (fun he => fwd _ (Ext.refl _) (by rw [he]; omega) (by omega))
      refine (o1.ext (x.trans x')).ldA rfl ?_
      refine (isNumber_c _ (by omega)).to ?_
      rintro _ h2 ⟨rfl, x2⟩
      refine bif_not (fun hb => ⟨_, rfl, ?_, (x1.trans x).trans (x'.trans x2)⟩) (fun hb => ?_)
      · simp only [Bool.false_eq_true, false_iff]
        intro t
        have := t.1 y k (by omega) (by omega)
        rw [decide_eq_false_iff_not] at hb
        omega
      · rw [decide_eq_true_eq] at hb
        exact fwd _ x2 (by omega) (by omega)
    · rw [w64_of (by omega) (by omega)]
      refine hX _ _ ⟨y + 1, by push_cast; rfl, by omega, x.trans x', fun j z hjj hz => ?_⟩ (by omega)
      by_cases e : j = y
      · rw [e] at hz ⊢; exact hkk z (by omega)
      · exact hj j z (by omega) hz
  · refine (isTable_c (rr.ext (x1.trans x)) 5 (by omega)).to ?_
    rintro b _ ⟨hb, rfl⟩
    exact ⟨_, rfl, hb.trans ⟨fun t => ⟨fun y' z hy' hz => hj y' z (by omega) hz, t⟩, fun t => t.2⟩, x1.trans x⟩
theorem areBorders_c (hc : 1 ≤ c ∧ c ≤ 6) (rr : RdSS h0 q plan) (rb : RdSS h0 bq borders) (hT : Tabl plan 5) (szb : borders.length ≤ 1048576) :
    callB SP i_impl_Set_areBorders [.agg (SetC c s), .sl q, .sl bq] h0 fun b h' => (b = true ↔ BordOK c plan borders) ∧ Ext h0 h' := by
  have hq := rr.len
  have hbl := rb.len
  have hT0 := hT.2 0 (by have := hT.1; omega)
  have hT1 := hT.1
  apply impl_Set_areBorders_call
  unfold impl_Set_areBorders_main
  refine newK_obj fun h1 o1 x1 n1 => ?_
  refine bif_ne (fun hn => ⟨_, rfl, ?_, x1⟩) (fun hn => ?_)
  · simp only [Bool.false_eq_true, false_iff]
    intro t; have := t.1; omega
  refine impl_Set_areBorders_rule0 _ _ _ _ _ _ (fun i h => ∃ k : Nat, i = k ∧ k ≤ 4 ∧ Ext h1 h ∧ ∀ j, j < k → ((rw_ borders j).length = 0 ∨ (rw_ borders j).length = if j % 2 = 1 then (rw_ plan 0).length else plan.length) ∧ ColL c (rw_ borders j)) (fun i _ => (4 - i).toNat) ?_ _ ⟨0, rfl, by omega, Ext.refl _, fun y hy => by omega⟩
  rintro X _ h ⟨k, rfl, hk, x, hj⟩ hX
  unfold impl_Set_areBorders_b0 impl_Set_areBorders_C0
  refine bif_dec (fun hi => ?_) (fun hi => ⟨_, rfl, ⟨fun _ => ⟨by omega, fun j hj4 => hj j (by omega)⟩, fun _ => rfl⟩, x1.trans x⟩)
  have xx := x1.trans x
  refine (rb.ext xx).ldG (by omega) (by omega) fun v rv lv => ?_
  rw [Int.toNat_natCast] at rv lv
  have no : ∀ h', Ext h h' → ¬ (((rw_ borders k).length = 0 ∨ (rw_ borders k).length = if k % 2 = 1 then (rw_ plan 0).length else plan.length) ∧ ColL c (rw_ borders k)) → ∃ r, AVal.bool false = .bool r ∧ (r = true ↔ BordOK c plan borders) ∧ Ext h0 h' := fun h' x' hn =>
    ⟨_, rfl, by simp only [Bool.false_eq_true, false_iff]; exact fun t => hn (t.2 k (by omega)), xx.trans x'⟩
  have yes : ∀ h', Ext h h' → (((rw_ borders k).length = 0 ∨ (rw_ borders k).length = if k % 2 = 1 then (rw_ plan 0).length else plan.length) ∧ ColL c (rw_ borders k)) → X (impl_Set_areBorders_e0 q ⟨some h0.length, 2, 0⟩ bq bq.len (w64 ((k : Int) + 1))) h' := fun h' x' hn => by
    rw [w64_of (by omega) (by omega)]
    refine hX _ _ ⟨k + 1, by push_cast; rfl, by omega, x.trans x', fun j hjj => ?_⟩ (by omega)
    by_cases e : j = k
    · rw [e]; exact hn
    · exact hj j (by omega)
  have main : ∀ size : Nat, (size = if k % 2 = 1 then (rw_ plan 0).length else plan.length) → bif decide ((v.len : Int) > 0) then (bif (v.len : Int) != (size : Int) then (∃ r, AVal.bool false = .bool r ∧ (r = true ↔ BordOK c plan borders) ∧ Ext h0 h) else Cl.ldA ⟨some h0.length, 2, 0⟩ 2 h fun cs => callB SP i_impl_Set_isWord [.agg cs, .sl v] h fun b h' => bif (!b) then (∃ r, AVal.bool false = .bool r ∧ (r = true ↔ BordOK c plan borders) ∧ Ext h0 h') else X (impl_Set_areBorders_e0 q ⟨some h0.length, 2, 0⟩ bq bq.len (w64 ((k : Int) + 1))) h')
      else X (impl_Set_areBorders_e0 q ⟨some h0.length, 2, 0⟩ bq bq.len (w64 ((k : Int) + 1))) h := fun size hsz => by
    have hs5 : size ≤ 5 := by rw [hsz]; split <;> omega
    refine bif_dec (fun hp => ?_) (fun hp => yes _ (Ext.refl _) ⟨.inl (by omega), fun j hjl => by omega⟩)
    refine bif_ne (fun hne => no _ (Ext.refl _) fun t => ?_) (fun he => ?_)
    · rcases t.1 with t | t
      · omega
      · rw [← hsz] at t; omega
    refine (o1.ext x).ldA rfl ?_
    refine (isWord_c (s := s) hc rv (by omega) (by omega)).to ?_
    rintro b h2 ⟨hb, x2⟩
    refine bif_not (fun hq => no _ x2 fun t => by rw [hb.2 t.2] at hq; cases hq) (fun hq => yes _ x2 ⟨.inr (by rw [← hsz]; omega), hb.1 hq⟩)
  refine bif_eq (fun e1 => ?_) (fun e1 => bif_eq (fun e3 => ?_) (fun e3 => ?_))
  · refine (rr.ext xx).ldG (i := 0) (by omega) (by omega) fun v0 rv0 lv0 => ?_
    replace lv0 : v0.len = (rw_ plan 0).length := lv0
    rw [lv0]
    exact main _ (by rw [if_pos (by omega)])
  · refine (rr.ext xx).ldG (i := 0) (by omega) (by omega) fun v0 rv0 lv0 => ?_
    replace lv0 : v0.len = (rw_ plan 0).length := lv0
    rw [lv0]
    exact main _ (by rw [if_pos (by omega)])
  · rw [hq]
    exact main _ (by rw [if_neg (by omega)])
noncomputable def planCodeF (c : Int) (ts : List Tile) (plan borders : List (List Int)) : Int := codeOf (setOK c ts) (PlanOK c ts.length plan borders)
theorem planCode_c (r : Rd h0 s 4 (tcs ts)) (rr : RdSS h0 q plan) (rb : RdSS h0 bq borders) (sz : ts.length ≤ 1048576) (szr : plan.length ≤ 1048576) (hrs : ∀ l ∈ plan, l.length ≤ 1048576) (szb : borders.length ≤ 1048576) :
    callI SP .i64 i_impl_planCode [.agg (SetC c s), .sl q, .sl bq] h0 fun n h' => n = planCodeF c ts plan borders ∧ Ext h0 h' := by
  apply impl_planCode_call
  unfold impl_planCode_main
  refine newK_obj fun h1 o1 x1 n1 => ?_
  refine newO_var fun h2 v2 x2 n2 => ?_
  refine newO_var fun h3 v3 x3 n3 => ?_
  have x13 := x1.trans (x2.trans x3)
  refine (o1.ext (x2.trans x3)).ldA rfl ?_
  refine (setCode_c (r.ext x13) (by omega) _ _ (PlanOK c ts.length plan borders) fun hs h x => ?_).to ?_
  · apply impl_planCode_1_call
    unfold impl_planCode_1_main
    have xx := x13.trans x
    refine (o1.ext ((x2.trans x3).trans x)).ldA rfl ?_
    refine (v2.ext (x3.trans x)).ldS ?_
    refine (isPlan_c (r.ext xx) (rr.ext xx) sz szr hrs).to ?_
    rintro b h4 ⟨hb, x4⟩
    refine bif_b (fun hbt => ?_) (fun hbf => ⟨_, rfl, ?_, x4⟩)
    · have hp := hb.1 hbt
      refine (o1.ext (((x2.trans x3).trans x).trans x4)).ldA rfl ?_
      refine (v2.ext ((x3.trans x).trans x4)).ldS ?_
      refine (v3.ext (x.trans x4)).ldS ?_
      refine (areBorders_c hs.1 (rr.ext (xx.trans x4)) (rb.ext (xx.trans x4)) hp.2 szb).to ?_
      rintro b2 h5 ⟨hb2, x5⟩
      exact ⟨_, rfl, hb2.trans ⟨fun t => planOK_iff.2 ⟨hp, t⟩, fun t => (planOK_iff.1 t).2⟩, x4.trans x5⟩
    · simp only [Bool.false_eq_true, false_iff]
      intro t
      rw [hb.2 (planOK_iff.1 t).1] at hbf; cases hbf
  · rintro n h4 ⟨rfl, x4⟩
    exact ⟨_, rfl, rfl, x13.trans x4⟩
theorem l03Plan_c (r : Rd h0 s 4 (tcs ts)) (rr : RdSS h0 q plan) (rb : RdSS h0 bq borders) (sz : ts.length ≤ 1048576) (szr : plan.length ≤ 1048576) (hrs : ∀ l ∈ plan, l.length ≤ 1048576) (szb : borders.length ≤ 1048576) (hrb : ∀ l ∈ borders, l.length ≤ 1048576) :
    callI SP .i64 i_spec_l03Plan [.agg (SetC c s), .sl q, .sl bq] h0 fun n h' => n = planCodeF c ts plan borders ∧ Ext h0 h' := by
  have hl := r.tlen
  have hq := rr.len
  have hbl := rb.len
  apply spec_l03Plan_call
  unfold spec_l03Plan_main
  refine newK_obj fun h1 o1 x1 n1 => ?_
  refine o1.ldA rfl ?_
  refine (l01Is_c (r.ext x1)).to ?_
  rintro b h2 ⟨hb, x2⟩
  refine bif_not (fun hbf => ⟨_, rfl, (codeOf_no fun t => by rw [hb.2 t] at hbf; cases hbf).symm, x1.trans x2⟩) (fun hbt => ?_)
  have hs := hb.1 hbt
  have xx := x1.trans x2
  have no : ∀ h', Ext h2 h' → ¬ PlanOK c ts.length plan borders → ∃ r, AVal.int .i64 2 = .int .i64 r ∧ r = planCodeF c ts plan borders ∧ Ext h0 h' := fun h' x' hn => ⟨_, rfl, (codeOf_range hs hn).symm, xx.trans x'⟩
  refine bif_dec (fun e => no _ (Ext.refl _) fun t => by have := t.1.1; omega) (fun e => ?_)
  refine bif_dec (fun e => no _ (Ext.refl _) fun t => by have := t.1.1; omega) (fun e2 => ?_)
  refine (rr.ext xx).ldG (i := 0) (by omega) (by omega) fun v0 rv0 lv0 => ?_
  replace lv0 : v0.len = (rw_ plan 0).length := lv0
  refine bif_dec (fun e => no _ (Ext.refl _) fun t => by have := t.1.2 0 (by omega); omega) (fun e3 => ?_)
  refine (rr.ext xx).ldG (i := 0) (by omega) (by omega) fun v1 rv1 lv1 => ?_
  replace lv1 : v1.len = (rw_ plan 0).length := lv1
  refine bif_dec (fun e => no _ (Ext.refl _) fun t => by have := t.1.2 0 (by omega); omega) (fun e4 => ?_)
  refine bif_ne (fun e => no _ (Ext.refl _) fun t => by have := t.2.2.1; omega) (fun e5 => ?_)
  refine spec_l03Plan_rule0 _ _ _ _ _ (fun i h => ∃ k : Nat, i = k ∧ k ≤ plan.length ∧ Ext h2 h ∧ ∀ y, y < k → (rw_ plan y).length = (rw_ plan 0).length ∧ ∀ x, x < (rw_ plan y).length → -1 ≤ G plan y x ∧ G plan y x < ts.length) (fun i _ => (plan.length - i).toNat) ?_ _ ⟨0, rfl, by omega, Ext.refl _, fun y hy => by omega⟩
  rintro X _ h ⟨y, rfl, hy, x, hj⟩ hX
  unfold spec_l03Plan_b0 spec_l03Plan_C0
  have xg := xx.trans x
  refine bif_dec (fun hi => ?_) (fun hi => ?_)
  · refine (rr.ext xg).ldG (by omega) (by omega) fun v rv lv => ?_
    rw [Int.toNat_natCast] at rv lv
    refine (rr.ext xg).ldG (i := 0) (by omega) (by omega) fun v0' rv0' lv0' => ?_
    replace lv0' : v0'.len = (rw_ plan 0).length := lv0'
    refine bif_ne (fun e => no _ x fun t => by have := t.1.2 y (by omega); omega) (fun e6 => ?_)
    refine spec_l03Plan_rule2 _ _ X _ _ _ _ (fun i h' => ∃ k : Nat, i = k ∧ k ≤ (rw_ plan y).length ∧ Ext h h' ∧ ∀ x, x < k → -1 ≤ G plan y x ∧ G plan y x < ts.length) (fun k _ => ((rw_ plan y).length - k).toNat) ?_ _ ⟨0, rfl, by omega, Ext.refl _, fun x hx => by omega⟩
    rintro Y _ h' ⟨k, rfl, hk, x', hkk⟩ hY
    unfold spec_l03Plan_b2 spec_l03Plan_C2 spec_l03Plan_C1
    have xg' := xg.trans x'
    refine (rr.ext xg').ldG (by omega) (by omega) fun u ru lu => ?_
    rw [Int.toNat_natCast] at ru lu
    refine bif_dec (fun hki => ?_) (fun hki => ?_)
    · refine (rr.ext xg').ldG (by omega) (by omega) fun u2 ru2 lu2 => ?_
      rw [Int.toNat_natCast] at ru2 lu2
      refine ru2.ldG (by omega) (by omega) ?_
      rw [Int.toNat_natCast, show (rw_ plan y).getD k 0 = G plan y k from rfl]
      refine isPt_in ((o1.ext ((x2.trans x).trans x')).ldS rfl rfl ?_)
      rw [w64_of (n := (s.len : Int) - 1) (by omega) (by omega), w64_of (n := (k : Int) + 1) (by omega) (by omega)]
      refine l01In_k ?_
      refine bif_not (fun hq => no _ (x.trans x') fun t => ?_) (fun hq => ?_)
      · have := t.2.1 y k (by omega) (by omega)
        rw [decide_eq_false_iff_not] at hq
        omega
      · rw [decide_eq_true_eq] at hq
        refine hY _ _ ⟨k + 1, by push_cast; rfl, by omega, x', fun j hjj => ?_⟩ (by omega)
        by_cases e : j = k
        · rw [e]; omega
        · exact hkk j (by omega)
    · rw [w64_of (by omega) (by omega)]
      refine hX _ _ ⟨y + 1, by push_cast; rfl, by omega, x.trans x', fun j hjj => ?_⟩ (by omega)
      by_cases e : j = y
      · rw [e]; exact ⟨by omega, fun z hz => hkk z (by omega)⟩
      · exact hj j (by omega)
  · have hpl : y = plan.length := by omega
    subst hpl
    have hT : Tabl plan 5 := ⟨⟨by omega, by omega⟩, fun y hy => by have := (hj y hy).1; omega⟩
    refine spec_l03Plan_rule4 _ _ _ _ _ (fun i h' => ∃ k : Nat, i = k ∧ k ≤ 4 ∧ Ext h h' ∧ ∀ j, j < k → ((rw_ borders j).length = 0 ∨ (rw_ borders j).length = if j % 2 = 1 then (rw_ plan 0).length else plan.length) ∧ ColL c (rw_ borders j)) (fun i _ => (4 - i).toNat) ?_ _ ⟨0, rfl, by omega, Ext.refl _, fun y hy => by omega⟩
    rintro Y _ h' ⟨k, rfl, hk, x', hkk⟩ hY
    unfold spec_l03Plan_b4 spec_l03Plan_C4
    refine bif_dec (fun hki => ?_) (fun hki => ⟨_, rfl, (codeOf_yes hs (planOK_iff.2 ⟨⟨fun y x hy hx => (hj y hy).2 x hx, hT⟩, by omega, fun j hj4 => hkk j (by omega)⟩)).symm, xg.trans x'⟩)
    have xg' := xg.trans x'
    have o1' := o1.ext ((x2.trans x).trans x')
    have hbk : (rw_ borders k).length ≤ 1048576 := hrb _ (List.mem_of_getElem? (at_rw (rows := borders) (y := k) (by omega)))
    have yes : ∀ h'', Ext h' h'' → (((rw_ borders k).length = 0 ∨ (rw_ borders k).length = if k % 2 = 1 then (rw_ plan 0).length else plan.length) ∧ ColL c (rw_ borders k)) → Y (spec_l03Plan_e4 q bq ⟨some h0.length, 2, 0⟩ (w64 ((k : Int) + 1))) h'' := fun h'' x'' hn => by
      rw [w64_of (by omega) (by omega)]
      refine hY _ _ ⟨k + 1, by push_cast; rfl, by omega, x'.trans x'', fun j hjj => ?_⟩ (by omega)
      by_cases e : j = k
      · rw [e]; exact hn
      · exact hkk j (by omega)
    have bad : ∀ h'', Ext h' h'' → ¬ (((rw_ borders k).length = 0 ∨ (rw_ borders k).length = if k % 2 = 1 then (rw_ plan 0).length else plan.length) ∧ ColL c (rw_ borders k)) → ∃ r, AVal.int .i64 2 = .int .i64 r ∧ r = planCodeF c ts plan borders ∧ Ext h0 h'' := fun h'' x'' hn =>
      no _ ((x.trans x').trans x'') fun t => hn (t.2.2.2 k (by omega))
    have word : ((rw_ borders k).length = 0 ∨ (rw_ borders k).length = if k % 2 = 1 then (rw_ plan 0).length else plan.length) → Cl.ldA ⟨some h0.length, 2, 0⟩ 2 h' fun cs => ixS bq 1 (k : Int) fun p => Cl.ldS p h' fun sv => callB SP i_spec_l01Word [.agg cs, .sl sv] h' fun b h'' => bif (!b) then (∃ r, AVal.int .i64 2 = .int .i64 r ∧ r = planCodeF c ts plan borders ∧ Ext h0 h'') else Y (spec_l03Plan_e4 q bq ⟨some h0.length, 2, 0⟩ (w64 ((k : Int) + 1))) h'' := fun hlen => by
      refine o1'.ldA rfl ?_
      refine (rb.ext xg').ldG (by omega) (by omega) fun u ru lu => ?_
      rw [Int.toNat_natCast] at ru lu
      refine (l01Word_c (s := s) hs.1 ru hbk).to ?_
      rintro b h3 ⟨hb3, x3⟩
      exact bif_not (fun hq => bad _ x3 fun t => by rw [hb3.2 t.2] at hq; cases hq) (fun hq => yes _ x3 ⟨hlen, hb3.1 hq⟩)
    have main : ∀ size : Nat, (size = if k % 2 = 1 then (rw_ plan 0).length else plan.length) → ixS bq 1 (k : Int) fun p => Cl.ldS p h' fun s3 => bif (s3.len : Int) != 0 then (ixS bq 1 (k : Int) fun p => Cl.ldS p h' fun s5 => bif (s5.len : Int) != (size : Int) then (∃ r, AVal.int .i64 2 = .int .i64 r ∧ r = planCodeF c ts plan borders ∧ Ext h0 h') else
        Cl.ldA ⟨some h0.length, 2, 0⟩ 2 h' fun cs => ixS bq 1 (k : Int) fun p => Cl.ldS p h' fun sv => callB SP i_spec_l01Word [.agg cs, .sl sv] h' fun b h'' => bif (!b) then (∃ r, AVal.int .i64 2 = .int .i64 r ∧ r = planCodeF c ts plan borders ∧ Ext h0 h'') else Y (spec_l03Plan_e4 q bq ⟨some h0.length, 2, 0⟩ (w64 ((k : Int) + 1))) h'')
        else Cl.ldA ⟨some h0.length, 2, 0⟩ 2 h' fun cs => ixS bq 1 (k : Int) fun p => Cl.ldS p h' fun sv => callB SP i_spec_l01Word [.agg cs, .sl sv] h' fun b h'' => bif (!b) then (∃ r, AVal.int .i64 2 = .int .i64 r ∧ r = planCodeF c ts plan borders ∧ Ext h0 h'') else Y (spec_l03Plan_e4 q bq ⟨some h0.length, 2, 0⟩ (w64 ((k : Int) + 1))) h'' := fun size hsz => by
      refine (rb.ext xg').ldG (by omega) (by omega) fun u ru lu => ?_
      rw [Int.toNat_natCast] at ru lu
      refine bif_ne (fun e => ?_) (fun e => word (.inl (by omega)))
      refine (rb.ext xg').ldG (by omega) (by omega) fun u2 ru2 lu2 => ?_
      rw [Int.toNat_natCast] at ru2 lu2
      refine bif_ne (fun e => bad _ (Ext.refl _) fun t => ?_) (fun e => word (.inr (by rw [← hsz]; omega)))
      rcases t.1 with t | t
      · omega
      · rw [← hsz] at t; omega
    refine ⟨by omega, ?_⟩
    rw [show Int.tmod (k : Int) 2 = ((k % 2 : Nat) : Int) from rfl]
    refine bif_eq (fun e1 => ?_) (fun e1 => ?_)
    · refine (rr.ext xg').ldG (i := 0) (by omega) (by omega) fun v0 rv0 lv0 => ?_
      replace lv0 : v0.len = (rw_ plan 0).length := lv0
      rw [lv0]
      exact main _ (by rw [if_pos (by omega)])
    · rw [hq]
      exact main _ (by rw [if_neg (by omega)])
end
end Go.Proofs.Ytgeakkmpohjohaa.Cl

/- Steps of the laws. No claim is stated here. -/
set_option linter.unusedVariables false
set_option linter.unusedSimpArgs false
namespace Go.Proofs.Ytgeakkmpohjohaa.Cl
open Go
theorem szSet_k (c : Int) (s : Sl) (left : Int) (hl : s.len ≤ 9223372036854775807) (h1 : 0 ≤ left) (h2 : left ≤ 1048576) (h : H) : callI SP .i64 i_laws_szSet [.agg (SetC c s), i64 left] h fun n h' => Ext h h' ∧ (n < 0 ∨ (n = left - s.len ∧ 0 ≤ n)) := by
  refine (szSet_c c s left hl h1 h2 h).to ?_
  rintro _ h' ⟨rfl, x⟩
  refine ⟨x, ?_⟩
  by_cases hq : left - s.len < 0
  · rw [if_pos hq]; exact .inl (by omega)
  · rw [if_neg hq]; exact .inr ⟨rfl, by omega⟩
theorem szTileS_k (s : Sl) (left : Int) (hl : s.len ≤ 9223372036854775807) (h1 : 0 ≤ left) (h2 : left ≤ 1048576) (h : H) : callI SP .i64 i_laws_szTileS [.sl s, i64 left] h fun n h' => Ext h h' ∧ (n < 0 ∨ (n = left - s.len ∧ 0 ≤ n)) := by
  refine (szTileS_c s left hl h1 h2 h).to ?_
  rintro _ _ ⟨rfl, rfl⟩
  refine ⟨Ext.refl _, ?_⟩
  by_cases hq : left - s.len < 0
  · rw [if_pos hq]; exact .inl (by omega)
  · rw [if_neg hq]; exact .inr ⟨rfl, by omega⟩
theorem szInt64S_k (s : Sl) (left : Int) (hl : s.len ≤ 9223372036854775807) (h1 : 0 ≤ left) (h2 : left ≤ 1048576) (h : H) : callI SP .i64 i_laws_szInt64S [.sl s, i64 left] h fun n h' => Ext h h' ∧ (n < 0 ∨ (n = left - s.len ∧ 0 ≤ n)) := by
  refine (szInt64S_c s left hl h1 h2 h).to ?_
  rintro _ _ ⟨rfl, rfl⟩
  refine ⟨Ext.refl _, ?_⟩
  by_cases hq : left - s.len < 0
  · rw [if_pos hq]; exact .inl (by omega)
  · rw [if_neg hq]; exact .inr ⟨rfl, by omega⟩
theorem szInt64SS_k {h0 : H} {s : Sl} {ls : List (List Int)} (r : RdSS h0 s ls) (left : Int) (h1 : 0 ≤ left) (h2 : left ≤ 1048576) (hl : s.len ≤ 9223372036854775807) (hls : ∀ l ∈ ls, l.length ≤ 9223372036854775807) :
    callI SP .i64 i_laws_szInt64SS [.sl s, i64 left] h0 fun n h' => Ext h0 h' ∧ (n < 0 ∨ (n = left - ls.length - sumLen ls ∧ 0 ≤ n)) := by
  refine (szInt64SS_c r left h1 h2 hl hls).to ?_
  rintro n _ ⟨rfl, hn⟩
  exact ⟨Ext.refl _, hn⟩
theorem bif_neb {x y : Bool} {a b : Prop} (h1 : x ≠ y → a) (h2 : x = y → b) : bif x != y then a else b := by
  by_cases hp : x = y
  · rw [show (x != y) = false by simp [hp]]; exact h2 hp
  · rw [show (x != y) = true by simp [hp]]; exact h1 hp
theorem eqS_yes {h0 : H} {s s' : Sl} {l : List Int} (r : Rd h0 s 1 (ic l)) (r' : Rd h0 s' 1 (ic l)) (hl : l.length < 4000000000000000000) {A : H → Prop} {B : H → Prop} (hk : B h0) : callB SP i_laws_eqInt64S [.sl s, .sl s'] h0 fun b h' => bif !b then A h' else B h' := by
  refine (eqInt64S_c r r' hl).to ?_
  rintro _ _ ⟨rfl, rfl⟩
  exact bif_not (fun hq => by simp at hq) fun _ => hk
theorem eqSS_yes {h0 : H} {s s' : Sl} {ls : List (List Int)} (r : RdSS h0 s ls) (r' : RdSS h0 s' ls) (hl : ls.length < 4000000000000000000) (hls : ∀ l ∈ ls, l.length < 4000000000000000000) {A : H → Prop} {B : H → Prop} (hk : B h0) : callB SP i_laws_eqInt64SS [.sl s, .sl s'] h0 fun b h' => bif !b then A h' else B h' := by
  refine (eqInt64SS_c r r' hl hls).to ?_
  rintro _ _ ⟨rfl, rfl⟩
  exact bif_not (fun hq => by simp at hq) fun _ => hk
theorem eqSet_yes {h0 : H} {c : Int} {s s' : Sl} {ts : List Tile} (r : Rd h0 s 4 (tcs ts)) (r' : Rd h0 s' 4 (tcs ts)) (hl : ts.length < 4000000000000000000) {A : H → Prop} {B : H → Prop} (hk : ∀ h', Ext h0 h' → B h') : callB SP i_laws_eqSet [.agg (SetC c s), .agg (SetC c s')] h0 fun b h' => bif !b then A h' else B h' := by
  refine (eqSet_c r r' hl).to ?_
  rintro _ h' ⟨rfl, x⟩
  exact bif_not (fun hq => by simp at hq) fun _ => hk h' x
theorem eqTiles_yes {h0 : H} {s s' : Sl} {ts : List Tile} (r : Rd h0 s 4 (tcs ts)) (r' : Rd h0 s' 4 (tcs ts)) (hl : ts.length < 4000000000000000000) {A : H → Prop} {B : H → Prop} (hk : ∀ h', Ext h0 h' → B h') : callB SP i_laws_eqTileS [.sl s, .sl s'] h0 fun b h' => bif !b then A h' else B h' := by
  refine (eqTileS_c r r' hl).to ?_
  rintro _ h' ⟨rfl, x⟩
  exact bif_not (fun hq => by simp at hq) fun _ => hk h' x
theorem heldSS_yes {h0 : H} {s : Sl} {ls : List (List Int)} (k0 : Int) (hk0 : 0 ≤ k0) (hk1 : k0 ≤ 1000000000) (r : RdSS h0 s (marks k0 ls)) (hl : ls.length < 1000000000) (hs : sumLen ls < 1000000000) {A : H → Prop} {B : Int → H → Prop} (hk : B (k0 + sumLen ls) h0) :
    callI SP .i64 i_laws_heldInt64SS [.sl s, i64 k0] h0 fun n h' => bif decide (n < 0) then A h' else B n h' := by
  refine (heldInt64SS_c k0 hk0 hk1 r hl hs).to ?_
  rintro _ _ ⟨rfl, rfl⟩
  exact bif_dec (fun hq => by omega) fun _ => hk
theorem heldS_yes {h0 : H} {s : Sl} (k0 : Int) (hk0 : 0 ≤ k0) (hk1 : k0 ≤ 1000000000) (r : Rd h0 s 1 (ic (upto k0 s.len))) (hl : s.len < 1000000000) {A : H → Prop} {B : Int → H → Prop} (hk : B (k0 + s.len) h0) :
    callI SP .i64 i_laws_heldInt64S [.sl s, i64 k0] h0 fun n h' => bif decide (n < 0) then A h' else B n h' := by
  refine (heldInt64S_c k0 hk0 (by omega) r (by omega)).to ?_
  rintro _ _ ⟨rfl, rfl⟩
  exact bif_dec (fun hq => by omega) fun _ => hk
theorem Obj.rangeE {h o cs} (x : Obj h o cs) {n : Nat} (hn : cs.length = n) : Cl.range h (some o) n 0 n = some cs := by
  have x' : h[o]? = some (.own cs) := x
  subst hn
  rw [range_of (xs := cs) (by unfold cells; simp [x']) (by simp)]
  simp
theorem Obj.stays {h h' o cs} (x : Obj h o cs) {n : Nat} (hn : cs.length = n) (e : Ext h h') : Cl.range h' (some o) n 0 n = Cl.range h (some o) n 0 n := by rw [e.range (x.rangeE hn), x.rangeE hn]
end Go.Proofs.Ytgeakkmpohjohaa.Cl

/- Fillings by places: contracts of TilesAt. No claim is stated here. -/
set_option linter.unusedVariables false
set_option linter.unusedSimpArgs false
namespace Go.Proofs.Ytgeakkmpohjohaa.Cl
open Go
theorem shr16 {m i : Nat} (hm : m < 65536) (hi : i < 16) : (bitsOp .and .i64 (shrI .i64 (m : Int) (IntKind.wrap .u64 (i : Int))) 1 == 1) = m.testBit i := by
  rw [wrap16 i hi]
  have e1 : shrI .i64 (m : Int) (i : Int) = ((m / 2 ^ i : Nat) : Int) := by
    unfold shrI
    rw [Int.toNat_natCast, show min i (IntKind.bits .i64) = i from Nat.min_eq_left (show i ≤ 64 by omega)]
    rw [Int.fdiv_eq_ediv_of_nonneg _ (Int.le_of_lt (Int.pow_pos (by decide)))]
    push_cast; rfl
  rw [e1]
  have hd : m / 2 ^ i ≤ m := Nat.div_le_self _ _
  have e2 : bitsOp .and .i64 ((m / 2 ^ i : Nat) : Int) 1 = ((m / 2 ^ i % 2 : Nat) : Int) := by
    show w64 (((BitVec.ofInt 64 ((m / 2 ^ i : Nat) : Int)) &&& (BitVec.ofInt 64 ((1 : Nat) : Int))).toNat : Int) = _
    rw [ofInt_nat, ofInt_nat, BitVec.toNat_and, BitVec.toNat_ofNat, BitVec.toNat_ofNat, Nat.mod_eq_of_lt (by omega), Nat.mod_eq_of_lt (by omega), Nat.and_one_is_mod]
    exact w64_of (by omega) (by omega)
  rw [e2, Nat.testBit_eq_decide_div_mod_eq]
  rw [Bool.eq_iff_iff, beq_iff_eq, decide_eq_true_eq]
  omega
/-- The tiles whose bits are set. -/
def bitsL (m k : Nat) : List Int := ((List.range k).filter fun i => m.testBit i).map fun (i : Nat) => (i : Int)
theorem bitsL_succ (m k : Nat) : bitsL m (k + 1) = bitsL m k ++ if m.testBit k = true then [(k : Int)] else [] := by
  unfold bitsL
  rw [List.range_succ, List.filter_append, List.map_append]
  congr 1
  by_cases h : m.testBit k = true
  · rw [if_pos h]; simp [h]
  · rw [if_neg h]; simp [h]
theorem bitsL_len (m k : Nat) : (bitsL m k).length ≤ k := by
  unfold bitsL
  rw [List.length_map]
  exact Nat.le_trans (List.length_filter_le _ _) (by simp)
open Classical in
theorem bits_at {D : Dp} (ok : D.OK) {p m : Nat} (hp : p < D.size) (hs : StandN D p m) : bitsL m D.n = atL D p D.n := by
  unfold bitsL atL
  congr 1
  refine List.filter_congr fun i hi => ?_
  have hi' := List.mem_range.1 hi
  rw [Bool.eq_iff_iff, decide_eq_true_eq, hs.2 i, Dp.at_stand ok hp hi']
  exact ⟨fun h => h.2, fun h => ⟨hi', h⟩⟩
noncomputable def placeIn (plan : List (List Int)) (y x : Int) : Prop := (0 ≤ y ∧ y ≤ (plan.length : Int) - 1) ∧ 0 ≤ x ∧ x ≤ ((rw_ plan 0).length : Int) - 1
noncomputable def F_TilesAt_1 (c : Int) (ts : List Tile) (plan borders : List (List Int)) (y x : Int) : Int := codeOf (setOK c ts) (PlanOK c ts.length plan borders ∧ placeIn plan y x)
open Classical in
noncomputable def F_TilesAt_0 (c : Int) (ts : List Tile) (plan borders : List (List Int)) (y x : Int) : List Int :=
  if F_TilesAt_1 c ts plan borders y x = 0 then atL (dpOf c ts plan borders) (y.toNat * (rw_ plan 0).length + x.toNat) ts.length else []
section
variable {c : Int} {ts : List Tile} {plan borders : List (List Int)} {u q bq : Sl} {h : H}
theorem place_bound {y x : Int} (hp : PlanOK c ts.length plan borders) (hin : placeIn plan y x) : y.toNat * (rw_ plan 0).length + x.toNat < plan.length * (rw_ plan 0).length := by
  obtain ⟨⟨a, b⟩, d, e⟩ := hin
  have : (y.toNat + 1) * (rw_ plan 0).length ≤ plan.length * (rw_ plan 0).length := Nat.mul_le_mul_right _ (by omega)
  rw [Nat.add_mul] at this
  omega
theorem place_w {y x : Int} (hp : PlanOK c ts.length plan borders) (hin : placeIn plan y x) : w64 (w64 (y * ((rw_ plan 0).length : Int)) + x) = ((y.toNat * (rw_ plan 0).length + x.toNat : Nat) : Int) := by
  have hb := place_bound hp hin
  obtain ⟨⟨a, b⟩, d, e⟩ := hin
  have h5 := hp.1.1
  have h0 := hp.1.2 0 (by omega)
  have hm : plan.length * (rw_ plan 0).length ≤ 5 * 5 := Nat.mul_le_mul (by omega) (by omega)
  have e1 : y * ((rw_ plan 0).length : Int) = ((y.toNat * (rw_ plan 0).length : Nat) : Int) := by
    rw [Int.natCast_mul, Int.toNat_of_nonneg a]
  rw [e1, w64_of (n := ((y.toNat * (rw_ plan 0).length : Nat) : Int)) (by omega) (by omega), w64_of (by omega) (by omega)]
  omega
theorem code_split {A B C : Prop} (hAB : codeOf A B = 0) (hC : C) : codeOf A (B ∧ C) = 0 := by
  obtain ⟨a, b⟩ := codeOf_zero hAB
  exact codeOf_yes a ⟨b, hC⟩
theorem code_split_no {A B C : Prop} (hAB : codeOf A B = 0) (hC : ¬ C) : codeOf A (B ∧ C) = 2 := by
  obtain ⟨a, b⟩ := codeOf_zero hAB
  exact codeOf_range a fun h => hC h.2
theorem code_split_ne {A B C : Prop} (hAB : codeOf A B ≠ 0) : codeOf A (B ∧ C) = codeOf A B := by
  unfold codeOf at hAB ⊢
  split
  · next h =>
    rw [if_pos h] at hAB
    split at hAB
    · exact absurd rfl hAB
    · next h2 => rw [if_neg fun h => h2 h.1, if_neg h2]
  · rfl
theorem impl_TilesAt_c (r : Rd h u 4 (tcs ts)) (rr : RdSS h q plan) (rb : RdSS h bq borders) (sz : ts.length ≤ 1048576) (szr : plan.length ≤ 1048576) (hrs : ∀ l ∈ plan, l.length ≤ 1048576) (szb : borders.length ≤ 1048576) (hrb : ∀ l ∈ borders, l.length ≤ 1048576) {y x : Int} (by_ : i64ok y) (bx : i64ok x) :
    callV SP i_impl_TilesAt [.agg (SetC c u), .sl q, .sl bq, i64 y, i64 x] h fun v h' => ∃ s, v = .tuple [.sl s, i64 (F_TilesAt_1 c ts plan borders y x)] ∧ Ow h' s 1 (ic (F_TilesAt_0 c ts plan borders y x)) ∧ Fr h.length s ∧ Ext h h' := by
  have hq := rr.len
  apply impl_TilesAt_call
  unfold impl_TilesAt_main
  refine newK_obj fun h1 o1 x1 l1 => ?_
  refine o1.ldA rfl ?_
  refine (planCode_c (r.ext x1) (rr.ext x1) (rb.ext x1) sz szr hrs szb).to ?_
  rintro _ h2 ⟨rfl, x2⟩
  have xx := x1.trans x2
  have none : ∀ n h', F_TilesAt_1 c ts plan borders y x = n → n ≠ 0 → Ext h2 h' → ∃ s, AVal.tuple [.sl Sl.nil, .int .i64 n] = .tuple [.sl s, i64 (F_TilesAt_1 c ts plan borders y x)] ∧ Ow h' s 1 (ic (F_TilesAt_0 c ts plan borders y x)) ∧ Fr h.length s ∧ Ext h h' := fun n h' e hn x' => by
    refine ⟨Sl.nil, by rw [e], ?_, Fr.nil _, xx.trans x'⟩
    unfold F_TilesAt_0
    rw [if_neg (by rw [e]; exact hn)]
    exact Ow.nil _ _
  refine bif_ne (fun hne => none _ _ (code_split_ne hne) hne (Ext.refl _)) (fun h0 => ?_)
  obtain ⟨hs, hp⟩ := codeOf_zero h0
  have h5 := hp.1.1
  have hT0 := hp.1.2 0 (by omega)
  rw [w64_of (n := (q.len : Int) - 1) (by omega) (by omega)]
  refine within_k ?_
  refine bif_not (fun hb => none _ _ (code_split_no h0 fun t => ?_) (by omega) (Ext.refl _)) (fun hb => ?_)
  · rw [decide_eq_false_iff_not] at hb
    have := t.1; omega
  rw [decide_eq_true_eq] at hb
  refine (rr.ext xx).ldG (i := 0) (by omega) (by omega) fun v0 rv0 lv0 => ?_
  replace lv0 : v0.len = (rw_ plan 0).length := lv0
  rw [w64_of (n := (v0.len : Int) - 1) (by omega) (by omega)]
  refine within_k ?_
  refine bif_not (fun hb2 => none _ _ (code_split_no h0 fun t => ?_) (by omega) (Ext.refl _)) (fun hb2 => ?_)
  · rw [decide_eq_false_iff_not] at hb2
    have := t.2; omega
  rw [decide_eq_true_eq] at hb2
  have hin : placeIn plan y x := ⟨by omega, by omega⟩
  refine (o1.ext x2).ldA rfl ?_
  refine (newFiller_c hs hp (r.ext xx) (rr.ext xx) (rb.ext xx)).to ?_
  rintro _ h3 ⟨⟨fo, pw, cn, al, rfl, ob, f, at_⟩, x3⟩
  refine (rr.ext xx).ixC (i := 0) (by omega) (by omega) fun p5 v1 hp5 rv1 lv1 => ⟨v1, x3.cell hp5, (x3.cellE hp5).symm, ?_⟩
  replace lv1 : v1.len = (rw_ plan 0).length := lv1
  rw [lv1, place_w hp hin]
  refine (filler_at_c hs hp ob f at_ (place_bound hp hin)).to ?_
  rintro s h4 ⟨os, so, x4⟩
  have e1 : F_TilesAt_1 c ts plan borders y x = 0 := code_split h0 hin
  refine ⟨s, by rw [e1], ?_, fun o e => ?_, (xx.trans x3).trans x4⟩
  · unfold F_TilesAt_0
    rw [if_pos e1]; exact os
  · rw [so] at e; cases e
    have := (xx.trans x3).len
    omega
theorem spec_TilesAt_c (r : Rd h u 4 (tcs ts)) (rr : RdSS h q plan) (rb : RdSS h bq borders) (sz : ts.length ≤ 1048576) (szr : plan.length ≤ 1048576) (hrs : ∀ l ∈ plan, l.length ≤ 1048576) (szb : borders.length ≤ 1048576) (hrb : ∀ l ∈ borders, l.length ≤ 1048576) {y x : Int} (by_ : i64ok y) (bx : i64ok x) :
    callV SP i_spec_TilesAt [.agg (SetC c u), .sl q, .sl bq, i64 y, i64 x] h fun v h' => ∃ s, v = .tuple [.sl s, i64 (F_TilesAt_1 c ts plan borders y x)] ∧ Ow h' s 1 (ic (F_TilesAt_0 c ts plan borders y x)) ∧ Fr h.length s ∧ Ext h h' := by
  have hq := rr.len
  have hul := r.tlen
  apply spec_TilesAt_call
  unfold spec_TilesAt_main
  refine newK_obj fun h1 o1 x1 l1 => ?_
  refine o1.ldA rfl ?_
  refine (l03Plan_c (r.ext x1) (rr.ext x1) (rb.ext x1) sz szr hrs szb hrb).to ?_
  rintro _ h2 ⟨rfl, x2⟩
  have xx := x1.trans x2
  have none : ∀ n h', F_TilesAt_1 c ts plan borders y x = n → n ≠ 0 → Ext h2 h' → ∃ s, AVal.tuple [.sl Sl.nil, .int .i64 n] = .tuple [.sl s, i64 (F_TilesAt_1 c ts plan borders y x)] ∧ Ow h' s 1 (ic (F_TilesAt_0 c ts plan borders y x)) ∧ Fr h.length s ∧ Ext h h' := fun n h' e hn x' => by
    refine ⟨Sl.nil, by rw [e], ?_, Fr.nil _, xx.trans x'⟩
    unfold F_TilesAt_0
    rw [if_neg (by rw [e]; exact hn)]
    exact Ow.nil _ _
  refine bif_eq (fun h0 => ?_) (fun hne => bif_ne (fun _ => none _ _ (code_split_ne hne) hne (Ext.refl _)) (fun h0 => absurd h0 hne))
  obtain ⟨hs, hp⟩ := codeOf_zero h0
  have h5 := hp.1.1
  have hT0 := hp.1.2 0 (by omega)
  have ok := dp_ok hs hp
  rw [w64_of (n := (q.len : Int) - 1) (by omega) (by omega)]
  refine l01In_k ?_
  refine bif_not (fun hb => bif_ne (fun _ => none _ _ (code_split_no h0 fun t => ?_) (by omega) (Ext.refl _)) (fun h2 => by omega)) (fun hb => ?_)
  · rw [decide_eq_false_iff_not] at hb
    have := t.1; omega
  rw [decide_eq_true_eq] at hb
  refine (rr.ext xx).ldG (i := 0) (by omega) (by omega) fun v0 rv0 lv0 => ?_
  replace lv0 : v0.len = (rw_ plan 0).length := lv0
  rw [w64_of (n := (v0.len : Int) - 1) (by omega) (by omega)]
  refine l01In_k ?_
  refine bif_not (fun hb2 => bif_ne (fun _ => none _ _ (code_split_no h0 fun t => ?_) (by omega) (Ext.refl _)) (fun h2 => by omega)) (fun hb2 => ?_)
  · rw [decide_eq_false_iff_not] at hb2
    have := t.2; omega
  rw [decide_eq_true_eq] at hb2
  have hin : placeIn plan y x := ⟨by omega, by omega⟩
  have e1 : F_TilesAt_1 c ts plan borders y x = 0 := code_split h0 hin
  refine bif_ne (fun hne => absurd h0 hne) (fun _ => ?_)
  refine slotK_in fun h3 x3 l3 => ?_
  have x03 := xx.trans x3
  have o3 := o1.ext (x2.trans x3)
  refine o3.ldA rfl ?_
  refine (l03Stand_c hs hp (r.ext x03) (rr.ext x03) (rb.ext x03)).to ?_
  rintro sv h4 ⟨⟨us, rus, hul2, hus⟩, frv, x4⟩
  have x04 := x03.trans x4
  have hx2 := xx.len
  have lx1 := x1.len
  have lx2 := x2.len
  have lx4 := x4.len
  refine (rr.ext xx).ixC (i := 0) (by omega) (by omega) fun p5 v1 hp5 rv1 lv1 => ⟨v1, (x3.trans x4).cell hp5, ?_⟩
  replace lv1 : v1.len = (rw_ plan 0).length := lv1
  refine ⟨(x4.cellE (x3.cell hp5)).symm, ?_⟩
  rw [lv1, place_w hp hin]
  have hpb := place_bound hp hin
  have esz : (dpOf c ts plan borders).size = plan.length * (rw_ plan 0).length := rfl
  obtain ⟨m, hm, hst⟩ := hus _ (by rw [esz]; exact hpb)
  have hsl := rus.ilen
  refine rus.ixO (by omega) (by omega) fun p6 po6 hp6 => ?_
  rw [Int.toNat_natCast, Nat.mul_one] at hp6
  have hc6 : cell h4 p6 = some (i64 m) := by
    have e := cell_of_range hp6 (i := 0) (by omega)
    rw [show (⟨p6.o, p6.n, p6.off + 0⟩ : Pt) = p6 from rfl] at e
    rw [e]
    have h' : us[y.toNat * (rw_ plan 0).length + x.toNat]? = some (m : Int) := by
      rw [List.getD_eq_getElem?_getD, List.getElem?_eq_getElem (by omega)] at hm
      rw [List.getElem?_eq_getElem (by omega)]; exact congrArg some hm
    rw [List.getElem?_take, if_pos (by omega), List.getElem?_drop, Nat.add_zero]
    exact ic_at h'
  refine ⟨_, hc6, ?_⟩
  refine newSat_ow (by omega) (by rfl) fun s0 h5 os0 ls0 so0 b5 n5 => ?_
  have n6 : some (h2.length + 14) ≠ p6.o := fun e => by
    rw [po6] at e
    have := frv _ e.symm
    omega
  have hp5o : ∀ o, p5.o = some o → o < h2.length := fun o eo => by
    obtain ⟨pn, po, poff⟩ := p5
    cases eo
    unfold cell at hp5
    obtain ⟨xs, hxs, _⟩ := Option.bind_eq_some_iff.1 hp5
    exact cells_lt hxs
  have n5' : some (h2.length + 14) ≠ p5.o := fun e => by have := hp5o _ e.symm; omega
  have o4 := o3.ext x4
  have x25 : Ext h2 h5 := (x3.trans x4).but_ b5 (some_le (by omega))
  have o5 := o1.ext (x2.trans x25)
  refine ⟨(o4.rangeE rfl).trans (o3.rangeE rfl).symm, b5.cellE hc6 (.inl n6), b5.cellE ((x3.trans x4).cell hp5) (.inl n5'), (o5.rangeE rfl).trans (o3.rangeE rfl).symm, ?_⟩
  refine spec_TilesAt_rule0 _ _ _ _ (fun s i g => ∃ k : Nat, i = k ∧ k ≤ ts.length ∧ Ow g s 1 (ic (bitsL m k)) ∧ s.o = some (h2.length + 14) ∧ Ext h2 g) (fun _ i _ => (ts.length - i).toNat) ?_ _ _
    ⟨0, rfl, by omega, os0, so0, x25⟩
  rintro X s _ g ⟨i, rfl, hi, os, so, xg⟩ hX
  unfold spec_TilesAt_b0 spec_TilesAt_C0
  refine isPt_in ((o1.ext (x2.trans xg)).ldS rfl rfl ?_)
  have hs16 := hs.2.1
  refine bif_dec (fun hi2 => ?_) (fun hi2 => ?_)
  · refine ⟨by rw [wrap16 i (by omega)]; omega, ?_⟩
    rw [shr16 hst.1 (by omega)]
    have hls := bitsL_len m i
    rw [w64_of (by omega) (by omega)]
    refine bif_b (fun qb => ?_) (fun qb => ?_)
    · refine pushO os (by unfold lim; omega) fun s' g5 os5 b5 k5 => ?_
      rw [so] at b5
      refine hX _ _ _ ⟨i + 1, by push_cast; rfl, by omega, ?_, k5 _ so, xg.but_ b5 (some_le (by omega))⟩ (by omega)
      rw [bitsL_succ, if_pos qb]; exact os5
    · refine hX _ _ _ ⟨i + 1, by push_cast; rfl, by omega, ?_, so, xg⟩ (by omega)
      rw [bitsL_succ, if_neg (by rw [qb]; decide), List.append_nil]; exact os
  · have hil : i = ts.length := by omega
    subst hil
    refine ⟨s, by rw [e1], ?_, fun o e => ?_, xx.trans xg⟩
    · unfold F_TilesAt_0
      rw [if_pos e1, show atL (dpOf c ts plan borders) (y.toNat * (rw_ plan 0).length + x.toNat) ts.length = atL (dpOf c ts plan borders) (y.toNat * (rw_ plan 0).length + x.toNat) (dpOf c ts plan borders).n from rfl, ← bits_at ok (by rw [esz]; exact hpb) hst]
      exact os
    · rw [so] at e; cases e; omega
theorem TilesAt_small0 (sz : ts.length ≤ 1048576) (szr : plan.length ≤ 1048576) (hrs : ∀ l ∈ plan, l.length ≤ 1048576) (szb : borders.length ≤ 1048576) (hrb : ∀ l ∈ borders, l.length ≤ 1048576) {y x : Int} (by_ : i64ok y) (bx : i64ok x) : (F_TilesAt_0 c ts plan borders y x).length < 1000000 := by
  unfold F_TilesAt_0
  split
  · next h =>
    have := atL_len (dpOf c ts plan borders) (y.toNat * (rw_ plan 0).length + x.toNat) ts.length
    have := (codeOf_zero h).1.2.1
    omega
  · simp
end
end Go.Proofs.Ytgeakkmpohjohaa.Cl

/- Fillings by places: contracts of SamePlaces. No claim is stated here. -/
set_option linter.unusedVariables false
set_option linter.unusedSimpArgs false
namespace Go.Proofs.Ytgeakkmpohjohaa.Cl
open Go
theorem cut_rz {h : H} {s : Sl} {z : Nat} {cs : List AVal} (r : Rd h s z cs) (hs : 0 < s.len) {lo hi : Int} (h0 : 0 ≤ lo) (h1 : lo ≤ hi) (h2 : hi ≤ s.len) {K : Sl → Prop} (hk : ∀ s', Rd h s' z ((cs.drop (lo.toNat * z)).take ((hi - lo).toNat * z)) → s'.o = s.o → s'.len = (hi - lo).toNat → K s') : cut s z lo hi h K := by
  obtain a | ⟨a, b, e⟩ := r.at_
  · omega
  · obtain ⟨o, xs, ho, hc, hl, rfl⟩ := range_some e
    have hn : xs.length = s.n := by
      unfold cells at hc
      split at hc
      · split at hc
        · next q => rw [← Option.some.inj hc]; exact q
        · cases hc
      · split at hc
        · next q => rw [← Option.some.inj hc]; exact q
        · cases hc
      · cases hc
    have hm : hi.toNat * z ≤ s.len * z := Nat.mul_le_mul_right _ (by omega)
    refine ⟨⟨h0, h1⟩, ?_, (fun q => by rw [ho] at q; cases q), fun _ => ⟨a, by omega⟩, hk _ ⟨?_, ?_⟩ rfl rfl⟩
    · unfold okS
      rw [ho]
      simp only
      rw [hc]; rfl
    · have hlm : (hi - lo).toNat * z + lo.toNat * z = hi.toNat * z := by rw [← Nat.add_mul]; congr 1; omega
      show _ = (hi - lo).toNat * z
      simp only [List.length_take, List.length_drop]
      omega
    · by_cases q : (hi - lo).toNat = 0
      · exact .inl q
      · refine .inr ⟨rfl, b, ?_⟩
        have hlm : (hi - lo).toNat * z + lo.toNat * z = hi.toNat * z := by rw [← Nat.add_mul]; congr 1; omega
        have hh : lo.toNat * z + (hi - lo).toNat * z ≤ s.len * z := by omega
        exact range_sub e hh
theorem ownS_c {h0 : H} {x : Sl} {l : List Int} (r : Rd h0 x 1 (ic l)) (hl : l.length ≤ 1048576) : callS SP i_spec_l01Own [.sl x] h0 fun s h' => Ow h' s 1 (ic l) ∧ Fr h0.length s ∧ Ext h0 h' := by
  have hx := r.ilen
  apply spec_l01Own_call
  unfold spec_l01Own_main
  refine newS_ow (by rfl) fun s h1 os ls so e1 => ?_
  have x1 : Ext h0 h1 := by rw [e1]; exact Ext.app _ _
  refine app_ow (cs := []) (by omega) os (r.ext x1) (by unfold lim; omega) fun s' h' o' ln b k1 k2 => ⟨_, rfl, by simpa using o', fun o e => ?_, x1.but_ b fun o e => by rw [so] at e; cases e; exact Nat.le_refl _⟩
  have := k1 _ so
  rw [this] at e; cases e; exact Nat.le_refl _
theorem NewSS.pushZ {n : Nat} {h h' : H} {s : Sl} {ls : List (List Int)} (r0 : NewSS n h s ls) (x : Ext h h') {v : Sl} {l : List Int} (ov : Ow h' v 1 (ic l)) (fv : Fr h.length v) (hn : n ≤ h.length) (hl : (ls.length : Int) + 1 ≤ lim) {K : Sl → H → Prop}
    (hk : ∀ s' g, NewSS n g s' (ls ++ [l]) → But s.o h' g → (∀ o, s.o = some o → s'.o = some o) → K s' g) : newS 1 1 [.sl v] h' fun t h1 => Cl.app s t 1 h1 K := by
  refine newS_ow (by rfl) fun t h1 ot tl to e1 => ?_
  have e1' : Ext h' h1 := by rw [e1]; exact Ext.app _ _
  refine ((r0.ext x).ext e1').app_new (ov.ext e1') fv hn ⟨h, r0, Nat.le_refl _, x.trans e1'⟩ ot.rd hl (Nat.le_trans hn (Nat.le_trans x.len e1'.len)) fun s' g n' b k1 _ => hk s' g n' ((e1'.but _).trans b) k1
theorem NewSS.frZ {n h s ls} (r : NewSS n h s ls) : Fr n s := by obtain ⟨_, _, _, f, _⟩ := r; exact f
theorem rows_cut {f : Nat → Int} {Hh w y : Nat} (hy : y < Hh) : (((List.range (Hh * w)).map f).drop (y * w)).take w = (List.range w).map fun x => f (y * w + x) := by
  have : (y + 1) * w ≤ Hh * w := Nat.mul_le_mul_right _ hy
  rw [Nat.add_mul, Nat.one_mul] at this
  refine List.ext_getElem (by simp; omega) fun i h1 h2 => ?_
  simp
def rowsOf (f : Nat → Int) (Hh w : Nat) : List (List Int) := (List.range Hh).map fun y => (List.range w).map fun x => f (y * w + x)
theorem rowsOf_succ (f : Nat → Int) (y w : Nat) : rowsOf f (y + 1) w = rowsOf f y w ++ [(List.range w).map fun x => f (y * w + x)] := by
  unfold rowsOf
  rw [List.range_succ, List.map_append]; rfl
theorem rowsOf_len (f : Nat → Int) (y w : Nat) : (rowsOf f y w).length = y := by unfold rowsOf; simp
theorem l03Cut_c {h : H} {s : Sl} {f : Nat → Int} {Hh w : Nat} (h5 : Hh ≤ 5) (w1 : 1 ≤ w) (w5 : w ≤ 5) (r : Rd h s 1 (ic ((List.range (Hh * w)).map f))) :
    callS SP i_spec_l03Cut [.sl s, i64 w] h fun v h' => NewSS h.length h' v (rowsOf f Hh w) ∧ Ext h h' := by
  have hl : s.len = Hh * w := by have := r.ilen; simpa using this
  have hm : Hh * w ≤ 5 * 5 := Nat.mul_le_mul h5 w5
  apply spec_l03Cut_call
  unfold spec_l03Cut_main
  refine newS_ow (by rfl) fun s0 h1 os ls so e1 => ?_
  have x1 : Ext h h1 := by rw [e1]; exact Ext.app _ _
  refine spec_l03Cut_rule0 _ _ _ _ (fun v i g => ∃ y : Nat, i = ((y * w : Nat) : Int) ∧ y ≤ Hh ∧ NewSS h.length g v (rowsOf f y w) ∧ Ext h g) (fun _ i _ => (Hh * w - i).toNat) ?_ _ _
    ⟨0, by simp, by omega, NewSS.mk0 os (fun o e => by rw [so] at e; cases e; exact Nat.le_refl _), x1⟩
  rintro X v _ g ⟨y, rfl, hy, nv, xg⟩ hX
  unfold spec_l03Cut_b0 spec_l03Cut_C0
  refine bif_dec (fun hi => ?_) (fun hi => ?_)
  · have hyl : y < Hh := by
      rcases Nat.lt_or_ge y Hh with h' | h'
      · exact h'
      · have := Nat.mul_le_mul_right w h'
        omega
    have hyw : (y + 1) * w ≤ Hh * w := Nat.mul_le_mul_right _ hyl
    have e2 : (y + 1) * w = y * w + w := by rw [Nat.add_mul, Nat.one_mul]
    have e3 : w64 (((y * w : Nat) : Int) + (w : Int)) = (((y + 1) * w : Nat) : Int) := by rw [w64_of (by omega) (by omega)]; omega
    rw [e3]
    refine cut_rz (r.ext xg) (by omega) (by omega) (by omega) (by omega) fun s' rs os' ls' => ?_
    have e4 : (((ic ((List.range (Hh * w)).map f)).drop (((y * w : Nat) : Int).toNat * 1)).take (((((y + 1) * w : Nat) : Int) - ((y * w : Nat) : Int)).toNat * 1)) = ic ((List.range w).map fun x => f (y * w + x)) := by
      rw [show (((((y + 1) * w : Nat) : Int) - ((y * w : Nat) : Int)).toNat * 1) = w by omega, show (((y * w : Nat) : Int).toNat * 1) = y * w by omega, ← rows_cut hyl]
      unfold ic
      rw [← List.map_drop, ← List.map_take]
    rw [e4] at rs
    refine (ownS_c rs (by simp; omega)).to ?_
    rintro s2 g2 ⟨o2, f2, x2⟩
    refine nv.pushZ x2 o2 f2 xg.len (by rw [rowsOf_len]; unfold lim; omega) fun s3 g3 n3 b3 k3 => ?_
    refine hX _ _ _ ⟨y + 1, rfl, hyl, by rw [rowsOf_succ]; exact n3, (xg.trans x2).but_ b3 fun o e => nv.frZ o e⟩ (by omega)
  · have hyl : y = Hh := by
      rcases Nat.lt_or_ge y Hh with h' | h'
      · have := Nat.mul_le_mul_right w (show y + 1 ≤ Hh from h')
        rw [Nat.add_mul, Nat.one_mul] at this
        omega
      · omega
    subst hyl
    exact ⟨_, rfl, nv, xg⟩
/-! ### the tile that stands at a place alone -/
noncomputable def sameAt (D : Dp) (p : Nat) : Int := if (atL D p D.n).length = 1 then (atL D p D.n).getD 0 0 else -1
theorem bitsL_pow (i : Nat) : ∀ k, bitsL (2 ^ i) k = if i < k then [(i : Int)] else []
  | 0 => rfl
  | k + 1 => by
    rw [bitsL_succ, bitsL_pow i k, Nat.testBit_two_pow]
    by_cases h : i < k
    · rw [if_pos h, if_neg (by simp; omega), if_pos (by omega)]; rfl
    · rw [if_neg h]
      by_cases h2 : i = k
      · subst h2; simp
      · rw [if_neg (by simp; omega), if_neg (by omega)]; rfl
theorem mem_bitsL {m k : Nat} {a : Int} : a ∈ bitsL m k ↔ ∃ i : Nat, a = i ∧ i < k ∧ m.testBit i = true := by
  unfold bitsL
  simp only [List.mem_map, List.mem_filter, List.mem_range]
  exact ⟨fun ⟨i, ⟨a, b⟩, c⟩ => ⟨i, c.symm, a, b⟩, fun ⟨i, c, a, b⟩ => ⟨i, ⟨a, b⟩, c.symm⟩⟩
theorem bits_one {m n : Nat} (hm : ∀ j, m.testBit j = true → j < n) : (bitsL m n).length = 1 ↔ ∃ i, i < n ∧ m = 2 ^ i := by
  constructor
  · intro h
    obtain ⟨a, ha⟩ := List.length_eq_one_iff.1 h
    have h1 : a ∈ bitsL m n := by rw [ha]; simp
    obtain ⟨i, rfl, hi, hb⟩ := mem_bitsL.1 h1
    refine ⟨i, hi, Nat.eq_of_testBit_eq fun j => ?_⟩
    rw [Nat.testBit_two_pow]
    by_cases hj : m.testBit j = true
    · have h2 : (j : Int) ∈ bitsL m n := mem_bitsL.2 ⟨j, rfl, hm j hj, hj⟩
      rw [ha] at h2
      have : (j : Int) = i := by simpa using h2
      have : j = i := by omega
      subst this
      rw [hb]; simp
    · have hne : i ≠ j := fun e => by subst e; exact hj hb
      simp only [Bool.not_eq_true] at hj
      rw [hj]; simp [hne]
  · rintro ⟨i, hi, rfl⟩
    rw [bitsL_pow, if_pos hi]; rfl
/-- What the reference makes of the bits. -/
def OwnI (m k : Nat) (own : Int) : Prop := (own = -1 ∧ ∀ i, i < k → m ≠ 2 ^ i) ∨ ∃ i : Nat, i < k ∧ m = 2 ^ i ∧ own = i
theorem own_end {D : Dp} (ok : D.OK) {p m : Nat} (hp : p < D.size) (hs : StandN D p m) {own : Int} (h : OwnI m D.n own) : own = sameAt D p := by
  have hone := bits_one (m := m) (n := D.n) fun j hj => ((hs.2 j).1 hj).1
  unfold sameAt
  rw [← bits_at ok hp hs]
  rcases h with ⟨rfl, hn⟩ | ⟨i, hi, rfl, rfl⟩
  · rw [if_neg]
    intro e
    obtain ⟨i, hi, e2⟩ := hone.1 e
    exact hn i hi e2
  · rw [if_pos (hone.2 ⟨i, hi, rfl⟩), bitsL_pow, if_pos hi]; rfl
open Classical in
noncomputable def F_SamePlaces_1 (c : Int) (ts : List Tile) (plan borders : List (List Int)) : Int :=
  if planCodeF c ts plan borders = 0 then (if (dpOf c ts plan borders).left 0 0 then 0 else 4) else planCodeF c ts plan borders
open Classical in
noncomputable def F_SamePlaces_0 (c : Int) (ts : List Tile) (plan borders : List (List Int)) : List (List Int) :=
  if F_SamePlaces_1 c ts plan borders = 0 then rowsOf (sameAt (dpOf c ts plan borders)) plan.length (rw_ plan 0).length else []
section
variable {c : Int} {ts : List Tile} {plan borders : List (List Int)} {u q bq : Sl} {h : H}
set_option maxHeartbeats 1000000 in
theorem impl_SamePlaces_c (r : Rd h u 4 (tcs ts)) (rr : RdSS h q plan) (rb : RdSS h bq borders) (sz : ts.length ≤ 1048576) (szr : plan.length ≤ 1048576) (hrs : ∀ l ∈ plan, l.length ≤ 1048576) (szb : borders.length ≤ 1048576) (hrb : ∀ l ∈ borders, l.length ≤ 1048576) :
    callV SP i_impl_SamePlaces [.agg (SetC c u), .sl q, .sl bq] h fun v h' => ∃ s, v = .tuple [.sl s, i64 (F_SamePlaces_1 c ts plan borders)] ∧ NewSS h.length h' s (F_SamePlaces_0 c ts plan borders) ∧ Ext h h' := by
  have hq := rr.len
  apply impl_SamePlaces_call
  unfold impl_SamePlaces_main
  refine newK_obj fun h1 o1 x1 l1 => ?_
  refine o1.ldA rfl ?_
  refine (planCode_c (r.ext x1) (rr.ext x1) (rb.ext x1) sz szr hrs szb).to ?_
  rintro _ h2 ⟨rfl, x2⟩
  have xx := x1.trans x2
  have none : ∀ n h', F_SamePlaces_1 c ts plan borders = n → n ≠ 0 → Ext h2 h' → ∃ s, AVal.tuple [.sl Sl.nil, .int .i64 n] = .tuple [.sl s, i64 (F_SamePlaces_1 c ts plan borders)] ∧ NewSS h.length h' s (F_SamePlaces_0 c ts plan borders) ∧ Ext h h' := fun n h' e hn x' => by
    refine ⟨Sl.nil, by rw [e], ?_, xx.trans x'⟩
    unfold F_SamePlaces_0
    rw [if_neg (by rw [e]; exact hn)]
    exact NewSS.nil _ _
  refine bif_ne (fun hne => none _ _ (by unfold F_SamePlaces_1; rw [if_neg hne]) hne (Ext.refl _)) (fun h0 => ?_)
  obtain ⟨hs, hp⟩ := codeOf_zero h0
  have ok := dp_ok hs hp
  have h5 := hp.1.1
  have hT0 := hp.1.2 0 (by omega)
  refine (o1.ext x2).ldA rfl ?_
  refine (newFiller_c hs hp (r.ext xx) (rr.ext xx) (rb.ext xx)).to ?_
  rintro _ h3 ⟨⟨fo, pw, cn, al, rfl, ob, f, at_⟩, x3⟩
  refine newS_ow (by rfl) fun s8 h9 os8 ls8 so8 e9 => ?_
  have x9 : Ext h3 h9 := by rw [e9]; exact Ext.app _ _
  have x39 := xx.trans (x3.trans x9)
  refine ⟨rfl, rfl, (ob.ext x9).ldS (i := 6) rfl rfl ?_⟩
  obtain ⟨vs, hvl, rvs, hrow⟩ := id at_
  have ok0 := ok.hc
  have esz : (dpOf c ts plan borders).size = plan.length * (rw_ plan 0).length := rfl
  refine (rvs.ext x9).ldS (i := 0) (by omega) (by omega) fun w0 hw0 => ?_
  obtain ⟨bl, rb1, yb⟩ := hrow 0 w0 hw0
  have hlim0 : 0 < (dpOf c ts plan borders).lim := Nat.pow_pos ok.hc
  refine Rd.ldB (rb1.ext x9) (by omega) (by rw [yb.1]; exact_mod_cast hlim0) fun b hb => ?_
  have hba : b = true ↔ (dpOf c ts plan borders).left 0 0 := by
    have := yb.2 0 hlim0
    rw [List.getD_eq_getElem?_getD, show bl[0]? = some b from hb] at this
    exact this.trans (Dp.alive_zero ok)
  refine bif_not (fun qb => none _ _ (by
    unfold F_SamePlaces_1
    rw [if_pos h0, if_neg (fun t => by rw [hba.2 t] at qb; cases qb)]) (by omega) (x3.trans x9)) (fun qb => ?_)
  have e1 : F_SamePlaces_1 c ts plan borders = 0 := by
    unfold F_SamePlaces_1
    rw [if_pos h0, if_pos (hba.1 qb)]
  have Dn' : (dpOf c ts plan borders).n = ts.length := rfl
  rw [hq]
  refine impl_SamePlaces_rule0 _ _ _ _ _ (fun s i g => ∃ y : Nat, i = y ∧ y ≤ plan.length ∧ NewSS h3.length g s (rowsOf (sameAt (dpOf c ts plan borders)) y (rw_ plan 0).length) ∧ Ext h3 g) (fun _ i _ => (plan.length - i).toNat) ?_ _ _
    ⟨0, rfl, by omega, NewSS.mk0 os8 (fun o e => by rw [so8] at e; cases e; exact Nat.le_refl _), x9⟩
  rintro X s10 _ g ⟨y, rfl, hy, n10, xg⟩ hX
  unfold impl_SamePlaces_b0 impl_SamePlaces_C0
  refine bif_dec (fun hi => ?_) (fun hi => ?_)
  · refine (rr.ext (xx.trans (x3.trans xg))).ldG (by omega) (by omega) fun v rv lv => ?_
    rw [Int.toNat_natCast, (hp.1.2 y (by omega)).1] at lv
    clear rv
    rw [lv]
    refine newS_ow (by rfl) fun s13 g1 os13 ls13 so13 eg1 => ?_
    have xg1 : Ext g g1 := by rw [eg1]; exact Ext.app _ _
    refine impl_SamePlaces_rule2 _ _ X _ _ _ _ _ _ _ _ (fun s i g' => ∃ x : Nat, i = x ∧ x ≤ (rw_ plan 0).length ∧ Ow g' s 1 (ic ((List.range x).map fun x => sameAt (dpOf c ts plan borders) (y * (rw_ plan 0).length + x))) ∧ s.o = some g.length ∧ Ext g g') (fun _ i _ => ((rw_ plan 0).length - i).toNat) ?_ _ _
      ⟨0, rfl, by omega, os13, so13, xg1⟩
    rintro Y s _ g2 ⟨x, rfl, hx, os, so, x2'⟩ hY
    unfold impl_SamePlaces_b2 impl_SamePlaces_C2 impl_SamePlaces_C1
    have hm : plan.length * (rw_ plan 0).length ≤ 5 * 5 := Nat.mul_le_mul (by omega) (by omega)
    have hyy : (y + 1) * (rw_ plan 0).length ≤ plan.length * (rw_ plan 0).length := Nat.mul_le_mul_right _ (by omega)
    rw [Nat.add_mul, Nat.one_mul] at hyy
    refine bif_dec (fun hi2 => ?_) (fun hi2 => ?_)
    · rw [lv, show (y : Int) * ((rw_ plan 0).length : Int) = ((y * (rw_ plan 0).length : Nat) : Int) by push_cast; rfl, w64_of (n := ((y * (rw_ plan 0).length : Nat) : Int)) (by omega) (by omega), w64_of (n := ((y * (rw_ plan 0).length : Nat) : Int) + (x : Int)) (by omega) (by omega), show ((y * (rw_ plan 0).length : Nat) : Int) + (x : Int) = ((y * (rw_ plan 0).length + x : Nat) : Int) by push_cast; rfl]
      have x3g2 := xg.trans x2'
      have hat : AlvT (dpOf c ts plan borders) g2 al := ⟨vs, hvl, rvs.ext x3g2, fun j w hw => by obtain ⟨l, a, b⟩ := hrow j w hw; exact ⟨l, a.ext x3g2, b⟩⟩
      refine (filler_at_c hs hp (ob.ext x3g2) (f.ext x3g2) hat (p := y * (rw_ plan 0).length + x) (by omega)).to ?_
      rintro sa g3 ⟨oa, soa, x3'⟩
      have hal := oa.rd.ilen
      have nxt : ∀ z : Int, z = sameAt (dpOf c ts plan borders) (y * (rw_ plan 0).length + x) → newS 1 1 [.int .i64 z] g3 fun t h1 => app s t 1 h1 fun s' h' => Y (impl_SamePlaces_e2 ⟨some fo, 7, 0⟩ s10 y v s' q plan.length y (rw_ plan 0).length (w64 ((x : Int) + 1))) h' := fun z ez => by
        refine pushO (os.ext x3') (by simp; unfold lim; omega) fun s' g5 os5 b5 k5 => ?_
        rw [so] at b5
        rw [w64_of (n := (x : Int) + 1) (by omega) (by omega)]
        refine hY _ _ _ ⟨x + 1, by push_cast; rfl, by omega, ?_, k5 _ so, (x2'.trans x3').but_ b5 (some_le (Nat.le_refl _))⟩ (by omega)
        rw [List.range_succ, List.map_append]
        rw [ez] at os5
        exact os5
      refine bif_eq (fun e => ?_) (fun e => ?_)
      · have e' : (atL (dpOf c ts plan borders) (y * (rw_ plan 0).length + x) ts.length).length = 1 := by omega
        refine oa.rd.ldG (i := 0) (by omega) (by omega) ?_
        refine nxt _ ?_
        unfold sameAt
        rw [Dn', if_pos e']; rfl
      · have e' : (atL (dpOf c ts plan borders) (y * (rw_ plan 0).length + x) ts.length).length ≠ 1 := by omega
        refine nxt _ ?_
        unfold sameAt
        rw [Dn', if_neg e']
    · have hxl : x = (rw_ plan 0).length := by omega
      refine n10.pushZ x2' os (fun o e => by rw [so] at e; cases e; exact Nat.le_refl _) xg.len (by rw [rowsOf_len]; unfold lim; omega) fun s3 g3 n3 b3 k3 => ?_
      rw [w64_of (n := (y : Int) + 1) (by omega) (by omega)]
      refine hX _ _ _ ⟨y + 1, by push_cast; rfl, by omega, ?_, (xg.trans x2').but_ b3 fun o e => n10.frZ o e⟩ (by omega)
      rw [rowsOf_succ, ← hxl]
      rw [← hxl] at n3
      exact n3
  · have hyl : y = plan.length := by omega
    subst hyl
    refine ⟨s10, by rw [e1], ?_, xx.trans (x3.trans xg)⟩
    unfold F_SamePlaces_0
    rw [if_pos e1]
    exact n10.le (xx.trans x3).len
theorem spec_SamePlaces_c (r : Rd h u 4 (tcs ts)) (rr : RdSS h q plan) (rb : RdSS h bq borders) (sz : ts.length ≤ 1048576) (szr : plan.length ≤ 1048576) (hrs : ∀ l ∈ plan, l.length ≤ 1048576) (szb : borders.length ≤ 1048576) (hrb : ∀ l ∈ borders, l.length ≤ 1048576) :
    callV SP i_spec_SamePlaces [.agg (SetC c u), .sl q, .sl bq] h fun v h' => ∃ s, v = .tuple [.sl s, i64 (F_SamePlaces_1 c ts plan borders)] ∧ NewSS h.length h' s (F_SamePlaces_0 c ts plan borders) ∧ Ext h h' := by
  have hq := rr.len
  have hul := r.tlen
  apply spec_SamePlaces_call
  unfold spec_SamePlaces_main
  refine newK_obj fun h1 o1 x1 l1 => ?_
  refine o1.ldA rfl ?_
  refine (l03Plan_c (r.ext x1) (rr.ext x1) (rb.ext x1) sz szr hrs szb hrb).to ?_
  rintro _ h2 ⟨rfl, x2⟩
  have xx := x1.trans x2
  have none : ∀ n h', F_SamePlaces_1 c ts plan borders = n → n ≠ 0 → Ext h2 h' → ∃ s, AVal.tuple [.sl Sl.nil, .int .i64 n] = .tuple [.sl s, i64 (F_SamePlaces_1 c ts plan borders)] ∧ NewSS h.length h' s (F_SamePlaces_0 c ts plan borders) ∧ Ext h h' := fun n h' e hn x' => by
    refine ⟨Sl.nil, by rw [e], ?_, xx.trans x'⟩
    unfold F_SamePlaces_0
    rw [if_neg (by rw [e]; exact hn)]
    exact NewSS.nil _ _
  refine bif_ne (fun hne => none _ _ (by unfold F_SamePlaces_1; rw [if_neg hne]) hne (Ext.refl _)) (fun h0 => ?_)
  obtain ⟨hs, hp⟩ := codeOf_zero h0
  have ok := dp_ok hs hp
  have h5 := hp.1.1
  have hT0 := hp.1.2 0 (by omega)
  have hs16 := hs.2.1
  refine (o1.ext x2).ldA rfl ?_
  refine (l03Stand_c hs hp (r.ext xx) (rr.ext xx) (rb.ext xx)).to ?_
  rintro sv h4 ⟨⟨us, rus, hul2, hus⟩, frv, x4⟩
  have x04 := xx.trans x4
  refine newS_ow (by rfl) fun s8 h9 os8 ls8 so8 e9 => ?_
  have x9 : Ext h4 h9 := by rw [e9]; exact Ext.app _ _
  have esz : (dpOf c ts plan borders).size = plan.length * (rw_ plan 0).length := rfl
  have hm : plan.length * (rw_ plan 0).length ≤ 5 * 5 := Nat.mul_le_mul (by omega) (by omega)
  have hpos : 0 < plan.length * (rw_ plan 0).length := Nat.mul_pos (by omega) (by omega)
  have hsl := rus.ilen
  have Dn' : (dpOf c ts plan borders).n = ts.length := rfl
  -- all places are seen only if there is a filling
  have hzero : ∀ p m, p < (dpOf c ts plan borders).size → StandN (dpOf c ts plan borders) p m → (m = 0 ↔ ∀ i, i < (dpOf c ts plan borders).n → ¬ (dpOf c ts plan borders).stand p i) := fun p m hp2 hst => by
    constructor
    · rintro rfl i hi hs2
      have := (hst.2 i).2 ⟨hi, hs2⟩
      simp at this
    · intro hn
      refine Nat.eq_of_testBit_eq fun j => ?_
      rw [Nat.zero_testBit]
      cases e : m.testBit j
      · rfl
      · obtain ⟨a, b⟩ := (hst.2 j).1 e
        exact absurd b (hn j a)
  refine spec_SamePlaces_rule0 _ _ _ _ _ (fun s i g => ∃ p : Nat, i = p ∧ p ≤ (dpOf c ts plan borders).size ∧ (0 < p → (dpOf c ts plan borders).left 0 0) ∧ Ow g s 1 (ic ((List.range p).map (sameAt (dpOf c ts plan borders)))) ∧ s.o = some h4.length ∧ Ext h4 g) (fun _ i _ => ((dpOf c ts plan borders).size - i).toNat) ?_ _ _
    ⟨0, rfl, by omega, fun h => by omega, os8, so8, x9⟩
  rintro X s10 _ g ⟨p, rfl, hpp, hleft, os, so, xg⟩ hX
  unfold spec_SamePlaces_b0 spec_SamePlaces_C0
  refine bif_dec (fun hi => ?_) (fun hi => ?_)
  · have hps : p < (dpOf c ts plan borders).size := by omega
    obtain ⟨m, hm1, hst⟩ := hus p hps
    have hz := hzero p m hps hst
    refine (rus.ext xg).ldG (by omega) (by omega) ?_
    rw [Int.toNat_natCast, hm1]
    refine bif_eq (fun e0 => none _ _ ?_ (by omega) (x4.trans xg)) (fun e0 => ?_)
    · have hm0 : m = 0 := by omega
      unfold F_SamePlaces_1
      rw [if_pos h0, if_neg]
      intro hl
      obtain ⟨i, hi, hs2⟩ := Dp.stand_some hl p hps
      exact hz.1 hm0 i hi hs2
    have hm0 : m ≠ 0 := by omega
    have hl : (dpOf c ts plan borders).left 0 0 := by
      rcases Nat.eq_zero_or_pos p with hp0 | hp0
      · subst hp0
        apply Classical.byContradiction
        intro hn
        exact hm0 (hz.2 fun i hi => Dp.stand_none (by omega) hn i hi)
      · exact hleft hp0
    refine spec_SamePlaces_rule2 _ _ X _ _ _ _ _ (fun own i g' => ∃ k : Nat, i = k ∧ k ≤ ts.length ∧ OwnI m k own ∧ g' = g) (fun _ i _ => (ts.length - i).toNat) ?_ _ _
      ⟨0, rfl, by omega, .inl ⟨rfl, fun i hi => by omega⟩, rfl⟩
    rintro Y own _ g' ⟨k, rfl, hk, hown, eg⟩ hY
    rw [eg]
    unfold spec_SamePlaces_b2 spec_SamePlaces_C2 spec_SamePlaces_C1
    refine isPt_in ((o1.ext ((x2.trans x4).trans xg)).ldS rfl rfl ?_)
    refine bif_dec (fun hi3 => ?_) (fun hi3 => ?_)
    · refine (rus.ext xg).ldG (by omega) (by omega) ?_
      rw [Int.toNat_natCast, hm1, wrap16 k (by omega), shl16 k (by omega), w64_of (n := (k : Int) + 1) (by omega) (by omega)]
      refine ⟨by omega, ?_⟩
      refine bif_eq (fun e => hY _ _ _ ⟨k + 1, by push_cast; rfl, by omega, .inr ⟨k, by omega, by exact_mod_cast e, rfl⟩, rfl⟩ (by omega)) (fun e => hY _ _ _ ⟨k + 1, by push_cast; rfl, by omega, ?_, rfl⟩ (by omega))
      have e' : m ≠ 2 ^ k := fun e2 => e (by rw [e2])
      rcases hown with ⟨a, b⟩ | ⟨i, a, b, d⟩
      · refine .inl ⟨a, fun i hi4 => ?_⟩
        by_cases e5 : i = k
        · rw [e5]; exact e'
        · exact b i (by omega)
      · exact .inr ⟨i, by omega, b, d⟩
    · have hkl : k = ts.length := by omega
      subst hkl
      have hown' := own_end ok hps hst (by rw [Dn']; exact hown)
      refine pushO os (by simp; unfold lim; omega) fun s' g5 os5 b5 k5 => ?_
      rw [so] at b5
      rw [w64_of (n := (p : Int) + 1) (by omega) (by omega)]
      refine hX _ _ _ ⟨p + 1, by push_cast; rfl, by omega, fun _ => hl, ?_, k5 _ so, xg.but_ b5 (some_le (Nat.le_refl _))⟩ (by omega)
      rw [List.range_succ, List.map_append]
      rw [hown'] at os5
      exact os5
  · have hpl : p = plan.length * (rw_ plan 0).length := by omega
    subst hpl
    have e1 : F_SamePlaces_1 c ts plan borders = 0 := by
      unfold F_SamePlaces_1
      rw [if_pos h0, if_pos (hleft hpos)]
    refine (rr.ext (x04.trans xg)).ldG (i := 0) (by omega) (by omega) fun v0 rv0 lv0 => ?_
    replace lv0 : v0.len = (rw_ plan 0).length := lv0
    rw [lv0]
    refine (l03Cut_c (by omega) (by omega) (by omega) os.rd).to ?_
    rintro s5 g5 ⟨n5, x5⟩
    refine ⟨s5, by rw [e1], ?_, (x04.trans xg).trans x5⟩
    unfold F_SamePlaces_0
    rw [if_pos e1]
    exact n5.le (x04.trans xg).len
theorem SamePlaces_small0 (sz : ts.length ≤ 1048576) (szr : plan.length ≤ 1048576) (hrs : ∀ l ∈ plan, l.length ≤ 1048576) (szb : borders.length ≤ 1048576) (hrb : ∀ l ∈ borders, l.length ≤ 1048576) : (F_SamePlaces_0 c ts plan borders).length < 1000000 ∧ sumLen (F_SamePlaces_0 c ts plan borders) < 1000000 := by
  unfold F_SamePlaces_0
  split
  · next h =>
    have h0 : planCodeF c ts plan borders = 0 := by
      unfold F_SamePlaces_1 at h
      split at h
      · assumption
      · exact h
    obtain ⟨hs, hp⟩ := codeOf_zero h0
    have h5 := hp.1.1
    have hT0 := hp.1.2 0 (by omega)
    have hsum : ∀ n, sumLen (rowsOf (sameAt (dpOf c ts plan borders)) n (rw_ plan 0).length) = n * (rw_ plan 0).length := by
      intro n
      induction n with
      | zero => simp [rowsOf, sumLen]
      | succ n ih =>
        rw [rowsOf_succ]
        unfold sumLen at ih ⊢
        rw [List.map_append, List.sum_append, ih, Nat.add_mul]
        simp
    have hm : plan.length * (rw_ plan 0).length ≤ 5 * 5 := Nat.mul_le_mul (by omega) (by omega)
    rw [rowsOf_len, hsum]
    omega
  · simp [sumLen]
end
end Go.Proofs.Ytgeakkmpohjohaa.Cl

/- What the arguments of a law are. No claim is stated here. -/
set_option linter.unusedVariables false
set_option linter.unusedSimpArgs false
namespace Go.Proofs.Ytgeakkmpohjohaa.Cl
open Go
theorem den_int {P : Program} {h : H} {t : TypeId} {xs : List AVal} {pd : PD} {k : IntKind} (hu : P.underlying t = some (.int k)) (d : Den P h t xs pd) : ∃ n, xs = [.int k n] ∧ (Lit.int k n).wf = true := by
  cases d with
  | int a b => rw [hu] at a; cases a; exact ⟨_, rfl, b⟩
  | bool a => rw [hu] at a; cases a
  | arr a => rw [hu] at a; cases a
  | struct a => rw [hu] at a; cases a
  | sl a => rw [hu] at a; cases a
theorem den_tile {P : Program} {h : H} {t e : TypeId} {xs : List AVal} {pd : PD} (hu : P.underlying t = some (.array 4 e)) (he : P.underlying e = some (.int .i64)) (d : Den P h t xs pd) : ∃ t : Tile, xs = tc t := by
  cases d with
  | int a b => rw [hu] at a; cases a
  | bool a => rw [hu] at a; cases a
  | @arr t n e' ass ds a b c d =>
    rw [hu] at a; cases a
    match ass, ds, b, c, d with
    | [a0, a1, a2, a3], [d0, d1, d2, d3], _, _, d =>
      obtain ⟨n0, rfl, _⟩ := den_int he (d 0 a0 d0 rfl rfl)
      obtain ⟨n1, rfl, _⟩ := den_int he (d 1 a1 d1 rfl rfl)
      obtain ⟨n2, rfl, _⟩ := den_int he (d 2 a2 d2 rfl rfl)
      obtain ⟨n3, rfl, _⟩ := den_int he (d 3 a3 d3 rfl rfl)
      exact ⟨(n0, n1, n2, n3), rfl⟩
  | struct a => rw [hu] at a; cases a
  | sl a => rw [hu] at a; cases a
theorem den_sl {P : Program} {h : H} {t e : TypeId} {xs : List AVal} {pd : PD} (hu : P.underlying t = some (.slice e)) (d : Den P h t xs pd) : ∃ (s : Sl) (ass : List (List AVal)) (ds : List PD), xs = [.sl s] ∧ ass.length = s.len ∧ ds.length = s.len ∧ s.len ≤ maxLen ∧ Rd h s (P.cellsOf e) ass.flatten ∧ ∀ (i : Nat) a d, ass[i]? = some a → ds[i]? = some d → Den P h e a d := by
  cases d with
  | int a b => rw [hu] at a; cases a
  | bool a => rw [hu] at a; cases a
  | arr a => rw [hu] at a; cases a
  | struct a => rw [hu] at a; cases a
  | sl a b c d e f => rw [hu] at a; cases a; exact ⟨_, _, _, rfl, b, c, d, e, f⟩
theorem all_tiles {P : Program} {h : H} {t e : TypeId} (hu : P.underlying t = some (.array 4 e)) (he : P.underlying e = some (.int .i64)) : ∀ (ass : List (List AVal)) (ds : List PD), ass.length = ds.length → (∀ (i : Nat) a d, ass[i]? = some a → ds[i]? = some d → Den P h t a d) → ∃ ts : List Tile, ass.flatten = tcs ts
  | [], _, _, _ => ⟨[], rfl⟩
  | a :: ass, [], h, _ => by simp at h
  | a :: ass, d :: ds, hl, hd => by
    obtain ⟨t, rfl⟩ := den_tile hu he (hd 0 a d rfl rfl)
    obtain ⟨ts, e⟩ := all_tiles hu he ass ds (by simpa using hl) (fun i a d x y => hd (i + 1) a d (by simpa using x) (by simpa using y))
    exact ⟨t :: ts, by rw [List.flatten_cons, e, tcs_cons]⟩
theorem arg_tiles {P : Program} {h : H} {t u e : TypeId} {xs : List AVal} {pd : PD} (ht : P.underlying t = some (.slice u)) (hu : P.underlying u = some (.array 4 e)) (he : P.underlying e = some (.int .i64)) (hc : P.cellsOf u = 4) (d : Den P h t xs pd) : ∃ (s : Sl) (ts : List Tile), xs = [.sl s] ∧ Rd h s 4 (tcs ts) ∧ s.len ≤ 9223372036854775807 := by
  obtain ⟨s, ass, ds, rfl, l1, l2, l3, r, hd⟩ := den_sl ht d
  obtain ⟨ts, e⟩ := all_tiles hu he ass ds (by omega) hd
  rw [hc, e] at r
  exact ⟨s, ts, rfl, r, by unfold maxLen at l3; omega⟩
theorem sep_of {n : Nat} {s w : Sl} {g : H} {z : Nat} {cs : List AVal} (f : Fr n s) (r : Ow g w z cs) (h : g.length ≤ n) : s.o ≠ w.o ∨ s.o = none := by
  cases hs : s.o with
  | none => exact .inr rfl
  | some o =>
    refine .inl fun e => ?_
    have h1 := f o hs
    have h2 := r.lt e.symm
    omega
theorem all_ints {P : Program} {h : H} {t : TypeId} (ht : P.underlying t = some (.int .i64)) : ∀ (ass : List (List AVal)) (ds : List PD), ass.length = ds.length → (∀ (i : Nat) a d, ass[i]? = some a → ds[i]? = some d → Den P h t a d) → ∃ l : List Int, ass.flatten = ic l
  | [], _, _, _ => ⟨[], rfl⟩
  | a :: ass, [], h, _ => by simp at h
  | a :: ass, d :: ds, hl, hd => by
    obtain ⟨n, rfl, _⟩ := den_int ht (hd 0 a d rfl rfl)
    obtain ⟨l, e⟩ := all_ints ht ass ds (by simpa using hl) (fun i a d x y => hd (i + 1) a d (by simpa using x) (by simpa using y))
    exact ⟨n :: l, by rw [List.flatten_cons, e, ic_cons]; rfl⟩
theorem arg_ints {P : Program} {h : H} {t u : TypeId} {xs : List AVal} {pd : PD} (ht : P.underlying t = some (.slice u)) (hu : P.underlying u = some (.int .i64)) (hc : P.cellsOf u = 1) (d : Den P h t xs pd) : ∃ (s : Sl) (l : List Int), xs = [.sl s] ∧ Rd h s 1 (ic l) ∧ s.len ≤ 9223372036854775807 := by
  obtain ⟨s, ass, ds, rfl, l1, l2, l3, r, hd⟩ := den_sl ht d
  obtain ⟨l, e⟩ := all_ints hu ass ds (by omega) hd
  rw [hc, e] at r
  exact ⟨s, l, rfl, r, by unfold maxLen at l3; omega⟩
theorem all_rows {P : Program} {h : H} {t u : TypeId} (ht : P.underlying t = some (.slice u)) (hu : P.underlying u = some (.int .i64)) (hc : P.cellsOf u = 1) : ∀ (ass : List (List AVal)) (ds : List PD), ass.length = ds.length → (∀ (i : Nat) a d, ass[i]? = some a → ds[i]? = some d → Den P h t a d) →
    ∃ (vs : List Sl) (ls : List (List Int)), ass.flatten = vs.map .sl ∧ vs.length = ass.length ∧ ls.length = ass.length ∧ (∀ (i : Nat) v l, vs[i]? = some v → ls[i]? = some l → Rd h v 1 (ic l)) ∧ ∀ l ∈ ls, l.length ≤ 9223372036854775807
  | [], _, _, _ => ⟨[], [], rfl, rfl, rfl, fun i v l h => by simp at h, fun l h => by simp at h⟩
  | a :: ass, [], h, _ => by simp at h
  | a :: ass, d :: ds, hl, hd => by
    obtain ⟨s, l, rfl, r, b⟩ := arg_ints ht hu hc (hd 0 a d rfl rfl)
    obtain ⟨vs, ls, e1, e2, e3, e4, e5⟩ := all_rows ht hu hc ass ds (by simpa using hl) (fun i a d x y => hd (i + 1) a d (by simpa using x) (by simpa using y))
    refine ⟨s :: vs, l :: ls, by rw [List.flatten_cons, e1]; rfl, by simp [e2], by simp [e3], fun i v l' h1 h2 => ?_, fun l' h => ?_⟩
    · cases i with
      | zero => simp at h1 h2; subst h1 h2; exact r
      | succ i => exact e4 i v l' (by simpa using h1) (by simpa using h2)
    · rcases List.mem_cons.1 h with rfl | h
      · have := r.ilen; omega
      · exact e5 l' h
theorem arg_rows {P : Program} {h : H} {t u e : TypeId} {xs : List AVal} {pd : PD} (ht : P.underlying t = some (.slice u)) (hu : P.underlying u = some (.slice e)) (he : P.underlying e = some (.int .i64)) (hc : P.cellsOf u = 1) (hc' : P.cellsOf e = 1) (d : Den P h t xs pd) :
    ∃ (s : Sl) (ls : List (List Int)), xs = [.sl s] ∧ RdSS h s ls ∧ s.len ≤ 9223372036854775807 ∧ ∀ l ∈ ls, l.length ≤ 9223372036854775807 := by
  obtain ⟨s, ass, ds, rfl, l1, l2, l3, r, hd⟩ := den_sl ht d
  obtain ⟨vs, ls, e1, e2, e3, e4, e5⟩ := all_rows hu he hc' ass ds (by omega) hd
  rw [hc, e1] at r
  exact ⟨s, ls, rfl, ⟨vs, by omega, r, e4⟩, by unfold maxLen at l3; omega, e5⟩
theorem arg_int {P : Program} {h : H} {t : TypeId} {xs : List AVal} {pd : PD} (ht : P.underlying t = some (.int .i64)) (d : Den P h t xs pd) : ∃ n, xs = [i64 n] ∧ i64ok n := by
  obtain ⟨n, rfl, w⟩ := den_int ht d
  refine ⟨n, rfl, ?_⟩
  have w' : (decide (IntKind.i64.min ≤ n) && decide (n ≤ IntKind.i64.max)) = true := w
  simp only [Bool.and_eq_true, decide_eq_true_eq] at w'
  unfold i64ok
  have h1 : IntKind.i64.min = -9223372036854775808 := by decide
  have h2 : IntKind.i64.max = 9223372036854775807 := by decide
  omega
def structOK (P : Program) (t c u : TypeId) : Bool := match P.underlying t with
  | some (.struct fs) => fs.size == 2 && (fs[0]?).map (·.type) == some c && (fs[1]?).map (·.type) == some u
  | _ => false
theorem arg_set0 {P : Program} {h : H} {t c u v e : TypeId} {xs : List AVal} {pd : PD} {fs : Array Field} (ht : P.underlying t = some (.struct fs)) (hs : fs.size = 2) (h0 : (fs[0]?).map (·.type) = some c) (h1 : (fs[1]?).map (·.type) = some u) (hc : P.underlying c = some (.int .i64)) (hu : P.underlying u = some (.slice v)) (hv : P.underlying v = some (.array 4 e)) (he : P.underlying e = some (.int .i64)) (hz : P.cellsOf v = 4) (d : Den P h t xs pd) :
    ∃ (n : Int) (s : Sl) (ts : List Tile), xs = SetC n s ∧ Rd h s 4 (tcs ts) ∧ s.len ≤ 9223372036854775807 := by
  cases d with
  | int a b => rw [ht] at a; cases a
  | bool a => rw [ht] at a; cases a
  | arr a => rw [ht] at a; cases a
  | @struct t fs' ass ds a b b' d =>
    rw [ht] at a; cases a
    rw [hs] at b b'
    match ass, ds, b, b', d with
    | [a0, a1], [d0, d1], _, _, d =>
      cases e0 : fs[0]? with
      | none => rw [e0] at h0; cases h0
      | some f0 =>
        cases e1 : fs[1]? with
        | none => rw [e1] at h1; cases h1
        | some f1 =>
          rw [e0] at h0; rw [e1] at h1
          simp at h0 h1
          have k0 := d 0 f0 a0 d0 e0 rfl rfl
          have k1 := d 1 f1 a1 d1 e1 rfl rfl
          rw [h0] at k0; rw [h1] at k1
          obtain ⟨n, rfl, _⟩ := den_int hc k0
          obtain ⟨s, ts, rfl, r, b⟩ := arg_tiles hu hv he hz k1
          exact ⟨n, s, ts, rfl, r, b⟩
  | sl a => rw [ht] at a; cases a
theorem arg_set {P : Program} {h : H} {t c u v e : TypeId} {xs : List AVal} {pd : PD} (ht : structOK P t c u = true) (hc : P.underlying c = some (.int .i64)) (hu : P.underlying u = some (.slice v)) (hv : P.underlying v = some (.array 4 e)) (he : P.underlying e = some (.int .i64)) (hz : P.cellsOf v = 4) (d : Den P h t xs pd) :
    ∃ (n : Int) (s : Sl) (ts : List Tile), xs = SetC n s ∧ Rd h s 4 (tcs ts) ∧ s.len ≤ 9223372036854775807 := by
  unfold structOK at ht
  split at ht
  · next fs hf =>
    simp only [Bool.and_eq_true, beq_iff_eq] at ht
    exact arg_set0 hf ht.1.1 ht.1.2 ht.2 hc hu hv he hz d
  · cases ht
end Go.Proofs.Ytgeakkmpohjohaa.Cl
