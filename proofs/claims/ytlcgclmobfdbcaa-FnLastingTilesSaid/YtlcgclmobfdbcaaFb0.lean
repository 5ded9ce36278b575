/- Contracts of functions, joined. No claim is stated here. -/
import Derived.Test.YtlcgclmobfdbcaaFT
import Derived.Test.YtlcgclmobfdbcaaFG0
import Derived.Test.YtlcgclmobfdbcaaFG1
import Derived.Test.YtlcgclmobfdbcaaFa2
/- Typed forms of functions of the program, and their links. Printed by program. No claim is stated here. -/
set_option linter.unusedVariables false
namespace Go.Proofs.Ytlcgclmobfdbcaa.Cl
open Go
/-! ### loop.example/g01354/laws.FnLastingTiles -/
def laws_FnLastingTiles_M : Nat → List Nat := fun i => bif i == 0 then [3, 4, 8, 31] else bif i == 1036 then [3, 4, 8, 31] else bif i == 1035 then [2] else bif i == 1034 then [3, 4, 8, 197] else bif i == 1033 then [2] else bif i == 1032 then [3, 4, 5, 8, 9, 179] else bif i == 1031 then [2] else bif i == 1030 then [3, 4, 5, 8, 9, 177] else bif i == 1029 then [3, 4, 5, 8, 9, 13, 27, 28, 29, 30] else bif i == 1028 then [3, 4, 5, 8, 9, 13, 27, 28] else bif i == 1027 then [3, 4, 5, 8, 9, 13, 149] else bif i == 1026 then [2] else bif i == 1025 then [3, 4, 5, 8, 9, 13, 14, 147] else bif i == 1024 then [3, 4, 5, 8, 9, 13, 14, 19, 24, 25, 26] else bif i == 1023 then [3, 4, 5, 8, 9, 13, 14, 18, 19, 23, 24] else bif i == 1022 then [3, 4, 5, 8, 9, 13, 14, 17, 18, 19, 123] else bif i == 1021 then [2] else bif i == 1020 then [3, 4, 5, 8, 9, 13, 14, 17, 18, 19, 20, 121] else bif i == 1019 then [3, 4, 5, 8, 9, 13, 14, 17, 18, 19, 20, 21, 22] else bif i == 1018 then [3, 4, 5, 8, 9, 13, 14, 17, 18, 19, 20] else bif i == 1017 then [3, 4, 5, 8, 9, 13, 14, 17, 18] else bif i == 1016 then [2] else bif i == 1015 then [0, 3, 4, 5, 8, 9, 13, 14, 96] else bif i == 1014 then [0, 3, 4, 5, 8, 9, 13, 14, 15, 16] else bif i == 1013 then [0, 3, 4, 5, 8, 9, 12, 13, 14] else bif i == 1012 then [0, 3, 4, 5, 8, 9, 12] else bif i == 1011 then [2] else bif i == 1010 then [0, 3, 4, 5, 8, 9, 75] else bif i == 1009 then [0, 3, 4, 5, 8, 9, 10, 11] else bif i == 1008 then [0, 3, 4, 5, 8, 9] else bif i == 1007 then [2] else bif i == 1006 then [0, 3, 4, 5, 56] else bif i == 1005 then [0, 3, 4, 5, 6, 7] else bif i == 1004 then [0, 3, 4, 5] else bif i == 1003 then [0, 3] else bif i == 1002 then [2] else bif i == 1001 then [0, 35] else bif i == 1000 then [0] else []
theorem laws_FnLastingTiles_sp : (bodyOf Try.f3) = .seq (sub [0] (bodyOf Try.f3)) (sub [1] (bodyOf Try.f3)) := by kernel_rfl
def laws_FnLastingTiles_ks0 (S : SatT) (K : AVal → H → Prop) : Kont := kSeq (cwp S tab laws_FnLastingTiles_M [] (sub [1] (bodyOf Try.f3)) (kFun tab (Try.f3).results.toList K)) (kFun tab (Try.f3).results.toList K)
def laws_FnLastingTiles_f0 (s0_ : Sl) : Frame := [.sl s0_, U, U, U, U, U, U, U, U, U, U, U, U, U, U, U, U, U, U, U, U, U, U, U, U, U, U, U, U, U, U, U, U, U, U, U, U, U, U, U, U, U, U, U, U, U, U, U, U, U, U, U, U, U, U, U, U, U, U, U, U, U, U, U, U, U, U, U, U, U, U, U, U, U, U, U, U, U, U, U, U, U, U, U, U, U, U, U, U, U, U, U, U, U, U, U, U, U, U, U, U, U, U, U, U, U, U, U, U, U, U, U, U, U, U, U, U, U, U, U, U, U, U, U, U, U, U, U, U, U, U, U, U, U, U, U, U, U, U, U, U, U, U, U, U, U, U, U, U, U, U, U, U, U, U, U, U, U, U, U, U, U, U, U, U, U, U, U, U, U, U, U, U, U, U, U, U, U, U, U, U, U, U, U, U, U, U, U, U, U, U, U, U, U, U, U, U, U, U, U, U, U, U, U, U, U, U, U, U, U, U, U, U, U, U, U, U, U, U, U, U, U, U, U, U, U, U, U, U, U, U, U, U, U, U, U, U]
def laws_FnLastingTiles_g0_0 (S : SatT) (k : Kont) (x0 : Sl) (h : H) : Prop :=
 k .normal (laws_FnLastingTiles_f0 x0) h
theorem laws_FnLastingTiles_g0_0_link (S : SatT) (k : Kont) (m : List Nat) (x0 : Sl) (h : H) : cwp S tab laws_FnLastingTiles_M m (sub [0] (bodyOf Try.f3)) k (fr0 Try.f3 [.sl x0]) h = laws_FnLastingTiles_g0_0 S k x0 h := by kernel_rfl
theorem laws_FnLastingTiles_sp_1 : (sub [1] (bodyOf Try.f3)) = .seq (sub [1, 0] (bodyOf Try.f3)) (sub [1, 1] (bodyOf Try.f3)) := by kernel_rfl
theorem laws_FnLastingTiles_sp_1_0 : (sub [1, 0] (bodyOf Try.f3)) = .seq (sub [1, 0, 0] (bodyOf Try.f3)) (sub [1, 0, 1] (bodyOf Try.f3)) := by kernel_rfl
def laws_FnLastingTiles_ks1 (S : SatT) (K : AVal → H → Prop) : Kont := kSeq (cwp S tab laws_FnLastingTiles_M [] (sub [1, 1] (bodyOf Try.f3)) (kFun tab (Try.f3).results.toList K)) (kFun tab (Try.f3).results.toList K)
def laws_FnLastingTiles_ks2 (S : SatT) (K : AVal → H → Prop) : Kont := kSeq (cwp S tab laws_FnLastingTiles_M [] (sub [1, 0, 1] (bodyOf Try.f3)) (laws_FnLastingTiles_ks1 S K)) (laws_FnLastingTiles_ks1 S K)
def laws_FnLastingTiles_f1 (s0_ : Sl) (b35_ : Bool) : Frame := [.sl s0_, U, U, U, U, U, U, U, U, U, U, U, U, U, U, U, U, U, U, U, U, U, U, U, U, U, U, U, U, U, U, U, U, U, U, .bool b35_, U, U, U, U, U, U, U, U, U, U, U, U, U, U, U, U, U, U, U, U, U, U, U, U, U, U, U, U, U, U, U, U, U, U, U, U, U, U, U, U, U, U, U, U, U, U, U, U, U, U, U, U, U, U, U, U, U, U, U, U, U, U, U, U, U, U, U, U, U, U, U, U, U, U, U, U, U, U, U, U, U, U, U, U, U, U, U, U, U, U, U, U, U, U, U, U, U, U, U, U, U, U, U, U, U, U, U, U, U, U, U, U, U, U, U, U, U, U, U, U, U, U, U, U, U, U, U, U, U, U, U, U, U, U, U, U, U, U, U, U, U, U, U, U, U, U, U, U, U, U, U, U, U, U, U, U, U, U, U, U, U, U, U, U, U, U, U, U, U, U, U, U, U, U, U, U, U, U, U, U, U, U, U, U, U, U, U, U, U, U, U, U, U, U, U, U, U, U, U, U, U]
def laws_FnLastingTiles_g1_0 (S : SatT) (k : Kont) (s0_ : Sl) (h : H) : Prop :=
 callB S i_laws_big [.sl s0_] h fun b1 h0 =>
 k .normal (laws_FnLastingTiles_f1 s0_ b1) h0
theorem laws_FnLastingTiles_g1_0_link (S : SatT) (k : Kont) (m : List Nat) (s0_ : Sl) (h : H) : cwp S tab laws_FnLastingTiles_M m (sub [1, 0, 0] (bodyOf Try.f3)) k (laws_FnLastingTiles_f0 s0_) h = laws_FnLastingTiles_g1_0 S k s0_ h := by kernel_rfl
theorem laws_FnLastingTiles_sp_1_0_1 : (sub [1, 0, 1] (bodyOf Try.f3)) = .cond (.tmp 35) (sub [1, 0, 1, 0] (bodyOf Try.f3)) (sub [1, 0, 1, 1] (bodyOf Try.f3)) := by kernel_rfl
theorem laws_FnLastingTiles_sp_1_0_1_0 : (sub [1, 0, 1, 0] (bodyOf Try.f3)) = .seq (sub [1, 0, 1, 0, 0] (bodyOf Try.f3)) (sub [1, 0, 1, 0, 1] (bodyOf Try.f3)) := by kernel_rfl
def laws_FnLastingTiles_ks3 (S : SatT) (K : AVal → H → Prop) : Kont := kSeq (cwp S tab laws_FnLastingTiles_M [] (sub [1, 0, 1, 0, 1] (bodyOf Try.f3)) (laws_FnLastingTiles_ks1 S K)) (laws_FnLastingTiles_ks1 S K)
def laws_FnLastingTiles_f2 (b2_ : Bool) : Frame := [U, U, .bool b2_, U, U, U, U, U, U, U, U, U, U, U, U, U, U, U, U, U, U, U, U, U, U, U, U, U, U, U, U, U, U, U, U, U, U, U, U, U, U, U, U, U, U, U, U, U, U, U, U, U, U, U, U, U, U, U, U, U, U, U, U, U, U, U, U, U, U, U, U, U, U, U, U, U, U, U, U, U, U, U, U, U, U, U, U, U, U, U, U, U, U, U, U, U, U, U, U, U, U, U, U, U, U, U, U, U, U, U, U, U, U, U, U, U, U, U, U, U, U, U, U, U, U, U, U, U, U, U, U, U, U, U, U, U, U, U, U, U, U, U, U, U, U, U, U, U, U, U, U, U, U, U, U, U, U, U, U, U, U, U, U, U, U, U, U, U, U, U, U, U, U, U, U, U, U, U, U, U, U, U, U, U, U, U, U, U, U, U, U, U, U, U, U, U, U, U, U, U, U, U, U, U, U, U, U, U, U, U, U, U, U, U, U, U, U, U, U, U, U, U, U, U, U, U, U, U, U, U, U, U, U, U, U, U, U]
def laws_FnLastingTiles_g2_0 (S : SatT) (k : Kont) (s0_ : Sl) (b35_ : Bool) (h : H) : Prop :=
 k .normal (laws_FnLastingTiles_f2 true) h
theorem laws_FnLastingTiles_g2_0_link (S : SatT) (k : Kont) (m : List Nat) (s0_ : Sl) (b35_ : Bool) (h : H) : cwp S tab laws_FnLastingTiles_M m (sub [1, 0, 1, 0, 0] (bodyOf Try.f3)) k (laws_FnLastingTiles_f1 s0_ b35_) h = laws_FnLastingTiles_g2_0 S k s0_ b35_ h := by kernel_rfl
theorem laws_FnLastingTiles_sp_1_0_1_0_1 : (sub [1, 0, 1, 0, 1] (bodyOf Try.f3)) = .ret := by kernel_rfl
def laws_FnLastingTiles_r2 (S : SatT) (K : AVal → H → Prop) (b2_ : Bool) (h : H) : Prop :=
 K (.bool b2_) h
theorem laws_FnLastingTiles_cut2 (S : SatT) (K : AVal → H → Prop) (b2_ : Bool) (h : H) : (laws_FnLastingTiles_ks3 S K) .normal (laws_FnLastingTiles_f2 b2_) h = laws_FnLastingTiles_r2 S K b2_ h := by
  unfold laws_FnLastingTiles_r2
  refine (kSeq_n _ _ _ _).trans ?_
  refine (cwp_sp_ret laws_FnLastingTiles_sp_1_0_1_0_1).trans ?_
  refine (kSeq_r _ _ _ _).trans ?_
  kernel_rfl
theorem laws_FnLastingTiles_sp_1_0_1_1 : (sub [1, 0, 1, 1] (bodyOf Try.f3)) = .skip := by kernel_rfl
theorem laws_FnLastingTiles_sp_1_1 : (sub [1, 1] (bodyOf Try.f3)) = .seq (sub [1, 1, 0] (bodyOf Try.f3)) (sub [1, 1, 1] (bodyOf Try.f3)) := by kernel_rfl
def laws_FnLastingTiles_ks4 (S : SatT) (K : AVal → H → Prop) : Kont := kSeq (cwp S tab laws_FnLastingTiles_M [] (sub [1, 1, 1] (bodyOf Try.f3)) (kFun tab (Try.f3).results.toList K)) (kFun tab (Try.f3).results.toList K)
def laws_FnLastingTiles_f3 (s0_ : Sl) (p3_ : Pt) : Frame := [.sl s0_, U, U, .ptr p3_, U, U, U, U, U, U, U, U, U, U, U, U, U, U, U, U, U, U, U, U, U, U, U, U, U, U, U, U, U, U, U, U, U, U, U, U, U, U, U, U, U, U, U, U, U, U, U, U, U, U, U, U, U, U, U, U, U, U, U, U, U, U, U, U, U, U, U, U, U, U, U, U, U, U, U, U, U, U, U, U, U, U, U, U, U, U, U, U, U, U, U, U, U, U, U, U, U, U, U, U, U, U, U, U, U, U, U, U, U, U, U, U, U, U, U, U, U, U, U, U, U, U, U, U, U, U, U, U, U, U, U, U, U, U, U, U, U, U, U, U, U, U, U, U, U, U, U, U, U, U, U, U, U, U, U, U, U, U, U, U, U, U, U, U, U, U, U, U, U, U, U, U, U, U, U, U, U, U, U, U, U, U, U, U, U, U, U, U, U, U, U, U, U, U, U, U, U, U, U, U, U, U, U, U, U, U, U, U, U, U, U, U, U, U, U, U, U, U, U, U, U, U, U, U, U, U, U, U, U, U, U, U, U]
def laws_FnLastingTiles_g3_0 (S : SatT) (k : Kont) (s0_ : Sl) (b35_ : Bool) (h : H) : Prop :=
 callA S i_spec_DrawLastingTiles [.sl s0_] h fun cs1 h0 =>
 newO [.int .i64 (0), .sl Sl.nil] h0 fun p2 h3 =>
 stN p2 2 cs1 h3 fun h4 =>
 k .normal (laws_FnLastingTiles_f3 s0_ p2) h4
theorem laws_FnLastingTiles_g3_0_link (S : SatT) (k : Kont) (m : List Nat) (s0_ : Sl) (b35_ : Bool) (h : H) : cwp S tab laws_FnLastingTiles_M m (sub [1, 1, 0] (bodyOf Try.f3)) k (laws_FnLastingTiles_f1 s0_ b35_) h = laws_FnLastingTiles_g3_0 S k s0_ b35_ h := by kernel_rfl
theorem laws_FnLastingTiles_sp_1_1_1 : (sub [1, 1, 1] (bodyOf Try.f3)) = .seq (sub [1, 1, 1, 0] (bodyOf Try.f3)) (sub [1, 1, 1, 1] (bodyOf Try.f3)) := by kernel_rfl
def laws_FnLastingTiles_ks5 (S : SatT) (K : AVal → H → Prop) : Kont := kSeq (cwp S tab laws_FnLastingTiles_M [] (sub [1, 1, 1, 1] (bodyOf Try.f3)) (kFun tab (Try.f3).results.toList K)) (kFun tab (Try.f3).results.toList K)
def laws_FnLastingTiles_f4 (s0_ : Sl) (p3_ : Pt) (s4_ : Sl) (i5_ : Int) : Frame := [.sl s0_, U, U, .ptr p3_, .sl s4_, .int .i64 i5_, U, U, U, U, U, U, U, U, U, U, U, U, U, U, U, U, U, U, U, U, U, U, U, U, U, U, U, U, U, U, U, U, U, U, U, U, U, U, U, U, U, U, U, U, U, U, U, U, U, U, U, U, U, U, U, U, U, U, U, U, U, U, U, U, U, U, U, U, U, U, U, U, U, U, U, U, U, U, U, U, U, U, U, U, U, U, U, U, U, U, U, U, U, U, U, U, U, U, U, U, U, U, U, U, U, U, U, U, U, U, U, U, U, U, U, U, U, U, U, U, U, U, U, U, U, U, U, U, U, U, U, U, U, U, U, U, U, U, U, U, U, U, U, U, U, U, U, U, U, U, U, U, U, U, U, U, U, U, U, U, U, U, U, U, U, U, U, U, U, U, U, U, U, U, U, U, U, U, U, U, U, U, U, U, U, U, U, U, U, U, U, U, U, U, U, U, U, U, U, U, U, U, U, U, U, U, U, U, U, U, U, U, U, U, U, U, U, U, U, U, U, U, U, U, U, U, U, U, U, U, U]
def laws_FnLastingTiles_g4_0 (S : SatT) (k : Kont) (s0_ : Sl) (p3_ : Pt) (h : H) : Prop :=
 ldA p3_ 2 h fun cs0 =>
 callV S i_impl_LastingTiles [.agg cs0] h fun v2 h1 =>
 viaT v2 fun vs3 =>
 exS vs3 0 fun s4 =>
 viaT v2 fun vs5 =>
 exI .i64 vs5 1 fun n6 =>
 k .normal (laws_FnLastingTiles_f4 s0_ p3_ s4 n6) h1
theorem laws_FnLastingTiles_g4_0_link (S : SatT) (k : Kont) (m : List Nat) (s0_ : Sl) (p3_ : Pt) (h : H) : cwp S tab laws_FnLastingTiles_M m (sub [1, 1, 1, 0] (bodyOf Try.f3)) k (laws_FnLastingTiles_f3 s0_ p3_) h = laws_FnLastingTiles_g4_0 S k s0_ p3_ h := by kernel_rfl
theorem laws_FnLastingTiles_sp_1_1_1_1 : (sub [1, 1, 1, 1] (bodyOf Try.f3)) = .seq (sub [1, 1, 1, 1, 0] (bodyOf Try.f3)) (sub [1, 1, 1, 1, 1] (bodyOf Try.f3)) := by kernel_rfl
theorem laws_FnLastingTiles_sp_1_1_1_1_0 : (sub [1, 1, 1, 1, 0] (bodyOf Try.f3)) = .seq (sub [1, 1, 1, 1, 0, 0] (bodyOf Try.f3)) (sub [1, 1, 1, 1, 0, 1] (bodyOf Try.f3)) := by kernel_rfl
def laws_FnLastingTiles_ks6 (S : SatT) (K : AVal → H → Prop) : Kont := kSeq (cwp S tab laws_FnLastingTiles_M [] (sub [1, 1, 1, 1, 1] (bodyOf Try.f3)) (kFun tab (Try.f3).results.toList K)) (kFun tab (Try.f3).results.toList K)
def laws_FnLastingTiles_ks7 (S : SatT) (K : AVal → H → Prop) : Kont := kSeq (cwp S tab laws_FnLastingTiles_M [] (sub [1, 1, 1, 1, 0, 1] (bodyOf Try.f3)) (laws_FnLastingTiles_ks6 S K)) (laws_FnLastingTiles_ks6 S K)
def laws_FnLastingTiles_f5 (s0_ : Sl) (p3_ : Pt) (s4_ : Sl) (i5_ : Int) (s6_ : Sl) (i7_ : Int) : Frame := [.sl s0_, U, U, .ptr p3_, .sl s4_, .int .i64 i5_, .sl s6_, .int .i64 i7_, U, U, U, U, U, U, U, U, U, U, U, U, U, U, U, U, U, U, U, U, U, U, U, U, U, U, U, U, U, U, U, U, U, U, U, U, U, U, U, U, U, U, U, U, U, U, U, U, U, U, U, U, U, U, U, U, U, U, U, U, U, U, U, U, U, U, U, U, U, U, U, U, U, U, U, U, U, U, U, U, U, U, U, U, U, U, U, U, U, U, U, U, U, U, U, U, U, U, U, U, U, U, U, U, U, U, U, U, U, U, U, U, U, U, U, U, U, U, U, U, U, U, U, U, U, U, U, U, U, U, U, U, U, U, U, U, U, U, U, U, U, U, U, U, U, U, U, U, U, U, U, U, U, U, U, U, U, U, U, U, U, U, U, U, U, U, U, U, U, U, U, U, U, U, U, U, U, U, U, U, U, U, U, U, U, U, U, U, U, U, U, U, U, U, U, U, U, U, U, U, U, U, U, U, U, U, U, U, U, U, U, U, U, U, U, U, U, U, U, U, U, U, U, U, U, U, U, U, U]
def laws_FnLastingTiles_g5_0 (S : SatT) (k : Kont) (s0_ : Sl) (p3_ : Pt) (s4_ : Sl) (i5_ : Int) (h : H) : Prop :=
 ldA p3_ 2 h fun cs0 =>
 callV S i_spec_LastingTiles [.agg cs0] h fun v2 h1 =>
 viaT v2 fun vs3 =>
 exS vs3 0 fun s4 =>
 viaT v2 fun vs5 =>
 exI .i64 vs5 1 fun n6 =>
 k .normal (laws_FnLastingTiles_f5 s0_ p3_ s4_ i5_ s4 n6) h1
theorem laws_FnLastingTiles_g5_0_link (S : SatT) (k : Kont) (m : List Nat) (s0_ : Sl) (p3_ : Pt) (s4_ : Sl) (i5_ : Int) (h : H) : cwp S tab laws_FnLastingTiles_M m (sub [1, 1, 1, 1, 0, 0] (bodyOf Try.f3)) k (laws_FnLastingTiles_f4 s0_ p3_ s4_ i5_) h = laws_FnLastingTiles_g5_0 S k s0_ p3_ s4_ i5_ h := by kernel_rfl
theorem laws_FnLastingTiles_sp_1_1_1_1_0_1 : (sub [1, 1, 1, 1, 0, 1] (bodyOf Try.f3)) = .seq (sub [1, 1, 1, 1, 0, 1, 0] (bodyOf Try.f3)) (sub [1, 1, 1, 1, 0, 1, 1] (bodyOf Try.f3)) := by kernel_rfl
def laws_FnLastingTiles_ks8 (S : SatT) (K : AVal → H → Prop) : Kont := kSeq (cwp S tab laws_FnLastingTiles_M [] (sub [1, 1, 1, 1, 0, 1, 1] (bodyOf Try.f3)) (laws_FnLastingTiles_ks6 S K)) (laws_FnLastingTiles_ks6 S K)
def laws_FnLastingTiles_f6 (s0_ : Sl) (p3_ : Pt) (s4_ : Sl) (i5_ : Int) (b56_ : Bool) : Frame := [.sl s0_, U, U, .ptr p3_, .sl s4_, .int .i64 i5_, U, U, U, U, U, U, U, U, U, U, U, U, U, U, U, U, U, U, U, U, U, U, U, U, U, U, U, U, U, U, U, U, U, U, U, U, U, U, U, U, U, U, U, U, U, U, U, U, U, U, .bool b56_, U, U, U, U, U, U, U, U, U, U, U, U, U, U, U, U, U, U, U, U, U, U, U, U, U, U, U, U, U, U, U, U, U, U, U, U, U, U, U, U, U, U, U, U, U, U, U, U, U, U, U, U, U, U, U, U, U, U, U, U, U, U, U, U, U, U, U, U, U, U, U, U, U, U, U, U, U, U, U, U, U, U, U, U, U, U, U, U, U, U, U, U, U, U, U, U, U, U, U, U, U, U, U, U, U, U, U, U, U, U, U, U, U, U, U, U, U, U, U, U, U, U, U, U, U, U, U, U, U, U, U, U, U, U, U, U, U, U, U, U, U, U, U, U, U, U, U, U, U, U, U, U, U, U, U, U, U, U, U, U, U, U, U, U, U, U, U, U, U, U, U, U, U, U, U, U, U, U, U, U]
def laws_FnLastingTiles_g6_0 (S : SatT) (k : Kont) (s0_ : Sl) (p3_ : Pt) (s4_ : Sl) (i5_ : Int) (s6_ : Sl) (i7_ : Int) (h : H) : Prop :=
 bif (i5_ != i7_) then
 k .normal (laws_FnLastingTiles_f6 s0_ p3_ s4_ i5_ true) h
 else
 callB S i_laws_likeInts [.sl s4_, .sl s6_] h fun b1 h0 =>
 k .normal (laws_FnLastingTiles_f6 s0_ p3_ s4_ i5_ (!b1)) h0
theorem laws_FnLastingTiles_g6_0_link (S : SatT) (k : Kont) (m : List Nat) (s0_ : Sl) (p3_ : Pt) (s4_ : Sl) (i5_ : Int) (s6_ : Sl) (i7_ : Int) (h : H) : cwp S tab laws_FnLastingTiles_M m (sub [1, 1, 1, 1, 0, 1, 0] (bodyOf Try.f3)) k (laws_FnLastingTiles_f5 s0_ p3_ s4_ i5_ s6_ i7_) h = laws_FnLastingTiles_g6_0 S k s0_ p3_ s4_ i5_ s6_ i7_ h := by kernel_rfl
theorem laws_FnLastingTiles_sp_1_1_1_1_0_1_1 : (sub [1, 1, 1, 1, 0, 1, 1] (bodyOf Try.f3)) = .cond (.tmp 56) (sub [1, 1, 1, 1, 0, 1, 1, 0] (bodyOf Try.f3)) (sub [1, 1, 1, 1, 0, 1, 1, 1] (bodyOf Try.f3)) := by kernel_rfl
theorem laws_FnLastingTiles_sp_1_1_1_1_0_1_1_0 : (sub [1, 1, 1, 1, 0, 1, 1, 0] (bodyOf Try.f3)) = .seq (sub [1, 1, 1, 1, 0, 1, 1, 0, 0] (bodyOf Try.f3)) (sub [1, 1, 1, 1, 0, 1, 1, 0, 1] (bodyOf Try.f3)) := by kernel_rfl
def laws_FnLastingTiles_ks9 (S : SatT) (K : AVal → H → Prop) : Kont := kSeq (cwp S tab laws_FnLastingTiles_M [] (sub [1, 1, 1, 1, 0, 1, 1, 0, 1] (bodyOf Try.f3)) (laws_FnLastingTiles_ks6 S K)) (laws_FnLastingTiles_ks6 S K)
def laws_FnLastingTiles_f7 (b2_ : Bool) : Frame := [U, U, .bool b2_, U, U, U, U, U, U, U, U, U, U, U, U, U, U, U, U, U, U, U, U, U, U, U, U, U, U, U, U, U, U, U, U, U, U, U, U, U, U, U, U, U, U, U, U, U, U, U, U, U, U, U, U, U, U, U, U, U, U, U, U, U, U, U, U, U, U, U, U, U, U, U, U, U, U, U, U, U, U, U, U, U, U, U, U, U, U, U, U, U, U, U, U, U, U, U, U, U, U, U, U, U, U, U, U, U, U, U, U, U, U, U, U, U, U, U, U, U, U, U, U, U, U, U, U, U, U, U, U, U, U, U, U, U, U, U, U, U, U, U, U, U, U, U, U, U, U, U, U, U, U, U, U, U, U, U, U, U, U, U, U, U, U, U, U, U, U, U, U, U, U, U, U, U, U, U, U, U, U, U, U, U, U, U, U, U, U, U, U, U, U, U, U, U, U, U, U, U, U, U, U, U, U, U, U, U, U, U, U, U, U, U, U, U, U, U, U, U, U, U, U, U, U, U, U, U, U, U, U, U, U, U, U, U, U]
def laws_FnLastingTiles_g7_0 (S : SatT) (k : Kont) (s0_ : Sl) (p3_ : Pt) (s4_ : Sl) (i5_ : Int) (b56_ : Bool) (h : H) : Prop :=
 k .normal (laws_FnLastingTiles_f7 false) h
theorem laws_FnLastingTiles_g7_0_link (S : SatT) (k : Kont) (m : List Nat) (s0_ : Sl) (p3_ : Pt) (s4_ : Sl) (i5_ : Int) (b56_ : Bool) (h : H) : cwp S tab laws_FnLastingTiles_M m (sub [1, 1, 1, 1, 0, 1, 1, 0, 0] (bodyOf Try.f3)) k (laws_FnLastingTiles_f6 s0_ p3_ s4_ i5_ b56_) h = laws_FnLastingTiles_g7_0 S k s0_ p3_ s4_ i5_ b56_ h := by kernel_rfl
theorem laws_FnLastingTiles_sp_1_1_1_1_0_1_1_1 : (sub [1, 1, 1, 1, 0, 1, 1, 1] (bodyOf Try.f3)) = .skip := by kernel_rfl
theorem laws_FnLastingTiles_sp_1_1_1_1_1 : (sub [1, 1, 1, 1, 1] (bodyOf Try.f3)) = .seq (sub [1, 1, 1, 1, 1, 0] (bodyOf Try.f3)) (sub [1, 1, 1, 1, 1, 1] (bodyOf Try.f3)) := by kernel_rfl
def laws_FnLastingTiles_ks10 (S : SatT) (K : AVal → H → Prop) : Kont := kSeq (cwp S tab laws_FnLastingTiles_M [] (sub [1, 1, 1, 1, 1, 1] (bodyOf Try.f3)) (kFun tab (Try.f3).results.toList K)) (kFun tab (Try.f3).results.toList K)
def laws_FnLastingTiles_f8 (s0_ : Sl) (p3_ : Pt) (s4_ : Sl) (i5_ : Int) (p8_ : Pt) (i9_ : Int) : Frame := [.sl s0_, U, U, .ptr p3_, .sl s4_, .int .i64 i5_, U, U, .ptr p8_, .int .i64 i9_, U, U, U, U, U, U, U, U, U, U, U, U, U, U, U, U, U, U, U, U, U, U, U, U, U, U, U, U, U, U, U, U, U, U, U, U, U, U, U, U, U, U, U, U, U, U, U, U, U, U, U, U, U, U, U, U, U, U, U, U, U, U, U, U, U, U, U, U, U, U, U, U, U, U, U, U, U, U, U, U, U, U, U, U, U, U, U, U, U, U, U, U, U, U, U, U, U, U, U, U, U, U, U, U, U, U, U, U, U, U, U, U, U, U, U, U, U, U, U, U, U, U, U, U, U, U, U, U, U, U, U, U, U, U, U, U, U, U, U, U, U, U, U, U, U, U, U, U, U, U, U, U, U, U, U, U, U, U, U, U, U, U, U, U, U, U, U, U, U, U, U, U, U, U, U, U, U, U, U, U, U, U, U, U, U, U, U, U, U, U, U, U, U, U, U, U, U, U, U, U, U, U, U, U, U, U, U, U, U, U, U, U, U, U, U, U, U, U, U, U, U, U, U, U, U, U, U]
def laws_FnLastingTiles_g8_0 (S : SatT) (k : Kont) (s0_ : Sl) (p3_ : Pt) (s4_ : Sl) (i5_ : Int) (b56_ : Bool) (h : H) : Prop :=
 ldA p3_ 2 h fun cs0 =>
 callV S i_impl_KeepLasting [.agg cs0] h fun v2 h1 =>
 viaT v2 fun vs3 =>
 exA vs3 0 fun cs4 =>
 viaT v2 fun vs5 =>
 exI .i64 vs5 1 fun n6 =>
 newO [.int .i64 (0), .sl Sl.nil] h1 fun p7 h8 =>
 stN p7 2 cs4 h8 fun h9 =>
 k .normal (laws_FnLastingTiles_f8 s0_ p3_ s4_ i5_ p7 n6) h9
theorem laws_FnLastingTiles_g8_0_link (S : SatT) (k : Kont) (m : List Nat) (s0_ : Sl) (p3_ : Pt) (s4_ : Sl) (i5_ : Int) (b56_ : Bool) (h : H) : cwp S tab laws_FnLastingTiles_M m (sub [1, 1, 1, 1, 1, 0] (bodyOf Try.f3)) k (laws_FnLastingTiles_f6 s0_ p3_ s4_ i5_ b56_) h = laws_FnLastingTiles_g8_0 S k s0_ p3_ s4_ i5_ b56_ h := by kernel_rfl
theorem laws_FnLastingTiles_sp_1_1_1_1_1_1 : (sub [1, 1, 1, 1, 1, 1] (bodyOf Try.f3)) = .seq (sub [1, 1, 1, 1, 1, 1, 0] (bodyOf Try.f3)) (sub [1, 1, 1, 1, 1, 1, 1] (bodyOf Try.f3)) := by kernel_rfl
theorem laws_FnLastingTiles_sp_1_1_1_1_1_1_0 : (sub [1, 1, 1, 1, 1, 1, 0] (bodyOf Try.f3)) = .seq (sub [1, 1, 1, 1, 1, 1, 0, 0] (bodyOf Try.f3)) (sub [1, 1, 1, 1, 1, 1, 0, 1] (bodyOf Try.f3)) := by kernel_rfl
def laws_FnLastingTiles_ks11 (S : SatT) (K : AVal → H → Prop) : Kont := kSeq (cwp S tab laws_FnLastingTiles_M [] (sub [1, 1, 1, 1, 1, 1, 1] (bodyOf Try.f3)) (kFun tab (Try.f3).results.toList K)) (kFun tab (Try.f3).results.toList K)
def laws_FnLastingTiles_ks12 (S : SatT) (K : AVal → H → Prop) : Kont := kSeq (cwp S tab laws_FnLastingTiles_M [] (sub [1, 1, 1, 1, 1, 1, 0, 1] (bodyOf Try.f3)) (laws_FnLastingTiles_ks11 S K)) (laws_FnLastingTiles_ks11 S K)
def laws_FnLastingTiles_f9 (s0_ : Sl) (p3_ : Pt) (s4_ : Sl) (i5_ : Int) (p8_ : Pt) (i9_ : Int) (p10_ : Pt) (i11_ : Int) : Frame := [.sl s0_, U, U, .ptr p3_, .sl s4_, .int .i64 i5_, U, U, .ptr p8_, .int .i64 i9_, .ptr p10_, .int .i64 i11_, U, U, U, U, U, U, U, U, U, U, U, U, U, U, U, U, U, U, U, U, U, U, U, U, U, U, U, U, U, U, U, U, U, U, U, U, U, U, U, U, U, U, U, U, U, U, U, U, U, U, U, U, U, U, U, U, U, U, U, U, U, U, U, U, U, U, U, U, U, U, U, U, U, U, U, U, U, U, U, U, U, U, U, U, U, U, U, U, U, U, U, U, U, U, U, U, U, U, U, U, U, U, U, U, U, U, U, U, U, U, U, U, U, U, U, U, U, U, U, U, U, U, U, U, U, U, U, U, U, U, U, U, U, U, U, U, U, U, U, U, U, U, U, U, U, U, U, U, U, U, U, U, U, U, U, U, U, U, U, U, U, U, U, U, U, U, U, U, U, U, U, U, U, U, U, U, U, U, U, U, U, U, U, U, U, U, U, U, U, U, U, U, U, U, U, U, U, U, U, U, U, U, U, U, U, U, U, U, U, U, U, U, U, U, U, U, U, U, U, U, U, U, U, U, U]
def laws_FnLastingTiles_g9_0 (S : SatT) (k : Kont) (s0_ : Sl) (p3_ : Pt) (s4_ : Sl) (i5_ : Int) (p8_ : Pt) (i9_ : Int) (h : H) : Prop :=
 ldA p3_ 2 h fun cs0 =>
 callV S i_spec_KeepLasting [.agg cs0] h fun v2 h1 =>
 viaT v2 fun vs3 =>
 exA vs3 0 fun cs4 =>
 viaT v2 fun vs5 =>
 exI .i64 vs5 1 fun n6 =>
 newO [.int .i64 (0), .sl Sl.nil] h1 fun p7 h8 =>
 stN p7 2 cs4 h8 fun h9 =>
 k .normal (laws_FnLastingTiles_f9 s0_ p3_ s4_ i5_ p8_ i9_ p7 n6) h9
theorem laws_FnLastingTiles_g9_0_link (S : SatT) (k : Kont) (m : List Nat) (s0_ : Sl) (p3_ : Pt) (s4_ : Sl) (i5_ : Int) (p8_ : Pt) (i9_ : Int) (h : H) : cwp S tab laws_FnLastingTiles_M m (sub [1, 1, 1, 1, 1, 1, 0, 0] (bodyOf Try.f3)) k (laws_FnLastingTiles_f8 s0_ p3_ s4_ i5_ p8_ i9_) h = laws_FnLastingTiles_g9_0 S k s0_ p3_ s4_ i5_ p8_ i9_ h := by kernel_rfl
theorem laws_FnLastingTiles_sp_1_1_1_1_1_1_0_1 : (sub [1, 1, 1, 1, 1, 1, 0, 1] (bodyOf Try.f3)) = .seq (sub [1, 1, 1, 1, 1, 1, 0, 1, 0] (bodyOf Try.f3)) (sub [1, 1, 1, 1, 1, 1, 0, 1, 1] (bodyOf Try.f3)) := by kernel_rfl
def laws_FnLastingTiles_ks13 (S : SatT) (K : AVal → H → Prop) : Kont := kSeq (cwp S tab laws_FnLastingTiles_M [] (sub [1, 1, 1, 1, 1, 1, 0, 1, 1] (bodyOf Try.f3)) (laws_FnLastingTiles_ks11 S K)) (laws_FnLastingTiles_ks11 S K)
def laws_FnLastingTiles_f10 (s0_ : Sl) (p3_ : Pt) (s4_ : Sl) (i5_ : Int) (p8_ : Pt) (i9_ : Int) (b75_ : Bool) : Frame := [.sl s0_, U, U, .ptr p3_, .sl s4_, .int .i64 i5_, U, U, .ptr p8_, .int .i64 i9_, U, U, U, U, U, U, U, U, U, U, U, U, U, U, U, U, U, U, U, U, U, U, U, U, U, U, U, U, U, U, U, U, U, U, U, U, U, U, U, U, U, U, U, U, U, U, U, U, U, U, U, U, U, U, U, U, U, U, U, U, U, U, U, U, U, .bool b75_, U, U, U, U, U, U, U, U, U, U, U, U, U, U, U, U, U, U, U, U, U, U, U, U, U, U, U, U, U, U, U, U, U, U, U, U, U, U, U, U, U, U, U, U, U, U, U, U, U, U, U, U, U, U, U, U, U, U, U, U, U, U, U, U, U, U, U, U, U, U, U, U, U, U, U, U, U, U, U, U, U, U, U, U, U, U, U, U, U, U, U, U, U, U, U, U, U, U, U, U, U, U, U, U, U, U, U, U, U, U, U, U, U, U, U, U, U, U, U, U, U, U, U, U, U, U, U, U, U, U, U, U, U, U, U, U, U, U, U, U, U, U, U, U, U, U, U, U, U, U, U, U, U, U, U, U, U, U, U, U, U]
def laws_FnLastingTiles_g10_0 (S : SatT) (k : Kont) (s0_ : Sl) (p3_ : Pt) (s4_ : Sl) (i5_ : Int) (p8_ : Pt) (i9_ : Int) (p10_ : Pt) (i11_ : Int) (h : H) : Prop :=
 bif (i9_ != i11_) then
 k .normal (laws_FnLastingTiles_f10 s0_ p3_ s4_ i5_ p8_ i9_ true) h
 else
 ldA p8_ 2 h fun cs0 =>
 ldA p10_ 2 h fun cs1 =>
 callB S i_laws_set9 [.agg cs0, .agg cs1] h fun b3 h2 =>
 k .normal (laws_FnLastingTiles_f10 s0_ p3_ s4_ i5_ p8_ i9_ (!b3)) h2
theorem laws_FnLastingTiles_g10_0_link (S : SatT) (k : Kont) (m : List Nat) (s0_ : Sl) (p3_ : Pt) (s4_ : Sl) (i5_ : Int) (p8_ : Pt) (i9_ : Int) (p10_ : Pt) (i11_ : Int) (h : H) : cwp S tab laws_FnLastingTiles_M m (sub [1, 1, 1, 1, 1, 1, 0, 1, 0] (bodyOf Try.f3)) k (laws_FnLastingTiles_f9 s0_ p3_ s4_ i5_ p8_ i9_ p10_ i11_) h = laws_FnLastingTiles_g10_0 S k s0_ p3_ s4_ i5_ p8_ i9_ p10_ i11_ h := by kernel_rfl
theorem laws_FnLastingTiles_sp_1_1_1_1_1_1_0_1_1 : (sub [1, 1, 1, 1, 1, 1, 0, 1, 1] (bodyOf Try.f3)) = .cond (.tmp 75) (sub [1, 1, 1, 1, 1, 1, 0, 1, 1, 0] (bodyOf Try.f3)) (sub [1, 1, 1, 1, 1, 1, 0, 1, 1, 1] (bodyOf Try.f3)) := by kernel_rfl
theorem laws_FnLastingTiles_sp_1_1_1_1_1_1_0_1_1_0 : (sub [1, 1, 1, 1, 1, 1, 0, 1, 1, 0] (bodyOf Try.f3)) = .seq (sub [1, 1, 1, 1, 1, 1, 0, 1, 1, 0, 0] (bodyOf Try.f3)) (sub [1, 1, 1, 1, 1, 1, 0, 1, 1, 0, 1] (bodyOf Try.f3)) := by kernel_rfl
def laws_FnLastingTiles_ks14 (S : SatT) (K : AVal → H → Prop) : Kont := kSeq (cwp S tab laws_FnLastingTiles_M [] (sub [1, 1, 1, 1, 1, 1, 0, 1, 1, 0, 1] (bodyOf Try.f3)) (laws_FnLastingTiles_ks11 S K)) (laws_FnLastingTiles_ks11 S K)
def laws_FnLastingTiles_f11 (b2_ : Bool) : Frame := [U, U, .bool b2_, U, U, U, U, U, U, U, U, U, U, U, U, U, U, U, U, U, U, U, U, U, U, U, U, U, U, U, U, U, U, U, U, U, U, U, U, U, U, U, U, U, U, U, U, U, U, U, U, U, U, U, U, U, U, U, U, U, U, U, U, U, U, U, U, U, U, U, U, U, U, U, U, U, U, U, U, U, U, U, U, U, U, U, U, U, U, U, U, U, U, U, U, U, U, U, U, U, U, U, U, U, U, U, U, U, U, U, U, U, U, U, U, U, U, U, U, U, U, U, U, U, U, U, U, U, U, U, U, U, U, U, U, U, U, U, U, U, U, U, U, U, U, U, U, U, U, U, U, U, U, U, U, U, U, U, U, U, U, U, U, U, U, U, U, U, U, U, U, U, U, U, U, U, U, U, U, U, U, U, U, U, U, U, U, U, U, U, U, U, U, U, U, U, U, U, U, U, U, U, U, U, U, U, U, U, U, U, U, U, U, U, U, U, U, U, U, U, U, U, U, U, U, U, U, U, U, U, U, U, U, U, U, U, U]
def laws_FnLastingTiles_g11_0 (S : SatT) (k : Kont) (s0_ : Sl) (p3_ : Pt) (s4_ : Sl) (i5_ : Int) (p8_ : Pt) (i9_ : Int) (b75_ : Bool) (h : H) : Prop :=
 k .normal (laws_FnLastingTiles_f11 false) h
theorem laws_FnLastingTiles_g11_0_link (S : SatT) (k : Kont) (m : List Nat) (s0_ : Sl) (p3_ : Pt) (s4_ : Sl) (i5_ : Int) (p8_ : Pt) (i9_ : Int) (b75_ : Bool) (h : H) : cwp S tab laws_FnLastingTiles_M m (sub [1, 1, 1, 1, 1, 1, 0, 1, 1, 0, 0] (bodyOf Try.f3)) k (laws_FnLastingTiles_f10 s0_ p3_ s4_ i5_ p8_ i9_ b75_) h = laws_FnLastingTiles_g11_0 S k s0_ p3_ s4_ i5_ p8_ i9_ b75_ h := by kernel_rfl
theorem laws_FnLastingTiles_sp_1_1_1_1_1_1_0_1_1_1 : (sub [1, 1, 1, 1, 1, 1, 0, 1, 1, 1] (bodyOf Try.f3)) = .skip := by kernel_rfl
theorem laws_FnLastingTiles_sp_1_1_1_1_1_1_1 : (sub [1, 1, 1, 1, 1, 1, 1] (bodyOf Try.f3)) = .seq (sub [1, 1, 1, 1, 1, 1, 1, 0] (bodyOf Try.f3)) (sub [1, 1, 1, 1, 1, 1, 1, 1] (bodyOf Try.f3)) := by kernel_rfl
def laws_FnLastingTiles_ks15 (S : SatT) (K : AVal → H → Prop) : Kont := kSeq (cwp S tab laws_FnLastingTiles_M [] (sub [1, 1, 1, 1, 1, 1, 1, 1] (bodyOf Try.f3)) (kFun tab (Try.f3).results.toList K)) (kFun tab (Try.f3).results.toList K)
def laws_FnLastingTiles_f12 (s0_ : Sl) (p3_ : Pt) (s4_ : Sl) (i5_ : Int) (p8_ : Pt) (i9_ : Int) (p12_ : Pt) : Frame := [.sl s0_, U, U, .ptr p3_, .sl s4_, .int .i64 i5_, U, U, .ptr p8_, .int .i64 i9_, U, U, .ptr p12_, U, U, U, U, U, U, U, U, U, U, U, U, U, U, U, U, U, U, U, U, U, U, U, U, U, U, U, U, U, U, U, U, U, U, U, U, U, U, U, U, U, U, U, U, U, U, U, U, U, U, U, U, U, U, U, U, U, U, U, U, U, U, U, U, U, U, U, U, U, U, U, U, U, U, U, U, U, U, U, U, U, U, U, U, U, U, U, U, U, U, U, U, U, U, U, U, U, U, U, U, U, U, U, U, U, U, U, U, U, U, U, U, U, U, U, U, U, U, U, U, U, U, U, U, U, U, U, U, U, U, U, U, U, U, U, U, U, U, U, U, U, U, U, U, U, U, U, U, U, U, U, U, U, U, U, U, U, U, U, U, U, U, U, U, U, U, U, U, U, U, U, U, U, U, U, U, U, U, U, U, U, U, U, U, U, U, U, U, U, U, U, U, U, U, U, U, U, U, U, U, U, U, U, U, U, U, U, U, U, U, U, U, U, U, U, U, U, U, U, U, U, U, U, U]
def laws_FnLastingTiles_g12_0 (S : SatT) (k : Kont) (s0_ : Sl) (p3_ : Pt) (s4_ : Sl) (i5_ : Int) (p8_ : Pt) (i9_ : Int) (b75_ : Bool) (h : H) : Prop :=
 callA S i_spec_DrawTrimSet [.sl s0_] h fun cs1 h0 =>
 newO [.int .i64 (0), .sl Sl.nil] h0 fun p2 h3 =>
 stN p2 2 cs1 h3 fun h4 =>
 k .normal (laws_FnLastingTiles_f12 s0_ p3_ s4_ i5_ p8_ i9_ p2) h4
theorem laws_FnLastingTiles_g12_0_link (S : SatT) (k : Kont) (m : List Nat) (s0_ : Sl) (p3_ : Pt) (s4_ : Sl) (i5_ : Int) (p8_ : Pt) (i9_ : Int) (b75_ : Bool) (h : H) : cwp S tab laws_FnLastingTiles_M m (sub [1, 1, 1, 1, 1, 1, 1, 0] (bodyOf Try.f3)) k (laws_FnLastingTiles_f10 s0_ p3_ s4_ i5_ p8_ i9_ b75_) h = laws_FnLastingTiles_g12_0 S k s0_ p3_ s4_ i5_ p8_ i9_ b75_ h := by kernel_rfl
theorem laws_FnLastingTiles_sp_1_1_1_1_1_1_1_1 : (sub [1, 1, 1, 1, 1, 1, 1, 1] (bodyOf Try.f3)) = .seq (sub [1, 1, 1, 1, 1, 1, 1, 1, 0] (bodyOf Try.f3)) (sub [1, 1, 1, 1, 1, 1, 1, 1, 1] (bodyOf Try.f3)) := by kernel_rfl
def laws_FnLastingTiles_ks16 (S : SatT) (K : AVal → H → Prop) : Kont := kSeq (cwp S tab laws_FnLastingTiles_M [] (sub [1, 1, 1, 1, 1, 1, 1, 1, 1] (bodyOf Try.f3)) (kFun tab (Try.f3).results.toList K)) (kFun tab (Try.f3).results.toList K)
def laws_FnLastingTiles_f13 (s0_ : Sl) (p3_ : Pt) (s4_ : Sl) (i5_ : Int) (p8_ : Pt) (i9_ : Int) (p12_ : Pt) (p13_ : Pt) (i14_ : Int) : Frame := [.sl s0_, U, U, .ptr p3_, .sl s4_, .int .i64 i5_, U, U, .ptr p8_, .int .i64 i9_, U, U, .ptr p12_, .ptr p13_, .int .i64 i14_, U, U, U, U, U, U, U, U, U, U, U, U, U, U, U, U, U, U, U, U, U, U, U, U, U, U, U, U, U, U, U, U, U, U, U, U, U, U, U, U, U, U, U, U, U, U, U, U, U, U, U, U, U, U, U, U, U, U, U, U, U, U, U, U, U, U, U, U, U, U, U, U, U, U, U, U, U, U, U, U, U, U, U, U, U, U, U, U, U, U, U, U, U, U, U, U, U, U, U, U, U, U, U, U, U, U, U, U, U, U, U, U, U, U, U, U, U, U, U, U, U, U, U, U, U, U, U, U, U, U, U, U, U, U, U, U, U, U, U, U, U, U, U, U, U, U, U, U, U, U, U, U, U, U, U, U, U, U, U, U, U, U, U, U, U, U, U, U, U, U, U, U, U, U, U, U, U, U, U, U, U, U, U, U, U, U, U, U, U, U, U, U, U, U, U, U, U, U, U, U, U, U, U, U, U, U, U, U, U, U, U, U, U, U, U, U, U, U, U, U, U, U]
def laws_FnLastingTiles_g13_0 (S : SatT) (k : Kont) (s0_ : Sl) (p3_ : Pt) (s4_ : Sl) (i5_ : Int) (p8_ : Pt) (i9_ : Int) (p12_ : Pt) (h : H) : Prop :=
 ldA p12_ 2 h fun cs0 =>
 callV S i_impl_TrimSet [.agg cs0] h fun v2 h1 =>
 viaT v2 fun vs3 =>
 exA vs3 0 fun cs4 =>
 viaT v2 fun vs5 =>
 exI .i64 vs5 1 fun n6 =>
 newO [.int .i64 (0), .sl Sl.nil] h1 fun p7 h8 =>
 stN p7 2 cs4 h8 fun h9 =>
 k .normal (laws_FnLastingTiles_f13 s0_ p3_ s4_ i5_ p8_ i9_ p12_ p7 n6) h9
theorem laws_FnLastingTiles_g13_0_link (S : SatT) (k : Kont) (m : List Nat) (s0_ : Sl) (p3_ : Pt) (s4_ : Sl) (i5_ : Int) (p8_ : Pt) (i9_ : Int) (p12_ : Pt) (h : H) : cwp S tab laws_FnLastingTiles_M m (sub [1, 1, 1, 1, 1, 1, 1, 1, 0] (bodyOf Try.f3)) k (laws_FnLastingTiles_f12 s0_ p3_ s4_ i5_ p8_ i9_ p12_) h = laws_FnLastingTiles_g13_0 S k s0_ p3_ s4_ i5_ p8_ i9_ p12_ h := by kernel_rfl
theorem laws_FnLastingTiles_sp_1_1_1_1_1_1_1_1_1 : (sub [1, 1, 1, 1, 1, 1, 1, 1, 1] (bodyOf Try.f3)) = .seq (sub [1, 1, 1, 1, 1, 1, 1, 1, 1, 0] (bodyOf Try.f3)) (sub [1, 1, 1, 1, 1, 1, 1, 1, 1, 1] (bodyOf Try.f3)) := by kernel_rfl
theorem laws_FnLastingTiles_sp_1_1_1_1_1_1_1_1_1_0 : (sub [1, 1, 1, 1, 1, 1, 1, 1, 1, 0] (bodyOf Try.f3)) = .seq (sub [1, 1, 1, 1, 1, 1, 1, 1, 1, 0, 0] (bodyOf Try.f3)) (sub [1, 1, 1, 1, 1, 1, 1, 1, 1, 0, 1] (bodyOf Try.f3)) := by kernel_rfl
def laws_FnLastingTiles_ks17 (S : SatT) (K : AVal → H → Prop) : Kont := kSeq (cwp S tab laws_FnLastingTiles_M [] (sub [1, 1, 1, 1, 1, 1, 1, 1, 1, 1] (bodyOf Try.f3)) (kFun tab (Try.f3).results.toList K)) (kFun tab (Try.f3).results.toList K)
def laws_FnLastingTiles_ks18 (S : SatT) (K : AVal → H → Prop) : Kont := kSeq (cwp S tab laws_FnLastingTiles_M [] (sub [1, 1, 1, 1, 1, 1, 1, 1, 1, 0, 1] (bodyOf Try.f3)) (laws_FnLastingTiles_ks17 S K)) (laws_FnLastingTiles_ks17 S K)
def laws_FnLastingTiles_f14 (s0_ : Sl) (p3_ : Pt) (s4_ : Sl) (i5_ : Int) (p8_ : Pt) (i9_ : Int) (p13_ : Pt) (i14_ : Int) (p15_ : Pt) (i16_ : Int) : Frame := [.sl s0_, U, U, .ptr p3_, .sl s4_, .int .i64 i5_, U, U, .ptr p8_, .int .i64 i9_, U, U, U, .ptr p13_, .int .i64 i14_, .ptr p15_, .int .i64 i16_, U, U, U, U, U, U, U, U, U, U, U, U, U, U, U, U, U, U, U, U, U, U, U, U, U, U, U, U, U, U, U, U, U, U, U, U, U, U, U, U, U, U, U, U, U, U, U, U, U, U, U, U, U, U, U, U, U, U, U, U, U, U, U, U, U, U, U, U, U, U, U, U, U, U, U, U, U, U, U, U, U, U, U, U, U, U, U, U, U, U, U, U, U, U, U, U, U, U, U, U, U, U, U, U, U, U, U, U, U, U, U, U, U, U, U, U, U, U, U, U, U, U, U, U, U, U, U, U, U, U, U, U, U, U, U, U, U, U, U, U, U, U, U, U, U, U, U, U, U, U, U, U, U, U, U, U, U, U, U, U, U, U, U, U, U, U, U, U, U, U, U, U, U, U, U, U, U, U, U, U, U, U, U, U, U, U, U, U, U, U, U, U, U, U, U, U, U, U, U, U, U, U, U, U, U, U, U, U, U, U, U, U, U, U, U, U, U, U, U, U]
def laws_FnLastingTiles_g14_0 (S : SatT) (k : Kont) (s0_ : Sl) (p3_ : Pt) (s4_ : Sl) (i5_ : Int) (p8_ : Pt) (i9_ : Int) (p12_ : Pt) (p13_ : Pt) (i14_ : Int) (h : H) : Prop :=
 ldA p12_ 2 h fun cs0 =>
 callV S i_spec_TrimSet [.agg cs0] h fun v2 h1 =>
 viaT v2 fun vs3 =>
 exA vs3 0 fun cs4 =>
 viaT v2 fun vs5 =>
 exI .i64 vs5 1 fun n6 =>
 newO [.int .i64 (0), .sl Sl.nil] h1 fun p7 h8 =>
 stN p7 2 cs4 h8 fun h9 =>
 k .normal (laws_FnLastingTiles_f14 s0_ p3_ s4_ i5_ p8_ i9_ p13_ i14_ p7 n6) h9
theorem laws_FnLastingTiles_g14_0_link (S : SatT) (k : Kont) (m : List Nat) (s0_ : Sl) (p3_ : Pt) (s4_ : Sl) (i5_ : Int) (p8_ : Pt) (i9_ : Int) (p12_ : Pt) (p13_ : Pt) (i14_ : Int) (h : H) : cwp S tab laws_FnLastingTiles_M m (sub [1, 1, 1, 1, 1, 1, 1, 1, 1, 0, 0] (bodyOf Try.f3)) k (laws_FnLastingTiles_f13 s0_ p3_ s4_ i5_ p8_ i9_ p12_ p13_ i14_) h = laws_FnLastingTiles_g14_0 S k s0_ p3_ s4_ i5_ p8_ i9_ p12_ p13_ i14_ h := by kernel_rfl
theorem laws_FnLastingTiles_sp_1_1_1_1_1_1_1_1_1_0_1 : (sub [1, 1, 1, 1, 1, 1, 1, 1, 1, 0, 1] (bodyOf Try.f3)) = .seq (sub [1, 1, 1, 1, 1, 1, 1, 1, 1, 0, 1, 0] (bodyOf Try.f3)) (sub [1, 1, 1, 1, 1, 1, 1, 1, 1, 0, 1, 1] (bodyOf Try.f3)) := by kernel_rfl
def laws_FnLastingTiles_ks19 (S : SatT) (K : AVal → H → Prop) : Kont := kSeq (cwp S tab laws_FnLastingTiles_M [] (sub [1, 1, 1, 1, 1, 1, 1, 1, 1, 0, 1, 1] (bodyOf Try.f3)) (laws_FnLastingTiles_ks17 S K)) (laws_FnLastingTiles_ks17 S K)
def laws_FnLastingTiles_f15 (s0_ : Sl) (p3_ : Pt) (s4_ : Sl) (i5_ : Int) (p8_ : Pt) (i9_ : Int) (p13_ : Pt) (i14_ : Int) (b96_ : Bool) : Frame := [.sl s0_, U, U, .ptr p3_, .sl s4_, .int .i64 i5_, U, U, .ptr p8_, .int .i64 i9_, U, U, U, .ptr p13_, .int .i64 i14_, U, U, U, U, U, U, U, U, U, U, U, U, U, U, U, U, U, U, U, U, U, U, U, U, U, U, U, U, U, U, U, U, U, U, U, U, U, U, U, U, U, U, U, U, U, U, U, U, U, U, U, U, U, U, U, U, U, U, U, U, U, U, U, U, U, U, U, U, U, U, U, U, U, U, U, U, U, U, U, U, U, .bool b96_, U, U, U, U, U, U, U, U, U, U, U, U, U, U, U, U, U, U, U, U, U, U, U, U, U, U, U, U, U, U, U, U, U, U, U, U, U, U, U, U, U, U, U, U, U, U, U, U, U, U, U, U, U, U, U, U, U, U, U, U, U, U, U, U, U, U, U, U, U, U, U, U, U, U, U, U, U, U, U, U, U, U, U, U, U, U, U, U, U, U, U, U, U, U, U, U, U, U, U, U, U, U, U, U, U, U, U, U, U, U, U, U, U, U, U, U, U, U, U, U, U, U, U, U, U, U, U, U, U, U, U, U, U, U, U, U, U, U, U, U]
def laws_FnLastingTiles_g15_0 (S : SatT) (k : Kont) (s0_ : Sl) (p3_ : Pt) (s4_ : Sl) (i5_ : Int) (p8_ : Pt) (i9_ : Int) (p13_ : Pt) (i14_ : Int) (p15_ : Pt) (i16_ : Int) (h : H) : Prop :=
 bif (i14_ != i16_) then
 k .normal (laws_FnLastingTiles_f15 s0_ p3_ s4_ i5_ p8_ i9_ p13_ i14_ true) h
 else
 ldA p13_ 2 h fun cs0 =>
 ldA p15_ 2 h fun cs1 =>
 callB S i_laws_set9 [.agg cs0, .agg cs1] h fun b3 h2 =>
 k .normal (laws_FnLastingTiles_f15 s0_ p3_ s4_ i5_ p8_ i9_ p13_ i14_ (!b3)) h2
theorem laws_FnLastingTiles_g15_0_link (S : SatT) (k : Kont) (m : List Nat) (s0_ : Sl) (p3_ : Pt) (s4_ : Sl) (i5_ : Int) (p8_ : Pt) (i9_ : Int) (p13_ : Pt) (i14_ : Int) (p15_ : Pt) (i16_ : Int) (h : H) : cwp S tab laws_FnLastingTiles_M m (sub [1, 1, 1, 1, 1, 1, 1, 1, 1, 0, 1, 0] (bodyOf Try.f3)) k (laws_FnLastingTiles_f14 s0_ p3_ s4_ i5_ p8_ i9_ p13_ i14_ p15_ i16_) h = laws_FnLastingTiles_g15_0 S k s0_ p3_ s4_ i5_ p8_ i9_ p13_ i14_ p15_ i16_ h := by kernel_rfl
theorem laws_FnLastingTiles_sp_1_1_1_1_1_1_1_1_1_0_1_1 : (sub [1, 1, 1, 1, 1, 1, 1, 1, 1, 0, 1, 1] (bodyOf Try.f3)) = .cond (.tmp 96) (sub [1, 1, 1, 1, 1, 1, 1, 1, 1, 0, 1, 1, 0] (bodyOf Try.f3)) (sub [1, 1, 1, 1, 1, 1, 1, 1, 1, 0, 1, 1, 1] (bodyOf Try.f3)) := by kernel_rfl
theorem laws_FnLastingTiles_sp_1_1_1_1_1_1_1_1_1_0_1_1_0 : (sub [1, 1, 1, 1, 1, 1, 1, 1, 1, 0, 1, 1, 0] (bodyOf Try.f3)) = .seq (sub [1, 1, 1, 1, 1, 1, 1, 1, 1, 0, 1, 1, 0, 0] (bodyOf Try.f3)) (sub [1, 1, 1, 1, 1, 1, 1, 1, 1, 0, 1, 1, 0, 1] (bodyOf Try.f3)) := by kernel_rfl
def laws_FnLastingTiles_ks20 (S : SatT) (K : AVal → H → Prop) : Kont := kSeq (cwp S tab laws_FnLastingTiles_M [] (sub [1, 1, 1, 1, 1, 1, 1, 1, 1, 0, 1, 1, 0, 1] (bodyOf Try.f3)) (laws_FnLastingTiles_ks17 S K)) (laws_FnLastingTiles_ks17 S K)
def laws_FnLastingTiles_f16 (b2_ : Bool) : Frame := [U, U, .bool b2_, U, U, U, U, U, U, U, U, U, U, U, U, U, U, U, U, U, U, U, U, U, U, U, U, U, U, U, U, U, U, U, U, U, U, U, U, U, U, U, U, U, U, U, U, U, U, U, U, U, U, U, U, U, U, U, U, U, U, U, U, U, U, U, U, U, U, U, U, U, U, U, U, U, U, U, U, U, U, U, U, U, U, U, U, U, U, U, U, U, U, U, U, U, U, U, U, U, U, U, U, U, U, U, U, U, U, U, U, U, U, U, U, U, U, U, U, U, U, U, U, U, U, U, U, U, U, U, U, U, U, U, U, U, U, U, U, U, U, U, U, U, U, U, U, U, U, U, U, U, U, U, U, U, U, U, U, U, U, U, U, U, U, U, U, U, U, U, U, U, U, U, U, U, U, U, U, U, U, U, U, U, U, U, U, U, U, U, U, U, U, U, U, U, U, U, U, U, U, U, U, U, U, U, U, U, U, U, U, U, U, U, U, U, U, U, U, U, U, U, U, U, U, U, U, U, U, U, U, U, U, U, U, U, U]
def laws_FnLastingTiles_g16_0 (S : SatT) (k : Kont) (s0_ : Sl) (p3_ : Pt) (s4_ : Sl) (i5_ : Int) (p8_ : Pt) (i9_ : Int) (p13_ : Pt) (i14_ : Int) (b96_ : Bool) (h : H) : Prop :=
 k .normal (laws_FnLastingTiles_f16 false) h
theorem laws_FnLastingTiles_g16_0_link (S : SatT) (k : Kont) (m : List Nat) (s0_ : Sl) (p3_ : Pt) (s4_ : Sl) (i5_ : Int) (p8_ : Pt) (i9_ : Int) (p13_ : Pt) (i14_ : Int) (b96_ : Bool) (h : H) : cwp S tab laws_FnLastingTiles_M m (sub [1, 1, 1, 1, 1, 1, 1, 1, 1, 0, 1, 1, 0, 0] (bodyOf Try.f3)) k (laws_FnLastingTiles_f15 s0_ p3_ s4_ i5_ p8_ i9_ p13_ i14_ b96_) h = laws_FnLastingTiles_g16_0 S k s0_ p3_ s4_ i5_ p8_ i9_ p13_ i14_ b96_ h := by kernel_rfl
theorem laws_FnLastingTiles_sp_1_1_1_1_1_1_1_1_1_0_1_1_1 : (sub [1, 1, 1, 1, 1, 1, 1, 1, 1, 0, 1, 1, 1] (bodyOf Try.f3)) = .skip := by kernel_rfl
theorem laws_FnLastingTiles_sp_1_1_1_1_1_1_1_1_1_1 : (sub [1, 1, 1, 1, 1, 1, 1, 1, 1, 1] (bodyOf Try.f3)) = .seq (sub [1, 1, 1, 1, 1, 1, 1, 1, 1, 1, 0] (bodyOf Try.f3)) (sub [1, 1, 1, 1, 1, 1, 1, 1, 1, 1, 1] (bodyOf Try.f3)) := by kernel_rfl
def laws_FnLastingTiles_ks21 (S : SatT) (K : AVal → H → Prop) : Kont := kSeq (cwp S tab laws_FnLastingTiles_M [] (sub [1, 1, 1, 1, 1, 1, 1, 1, 1, 1, 1] (bodyOf Try.f3)) (kFun tab (Try.f3).results.toList K)) (kFun tab (Try.f3).results.toList K)
def laws_FnLastingTiles_f17 (p3_ : Pt) (s4_ : Sl) (i5_ : Int) (p8_ : Pt) (i9_ : Int) (p13_ : Pt) (i14_ : Int) (p17_ : Pt) (i18_ : Int) : Frame := [U, U, U, .ptr p3_, .sl s4_, .int .i64 i5_, U, U, .ptr p8_, .int .i64 i9_, U, U, U, .ptr p13_, .int .i64 i14_, U, U, .ptr p17_, .int .i64 i18_, U, U, U, U, U, U, U, U, U, U, U, U, U, U, U, U, U, U, U, U, U, U, U, U, U, U, U, U, U, U, U, U, U, U, U, U, U, U, U, U, U, U, U, U, U, U, U, U, U, U, U, U, U, U, U, U, U, U, U, U, U, U, U, U, U, U, U, U, U, U, U, U, U, U, U, U, U, U, U, U, U, U, U, U, U, U, U, U, U, U, U, U, U, U, U, U, U, U, U, U, U, U, U, U, U, U, U, U, U, U, U, U, U, U, U, U, U, U, U, U, U, U, U, U, U, U, U, U, U, U, U, U, U, U, U, U, U, U, U, U, U, U, U, U, U, U, U, U, U, U, U, U, U, U, U, U, U, U, U, U, U, U, U, U, U, U, U, U, U, U, U, U, U, U, U, U, U, U, U, U, U, U, U, U, U, U, U, U, U, U, U, U, U, U, U, U, U, U, U, U, U, U, U, U, U, U, U, U, U, U, U, U, U, U, U, U, U, U]
def laws_FnLastingTiles_g17_0 (S : SatT) (k : Kont) (s0_ : Sl) (p3_ : Pt) (s4_ : Sl) (i5_ : Int) (p8_ : Pt) (i9_ : Int) (p13_ : Pt) (i14_ : Int) (b96_ : Bool) (h : H) : Prop :=
 callV S i_spec_DrawIsDetermined [.sl s0_] h fun v1 h0 =>
 viaT v1 fun vs2 =>
 exA vs2 0 fun cs3 =>
 viaT v1 fun vs4 =>
 exI .i64 vs4 1 fun n5 =>
 newO [.int .i64 (0), .sl Sl.nil] h0 fun p6 h7 =>
 stN p6 2 cs3 h7 fun h8 =>
 k .normal (laws_FnLastingTiles_f17 p3_ s4_ i5_ p8_ i9_ p13_ i14_ p6 n5) h8
theorem laws_FnLastingTiles_g17_0_link (S : SatT) (k : Kont) (m : List Nat) (s0_ : Sl) (p3_ : Pt) (s4_ : Sl) (i5_ : Int) (p8_ : Pt) (i9_ : Int) (p13_ : Pt) (i14_ : Int) (b96_ : Bool) (h : H) : cwp S tab laws_FnLastingTiles_M m (sub [1, 1, 1, 1, 1, 1, 1, 1, 1, 1, 0] (bodyOf Try.f3)) k (laws_FnLastingTiles_f15 s0_ p3_ s4_ i5_ p8_ i9_ p13_ i14_ b96_) h = laws_FnLastingTiles_g17_0 S k s0_ p3_ s4_ i5_ p8_ i9_ p13_ i14_ b96_ h := by kernel_rfl
theorem laws_FnLastingTiles_sp_1_1_1_1_1_1_1_1_1_1_1 : (sub [1, 1, 1, 1, 1, 1, 1, 1, 1, 1, 1] (bodyOf Try.f3)) = .seq (sub [1, 1, 1, 1, 1, 1, 1, 1, 1, 1, 1, 0] (bodyOf Try.f3)) (sub [1, 1, 1, 1, 1, 1, 1, 1, 1, 1, 1, 1] (bodyOf Try.f3)) := by kernel_rfl
def laws_FnLastingTiles_ks22 (S : SatT) (K : AVal → H → Prop) : Kont := kSeq (cwp S tab laws_FnLastingTiles_M [] (sub [1, 1, 1, 1, 1, 1, 1, 1, 1, 1, 1, 1] (bodyOf Try.f3)) (kFun tab (Try.f3).results.toList K)) (kFun tab (Try.f3).results.toList K)
def laws_FnLastingTiles_f18 (p3_ : Pt) (s4_ : Sl) (i5_ : Int) (p8_ : Pt) (i9_ : Int) (p13_ : Pt) (i14_ : Int) (p17_ : Pt) (i18_ : Int) (b19_ : Bool) (i20_ : Int) : Frame := [U, U, U, .ptr p3_, .sl s4_, .int .i64 i5_, U, U, .ptr p8_, .int .i64 i9_, U, U, U, .ptr p13_, .int .i64 i14_, U, U, .ptr p17_, .int .i64 i18_, .bool b19_, .int .i64 i20_, U, U, U, U, U, U, U, U, U, U, U, U, U, U, U, U, U, U, U, U, U, U, U, U, U, U, U, U, U, U, U, U, U, U, U, U, U, U, U, U, U, U, U, U, U, U, U, U, U, U, U, U, U, U, U, U, U, U, U, U, U, U, U, U, U, U, U, U, U, U, U, U, U, U, U, U, U, U, U, U, U, U, U, U, U, U, U, U, U, U, U, U, U, U, U, U, U, U, U, U, U, U, U, U, U, U, U, U, U, U, U, U, U, U, U, U, U, U, U, U, U, U, U, U, U, U, U, U, U, U, U, U, U, U, U, U, U, U, U, U, U, U, U, U, U, U, U, U, U, U, U, U, U, U, U, U, U, U, U, U, U, U, U, U, U, U, U, U, U, U, U, U, U, U, U, U, U, U, U, U, U, U, U, U, U, U, U, U, U, U, U, U, U, U, U, U, U, U, U, U, U, U, U, U, U, U, U, U, U, U, U, U, U, U, U, U]
def laws_FnLastingTiles_g18_0 (S : SatT) (k : Kont) (p3_ : Pt) (s4_ : Sl) (i5_ : Int) (p8_ : Pt) (i9_ : Int) (p13_ : Pt) (i14_ : Int) (p17_ : Pt) (i18_ : Int) (h : H) : Prop :=
 ldA p17_ 2 h fun cs0 =>
 callV S i_impl_IsDetermined [.agg cs0, .int .i64 i18_] h fun v2 h1 =>
 viaT v2 fun vs3 =>
 exB vs3 0 fun b4 =>
 viaT v2 fun vs5 =>
 exI .i64 vs5 1 fun n6 =>
 k .normal (laws_FnLastingTiles_f18 p3_ s4_ i5_ p8_ i9_ p13_ i14_ p17_ i18_ b4 n6) h1
theorem laws_FnLastingTiles_g18_0_link (S : SatT) (k : Kont) (m : List Nat) (p3_ : Pt) (s4_ : Sl) (i5_ : Int) (p8_ : Pt) (i9_ : Int) (p13_ : Pt) (i14_ : Int) (p17_ : Pt) (i18_ : Int) (h : H) : cwp S tab laws_FnLastingTiles_M m (sub [1, 1, 1, 1, 1, 1, 1, 1, 1, 1, 1, 0] (bodyOf Try.f3)) k (laws_FnLastingTiles_f17 p3_ s4_ i5_ p8_ i9_ p13_ i14_ p17_ i18_) h = laws_FnLastingTiles_g18_0 S k p3_ s4_ i5_ p8_ i9_ p13_ i14_ p17_ i18_ h := by kernel_rfl
theorem laws_FnLastingTiles_sp_1_1_1_1_1_1_1_1_1_1_1_1 : (sub [1, 1, 1, 1, 1, 1, 1, 1, 1, 1, 1, 1] (bodyOf Try.f3)) = .seq (sub [1, 1, 1, 1, 1, 1, 1, 1, 1, 1, 1, 1, 0] (bodyOf Try.f3)) (sub [1, 1, 1, 1, 1, 1, 1, 1, 1, 1, 1, 1, 1] (bodyOf Try.f3)) := by kernel_rfl
theorem laws_FnLastingTiles_sp_1_1_1_1_1_1_1_1_1_1_1_1_0 : (sub [1, 1, 1, 1, 1, 1, 1, 1, 1, 1, 1, 1, 0] (bodyOf Try.f3)) = .seq (sub [1, 1, 1, 1, 1, 1, 1, 1, 1, 1, 1, 1, 0, 0] (bodyOf Try.f3)) (sub [1, 1, 1, 1, 1, 1, 1, 1, 1, 1, 1, 1, 0, 1] (bodyOf Try.f3)) := by kernel_rfl
def laws_FnLastingTiles_ks23 (S : SatT) (K : AVal → H → Prop) : Kont := kSeq (cwp S tab laws_FnLastingTiles_M [] (sub [1, 1, 1, 1, 1, 1, 1, 1, 1, 1, 1, 1, 1] (bodyOf Try.f3)) (kFun tab (Try.f3).results.toList K)) (kFun tab (Try.f3).results.toList K)
def laws_FnLastingTiles_ks24 (S : SatT) (K : AVal → H → Prop) : Kont := kSeq (cwp S tab laws_FnLastingTiles_M [] (sub [1, 1, 1, 1, 1, 1, 1, 1, 1, 1, 1, 1, 0, 1] (bodyOf Try.f3)) (laws_FnLastingTiles_ks23 S K)) (laws_FnLastingTiles_ks23 S K)
def laws_FnLastingTiles_f19 (p3_ : Pt) (s4_ : Sl) (i5_ : Int) (p8_ : Pt) (i9_ : Int) (p13_ : Pt) (i14_ : Int) (p17_ : Pt) (i18_ : Int) (b19_ : Bool) (i20_ : Int) (b21_ : Bool) (i22_ : Int) : Frame := [U, U, U, .ptr p3_, .sl s4_, .int .i64 i5_, U, U, .ptr p8_, .int .i64 i9_, U, U, U, .ptr p13_, .int .i64 i14_, U, U, .ptr p17_, .int .i64 i18_, .bool b19_, .int .i64 i20_, .bool b21_, .int .i64 i22_, U, U, U, U, U, U, U, U, U, U, U, U, U, U, U, U, U, U, U, U, U, U, U, U, U, U, U, U, U, U, U, U, U, U, U, U, U, U, U, U, U, U, U, U, U, U, U, U, U, U, U, U, U, U, U, U, U, U, U, U, U, U, U, U, U, U, U, U, U, U, U, U, U, U, U, U, U, U, U, U, U, U, U, U, U, U, U, U, U, U, U, U, U, U, U, U, U, U, U, U, U, U, U, U, U, U, U, U, U, U, U, U, U, U, U, U, U, U, U, U, U, U, U, U, U, U, U, U, U, U, U, U, U, U, U, U, U, U, U, U, U, U, U, U, U, U, U, U, U, U, U, U, U, U, U, U, U, U, U, U, U, U, U, U, U, U, U, U, U, U, U, U, U, U, U, U, U, U, U, U, U, U, U, U, U, U, U, U, U, U, U, U, U, U, U, U, U, U, U, U, U, U, U, U, U, U, U, U, U, U, U, U, U, U]
def laws_FnLastingTiles_g19_0 (S : SatT) (k : Kont) (p3_ : Pt) (s4_ : Sl) (i5_ : Int) (p8_ : Pt) (i9_ : Int) (p13_ : Pt) (i14_ : Int) (p17_ : Pt) (i18_ : Int) (b19_ : Bool) (i20_ : Int) (h : H) : Prop :=
 ldA p17_ 2 h fun cs0 =>
 callV S i_spec_IsDetermined [.agg cs0, .int .i64 i18_] h fun v2 h1 =>
 viaT v2 fun vs3 =>
 exB vs3 0 fun b4 =>
 viaT v2 fun vs5 =>
 exI .i64 vs5 1 fun n6 =>
 k .normal (laws_FnLastingTiles_f19 p3_ s4_ i5_ p8_ i9_ p13_ i14_ p17_ i18_ b19_ i20_ b4 n6) h1
theorem laws_FnLastingTiles_g19_0_link (S : SatT) (k : Kont) (m : List Nat) (p3_ : Pt) (s4_ : Sl) (i5_ : Int) (p8_ : Pt) (i9_ : Int) (p13_ : Pt) (i14_ : Int) (p17_ : Pt) (i18_ : Int) (b19_ : Bool) (i20_ : Int) (h : H) : cwp S tab laws_FnLastingTiles_M m (sub [1, 1, 1, 1, 1, 1, 1, 1, 1, 1, 1, 1, 0, 0] (bodyOf Try.f3)) k (laws_FnLastingTiles_f18 p3_ s4_ i5_ p8_ i9_ p13_ i14_ p17_ i18_ b19_ i20_) h = laws_FnLastingTiles_g19_0 S k p3_ s4_ i5_ p8_ i9_ p13_ i14_ p17_ i18_ b19_ i20_ h := by kernel_rfl
theorem laws_FnLastingTiles_sp_1_1_1_1_1_1_1_1_1_1_1_1_0_1 : (sub [1, 1, 1, 1, 1, 1, 1, 1, 1, 1, 1, 1, 0, 1] (bodyOf Try.f3)) = .seq (sub [1, 1, 1, 1, 1, 1, 1, 1, 1, 1, 1, 1, 0, 1, 0] (bodyOf Try.f3)) (sub [1, 1, 1, 1, 1, 1, 1, 1, 1, 1, 1, 1, 0, 1, 1] (bodyOf Try.f3)) := by kernel_rfl
def laws_FnLastingTiles_ks25 (S : SatT) (K : AVal → H → Prop) : Kont := kSeq (cwp S tab laws_FnLastingTiles_M [] (sub [1, 1, 1, 1, 1, 1, 1, 1, 1, 1, 1, 1, 0, 1, 1] (bodyOf Try.f3)) (laws_FnLastingTiles_ks23 S K)) (laws_FnLastingTiles_ks23 S K)
def laws_FnLastingTiles_f20 (p3_ : Pt) (s4_ : Sl) (i5_ : Int) (p8_ : Pt) (i9_ : Int) (p13_ : Pt) (i14_ : Int) (p17_ : Pt) (i18_ : Int) (b19_ : Bool) (i20_ : Int) (b121_ : Bool) : Frame := [U, U, U, .ptr p3_, .sl s4_, .int .i64 i5_, U, U, .ptr p8_, .int .i64 i9_, U, U, U, .ptr p13_, .int .i64 i14_, U, U, .ptr p17_, .int .i64 i18_, .bool b19_, .int .i64 i20_, U, U, U, U, U, U, U, U, U, U, U, U, U, U, U, U, U, U, U, U, U, U, U, U, U, U, U, U, U, U, U, U, U, U, U, U, U, U, U, U, U, U, U, U, U, U, U, U, U, U, U, U, U, U, U, U, U, U, U, U, U, U, U, U, U, U, U, U, U, U, U, U, U, U, U, U, U, U, U, U, U, U, U, U, U, U, U, U, U, U, U, U, U, U, U, U, U, U, U, U, .bool b121_, U, U, U, U, U, U, U, U, U, U, U, U, U, U, U, U, U, U, U, U, U, U, U, U, U, U, U, U, U, U, U, U, U, U, U, U, U, U, U, U, U, U, U, U, U, U, U, U, U, U, U, U, U, U, U, U, U, U, U, U, U, U, U, U, U, U, U, U, U, U, U, U, U, U, U, U, U, U, U, U, U, U, U, U, U, U, U, U, U, U, U, U, U, U, U, U, U, U, U, U, U, U, U, U, U, U, U, U, U, U, U, U, U, U, U]
def laws_FnLastingTiles_g20_0 (S : SatT) (k : Kont) (p3_ : Pt) (s4_ : Sl) (i5_ : Int) (p8_ : Pt) (i9_ : Int) (p13_ : Pt) (i14_ : Int) (p17_ : Pt) (i18_ : Int) (b19_ : Bool) (i20_ : Int) (b21_ : Bool) (i22_ : Int) (h : H) : Prop :=
 bif (i20_ != i22_) then
 k .normal (laws_FnLastingTiles_f20 p3_ s4_ i5_ p8_ i9_ p13_ i14_ p17_ i18_ b19_ i20_ true) h
 else
 k .normal (laws_FnLastingTiles_f20 p3_ s4_ i5_ p8_ i9_ p13_ i14_ p17_ i18_ b19_ i20_ (b19_ != b21_)) h
theorem laws_FnLastingTiles_g20_0_link (S : SatT) (k : Kont) (m : List Nat) (p3_ : Pt) (s4_ : Sl) (i5_ : Int) (p8_ : Pt) (i9_ : Int) (p13_ : Pt) (i14_ : Int) (p17_ : Pt) (i18_ : Int) (b19_ : Bool) (i20_ : Int) (b21_ : Bool) (i22_ : Int) (h : H) : cwp S tab laws_FnLastingTiles_M m (sub [1, 1, 1, 1, 1, 1, 1, 1, 1, 1, 1, 1, 0, 1, 0] (bodyOf Try.f3)) k (laws_FnLastingTiles_f19 p3_ s4_ i5_ p8_ i9_ p13_ i14_ p17_ i18_ b19_ i20_ b21_ i22_) h = laws_FnLastingTiles_g20_0 S k p3_ s4_ i5_ p8_ i9_ p13_ i14_ p17_ i18_ b19_ i20_ b21_ i22_ h := by kernel_rfl
theorem laws_FnLastingTiles_sp_1_1_1_1_1_1_1_1_1_1_1_1_0_1_1 : (sub [1, 1, 1, 1, 1, 1, 1, 1, 1, 1, 1, 1, 0, 1, 1] (bodyOf Try.f3)) = .cond (.tmp 121) (sub [1, 1, 1, 1, 1, 1, 1, 1, 1, 1, 1, 1, 0, 1, 1, 0] (bodyOf Try.f3)) (sub [1, 1, 1, 1, 1, 1, 1, 1, 1, 1, 1, 1, 0, 1, 1, 1] (bodyOf Try.f3)) := by kernel_rfl
theorem laws_FnLastingTiles_sp_1_1_1_1_1_1_1_1_1_1_1_1_0_1_1_0 : (sub [1, 1, 1, 1, 1, 1, 1, 1, 1, 1, 1, 1, 0, 1, 1, 0] (bodyOf Try.f3)) = .seq (sub [1, 1, 1, 1, 1, 1, 1, 1, 1, 1, 1, 1, 0, 1, 1, 0, 0] (bodyOf Try.f3)) (sub [1, 1, 1, 1, 1, 1, 1, 1, 1, 1, 1, 1, 0, 1, 1, 0, 1] (bodyOf Try.f3)) := by kernel_rfl
def laws_FnLastingTiles_ks26 (S : SatT) (K : AVal → H → Prop) : Kont := kSeq (cwp S tab laws_FnLastingTiles_M [] (sub [1, 1, 1, 1, 1, 1, 1, 1, 1, 1, 1, 1, 0, 1, 1, 0, 1] (bodyOf Try.f3)) (laws_FnLastingTiles_ks23 S K)) (laws_FnLastingTiles_ks23 S K)
def laws_FnLastingTiles_f21 (b2_ : Bool) : Frame := [U, U, .bool b2_, U, U, U, U, U, U, U, U, U, U, U, U, U, U, U, U, U, U, U, U, U, U, U, U, U, U, U, U, U, U, U, U, U, U, U, U, U, U, U, U, U, U, U, U, U, U, U, U, U, U, U, U, U, U, U, U, U, U, U, U, U, U, U, U, U, U, U, U, U, U, U, U, U, U, U, U, U, U, U, U, U, U, U, U, U, U, U, U, U, U, U, U, U, U, U, U, U, U, U, U, U, U, U, U, U, U, U, U, U, U, U, U, U, U, U, U, U, U, U, U, U, U, U, U, U, U, U, U, U, U, U, U, U, U, U, U, U, U, U, U, U, U, U, U, U, U, U, U, U, U, U, U, U, U, U, U, U, U, U, U, U, U, U, U, U, U, U, U, U, U, U, U, U, U, U, U, U, U, U, U, U, U, U, U, U, U, U, U, U, U, U, U, U, U, U, U, U, U, U, U, U, U, U, U, U, U, U, U, U, U, U, U, U, U, U, U, U, U, U, U, U, U, U, U, U, U, U, U, U, U, U, U, U, U]
def laws_FnLastingTiles_g21_0 (S : SatT) (k : Kont) (p3_ : Pt) (s4_ : Sl) (i5_ : Int) (p8_ : Pt) (i9_ : Int) (p13_ : Pt) (i14_ : Int) (p17_ : Pt) (i18_ : Int) (b19_ : Bool) (i20_ : Int) (b121_ : Bool) (h : H) : Prop :=
 k .normal (laws_FnLastingTiles_f21 false) h
theorem laws_FnLastingTiles_g21_0_link (S : SatT) (k : Kont) (m : List Nat) (p3_ : Pt) (s4_ : Sl) (i5_ : Int) (p8_ : Pt) (i9_ : Int) (p13_ : Pt) (i14_ : Int) (p17_ : Pt) (i18_ : Int) (b19_ : Bool) (i20_ : Int) (b121_ : Bool) (h : H) : cwp S tab laws_FnLastingTiles_M m (sub [1, 1, 1, 1, 1, 1, 1, 1, 1, 1, 1, 1, 0, 1, 1, 0, 0] (bodyOf Try.f3)) k (laws_FnLastingTiles_f20 p3_ s4_ i5_ p8_ i9_ p13_ i14_ p17_ i18_ b19_ i20_ b121_) h = laws_FnLastingTiles_g21_0 S k p3_ s4_ i5_ p8_ i9_ p13_ i14_ p17_ i18_ b19_ i20_ b121_ h := by kernel_rfl
theorem laws_FnLastingTiles_sp_1_1_1_1_1_1_1_1_1_1_1_1_0_1_1_1 : (sub [1, 1, 1, 1, 1, 1, 1, 1, 1, 1, 1, 1, 0, 1, 1, 1] (bodyOf Try.f3)) = .skip := by kernel_rfl
theorem laws_FnLastingTiles_sp_1_1_1_1_1_1_1_1_1_1_1_1_1 : (sub [1, 1, 1, 1, 1, 1, 1, 1, 1, 1, 1, 1, 1] (bodyOf Try.f3)) = .seq (sub [1, 1, 1, 1, 1, 1, 1, 1, 1, 1, 1, 1, 1, 0] (bodyOf Try.f3)) (sub [1, 1, 1, 1, 1, 1, 1, 1, 1, 1, 1, 1, 1, 1] (bodyOf Try.f3)) := by kernel_rfl
theorem laws_FnLastingTiles_sp_1_1_1_1_1_1_1_1_1_1_1_1_1_0 : (sub [1, 1, 1, 1, 1, 1, 1, 1, 1, 1, 1, 1, 1, 0] (bodyOf Try.f3)) = .seq (sub [1, 1, 1, 1, 1, 1, 1, 1, 1, 1, 1, 1, 1, 0, 0] (bodyOf Try.f3)) (sub [1, 1, 1, 1, 1, 1, 1, 1, 1, 1, 1, 1, 1, 0, 1] (bodyOf Try.f3)) := by kernel_rfl
def laws_FnLastingTiles_ks27 (S : SatT) (K : AVal → H → Prop) : Kont := kSeq (cwp S tab laws_FnLastingTiles_M [] (sub [1, 1, 1, 1, 1, 1, 1, 1, 1, 1, 1, 1, 1, 1] (bodyOf Try.f3)) (kFun tab (Try.f3).results.toList K)) (kFun tab (Try.f3).results.toList K)
def laws_FnLastingTiles_ks28 (S : SatT) (K : AVal → H → Prop) : Kont := kSeq (cwp S tab laws_FnLastingTiles_M [] (sub [1, 1, 1, 1, 1, 1, 1, 1, 1, 1, 1, 1, 1, 0, 1] (bodyOf Try.f3)) (laws_FnLastingTiles_ks27 S K)) (laws_FnLastingTiles_ks27 S K)
def laws_FnLastingTiles_f22 (p3_ : Pt) (s4_ : Sl) (i5_ : Int) (p8_ : Pt) (i9_ : Int) (p13_ : Pt) (i14_ : Int) (p17_ : Pt) (i18_ : Int) (b19_ : Bool) (b123_ : Bool) : Frame := [U, U, U, .ptr p3_, .sl s4_, .int .i64 i5_, U, U, .ptr p8_, .int .i64 i9_, U, U, U, .ptr p13_, .int .i64 i14_, U, U, .ptr p17_, .int .i64 i18_, .bool b19_, U, U, U, U, U, U, U, U, U, U, U, U, U, U, U, U, U, U, U, U, U, U, U, U, U, U, U, U, U, U, U, U, U, U, U, U, U, U, U, U, U, U, U, U, U, U, U, U, U, U, U, U, U, U, U, U, U, U, U, U, U, U, U, U, U, U, U, U, U, U, U, U, U, U, U, U, U, U, U, U, U, U, U, U, U, U, U, U, U, U, U, U, U, U, U, U, U, U, U, U, U, U, U, .bool b123_, U, U, U, U, U, U, U, U, U, U, U, U, U, U, U, U, U, U, U, U, U, U, U, U, U, U, U, U, U, U, U, U, U, U, U, U, U, U, U, U, U, U, U, U, U, U, U, U, U, U, U, U, U, U, U, U, U, U, U, U, U, U, U, U, U, U, U, U, U, U, U, U, U, U, U, U, U, U, U, U, U, U, U, U, U, U, U, U, U, U, U, U, U, U, U, U, U, U, U, U, U, U, U, U, U, U, U, U, U, U, U, U, U]
def laws_FnLastingTiles_g22_0 (S : SatT) (k : Kont) (p3_ : Pt) (s4_ : Sl) (i5_ : Int) (p8_ : Pt) (i9_ : Int) (p13_ : Pt) (i14_ : Int) (p17_ : Pt) (i18_ : Int) (b19_ : Bool) (i20_ : Int) (b121_ : Bool) (h : H) : Prop :=
 k .normal (laws_FnLastingTiles_f22 p3_ s4_ i5_ p8_ i9_ p13_ i14_ p17_ i18_ b19_ (i20_ == (0))) h
theorem laws_FnLastingTiles_g22_0_link (S : SatT) (k : Kont) (m : List Nat) (p3_ : Pt) (s4_ : Sl) (i5_ : Int) (p8_ : Pt) (i9_ : Int) (p13_ : Pt) (i14_ : Int) (p17_ : Pt) (i18_ : Int) (b19_ : Bool) (i20_ : Int) (b121_ : Bool) (h : H) : cwp S tab laws_FnLastingTiles_M m (sub [1, 1, 1, 1, 1, 1, 1, 1, 1, 1, 1, 1, 1, 0, 0] (bodyOf Try.f3)) k (laws_FnLastingTiles_f20 p3_ s4_ i5_ p8_ i9_ p13_ i14_ p17_ i18_ b19_ i20_ b121_) h = laws_FnLastingTiles_g22_0 S k p3_ s4_ i5_ p8_ i9_ p13_ i14_ p17_ i18_ b19_ i20_ b121_ h := by kernel_rfl
theorem laws_FnLastingTiles_sp_1_1_1_1_1_1_1_1_1_1_1_1_1_0_1 : (sub [1, 1, 1, 1, 1, 1, 1, 1, 1, 1, 1, 1, 1, 0, 1] (bodyOf Try.f3)) = .cond (.tmp 123) (sub [1, 1, 1, 1, 1, 1, 1, 1, 1, 1, 1, 1, 1, 0, 1, 0] (bodyOf Try.f3)) (sub [1, 1, 1, 1, 1, 1, 1, 1, 1, 1, 1, 1, 1, 0, 1, 1] (bodyOf Try.f3)) := by kernel_rfl
theorem laws_FnLastingTiles_sp_1_1_1_1_1_1_1_1_1_1_1_1_1_0_1_0 : (sub [1, 1, 1, 1, 1, 1, 1, 1, 1, 1, 1, 1, 1, 0, 1, 0] (bodyOf Try.f3)) = .seq (sub [1, 1, 1, 1, 1, 1, 1, 1, 1, 1, 1, 1, 1, 0, 1, 0, 0] (bodyOf Try.f3)) (sub [1, 1, 1, 1, 1, 1, 1, 1, 1, 1, 1, 1, 1, 0, 1, 0, 1] (bodyOf Try.f3)) := by kernel_rfl
def laws_FnLastingTiles_ks29 (S : SatT) (K : AVal → H → Prop) : Kont := kSeq (cwp S tab laws_FnLastingTiles_M [] (sub [1, 1, 1, 1, 1, 1, 1, 1, 1, 1, 1, 1, 1, 0, 1, 0, 1] (bodyOf Try.f3)) (laws_FnLastingTiles_ks27 S K)) (laws_FnLastingTiles_ks27 S K)
def laws_FnLastingTiles_f23 (p3_ : Pt) (s4_ : Sl) (i5_ : Int) (p8_ : Pt) (i9_ : Int) (p13_ : Pt) (i14_ : Int) (i18_ : Int) (b19_ : Bool) (p23_ : Pt) (i24_ : Int) : Frame := [U, U, U, .ptr p3_, .sl s4_, .int .i64 i5_, U, U, .ptr p8_, .int .i64 i9_, U, U, U, .ptr p13_, .int .i64 i14_, U, U, U, .int .i64 i18_, .bool b19_, U, U, U, .ptr p23_, .int .i64 i24_, U, U, U, U, U, U, U, U, U, U, U, U, U, U, U, U, U, U, U, U, U, U, U, U, U, U, U, U, U, U, U, U, U, U, U, U, U, U, U, U, U, U, U, U, U, U, U, U, U, U, U, U, U, U, U, U, U, U, U, U, U, U, U, U, U, U, U, U, U, U, U, U, U, U, U, U, U, U, U, U, U, U, U, U, U, U, U, U, U, U, U, U, U, U, U, U, U, U, U, U, U, U, U, U, U, U, U, U, U, U, U, U, U, U, U, U, U, U, U, U, U, U, U, U, U, U, U, U, U, U, U, U, U, U, U, U, U, U, U, U, U, U, U, U, U, U, U, U, U, U, U, U, U, U, U, U, U, U, U, U, U, U, U, U, U, U, U, U, U, U, U, U, U, U, U, U, U, U, U, U, U, U, U, U, U, U, U, U, U, U, U, U, U, U, U, U, U, U, U, U, U, U, U, U, U, U, U, U, U, U, U, U]
def laws_FnLastingTiles_g23_0 (S : SatT) (k : Kont) (p3_ : Pt) (s4_ : Sl) (i5_ : Int) (p8_ : Pt) (i9_ : Int) (p13_ : Pt) (i14_ : Int) (p17_ : Pt) (i18_ : Int) (b19_ : Bool) (b123_ : Bool) (h : H) : Prop :=
 ldA p17_ 2 h fun cs0 =>
 callV S i_impl_TurnedSet [.agg cs0] h fun v2 h1 =>
 viaT v2 fun vs3 =>
 exA vs3 0 fun cs4 =>
 viaT v2 fun vs5 =>
 exI .i64 vs5 1 fun n6 =>
 newO [.int .i64 (0), .sl Sl.nil] h1 fun p7 h8 =>
 stN p7 2 cs4 h8 fun h9 =>
 k .normal (laws_FnLastingTiles_f23 p3_ s4_ i5_ p8_ i9_ p13_ i14_ i18_ b19_ p7 n6) h9
theorem laws_FnLastingTiles_g23_0_link (S : SatT) (k : Kont) (m : List Nat) (p3_ : Pt) (s4_ : Sl) (i5_ : Int) (p8_ : Pt) (i9_ : Int) (p13_ : Pt) (i14_ : Int) (p17_ : Pt) (i18_ : Int) (b19_ : Bool) (b123_ : Bool) (h : H) : cwp S tab laws_FnLastingTiles_M m (sub [1, 1, 1, 1, 1, 1, 1, 1, 1, 1, 1, 1, 1, 0, 1, 0, 0] (bodyOf Try.f3)) k (laws_FnLastingTiles_f22 p3_ s4_ i5_ p8_ i9_ p13_ i14_ p17_ i18_ b19_ b123_) h = laws_FnLastingTiles_g23_0 S k p3_ s4_ i5_ p8_ i9_ p13_ i14_ p17_ i18_ b19_ b123_ h := by kernel_rfl
theorem laws_FnLastingTiles_sp_1_1_1_1_1_1_1_1_1_1_1_1_1_0_1_0_1 : (sub [1, 1, 1, 1, 1, 1, 1, 1, 1, 1, 1, 1, 1, 0, 1, 0, 1] (bodyOf Try.f3)) = .seq (sub [1, 1, 1, 1, 1, 1, 1, 1, 1, 1, 1, 1, 1, 0, 1, 0, 1, 0] (bodyOf Try.f3)) (sub [1, 1, 1, 1, 1, 1, 1, 1, 1, 1, 1, 1, 1, 0, 1, 0, 1, 1] (bodyOf Try.f3)) := by kernel_rfl
def laws_FnLastingTiles_ks30 (S : SatT) (K : AVal → H → Prop) : Kont := kSeq (cwp S tab laws_FnLastingTiles_M [] (sub [1, 1, 1, 1, 1, 1, 1, 1, 1, 1, 1, 1, 1, 0, 1, 0, 1, 1] (bodyOf Try.f3)) (laws_FnLastingTiles_ks27 S K)) (laws_FnLastingTiles_ks27 S K)
def laws_FnLastingTiles_f24 (p3_ : Pt) (s4_ : Sl) (i5_ : Int) (p8_ : Pt) (i9_ : Int) (p13_ : Pt) (i14_ : Int) (b19_ : Bool) (i24_ : Int) (b25_ : Bool) (i26_ : Int) : Frame := [U, U, U, .ptr p3_, .sl s4_, .int .i64 i5_, U, U, .ptr p8_, .int .i64 i9_, U, U, U, .ptr p13_, .int .i64 i14_, U, U, U, U, .bool b19_, U, U, U, U, .int .i64 i24_, .bool b25_, .int .i64 i26_, U, U, U, U, U, U, U, U, U, U, U, U, U, U, U, U, U, U, U, U, U, U, U, U, U, U, U, U, U, U, U, U, U, U, U, U, U, U, U, U, U, U, U, U, U, U, U, U, U, U, U, U, U, U, U, U, U, U, U, U, U, U, U, U, U, U, U, U, U, U, U, U, U, U, U, U, U, U, U, U, U, U, U, U, U, U, U, U, U, U, U, U, U, U, U, U, U, U, U, U, U, U, U, U, U, U, U, U, U, U, U, U, U, U, U, U, U, U, U, U, U, U, U, U, U, U, U, U, U, U, U, U, U, U, U, U, U, U, U, U, U, U, U, U, U, U, U, U, U, U, U, U, U, U, U, U, U, U, U, U, U, U, U, U, U, U, U, U, U, U, U, U, U, U, U, U, U, U, U, U, U, U, U, U, U, U, U, U, U, U, U, U, U, U, U, U, U, U, U, U, U, U, U, U, U, U, U, U, U, U]
def laws_FnLastingTiles_g24_0 (S : SatT) (k : Kont) (p3_ : Pt) (s4_ : Sl) (i5_ : Int) (p8_ : Pt) (i9_ : Int) (p13_ : Pt) (i14_ : Int) (i18_ : Int) (b19_ : Bool) (p23_ : Pt) (i24_ : Int) (h : H) : Prop :=
 ldA p23_ 2 h fun cs0 =>
 nz (4) (
 callV S i_impl_IsDetermined [.agg cs0, .int .i64 (Int.tmod (w64 (i18_ + (1))) (4))] h fun v2 h1 =>
 viaT v2 fun vs3 =>
 exB vs3 0 fun b4 =>
 viaT v2 fun vs5 =>
 exI .i64 vs5 1 fun n6 =>
 k .normal (laws_FnLastingTiles_f24 p3_ s4_ i5_ p8_ i9_ p13_ i14_ b19_ i24_ b4 n6) h1)
theorem laws_FnLastingTiles_g24_0_link (S : SatT) (k : Kont) (m : List Nat) (p3_ : Pt) (s4_ : Sl) (i5_ : Int) (p8_ : Pt) (i9_ : Int) (p13_ : Pt) (i14_ : Int) (i18_ : Int) (b19_ : Bool) (p23_ : Pt) (i24_ : Int) (h : H) : cwp S tab laws_FnLastingTiles_M m (sub [1, 1, 1, 1, 1, 1, 1, 1, 1, 1, 1, 1, 1, 0, 1, 0, 1, 0] (bodyOf Try.f3)) k (laws_FnLastingTiles_f23 p3_ s4_ i5_ p8_ i9_ p13_ i14_ i18_ b19_ p23_ i24_) h = laws_FnLastingTiles_g24_0 S k p3_ s4_ i5_ p8_ i9_ p13_ i14_ i18_ b19_ p23_ i24_ h := by kernel_rfl
theorem laws_FnLastingTiles_sp_1_1_1_1_1_1_1_1_1_1_1_1_1_0_1_0_1_1 : (sub [1, 1, 1, 1, 1, 1, 1, 1, 1, 1, 1, 1, 1, 0, 1, 0, 1, 1] (bodyOf Try.f3)) = .seq (sub [1, 1, 1, 1, 1, 1, 1, 1, 1, 1, 1, 1, 1, 0, 1, 0, 1, 1, 0] (bodyOf Try.f3)) (sub [1, 1, 1, 1, 1, 1, 1, 1, 1, 1, 1, 1, 1, 0, 1, 0, 1, 1, 1] (bodyOf Try.f3)) := by kernel_rfl
def laws_FnLastingTiles_ks31 (S : SatT) (K : AVal → H → Prop) : Kont := kSeq (cwp S tab laws_FnLastingTiles_M [] (sub [1, 1, 1, 1, 1, 1, 1, 1, 1, 1, 1, 1, 1, 0, 1, 0, 1, 1, 1] (bodyOf Try.f3)) (laws_FnLastingTiles_ks27 S K)) (laws_FnLastingTiles_ks27 S K)
def laws_FnLastingTiles_f25 (p3_ : Pt) (s4_ : Sl) (i5_ : Int) (p8_ : Pt) (i9_ : Int) (p13_ : Pt) (i14_ : Int) (b147_ : Bool) : Frame := [U, U, U, .ptr p3_, .sl s4_, .int .i64 i5_, U, U, .ptr p8_, .int .i64 i9_, U, U, U, .ptr p13_, .int .i64 i14_, U, U, U, U, U, U, U, U, U, U, U, U, U, U, U, U, U, U, U, U, U, U, U, U, U, U, U, U, U, U, U, U, U, U, U, U, U, U, U, U, U, U, U, U, U, U, U, U, U, U, U, U, U, U, U, U, U, U, U, U, U, U, U, U, U, U, U, U, U, U, U, U, U, U, U, U, U, U, U, U, U, U, U, U, U, U, U, U, U, U, U, U, U, U, U, U, U, U, U, U, U, U, U, U, U, U, U, U, U, U, U, U, U, U, U, U, U, U, U, U, U, U, U, U, U, U, U, U, U, U, U, U, .bool b147_, U, U, U, U, U, U, U, U, U, U, U, U, U, U, U, U, U, U, U, U, U, U, U, U, U, U, U, U, U, U, U, U, U, U, U, U, U, U, U, U, U, U, U, U, U, U, U, U, U, U, U, U, U, U, U, U, U, U, U, U, U, U, U, U, U, U, U, U, U, U, U, U, U, U, U, U, U, U, U, U, U, U, U, U, U, U, U, U, U]
def laws_FnLastingTiles_g25_0 (S : SatT) (k : Kont) (p3_ : Pt) (s4_ : Sl) (i5_ : Int) (p8_ : Pt) (i9_ : Int) (p13_ : Pt) (i14_ : Int) (b19_ : Bool) (i24_ : Int) (b25_ : Bool) (i26_ : Int) (h : H) : Prop :=
 bif (i24_ != (0)) then
 k .normal (laws_FnLastingTiles_f25 p3_ s4_ i5_ p8_ i9_ p13_ i14_ true) h
 else
 bif (i26_ != (0)) then
 k .normal (laws_FnLastingTiles_f25 p3_ s4_ i5_ p8_ i9_ p13_ i14_ true) h
 else
 k .normal (laws_FnLastingTiles_f25 p3_ s4_ i5_ p8_ i9_ p13_ i14_ (b25_ != b19_)) h
theorem laws_FnLastingTiles_g25_0_link (S : SatT) (k : Kont) (m : List Nat) (p3_ : Pt) (s4_ : Sl) (i5_ : Int) (p8_ : Pt) (i9_ : Int) (p13_ : Pt) (i14_ : Int) (b19_ : Bool) (i24_ : Int) (b25_ : Bool) (i26_ : Int) (h : H) : cwp S tab laws_FnLastingTiles_M m (sub [1, 1, 1, 1, 1, 1, 1, 1, 1, 1, 1, 1, 1, 0, 1, 0, 1, 1, 0] (bodyOf Try.f3)) k (laws_FnLastingTiles_f24 p3_ s4_ i5_ p8_ i9_ p13_ i14_ b19_ i24_ b25_ i26_) h = laws_FnLastingTiles_g25_0 S k p3_ s4_ i5_ p8_ i9_ p13_ i14_ b19_ i24_ b25_ i26_ h := by kernel_rfl
theorem laws_FnLastingTiles_sp_1_1_1_1_1_1_1_1_1_1_1_1_1_0_1_0_1_1_1 : (sub [1, 1, 1, 1, 1, 1, 1, 1, 1, 1, 1, 1, 1, 0, 1, 0, 1, 1, 1] (bodyOf Try.f3)) = .cond (.tmp 147) (sub [1, 1, 1, 1, 1, 1, 1, 1, 1, 1, 1, 1, 1, 0, 1, 0, 1, 1, 1, 0] (bodyOf Try.f3)) (sub [1, 1, 1, 1, 1, 1, 1, 1, 1, 1, 1, 1, 1, 0, 1, 0, 1, 1, 1, 1] (bodyOf Try.f3)) := by kernel_rfl
theorem laws_FnLastingTiles_sp_1_1_1_1_1_1_1_1_1_1_1_1_1_0_1_0_1_1_1_0 : (sub [1, 1, 1, 1, 1, 1, 1, 1, 1, 1, 1, 1, 1, 0, 1, 0, 1, 1, 1, 0] (bodyOf Try.f3)) = .seq (sub [1, 1, 1, 1, 1, 1, 1, 1, 1, 1, 1, 1, 1, 0, 1, 0, 1, 1, 1, 0, 0] (bodyOf Try.f3)) (sub [1, 1, 1, 1, 1, 1, 1, 1, 1, 1, 1, 1, 1, 0, 1, 0, 1, 1, 1, 0, 1] (bodyOf Try.f3)) := by kernel_rfl
def laws_FnLastingTiles_ks32 (S : SatT) (K : AVal → H → Prop) : Kont := kSeq (cwp S tab laws_FnLastingTiles_M [] (sub [1, 1, 1, 1, 1, 1, 1, 1, 1, 1, 1, 1, 1, 0, 1, 0, 1, 1, 1, 0, 1] (bodyOf Try.f3)) (laws_FnLastingTiles_ks27 S K)) (laws_FnLastingTiles_ks27 S K)
def laws_FnLastingTiles_f26 (b2_ : Bool) : Frame := [U, U, .bool b2_, U, U, U, U, U, U, U, U, U, U, U, U, U, U, U, U, U, U, U, U, U, U, U, U, U, U, U, U, U, U, U, U, U, U, U, U, U, U, U, U, U, U, U, U, U, U, U, U, U, U, U, U, U, U, U, U, U, U, U, U, U, U, U, U, U, U, U, U, U, U, U, U, U, U, U, U, U, U, U, U, U, U, U, U, U, U, U, U, U, U, U, U, U, U, U, U, U, U, U, U, U, U, U, U, U, U, U, U, U, U, U, U, U, U, U, U, U, U, U, U, U, U, U, U, U, U, U, U, U, U, U, U, U, U, U, U, U, U, U, U, U, U, U, U, U, U, U, U, U, U, U, U, U, U, U, U, U, U, U, U, U, U, U, U, U, U, U, U, U, U, U, U, U, U, U, U, U, U, U, U, U, U, U, U, U, U, U, U, U, U, U, U, U, U, U, U, U, U, U, U, U, U, U, U, U, U, U, U, U, U, U, U, U, U, U, U, U, U, U, U, U, U, U, U, U, U, U, U, U, U, U, U, U, U]
def laws_FnLastingTiles_g26_0 (S : SatT) (k : Kont) (p3_ : Pt) (s4_ : Sl) (i5_ : Int) (p8_ : Pt) (i9_ : Int) (p13_ : Pt) (i14_ : Int) (b147_ : Bool) (h : H) : Prop :=
 k .normal (laws_FnLastingTiles_f26 false) h
theorem laws_FnLastingTiles_g26_0_link (S : SatT) (k : Kont) (m : List Nat) (p3_ : Pt) (s4_ : Sl) (i5_ : Int) (p8_ : Pt) (i9_ : Int) (p13_ : Pt) (i14_ : Int) (b147_ : Bool) (h : H) : cwp S tab laws_FnLastingTiles_M m (sub [1, 1, 1, 1, 1, 1, 1, 1, 1, 1, 1, 1, 1, 0, 1, 0, 1, 1, 1, 0, 0] (bodyOf Try.f3)) k (laws_FnLastingTiles_f25 p3_ s4_ i5_ p8_ i9_ p13_ i14_ b147_) h = laws_FnLastingTiles_g26_0 S k p3_ s4_ i5_ p8_ i9_ p13_ i14_ b147_ h := by kernel_rfl
theorem laws_FnLastingTiles_sp_1_1_1_1_1_1_1_1_1_1_1_1_1_0_1_0_1_1_1_1 : (sub [1, 1, 1, 1, 1, 1, 1, 1, 1, 1, 1, 1, 1, 0, 1, 0, 1, 1, 1, 1] (bodyOf Try.f3)) = .skip := by kernel_rfl
theorem laws_FnLastingTiles_sp_1_1_1_1_1_1_1_1_1_1_1_1_1_1 : (sub [1, 1, 1, 1, 1, 1, 1, 1, 1, 1, 1, 1, 1, 1] (bodyOf Try.f3)) = .seq (sub [1, 1, 1, 1, 1, 1, 1, 1, 1, 1, 1, 1, 1, 1, 0] (bodyOf Try.f3)) (sub [1, 1, 1, 1, 1, 1, 1, 1, 1, 1, 1, 1, 1, 1, 1] (bodyOf Try.f3)) := by kernel_rfl
theorem laws_FnLastingTiles_sp_1_1_1_1_1_1_1_1_1_1_1_1_1_1_0 : (sub [1, 1, 1, 1, 1, 1, 1, 1, 1, 1, 1, 1, 1, 1, 0] (bodyOf Try.f3)) = .seq (sub [1, 1, 1, 1, 1, 1, 1, 1, 1, 1, 1, 1, 1, 1, 0, 0] (bodyOf Try.f3)) (sub [1, 1, 1, 1, 1, 1, 1, 1, 1, 1, 1, 1, 1, 1, 0, 1] (bodyOf Try.f3)) := by kernel_rfl
def laws_FnLastingTiles_ks33 (S : SatT) (K : AVal → H → Prop) : Kont := kSeq (cwp S tab laws_FnLastingTiles_M [] (sub [1, 1, 1, 1, 1, 1, 1, 1, 1, 1, 1, 1, 1, 1, 1] (bodyOf Try.f3)) (kFun tab (Try.f3).results.toList K)) (kFun tab (Try.f3).results.toList K)
def laws_FnLastingTiles_ks34 (S : SatT) (K : AVal → H → Prop) : Kont := kSeq (cwp S tab laws_FnLastingTiles_M [] (sub [1, 1, 1, 1, 1, 1, 1, 1, 1, 1, 1, 1, 1, 1, 0, 1] (bodyOf Try.f3)) (laws_FnLastingTiles_ks33 S K)) (laws_FnLastingTiles_ks33 S K)
def laws_FnLastingTiles_f27 (p3_ : Pt) (s4_ : Sl) (i5_ : Int) (p8_ : Pt) (i9_ : Int) (p13_ : Pt) (b149_ : Bool) : Frame := [U, U, U, .ptr p3_, .sl s4_, .int .i64 i5_, U, U, .ptr p8_, .int .i64 i9_, U, U, U, .ptr p13_, U, U, U, U, U, U, U, U, U, U, U, U, U, U, U, U, U, U, U, U, U, U, U, U, U, U, U, U, U, U, U, U, U, U, U, U, U, U, U, U, U, U, U, U, U, U, U, U, U, U, U, U, U, U, U, U, U, U, U, U, U, U, U, U, U, U, U, U, U, U, U, U, U, U, U, U, U, U, U, U, U, U, U, U, U, U, U, U, U, U, U, U, U, U, U, U, U, U, U, U, U, U, U, U, U, U, U, U, U, U, U, U, U, U, U, U, U, U, U, U, U, U, U, U, U, U, U, U, U, U, U, U, U, U, U, .bool b149_, U, U, U, U, U, U, U, U, U, U, U, U, U, U, U, U, U, U, U, U, U, U, U, U, U, U, U, U, U, U, U, U, U, U, U, U, U, U, U, U, U, U, U, U, U, U, U, U, U, U, U, U, U, U, U, U, U, U, U, U, U, U, U, U, U, U, U, U, U, U, U, U, U, U, U, U, U, U, U, U, U, U, U, U, U, U, U]
def laws_FnLastingTiles_g27_0 (S : SatT) (k : Kont) (p3_ : Pt) (s4_ : Sl) (i5_ : Int) (p8_ : Pt) (i9_ : Int) (p13_ : Pt) (i14_ : Int) (b147_ : Bool) (h : H) : Prop :=
 k .normal (laws_FnLastingTiles_f27 p3_ s4_ i5_ p8_ i9_ p13_ (i14_ == (0))) h
theorem laws_FnLastingTiles_g27_0_link (S : SatT) (k : Kont) (m : List Nat) (p3_ : Pt) (s4_ : Sl) (i5_ : Int) (p8_ : Pt) (i9_ : Int) (p13_ : Pt) (i14_ : Int) (b147_ : Bool) (h : H) : cwp S tab laws_FnLastingTiles_M m (sub [1, 1, 1, 1, 1, 1, 1, 1, 1, 1, 1, 1, 1, 1, 0, 0] (bodyOf Try.f3)) k (laws_FnLastingTiles_f25 p3_ s4_ i5_ p8_ i9_ p13_ i14_ b147_) h = laws_FnLastingTiles_g27_0 S k p3_ s4_ i5_ p8_ i9_ p13_ i14_ b147_ h := by kernel_rfl
theorem laws_FnLastingTiles_sp_1_1_1_1_1_1_1_1_1_1_1_1_1_1_0_1 : (sub [1, 1, 1, 1, 1, 1, 1, 1, 1, 1, 1, 1, 1, 1, 0, 1] (bodyOf Try.f3)) = .cond (.tmp 149) (sub [1, 1, 1, 1, 1, 1, 1, 1, 1, 1, 1, 1, 1, 1, 0, 1, 0] (bodyOf Try.f3)) (sub [1, 1, 1, 1, 1, 1, 1, 1, 1, 1, 1, 1, 1, 1, 0, 1, 1] (bodyOf Try.f3)) := by kernel_rfl
theorem laws_FnLastingTiles_sp_1_1_1_1_1_1_1_1_1_1_1_1_1_1_0_1_0 : (sub [1, 1, 1, 1, 1, 1, 1, 1, 1, 1, 1, 1, 1, 1, 0, 1, 0] (bodyOf Try.f3)) = .seq (sub [1, 1, 1, 1, 1, 1, 1, 1, 1, 1, 1, 1, 1, 1, 0, 1, 0, 0] (bodyOf Try.f3)) (sub [1, 1, 1, 1, 1, 1, 1, 1, 1, 1, 1, 1, 1, 1, 0, 1, 0, 1] (bodyOf Try.f3)) := by kernel_rfl
def laws_FnLastingTiles_ks35 (S : SatT) (K : AVal → H → Prop) : Kont := kSeq (cwp S tab laws_FnLastingTiles_M [] (sub [1, 1, 1, 1, 1, 1, 1, 1, 1, 1, 1, 1, 1, 1, 0, 1, 0, 1] (bodyOf Try.f3)) (laws_FnLastingTiles_ks33 S K)) (laws_FnLastingTiles_ks33 S K)
def laws_FnLastingTiles_f28 (p3_ : Pt) (s4_ : Sl) (i5_ : Int) (p8_ : Pt) (i9_ : Int) (p13_ : Pt) (p27_ : Pt) (i28_ : Int) : Frame := [U, U, U, .ptr p3_, .sl s4_, .int .i64 i5_, U, U, .ptr p8_, .int .i64 i9_, U, U, U, .ptr p13_, U, U, U, U, U, U, U, U, U, U, U, U, U, .ptr p27_, .int .i64 i28_, U, U, U, U, U, U, U, U, U, U, U, U, U, U, U, U, U, U, U, U, U, U, U, U, U, U, U, U, U, U, U, U, U, U, U, U, U, U, U, U, U, U, U, U, U, U, U, U, U, U, U, U, U, U, U, U, U, U, U, U, U, U, U, U, U, U, U, U, U, U, U, U, U, U, U, U, U, U, U, U, U, U, U, U, U, U, U, U, U, U, U, U, U, U, U, U, U, U, U, U, U, U, U, U, U, U, U, U, U, U, U, U, U, U, U, U, U, U, U, U, U, U, U, U, U, U, U, U, U, U, U, U, U, U, U, U, U, U, U, U, U, U, U, U, U, U, U, U, U, U, U, U, U, U, U, U, U, U, U, U, U, U, U, U, U, U, U, U, U, U, U, U, U, U, U, U, U, U, U, U, U, U, U, U, U, U, U, U, U, U, U, U, U, U, U, U, U, U, U, U, U, U, U, U, U, U, U, U]
def laws_FnLastingTiles_g28_0 (S : SatT) (k : Kont) (p3_ : Pt) (s4_ : Sl) (i5_ : Int) (p8_ : Pt) (i9_ : Int) (p13_ : Pt) (b149_ : Bool) (h : H) : Prop :=
 ldA p13_ 2 h fun cs0 =>
 callV S i_impl_TrimSet [.agg cs0] h fun v2 h1 =>
 viaT v2 fun vs3 =>
 exA vs3 0 fun cs4 =>
 viaT v2 fun vs5 =>
 exI .i64 vs5 1 fun n6 =>
 newO [.int .i64 (0), .sl Sl.nil] h1 fun p7 h8 =>
 stN p7 2 cs4 h8 fun h9 =>
 k .normal (laws_FnLastingTiles_f28 p3_ s4_ i5_ p8_ i9_ p13_ p7 n6) h9
theorem laws_FnLastingTiles_g28_0_link (S : SatT) (k : Kont) (m : List Nat) (p3_ : Pt) (s4_ : Sl) (i5_ : Int) (p8_ : Pt) (i9_ : Int) (p13_ : Pt) (b149_ : Bool) (h : H) : cwp S tab laws_FnLastingTiles_M m (sub [1, 1, 1, 1, 1, 1, 1, 1, 1, 1, 1, 1, 1, 1, 0, 1, 0, 0] (bodyOf Try.f3)) k (laws_FnLastingTiles_f27 p3_ s4_ i5_ p8_ i9_ p13_ b149_) h = laws_FnLastingTiles_g28_0 S k p3_ s4_ i5_ p8_ i9_ p13_ b149_ h := by kernel_rfl
theorem laws_FnLastingTiles_sp_1_1_1_1_1_1_1_1_1_1_1_1_1_1_0_1_0_1 : (sub [1, 1, 1, 1, 1, 1, 1, 1, 1, 1, 1, 1, 1, 1, 0, 1, 0, 1] (bodyOf Try.f3)) = .seq (sub [1, 1, 1, 1, 1, 1, 1, 1, 1, 1, 1, 1, 1, 1, 0, 1, 0, 1, 0] (bodyOf Try.f3)) (sub [1, 1, 1, 1, 1, 1, 1, 1, 1, 1, 1, 1, 1, 1, 0, 1, 0, 1, 1] (bodyOf Try.f3)) := by kernel_rfl
def laws_FnLastingTiles_ks36 (S : SatT) (K : AVal → H → Prop) : Kont := kSeq (cwp S tab laws_FnLastingTiles_M [] (sub [1, 1, 1, 1, 1, 1, 1, 1, 1, 1, 1, 1, 1, 1, 0, 1, 0, 1, 1] (bodyOf Try.f3)) (laws_FnLastingTiles_ks33 S K)) (laws_FnLastingTiles_ks33 S K)
def laws_FnLastingTiles_f29 (p3_ : Pt) (s4_ : Sl) (i5_ : Int) (p8_ : Pt) (i9_ : Int) (p13_ : Pt) (p27_ : Pt) (i28_ : Int) (p29_ : Pt) (i30_ : Int) : Frame := [U, U, U, .ptr p3_, .sl s4_, .int .i64 i5_, U, U, .ptr p8_, .int .i64 i9_, U, U, U, .ptr p13_, U, U, U, U, U, U, U, U, U, U, U, U, U, .ptr p27_, .int .i64 i28_, .ptr p29_, .int .i64 i30_, U, U, U, U, U, U, U, U, U, U, U, U, U, U, U, U, U, U, U, U, U, U, U, U, U, U, U, U, U, U, U, U, U, U, U, U, U, U, U, U, U, U, U, U, U, U, U, U, U, U, U, U, U, U, U, U, U, U, U, U, U, U, U, U, U, U, U, U, U, U, U, U, U, U, U, U, U, U, U, U, U, U, U, U, U, U, U, U, U, U, U, U, U, U, U, U, U, U, U, U, U, U, U, U, U, U, U, U, U, U, U, U, U, U, U, U, U, U, U, U, U, U, U, U, U, U, U, U, U, U, U, U, U, U, U, U, U, U, U, U, U, U, U, U, U, U, U, U, U, U, U, U, U, U, U, U, U, U, U, U, U, U, U, U, U, U, U, U, U, U, U, U, U, U, U, U, U, U, U, U, U, U, U, U, U, U, U, U, U, U, U, U, U, U, U, U, U, U, U, U, U, U, U, U, U, U]
def laws_FnLastingTiles_g29_0 (S : SatT) (k : Kont) (p3_ : Pt) (s4_ : Sl) (i5_ : Int) (p8_ : Pt) (i9_ : Int) (p13_ : Pt) (p27_ : Pt) (i28_ : Int) (h : H) : Prop :=
 ldA p13_ 2 h fun cs0 =>
 callV S i_impl_KeepLasting [.agg cs0] h fun v2 h1 =>
 viaT v2 fun vs3 =>
 exA vs3 0 fun cs4 =>
 viaT v2 fun vs5 =>
 exI .i64 vs5 1 fun n6 =>
 newO [.int .i64 (0), .sl Sl.nil] h1 fun p7 h8 =>
 stN p7 2 cs4 h8 fun h9 =>
 k .normal (laws_FnLastingTiles_f29 p3_ s4_ i5_ p8_ i9_ p13_ p27_ i28_ p7 n6) h9
theorem laws_FnLastingTiles_g29_0_link (S : SatT) (k : Kont) (m : List Nat) (p3_ : Pt) (s4_ : Sl) (i5_ : Int) (p8_ : Pt) (i9_ : Int) (p13_ : Pt) (p27_ : Pt) (i28_ : Int) (h : H) : cwp S tab laws_FnLastingTiles_M m (sub [1, 1, 1, 1, 1, 1, 1, 1, 1, 1, 1, 1, 1, 1, 0, 1, 0, 1, 0] (bodyOf Try.f3)) k (laws_FnLastingTiles_f28 p3_ s4_ i5_ p8_ i9_ p13_ p27_ i28_) h = laws_FnLastingTiles_g29_0 S k p3_ s4_ i5_ p8_ i9_ p13_ p27_ i28_ h := by kernel_rfl
theorem laws_FnLastingTiles_sp_1_1_1_1_1_1_1_1_1_1_1_1_1_1_0_1_0_1_1 : (sub [1, 1, 1, 1, 1, 1, 1, 1, 1, 1, 1, 1, 1, 1, 0, 1, 0, 1, 1] (bodyOf Try.f3)) = .seq (sub [1, 1, 1, 1, 1, 1, 1, 1, 1, 1, 1, 1, 1, 1, 0, 1, 0, 1, 1, 0] (bodyOf Try.f3)) (sub [1, 1, 1, 1, 1, 1, 1, 1, 1, 1, 1, 1, 1, 1, 0, 1, 0, 1, 1, 1] (bodyOf Try.f3)) := by kernel_rfl
def laws_FnLastingTiles_ks37 (S : SatT) (K : AVal → H → Prop) : Kont := kSeq (cwp S tab laws_FnLastingTiles_M [] (sub [1, 1, 1, 1, 1, 1, 1, 1, 1, 1, 1, 1, 1, 1, 0, 1, 0, 1, 1, 1] (bodyOf Try.f3)) (laws_FnLastingTiles_ks33 S K)) (laws_FnLastingTiles_ks33 S K)
def laws_FnLastingTiles_f30 (p3_ : Pt) (s4_ : Sl) (i5_ : Int) (p8_ : Pt) (i9_ : Int) (b177_ : Bool) : Frame := [U, U, U, .ptr p3_, .sl s4_, .int .i64 i5_, U, U, .ptr p8_, .int .i64 i9_, U, U, U, U, U, U, U, U, U, U, U, U, U, U, U, U, U, U, U, U, U, U, U, U, U, U, U, U, U, U, U, U, U, U, U, U, U, U, U, U, U, U, U, U, U, U, U, U, U, U, U, U, U, U, U, U, U, U, U, U, U, U, U, U, U, U, U, U, U, U, U, U, U, U, U, U, U, U, U, U, U, U, U, U, U, U, U, U, U, U, U, U, U, U, U, U, U, U, U, U, U, U, U, U, U, U, U, U, U, U, U, U, U, U, U, U, U, U, U, U, U, U, U, U, U, U, U, U, U, U, U, U, U, U, U, U, U, U, U, U, U, U, U, U, U, U, U, U, U, U, U, U, U, U, U, U, U, U, U, U, U, U, U, U, U, U, U, .bool b177_, U, U, U, U, U, U, U, U, U, U, U, U, U, U, U, U, U, U, U, U, U, U, U, U, U, U, U, U, U, U, U, U, U, U, U, U, U, U, U, U, U, U, U, U, U, U, U, U, U, U, U, U, U, U, U, U, U, U, U]
def laws_FnLastingTiles_g30_0 (S : SatT) (k : Kont) (p3_ : Pt) (s4_ : Sl) (i5_ : Int) (p8_ : Pt) (i9_ : Int) (p13_ : Pt) (p27_ : Pt) (i28_ : Int) (p29_ : Pt) (i30_ : Int) (h : H) : Prop :=
 bif (i28_ != (0)) then
 k .normal (laws_FnLastingTiles_f30 p3_ s4_ i5_ p8_ i9_ true) h
 else
 ldA p27_ 2 h fun cs0 =>
 ldA p13_ 2 h fun cs1 =>
 callB S i_laws_set9 [.agg cs0, .agg cs1] h fun b3 h2 =>
 bif (!b3) then
 k .normal (laws_FnLastingTiles_f30 p3_ s4_ i5_ p8_ i9_ true) h2
 else
 bif (i30_ != (0)) then
 k .normal (laws_FnLastingTiles_f30 p3_ s4_ i5_ p8_ i9_ true) h2
 else
 ldA p29_ 2 h2 fun cs4 =>
 ldA p13_ 2 h2 fun cs5 =>
 callB S i_laws_set9 [.agg cs4, .agg cs5] h2 fun b7 h6 =>
 k .normal (laws_FnLastingTiles_f30 p3_ s4_ i5_ p8_ i9_ (!b7)) h6
theorem laws_FnLastingTiles_g30_0_link (S : SatT) (k : Kont) (m : List Nat) (p3_ : Pt) (s4_ : Sl) (i5_ : Int) (p8_ : Pt) (i9_ : Int) (p13_ : Pt) (p27_ : Pt) (i28_ : Int) (p29_ : Pt) (i30_ : Int) (h : H) : cwp S tab laws_FnLastingTiles_M m (sub [1, 1, 1, 1, 1, 1, 1, 1, 1, 1, 1, 1, 1, 1, 0, 1, 0, 1, 1, 0] (bodyOf Try.f3)) k (laws_FnLastingTiles_f29 p3_ s4_ i5_ p8_ i9_ p13_ p27_ i28_ p29_ i30_) h = laws_FnLastingTiles_g30_0 S k p3_ s4_ i5_ p8_ i9_ p13_ p27_ i28_ p29_ i30_ h := by kernel_rfl
theorem laws_FnLastingTiles_sp_1_1_1_1_1_1_1_1_1_1_1_1_1_1_0_1_0_1_1_1 : (sub [1, 1, 1, 1, 1, 1, 1, 1, 1, 1, 1, 1, 1, 1, 0, 1, 0, 1, 1, 1] (bodyOf Try.f3)) = .cond (.tmp 177) (sub [1, 1, 1, 1, 1, 1, 1, 1, 1, 1, 1, 1, 1, 1, 0, 1, 0, 1, 1, 1, 0] (bodyOf Try.f3)) (sub [1, 1, 1, 1, 1, 1, 1, 1, 1, 1, 1, 1, 1, 1, 0, 1, 0, 1, 1, 1, 1] (bodyOf Try.f3)) := by kernel_rfl
theorem laws_FnLastingTiles_sp_1_1_1_1_1_1_1_1_1_1_1_1_1_1_0_1_0_1_1_1_0 : (sub [1, 1, 1, 1, 1, 1, 1, 1, 1, 1, 1, 1, 1, 1, 0, 1, 0, 1, 1, 1, 0] (bodyOf Try.f3)) = .seq (sub [1, 1, 1, 1, 1, 1, 1, 1, 1, 1, 1, 1, 1, 1, 0, 1, 0, 1, 1, 1, 0, 0] (bodyOf Try.f3)) (sub [1, 1, 1, 1, 1, 1, 1, 1, 1, 1, 1, 1, 1, 1, 0, 1, 0, 1, 1, 1, 0, 1] (bodyOf Try.f3)) := by kernel_rfl
def laws_FnLastingTiles_ks38 (S : SatT) (K : AVal → H → Prop) : Kont := kSeq (cwp S tab laws_FnLastingTiles_M [] (sub [1, 1, 1, 1, 1, 1, 1, 1, 1, 1, 1, 1, 1, 1, 0, 1, 0, 1, 1, 1, 0, 1] (bodyOf Try.f3)) (laws_FnLastingTiles_ks33 S K)) (laws_FnLastingTiles_ks33 S K)
def laws_FnLastingTiles_f31 (b2_ : Bool) : Frame := [U, U, .bool b2_, U, U, U, U, U, U, U, U, U, U, U, U, U, U, U, U, U, U, U, U, U, U, U, U, U, U, U, U, U, U, U, U, U, U, U, U, U, U, U, U, U, U, U, U, U, U, U, U, U, U, U, U, U, U, U, U, U, U, U, U, U, U, U, U, U, U, U, U, U, U, U, U, U, U, U, U, U, U, U, U, U, U, U, U, U, U, U, U, U, U, U, U, U, U, U, U, U, U, U, U, U, U, U, U, U, U, U, U, U, U, U, U, U, U, U, U, U, U, U, U, U, U, U, U, U, U, U, U, U, U, U, U, U, U, U, U, U, U, U, U, U, U, U, U, U, U, U, U, U, U, U, U, U, U, U, U, U, U, U, U, U, U, U, U, U, U, U, U, U, U, U, U, U, U, U, U, U, U, U, U, U, U, U, U, U, U, U, U, U, U, U, U, U, U, U, U, U, U, U, U, U, U, U, U, U, U, U, U, U, U, U, U, U, U, U, U, U, U, U, U, U, U, U, U, U, U, U, U, U, U, U, U, U, U]
def laws_FnLastingTiles_g31_0 (S : SatT) (k : Kont) (p3_ : Pt) (s4_ : Sl) (i5_ : Int) (p8_ : Pt) (i9_ : Int) (b177_ : Bool) (h : H) : Prop :=
 k .normal (laws_FnLastingTiles_f31 false) h
theorem laws_FnLastingTiles_g31_0_link (S : SatT) (k : Kont) (m : List Nat) (p3_ : Pt) (s4_ : Sl) (i5_ : Int) (p8_ : Pt) (i9_ : Int) (b177_ : Bool) (h : H) : cwp S tab laws_FnLastingTiles_M m (sub [1, 1, 1, 1, 1, 1, 1, 1, 1, 1, 1, 1, 1, 1, 0, 1, 0, 1, 1, 1, 0, 0] (bodyOf Try.f3)) k (laws_FnLastingTiles_f30 p3_ s4_ i5_ p8_ i9_ b177_) h = laws_FnLastingTiles_g31_0 S k p3_ s4_ i5_ p8_ i9_ b177_ h := by kernel_rfl
theorem laws_FnLastingTiles_sp_1_1_1_1_1_1_1_1_1_1_1_1_1_1_0_1_0_1_1_1_1 : (sub [1, 1, 1, 1, 1, 1, 1, 1, 1, 1, 1, 1, 1, 1, 0, 1, 0, 1, 1, 1, 1] (bodyOf Try.f3)) = .skip := by kernel_rfl
theorem laws_FnLastingTiles_sp_1_1_1_1_1_1_1_1_1_1_1_1_1_1_1 : (sub [1, 1, 1, 1, 1, 1, 1, 1, 1, 1, 1, 1, 1, 1, 1] (bodyOf Try.f3)) = .seq (sub [1, 1, 1, 1, 1, 1, 1, 1, 1, 1, 1, 1, 1, 1, 1, 0] (bodyOf Try.f3)) (sub [1, 1, 1, 1, 1, 1, 1, 1, 1, 1, 1, 1, 1, 1, 1, 1] (bodyOf Try.f3)) := by kernel_rfl
theorem laws_FnLastingTiles_sp_1_1_1_1_1_1_1_1_1_1_1_1_1_1_1_0 : (sub [1, 1, 1, 1, 1, 1, 1, 1, 1, 1, 1, 1, 1, 1, 1, 0] (bodyOf Try.f3)) = .seq (sub [1, 1, 1, 1, 1, 1, 1, 1, 1, 1, 1, 1, 1, 1, 1, 0, 0] (bodyOf Try.f3)) (sub [1, 1, 1, 1, 1, 1, 1, 1, 1, 1, 1, 1, 1, 1, 1, 0, 1] (bodyOf Try.f3)) := by kernel_rfl
def laws_FnLastingTiles_ks39 (S : SatT) (K : AVal → H → Prop) : Kont := kSeq (cwp S tab laws_FnLastingTiles_M [] (sub [1, 1, 1, 1, 1, 1, 1, 1, 1, 1, 1, 1, 1, 1, 1, 1] (bodyOf Try.f3)) (kFun tab (Try.f3).results.toList K)) (kFun tab (Try.f3).results.toList K)
def laws_FnLastingTiles_ks40 (S : SatT) (K : AVal → H → Prop) : Kont := kSeq (cwp S tab laws_FnLastingTiles_M [] (sub [1, 1, 1, 1, 1, 1, 1, 1, 1, 1, 1, 1, 1, 1, 1, 0, 1] (bodyOf Try.f3)) (laws_FnLastingTiles_ks39 S K)) (laws_FnLastingTiles_ks39 S K)
def laws_FnLastingTiles_f32 (p3_ : Pt) (s4_ : Sl) (i5_ : Int) (p8_ : Pt) (i9_ : Int) (b179_ : Bool) : Frame := [U, U, U, .ptr p3_, .sl s4_, .int .i64 i5_, U, U, .ptr p8_, .int .i64 i9_, U, U, U, U, U, U, U, U, U, U, U, U, U, U, U, U, U, U, U, U, U, U, U, U, U, U, U, U, U, U, U, U, U, U, U, U, U, U, U, U, U, U, U, U, U, U, U, U, U, U, U, U, U, U, U, U, U, U, U, U, U, U, U, U, U, U, U, U, U, U, U, U, U, U, U, U, U, U, U, U, U, U, U, U, U, U, U, U, U, U, U, U, U, U, U, U, U, U, U, U, U, U, U, U, U, U, U, U, U, U, U, U, U, U, U, U, U, U, U, U, U, U, U, U, U, U, U, U, U, U, U, U, U, U, U, U, U, U, U, U, U, U, U, U, U, U, U, U, U, U, U, U, U, U, U, U, U, U, U, U, U, U, U, U, U, U, U, U, U, .bool b179_, U, U, U, U, U, U, U, U, U, U, U, U, U, U, U, U, U, U, U, U, U, U, U, U, U, U, U, U, U, U, U, U, U, U, U, U, U, U, U, U, U, U, U, U, U, U, U, U, U, U, U, U, U, U, U, U, U]
def laws_FnLastingTiles_g32_0 (S : SatT) (k : Kont) (p3_ : Pt) (s4_ : Sl) (i5_ : Int) (p8_ : Pt) (i9_ : Int) (b177_ : Bool) (h : H) : Prop :=
 k .normal (laws_FnLastingTiles_f32 p3_ s4_ i5_ p8_ i9_ (i5_ != (0))) h
theorem laws_FnLastingTiles_g32_0_link (S : SatT) (k : Kont) (m : List Nat) (p3_ : Pt) (s4_ : Sl) (i5_ : Int) (p8_ : Pt) (i9_ : Int) (b177_ : Bool) (h : H) : cwp S tab laws_FnLastingTiles_M m (sub [1, 1, 1, 1, 1, 1, 1, 1, 1, 1, 1, 1, 1, 1, 1, 0, 0] (bodyOf Try.f3)) k (laws_FnLastingTiles_f30 p3_ s4_ i5_ p8_ i9_ b177_) h = laws_FnLastingTiles_g32_0 S k p3_ s4_ i5_ p8_ i9_ b177_ h := by kernel_rfl
theorem laws_FnLastingTiles_sp_1_1_1_1_1_1_1_1_1_1_1_1_1_1_1_0_1 : (sub [1, 1, 1, 1, 1, 1, 1, 1, 1, 1, 1, 1, 1, 1, 1, 0, 1] (bodyOf Try.f3)) = .cond (.tmp 179) (sub [1, 1, 1, 1, 1, 1, 1, 1, 1, 1, 1, 1, 1, 1, 1, 0, 1, 0] (bodyOf Try.f3)) (sub [1, 1, 1, 1, 1, 1, 1, 1, 1, 1, 1, 1, 1, 1, 1, 0, 1, 1] (bodyOf Try.f3)) := by kernel_rfl
theorem laws_FnLastingTiles_sp_1_1_1_1_1_1_1_1_1_1_1_1_1_1_1_0_1_0 : (sub [1, 1, 1, 1, 1, 1, 1, 1, 1, 1, 1, 1, 1, 1, 1, 0, 1, 0] (bodyOf Try.f3)) = .seq (sub [1, 1, 1, 1, 1, 1, 1, 1, 1, 1, 1, 1, 1, 1, 1, 0, 1, 0, 0] (bodyOf Try.f3)) (sub [1, 1, 1, 1, 1, 1, 1, 1, 1, 1, 1, 1, 1, 1, 1, 0, 1, 0, 1] (bodyOf Try.f3)) := by kernel_rfl
def laws_FnLastingTiles_ks41 (S : SatT) (K : AVal → H → Prop) : Kont := kSeq (cwp S tab laws_FnLastingTiles_M [] (sub [1, 1, 1, 1, 1, 1, 1, 1, 1, 1, 1, 1, 1, 1, 1, 0, 1, 0, 1] (bodyOf Try.f3)) (laws_FnLastingTiles_ks39 S K)) (laws_FnLastingTiles_ks39 S K)
def laws_FnLastingTiles_f33 (b2_ : Bool) : Frame := [U, U, .bool b2_, U, U, U, U, U, U, U, U, U, U, U, U, U, U, U, U, U, U, U, U, U, U, U, U, U, U, U, U, U, U, U, U, U, U, U, U, U, U, U, U, U, U, U, U, U, U, U, U, U, U, U, U, U, U, U, U, U, U, U, U, U, U, U, U, U, U, U, U, U, U, U, U, U, U, U, U, U, U, U, U, U, U, U, U, U, U, U, U, U, U, U, U, U, U, U, U, U, U, U, U, U, U, U, U, U, U, U, U, U, U, U, U, U, U, U, U, U, U, U, U, U, U, U, U, U, U, U, U, U, U, U, U, U, U, U, U, U, U, U, U, U, U, U, U, U, U, U, U, U, U, U, U, U, U, U, U, U, U, U, U, U, U, U, U, U, U, U, U, U, U, U, U, U, U, U, U, U, U, U, U, U, U, U, U, U, U, U, U, U, U, U, U, U, U, U, U, U, U, U, U, U, U, U, U, U, U, U, U, U, U, U, U, U, U, U, U, U, U, U, U, U, U, U, U, U, U, U, U, U, U, U, U, U, U]
def laws_FnLastingTiles_g33_0 (S : SatT) (k : Kont) (p3_ : Pt) (s4_ : Sl) (i5_ : Int) (p8_ : Pt) (i9_ : Int) (b179_ : Bool) (h : H) : Prop :=
 bif ((s4_.len : Int) == (0)) then
 k .normal (laws_FnLastingTiles_f33 (i9_ == i5_)) h
 else
 k .normal (laws_FnLastingTiles_f33 false) h
theorem laws_FnLastingTiles_g33_0_link (S : SatT) (k : Kont) (m : List Nat) (p3_ : Pt) (s4_ : Sl) (i5_ : Int) (p8_ : Pt) (i9_ : Int) (b179_ : Bool) (h : H) : cwp S tab laws_FnLastingTiles_M m (sub [1, 1, 1, 1, 1, 1, 1, 1, 1, 1, 1, 1, 1, 1, 1, 0, 1, 0, 0] (bodyOf Try.f3)) k (laws_FnLastingTiles_f32 p3_ s4_ i5_ p8_ i9_ b179_) h = laws_FnLastingTiles_g33_0 S k p3_ s4_ i5_ p8_ i9_ b179_ h := by kernel_rfl
theorem laws_FnLastingTiles_sp_1_1_1_1_1_1_1_1_1_1_1_1_1_1_1_0_1_0_1 : (sub [1, 1, 1, 1, 1, 1, 1, 1, 1, 1, 1, 1, 1, 1, 1, 0, 1, 0, 1] (bodyOf Try.f3)) = .ret := by kernel_rfl
def laws_FnLastingTiles_r33 (S : SatT) (K : AVal → H → Prop) (b2_ : Bool) (h : H) : Prop :=
 K (.bool b2_) h
theorem laws_FnLastingTiles_cut33 (S : SatT) (K : AVal → H → Prop) (b2_ : Bool) (h : H) : (laws_FnLastingTiles_ks41 S K) .normal (laws_FnLastingTiles_f33 b2_) h = laws_FnLastingTiles_r33 S K b2_ h := by
  unfold laws_FnLastingTiles_r33
  refine (kSeq_n _ _ _ _).trans ?_
  refine (cwp_sp_ret laws_FnLastingTiles_sp_1_1_1_1_1_1_1_1_1_1_1_1_1_1_1_0_1_0_1).trans ?_
  refine (kSeq_r _ _ _ _).trans ?_
  kernel_rfl
theorem laws_FnLastingTiles_sp_1_1_1_1_1_1_1_1_1_1_1_1_1_1_1_0_1_1 : (sub [1, 1, 1, 1, 1, 1, 1, 1, 1, 1, 1, 1, 1, 1, 1, 0, 1, 1] (bodyOf Try.f3)) = .skip := by kernel_rfl
theorem laws_FnLastingTiles_sp_1_1_1_1_1_1_1_1_1_1_1_1_1_1_1_1 : (sub [1, 1, 1, 1, 1, 1, 1, 1, 1, 1, 1, 1, 1, 1, 1, 1] (bodyOf Try.f3)) = .seq (sub [1, 1, 1, 1, 1, 1, 1, 1, 1, 1, 1, 1, 1, 1, 1, 1, 0] (bodyOf Try.f3)) (sub [1, 1, 1, 1, 1, 1, 1, 1, 1, 1, 1, 1, 1, 1, 1, 1, 1] (bodyOf Try.f3)) := by kernel_rfl
theorem laws_FnLastingTiles_sp_1_1_1_1_1_1_1_1_1_1_1_1_1_1_1_1_0 : (sub [1, 1, 1, 1, 1, 1, 1, 1, 1, 1, 1, 1, 1, 1, 1, 1, 0] (bodyOf Try.f3)) = .seq (sub [1, 1, 1, 1, 1, 1, 1, 1, 1, 1, 1, 1, 1, 1, 1, 1, 0, 0] (bodyOf Try.f3)) (sub [1, 1, 1, 1, 1, 1, 1, 1, 1, 1, 1, 1, 1, 1, 1, 1, 0, 1] (bodyOf Try.f3)) := by kernel_rfl
def laws_FnLastingTiles_ks42 (S : SatT) (K : AVal → H → Prop) : Kont := kSeq (cwp S tab laws_FnLastingTiles_M [] (sub [1, 1, 1, 1, 1, 1, 1, 1, 1, 1, 1, 1, 1, 1, 1, 1, 1] (bodyOf Try.f3)) (kFun tab (Try.f3).results.toList K)) (kFun tab (Try.f3).results.toList K)
def laws_FnLastingTiles_ks43 (S : SatT) (K : AVal → H → Prop) : Kont := kSeq (cwp S tab laws_FnLastingTiles_M [] (sub [1, 1, 1, 1, 1, 1, 1, 1, 1, 1, 1, 1, 1, 1, 1, 1, 0, 1] (bodyOf Try.f3)) (laws_FnLastingTiles_ks42 S K)) (laws_FnLastingTiles_ks42 S K)
def laws_FnLastingTiles_f34 (p3_ : Pt) (s4_ : Sl) (p8_ : Pt) (b197_ : Bool) : Frame := [U, U, U, .ptr p3_, .sl s4_, U, U, U, .ptr p8_, U, U, U, U, U, U, U, U, U, U, U, U, U, U, U, U, U, U, U, U, U, U, U, U, U, U, U, U, U, U, U, U, U, U, U, U, U, U, U, U, U, U, U, U, U, U, U, U, U, U, U, U, U, U, U, U, U, U, U, U, U, U, U, U, U, U, U, U, U, U, U, U, U, U, U, U, U, U, U, U, U, U, U, U, U, U, U, U, U, U, U, U, U, U, U, U, U, U, U, U, U, U, U, U, U, U, U, U, U, U, U, U, U, U, U, U, U, U, U, U, U, U, U, U, U, U, U, U, U, U, U, U, U, U, U, U, U, U, U, U, U, U, U, U, U, U, U, U, U, U, U, U, U, U, U, U, U, U, U, U, U, U, U, U, U, U, U, U, U, U, U, U, U, U, U, U, U, U, U, U, U, U, U, U, U, U, U, U, .bool b197_, U, U, U, U, U, U, U, U, U, U, U, U, U, U, U, U, U, U, U, U, U, U, U, U, U, U, U, U, U, U, U, U, U, U, U, U, U, U, U]
def laws_FnLastingTiles_g34_0 (S : SatT) (k : Kont) (p3_ : Pt) (s4_ : Sl) (i5_ : Int) (p8_ : Pt) (i9_ : Int) (b179_ : Bool) (h : H) : Prop :=
 bif (i9_ != (0)) then
 k .normal (laws_FnLastingTiles_f34 p3_ s4_ p8_ true) h
 else
 isPt p8_ (
 ldS (Pt.add p8_ 1) h fun s0 =>
 k .normal (laws_FnLastingTiles_f34 p3_ s4_ p8_ ((s0.len : Int) != (s4_.len : Int))) h)
theorem laws_FnLastingTiles_g34_0_link (S : SatT) (k : Kont) (m : List Nat) (p3_ : Pt) (s4_ : Sl) (i5_ : Int) (p8_ : Pt) (i9_ : Int) (b179_ : Bool) (h : H) : cwp S tab laws_FnLastingTiles_M m (sub [1, 1, 1, 1, 1, 1, 1, 1, 1, 1, 1, 1, 1, 1, 1, 1, 0, 0] (bodyOf Try.f3)) k (laws_FnLastingTiles_f32 p3_ s4_ i5_ p8_ i9_ b179_) h = laws_FnLastingTiles_g34_0 S k p3_ s4_ i5_ p8_ i9_ b179_ h := by kernel_rfl
theorem laws_FnLastingTiles_sp_1_1_1_1_1_1_1_1_1_1_1_1_1_1_1_1_0_1 : (sub [1, 1, 1, 1, 1, 1, 1, 1, 1, 1, 1, 1, 1, 1, 1, 1, 0, 1] (bodyOf Try.f3)) = .cond (.tmp 197) (sub [1, 1, 1, 1, 1, 1, 1, 1, 1, 1, 1, 1, 1, 1, 1, 1, 0, 1, 0] (bodyOf Try.f3)) (sub [1, 1, 1, 1, 1, 1, 1, 1, 1, 1, 1, 1, 1, 1, 1, 1, 0, 1, 1] (bodyOf Try.f3)) := by kernel_rfl
theorem laws_FnLastingTiles_sp_1_1_1_1_1_1_1_1_1_1_1_1_1_1_1_1_0_1_0 : (sub [1, 1, 1, 1, 1, 1, 1, 1, 1, 1, 1, 1, 1, 1, 1, 1, 0, 1, 0] (bodyOf Try.f3)) = .seq (sub [1, 1, 1, 1, 1, 1, 1, 1, 1, 1, 1, 1, 1, 1, 1, 1, 0, 1, 0, 0] (bodyOf Try.f3)) (sub [1, 1, 1, 1, 1, 1, 1, 1, 1, 1, 1, 1, 1, 1, 1, 1, 0, 1, 0, 1] (bodyOf Try.f3)) := by kernel_rfl
def laws_FnLastingTiles_ks44 (S : SatT) (K : AVal → H → Prop) : Kont := kSeq (cwp S tab laws_FnLastingTiles_M [] (sub [1, 1, 1, 1, 1, 1, 1, 1, 1, 1, 1, 1, 1, 1, 1, 1, 0, 1, 0, 1] (bodyOf Try.f3)) (laws_FnLastingTiles_ks42 S K)) (laws_FnLastingTiles_ks42 S K)
def laws_FnLastingTiles_f35 (b2_ : Bool) : Frame := [U, U, .bool b2_, U, U, U, U, U, U, U, U, U, U, U, U, U, U, U, U, U, U, U, U, U, U, U, U, U, U, U, U, U, U, U, U, U, U, U, U, U, U, U, U, U, U, U, U, U, U, U, U, U, U, U, U, U, U, U, U, U, U, U, U, U, U, U, U, U, U, U, U, U, U, U, U, U, U, U, U, U, U, U, U, U, U, U, U, U, U, U, U, U, U, U, U, U, U, U, U, U, U, U, U, U, U, U, U, U, U, U, U, U, U, U, U, U, U, U, U, U, U, U, U, U, U, U, U, U, U, U, U, U, U, U, U, U, U, U, U, U, U, U, U, U, U, U, U, U, U, U, U, U, U, U, U, U, U, U, U, U, U, U, U, U, U, U, U, U, U, U, U, U, U, U, U, U, U, U, U, U, U, U, U, U, U, U, U, U, U, U, U, U, U, U, U, U, U, U, U, U, U, U, U, U, U, U, U, U, U, U, U, U, U, U, U, U, U, U, U, U, U, U, U, U, U, U, U, U, U, U, U, U, U, U, U, U, U]
def laws_FnLastingTiles_g35_0 (S : SatT) (k : Kont) (p3_ : Pt) (s4_ : Sl) (p8_ : Pt) (b197_ : Bool) (h : H) : Prop :=
 k .normal (laws_FnLastingTiles_f35 false) h
theorem laws_FnLastingTiles_g35_0_link (S : SatT) (k : Kont) (m : List Nat) (p3_ : Pt) (s4_ : Sl) (p8_ : Pt) (b197_ : Bool) (h : H) : cwp S tab laws_FnLastingTiles_M m (sub [1, 1, 1, 1, 1, 1, 1, 1, 1, 1, 1, 1, 1, 1, 1, 1, 0, 1, 0, 0] (bodyOf Try.f3)) k (laws_FnLastingTiles_f34 p3_ s4_ p8_ b197_) h = laws_FnLastingTiles_g35_0 S k p3_ s4_ p8_ b197_ h := by kernel_rfl
theorem laws_FnLastingTiles_sp_1_1_1_1_1_1_1_1_1_1_1_1_1_1_1_1_0_1_1 : (sub [1, 1, 1, 1, 1, 1, 1, 1, 1, 1, 1, 1, 1, 1, 1, 1, 0, 1, 1] (bodyOf Try.f3)) = .skip := by kernel_rfl
theorem laws_FnLastingTiles_sp_1_1_1_1_1_1_1_1_1_1_1_1_1_1_1_1_1 : (sub [1, 1, 1, 1, 1, 1, 1, 1, 1, 1, 1, 1, 1, 1, 1, 1, 1] (bodyOf Try.f3)) = .seq (sub [1, 1, 1, 1, 1, 1, 1, 1, 1, 1, 1, 1, 1, 1, 1, 1, 1, 0] (bodyOf Try.f3)) (sub [1, 1, 1, 1, 1, 1, 1, 1, 1, 1, 1, 1, 1, 1, 1, 1, 1, 1] (bodyOf Try.f3)) := by kernel_rfl
theorem laws_FnLastingTiles_sp_1_1_1_1_1_1_1_1_1_1_1_1_1_1_1_1_1_0 : (sub [1, 1, 1, 1, 1, 1, 1, 1, 1, 1, 1, 1, 1, 1, 1, 1, 1, 0] (bodyOf Try.f3)) = .seq (sub [1, 1, 1, 1, 1, 1, 1, 1, 1, 1, 1, 1, 1, 1, 1, 1, 1, 0, 0] (bodyOf Try.f3)) (sub [1, 1, 1, 1, 1, 1, 1, 1, 1, 1, 1, 1, 1, 1, 1, 1, 1, 0, 1] (bodyOf Try.f3)) := by kernel_rfl
def laws_FnLastingTiles_ks45 (S : SatT) (K : AVal → H → Prop) : Kont := kSeq (cwp S tab laws_FnLastingTiles_M [] (sub [1, 1, 1, 1, 1, 1, 1, 1, 1, 1, 1, 1, 1, 1, 1, 1, 1, 1] (bodyOf Try.f3)) (kFun tab (Try.f3).results.toList K)) (kFun tab (Try.f3).results.toList K)
def laws_FnLastingTiles_ks46 (S : SatT) (K : AVal → H → Prop) : Kont := kSeq (cwp S tab laws_FnLastingTiles_M [] (sub [1, 1, 1, 1, 1, 1, 1, 1, 1, 1, 1, 1, 1, 1, 1, 1, 1, 0, 1] (bodyOf Try.f3)) (laws_FnLastingTiles_ks45 S K)) (laws_FnLastingTiles_ks45 S K)
def laws_FnLastingTiles_f36 (p3_ : Pt) (s4_ : Sl) (p8_ : Pt) (i31_ : Int) : Frame := [U, U, U, .ptr p3_, .sl s4_, U, U, U, .ptr p8_, U, U, U, U, U, U, U, U, U, U, U, U, U, U, U, U, U, U, U, U, U, U, .int .i64 i31_, U, U, U, U, U, U, U, U, U, U, U, U, U, U, U, U, U, U, U, U, U, U, U, U, U, U, U, U, U, U, U, U, U, U, U, U, U, U, U, U, U, U, U, U, U, U, U, U, U, U, U, U, U, U, U, U, U, U, U, U, U, U, U, U, U, U, U, U, U, U, U, U, U, U, U, U, U, U, U, U, U, U, U, U, U, U, U, U, U, U, U, U, U, U, U, U, U, U, U, U, U, U, U, U, U, U, U, U, U, U, U, U, U, U, U, U, U, U, U, U, U, U, U, U, U, U, U, U, U, U, U, U, U, U, U, U, U, U, U, U, U, U, U, U, U, U, U, U, U, U, U, U, U, U, U, U, U, U, U, U, U, U, U, U, U, U, U, U, U, U, U, U, U, U, U, U, U, U, U, U, U, U, U, U, U, U, U, U, U, U, U, U, U, U, U, U, U, U, U, U, U, U, U, U, U]
def laws_FnLastingTiles_g36_0 (S : SatT) (k : Kont) (p3_ : Pt) (s4_ : Sl) (p8_ : Pt) (b197_ : Bool) (h : H) : Prop :=
 k .normal (laws_FnLastingTiles_f36 p3_ s4_ p8_ (0)) h
theorem laws_FnLastingTiles_g36_0_link (S : SatT) (k : Kont) (m : List Nat) (p3_ : Pt) (s4_ : Sl) (p8_ : Pt) (b197_ : Bool) (h : H) : cwp S tab laws_FnLastingTiles_M m (sub [1, 1, 1, 1, 1, 1, 1, 1, 1, 1, 1, 1, 1, 1, 1, 1, 1, 0, 0] (bodyOf Try.f3)) k (laws_FnLastingTiles_f34 p3_ s4_ p8_ b197_) h = laws_FnLastingTiles_g36_0 S k p3_ s4_ p8_ b197_ h := by kernel_rfl
theorem laws_FnLastingTiles_sp_1_1_1_1_1_1_1_1_1_1_1_1_1_1_1_1_1_0_1 : (sub [1, 1, 1, 1, 1, 1, 1, 1, 1, 1, 1, 1, 1, 1, 1, 1, 1, 0, 1] (bodyOf Try.f3)) = .block 0 (sub [1, 1, 1, 1, 1, 1, 1, 1, 1, 1, 1, 1, 1, 1, 1, 1, 1, 0, 1, 0] (bodyOf Try.f3)) := by kernel_rfl
theorem laws_FnLastingTiles_sp_1_1_1_1_1_1_1_1_1_1_1_1_1_1_1_1_1_0_1_0 : (sub [1, 1, 1, 1, 1, 1, 1, 1, 1, 1, 1, 1, 1, 1, 1, 1, 1, 0, 1, 0] (bodyOf Try.f3)) = .loop (sub [1, 1, 1, 1, 1, 1, 1, 1, 1, 1, 1, 1, 1, 1, 1, 1, 1, 0, 1, 0, 0] (bodyOf Try.f3)) := by kernel_rfl
def laws_FnLastingTiles_e0 (p3_ : Pt) (s4_ : Sl) (p8_ : Pt) (i31_ : Int) : Frame := [U, U, U, .ptr p3_, .sl s4_, U, U, U, .ptr p8_, U, U, U, U, U, U, U, U, U, U, U, U, U, U, U, U, U, U, U, U, U, U, .int .i64 i31_, U, U, U, U, U, U, U, U, U, U, U, U, U, U, U, U, U, U, U, U, U, U, U, U, U, U, U, U, U, U, U, U, U, U, U, U, U, U, U, U, U, U, U, U, U, U, U, U, U, U, U, U, U, U, U, U, U, U, U, U, U, U, U, U, U, U, U, U, U, U, U, U, U, U, U, U, U, U, U, U, U, U, U, U, U, U, U, U, U, U, U, U, U, U, U, U, U, U, U, U, U, U, U, U, U, U, U, U, U, U, U, U, U, U, U, U, U, U, U, U, U, U, U, U, U, U, U, U, U, U, U, U, U, U, U, U, U, U, U, U, U, U, U, U, U, U, U, U, U, U, U, U, U, U, U, U, U, U, U, U, U, U, U, U, U, U, U, U, U, U, U, U, U, U, U, U, U, U, U, U, U, U, U, U, U, U, U, U, U, U, U, U, U, U, U, U, U, U, U, U, U, U, U, U, U]
def laws_FnLastingTiles_w0 (S : SatT) (K : AVal → H → Prop) : (Frame → H → Prop) → Frame → H → Prop := fun X fr h => cwp S tab laws_FnLastingTiles_M (laws_FnLastingTiles_M 0) (sub [1, 1, 1, 1, 1, 1, 1, 1, 1, 1, 1, 1, 1, 1, 1, 1, 1, 0, 1, 0, 0] (bodyOf Try.f3)) (kSeq (fun fr h => X (mask (laws_FnLastingTiles_M 0) fr) h) (kBlk 0 (laws_FnLastingTiles_ks45 S K))) fr h
def laws_FnLastingTiles_L0 (S : SatT) (K : AVal → H → Prop) (p3_ : Pt) (s4_ : Sl) (p8_ : Pt) (i31_ : Int) (h : H) : Prop := loopK (laws_FnLastingTiles_w0 S K) (laws_FnLastingTiles_e0 p3_ s4_ p8_ i31_) h
def laws_FnLastingTiles_b0 (S : SatT) (K : AVal → H → Prop) (X0 : Frame → H → Prop) (p3_ : Pt) (s4_ : Sl) (p8_ : Pt) (i31_ : Int) (h : H) : Prop :=
 bif (decide (i31_ < (s4_.len : Int))) then
 isPt p8_ (
 ldS (Pt.add p8_ 1) h fun s0 =>
 ixS s0 4 i31_ fun p1 =>
 ldA p1 4 h fun cs2 =>
 isPt p3_ (
 ldS (Pt.add p3_ 1) h fun s3 =>
 ixS s4_ 1 i31_ fun p4 =>
 ldI .i64 p4 h fun n5 =>
 ixS s3 4 n5 fun p6 =>
 ldA p6 4 h fun cs7 =>
 eqA .i64 4 cs2 cs7 fun b8 =>
 bif (!b8) then
 K (.bool false) h
 else
 X0 (laws_FnLastingTiles_e0 p3_ s4_ p8_ (w64 (i31_ + (1)))) h))
 else
 ldA p3_ 2 h fun cs9 =>
 callV S i_impl_CountRows [.agg cs9, .int .i64 (17)] h fun v11 h10 =>
 viaT v11 fun vs12 =>
 exI .i64 vs12 0 fun n13 =>
 viaT v11 fun vs14 =>
 exI .i64 vs14 1 fun n15 =>
 bif (n15 == (3)) then
 K (.bool true) h10
 else
 bif (n15 == (0)) then
 K (.bool ((decide (n13 > (0))) == (decide ((s4_.len : Int) > (0))))) h10
 else
 K (.bool false) h10
theorem laws_FnLastingTiles_link0 (S : SatT) (K : AVal → H → Prop) (X0 : Frame → H → Prop) (p3_ : Pt) (s4_ : Sl) (p8_ : Pt) (i31_ : Int) (h : H) : laws_FnLastingTiles_w0 S K X0 (laws_FnLastingTiles_e0 p3_ s4_ p8_ i31_) h = laws_FnLastingTiles_b0 S K X0 p3_ s4_ p8_ i31_ h := by kernel_rfl
theorem laws_FnLastingTiles_rule0 (S : SatT) (K : AVal → H → Prop) (p3_ : Pt) (s4_ : Sl) (p8_ : Pt) (I_ : Int → H → Prop) (m_ : Int → H → Nat)
    (hs : ∀ (X0 : Frame → H → Prop) (i31_ : Int) (h : H), I_ i31_ h → (∀ (i31_' : Int) (h' : H), I_ i31_' h' → m_ i31_' h' < m_ i31_ h → X0 (laws_FnLastingTiles_e0 p3_ s4_ p8_ i31_') h') → laws_FnLastingTiles_b0 S K X0 p3_ s4_ p8_ i31_ h) (i31_ : Int) {h : H} (h0 : I_ i31_ h) : laws_FnLastingTiles_L0 S K p3_ s4_ p8_ i31_ h :=
  loop_rule (σ := (Int)) (fun s_ => laws_FnLastingTiles_e0 p3_ s4_ p8_ (s_)) (fun s_ h => I_ (s_) h) (fun s_ h => m_ (s_) h)
    (fun X s_ h hi hx => (laws_FnLastingTiles_link0 S K X p3_ s4_ p8_ (s_) h).mpr (hs X (s_) h hi fun i31_' h' hi' hm' => hx (i31_') h' hi' hm')) (i31_) h0
def laws_FnLastingTiles_r36 (S : SatT) (K : AVal → H → Prop) (p3_ : Pt) (s4_ : Sl) (p8_ : Pt) (i31_ : Int) (h : H) : Prop :=
 laws_FnLastingTiles_L0 S K p3_ s4_ p8_ i31_ h
theorem laws_FnLastingTiles_cut36 (S : SatT) (K : AVal → H → Prop) (p3_ : Pt) (s4_ : Sl) (p8_ : Pt) (i31_ : Int) (h : H) : (laws_FnLastingTiles_ks46 S K) .normal (laws_FnLastingTiles_f36 p3_ s4_ p8_ i31_) h = laws_FnLastingTiles_r36 S K p3_ s4_ p8_ i31_ h := by
  unfold laws_FnLastingTiles_r36
  refine (kSeq_n _ _ _ _).trans ?_
  refine (cwp_sp_block laws_FnLastingTiles_sp_1_1_1_1_1_1_1_1_1_1_1_1_1_1_1_1_1_0_1).trans ?_
  refine (cwp_sp_loop laws_FnLastingTiles_sp_1_1_1_1_1_1_1_1_1_1_1_1_1_1_1_1_1_0_1_0).trans ?_
  kernel_rfl
def laws_FnLastingTiles_r34 (S : SatT) (K : AVal → H → Prop) (p3_ : Pt) (s4_ : Sl) (p8_ : Pt) (b197_ : Bool) (h : H) : Prop :=
 bif b197_ then
 laws_FnLastingTiles_g35_0 S (laws_FnLastingTiles_ks44 S K) p3_ s4_ p8_ b197_ h
 else
 laws_FnLastingTiles_g36_0 S (laws_FnLastingTiles_ks46 S K) p3_ s4_ p8_ b197_ h
theorem laws_FnLastingTiles_cut34 (S : SatT) (K : AVal → H → Prop) (p3_ : Pt) (s4_ : Sl) (p8_ : Pt) (b197_ : Bool) (h : H) : (laws_FnLastingTiles_ks43 S K) .normal (laws_FnLastingTiles_f34 p3_ s4_ p8_ b197_) h = laws_FnLastingTiles_r34 S K p3_ s4_ p8_ b197_ h := by
  unfold laws_FnLastingTiles_r34
  refine (kSeq_n _ _ _ _).trans ?_
  refine (cwp_sp_cond laws_FnLastingTiles_sp_1_1_1_1_1_1_1_1_1_1_1_1_1_1_1_1_0_1 (t := b197_) rfl).trans (bif_cong ?_ ?_)
  · refine (cwp_sp_seq laws_FnLastingTiles_sp_1_1_1_1_1_1_1_1_1_1_1_1_1_1_1_1_0_1_0).trans ?_
    exact laws_FnLastingTiles_g35_0_link S _ _ p3_ s4_ p8_ b197_ h
  · refine (cwp_sp_skip laws_FnLastingTiles_sp_1_1_1_1_1_1_1_1_1_1_1_1_1_1_1_1_0_1_1).trans ?_
    refine (kSeq_n _ _ _ _).trans ?_
    refine (cwp_sp_seq laws_FnLastingTiles_sp_1_1_1_1_1_1_1_1_1_1_1_1_1_1_1_1_1).trans ?_
    refine (cwp_sp_seq laws_FnLastingTiles_sp_1_1_1_1_1_1_1_1_1_1_1_1_1_1_1_1_1_0).trans ?_
    exact laws_FnLastingTiles_g36_0_link S _ _ p3_ s4_ p8_ b197_ h
def laws_FnLastingTiles_r32 (S : SatT) (K : AVal → H → Prop) (p3_ : Pt) (s4_ : Sl) (i5_ : Int) (p8_ : Pt) (i9_ : Int) (b179_ : Bool) (h : H) : Prop :=
 bif b179_ then
 laws_FnLastingTiles_g33_0 S (laws_FnLastingTiles_ks41 S K) p3_ s4_ i5_ p8_ i9_ b179_ h
 else
 laws_FnLastingTiles_g34_0 S (laws_FnLastingTiles_ks43 S K) p3_ s4_ i5_ p8_ i9_ b179_ h
theorem laws_FnLastingTiles_cut32 (S : SatT) (K : AVal → H → Prop) (p3_ : Pt) (s4_ : Sl) (i5_ : Int) (p8_ : Pt) (i9_ : Int) (b179_ : Bool) (h : H) : (laws_FnLastingTiles_ks40 S K) .normal (laws_FnLastingTiles_f32 p3_ s4_ i5_ p8_ i9_ b179_) h = laws_FnLastingTiles_r32 S K p3_ s4_ i5_ p8_ i9_ b179_ h := by
  unfold laws_FnLastingTiles_r32
  refine (kSeq_n _ _ _ _).trans ?_
  refine (cwp_sp_cond laws_FnLastingTiles_sp_1_1_1_1_1_1_1_1_1_1_1_1_1_1_1_0_1 (t := b179_) rfl).trans (bif_cong ?_ ?_)
  · refine (cwp_sp_seq laws_FnLastingTiles_sp_1_1_1_1_1_1_1_1_1_1_1_1_1_1_1_0_1_0).trans ?_
    exact laws_FnLastingTiles_g33_0_link S _ _ p3_ s4_ i5_ p8_ i9_ b179_ h
  · refine (cwp_sp_skip laws_FnLastingTiles_sp_1_1_1_1_1_1_1_1_1_1_1_1_1_1_1_0_1_1).trans ?_
    refine (kSeq_n _ _ _ _).trans ?_
    refine (cwp_sp_seq laws_FnLastingTiles_sp_1_1_1_1_1_1_1_1_1_1_1_1_1_1_1_1).trans ?_
    refine (cwp_sp_seq laws_FnLastingTiles_sp_1_1_1_1_1_1_1_1_1_1_1_1_1_1_1_1_0).trans ?_
    exact laws_FnLastingTiles_g34_0_link S _ _ p3_ s4_ i5_ p8_ i9_ b179_ h
def laws_FnLastingTiles_r30 (S : SatT) (K : AVal → H → Prop) (p3_ : Pt) (s4_ : Sl) (i5_ : Int) (p8_ : Pt) (i9_ : Int) (b177_ : Bool) (h : H) : Prop :=
 bif b177_ then
 laws_FnLastingTiles_g31_0 S (laws_FnLastingTiles_ks38 S K) p3_ s4_ i5_ p8_ i9_ b177_ h
 else
 laws_FnLastingTiles_g32_0 S (laws_FnLastingTiles_ks40 S K) p3_ s4_ i5_ p8_ i9_ b177_ h
theorem laws_FnLastingTiles_cut30 (S : SatT) (K : AVal → H → Prop) (p3_ : Pt) (s4_ : Sl) (i5_ : Int) (p8_ : Pt) (i9_ : Int) (b177_ : Bool) (h : H) : (laws_FnLastingTiles_ks37 S K) .normal (laws_FnLastingTiles_f30 p3_ s4_ i5_ p8_ i9_ b177_) h = laws_FnLastingTiles_r30 S K p3_ s4_ i5_ p8_ i9_ b177_ h := by
  unfold laws_FnLastingTiles_r30
  refine (kSeq_n _ _ _ _).trans ?_
  refine (cwp_sp_cond laws_FnLastingTiles_sp_1_1_1_1_1_1_1_1_1_1_1_1_1_1_0_1_0_1_1_1 (t := b177_) rfl).trans (bif_cong ?_ ?_)
  · refine (cwp_sp_seq laws_FnLastingTiles_sp_1_1_1_1_1_1_1_1_1_1_1_1_1_1_0_1_0_1_1_1_0).trans ?_
    exact laws_FnLastingTiles_g31_0_link S _ _ p3_ s4_ i5_ p8_ i9_ b177_ h
  · refine (cwp_sp_skip laws_FnLastingTiles_sp_1_1_1_1_1_1_1_1_1_1_1_1_1_1_0_1_0_1_1_1_1).trans ?_
    refine (kSeq_n _ _ _ _).trans ?_
    refine (cwp_sp_seq laws_FnLastingTiles_sp_1_1_1_1_1_1_1_1_1_1_1_1_1_1_1).trans ?_
    refine (cwp_sp_seq laws_FnLastingTiles_sp_1_1_1_1_1_1_1_1_1_1_1_1_1_1_1_0).trans ?_
    exact laws_FnLastingTiles_g32_0_link S _ _ p3_ s4_ i5_ p8_ i9_ b177_ h
def laws_FnLastingTiles_r29 (S : SatT) (K : AVal → H → Prop) (p3_ : Pt) (s4_ : Sl) (i5_ : Int) (p8_ : Pt) (i9_ : Int) (p13_ : Pt) (p27_ : Pt) (i28_ : Int) (p29_ : Pt) (i30_ : Int) (h : H) : Prop :=
 laws_FnLastingTiles_g30_0 S (laws_FnLastingTiles_ks37 S K) p3_ s4_ i5_ p8_ i9_ p13_ p27_ i28_ p29_ i30_ h
theorem laws_FnLastingTiles_cut29 (S : SatT) (K : AVal → H → Prop) (p3_ : Pt) (s4_ : Sl) (i5_ : Int) (p8_ : Pt) (i9_ : Int) (p13_ : Pt) (p27_ : Pt) (i28_ : Int) (p29_ : Pt) (i30_ : Int) (h : H) : (laws_FnLastingTiles_ks36 S K) .normal (laws_FnLastingTiles_f29 p3_ s4_ i5_ p8_ i9_ p13_ p27_ i28_ p29_ i30_) h = laws_FnLastingTiles_r29 S K p3_ s4_ i5_ p8_ i9_ p13_ p27_ i28_ p29_ i30_ h := by
  unfold laws_FnLastingTiles_r29
  refine (kSeq_n _ _ _ _).trans ?_
  refine (cwp_sp_seq laws_FnLastingTiles_sp_1_1_1_1_1_1_1_1_1_1_1_1_1_1_0_1_0_1_1).trans ?_
  exact laws_FnLastingTiles_g30_0_link S _ _ p3_ s4_ i5_ p8_ i9_ p13_ p27_ i28_ p29_ i30_ h
def laws_FnLastingTiles_r28 (S : SatT) (K : AVal → H → Prop) (p3_ : Pt) (s4_ : Sl) (i5_ : Int) (p8_ : Pt) (i9_ : Int) (p13_ : Pt) (p27_ : Pt) (i28_ : Int) (h : H) : Prop :=
 laws_FnLastingTiles_g29_0 S (laws_FnLastingTiles_ks36 S K) p3_ s4_ i5_ p8_ i9_ p13_ p27_ i28_ h
theorem laws_FnLastingTiles_cut28 (S : SatT) (K : AVal → H → Prop) (p3_ : Pt) (s4_ : Sl) (i5_ : Int) (p8_ : Pt) (i9_ : Int) (p13_ : Pt) (p27_ : Pt) (i28_ : Int) (h : H) : (laws_FnLastingTiles_ks35 S K) .normal (laws_FnLastingTiles_f28 p3_ s4_ i5_ p8_ i9_ p13_ p27_ i28_) h = laws_FnLastingTiles_r28 S K p3_ s4_ i5_ p8_ i9_ p13_ p27_ i28_ h := by
  unfold laws_FnLastingTiles_r28
  refine (kSeq_n _ _ _ _).trans ?_
  refine (cwp_sp_seq laws_FnLastingTiles_sp_1_1_1_1_1_1_1_1_1_1_1_1_1_1_0_1_0_1).trans ?_
  exact laws_FnLastingTiles_g29_0_link S _ _ p3_ s4_ i5_ p8_ i9_ p13_ p27_ i28_ h
theorem laws_FnLastingTiles_sp_1_1_1_1_1_1_1_1_1_1_1_1_1_1_0_1_1 : (sub [1, 1, 1, 1, 1, 1, 1, 1, 1, 1, 1, 1, 1, 1, 0, 1, 1] (bodyOf Try.f3)) = .skip := by kernel_rfl
def laws_FnLastingTiles_ks54 (S : SatT) (K : AVal → H → Prop) : Kont := kSeq (cwp S tab laws_FnLastingTiles_M [] (sub [1, 1, 1, 1, 1, 1, 1, 1, 1, 1, 1, 1, 1, 1, 1, 1] (bodyOf Try.f3)) (kFun tab (Try.f3).results.toList K)) (kFun tab (Try.f3).results.toList K)
def laws_FnLastingTiles_ks55 (S : SatT) (K : AVal → H → Prop) : Kont := kSeq (cwp S tab laws_FnLastingTiles_M [] (sub [1, 1, 1, 1, 1, 1, 1, 1, 1, 1, 1, 1, 1, 1, 1, 0, 1] (bodyOf Try.f3)) (laws_FnLastingTiles_ks54 S K)) (laws_FnLastingTiles_ks54 S K)
def laws_FnLastingTiles_g32_1 (S : SatT) (k : Kont) (p3_ : Pt) (s4_ : Sl) (i5_ : Int) (p8_ : Pt) (i9_ : Int) (p13_ : Pt) (b149_ : Bool) (h : H) : Prop :=
 k .normal (laws_FnLastingTiles_f32 p3_ s4_ i5_ p8_ i9_ (i5_ != (0))) h
theorem laws_FnLastingTiles_g32_1_link (S : SatT) (k : Kont) (m : List Nat) (p3_ : Pt) (s4_ : Sl) (i5_ : Int) (p8_ : Pt) (i9_ : Int) (p13_ : Pt) (b149_ : Bool) (h : H) : cwp S tab laws_FnLastingTiles_M m (sub [1, 1, 1, 1, 1, 1, 1, 1, 1, 1, 1, 1, 1, 1, 1, 0, 0] (bodyOf Try.f3)) k (laws_FnLastingTiles_f27 p3_ s4_ i5_ p8_ i9_ p13_ b149_) h = laws_FnLastingTiles_g32_1 S k p3_ s4_ i5_ p8_ i9_ p13_ b149_ h := by kernel_rfl
def laws_FnLastingTiles_r27 (S : SatT) (K : AVal → H → Prop) (p3_ : Pt) (s4_ : Sl) (i5_ : Int) (p8_ : Pt) (i9_ : Int) (p13_ : Pt) (b149_ : Bool) (h : H) : Prop :=
 bif b149_ then
 laws_FnLastingTiles_g28_0 S (laws_FnLastingTiles_ks35 S K) p3_ s4_ i5_ p8_ i9_ p13_ b149_ h
 else
 laws_FnLastingTiles_g32_1 S (laws_FnLastingTiles_ks55 S K) p3_ s4_ i5_ p8_ i9_ p13_ b149_ h
theorem laws_FnLastingTiles_cut27 (S : SatT) (K : AVal → H → Prop) (p3_ : Pt) (s4_ : Sl) (i5_ : Int) (p8_ : Pt) (i9_ : Int) (p13_ : Pt) (b149_ : Bool) (h : H) : (laws_FnLastingTiles_ks34 S K) .normal (laws_FnLastingTiles_f27 p3_ s4_ i5_ p8_ i9_ p13_ b149_) h = laws_FnLastingTiles_r27 S K p3_ s4_ i5_ p8_ i9_ p13_ b149_ h := by
  unfold laws_FnLastingTiles_r27
  refine (kSeq_n _ _ _ _).trans ?_
  refine (cwp_sp_cond laws_FnLastingTiles_sp_1_1_1_1_1_1_1_1_1_1_1_1_1_1_0_1 (t := b149_) rfl).trans (bif_cong ?_ ?_)
  · refine (cwp_sp_seq laws_FnLastingTiles_sp_1_1_1_1_1_1_1_1_1_1_1_1_1_1_0_1_0).trans ?_
    exact laws_FnLastingTiles_g28_0_link S _ _ p3_ s4_ i5_ p8_ i9_ p13_ b149_ h
  · refine (cwp_sp_skip laws_FnLastingTiles_sp_1_1_1_1_1_1_1_1_1_1_1_1_1_1_0_1_1).trans ?_
    refine (kSeq_n _ _ _ _).trans ?_
    refine (cwp_sp_seq laws_FnLastingTiles_sp_1_1_1_1_1_1_1_1_1_1_1_1_1_1_1).trans ?_
    refine (cwp_sp_seq laws_FnLastingTiles_sp_1_1_1_1_1_1_1_1_1_1_1_1_1_1_1_0).trans ?_
    exact laws_FnLastingTiles_g32_1_link S _ _ p3_ s4_ i5_ p8_ i9_ p13_ b149_ h
def laws_FnLastingTiles_r25 (S : SatT) (K : AVal → H → Prop) (p3_ : Pt) (s4_ : Sl) (i5_ : Int) (p8_ : Pt) (i9_ : Int) (p13_ : Pt) (i14_ : Int) (b147_ : Bool) (h : H) : Prop :=
 bif b147_ then
 laws_FnLastingTiles_g26_0 S (laws_FnLastingTiles_ks32 S K) p3_ s4_ i5_ p8_ i9_ p13_ i14_ b147_ h
 else
 laws_FnLastingTiles_g27_0 S (laws_FnLastingTiles_ks34 S K) p3_ s4_ i5_ p8_ i9_ p13_ i14_ b147_ h
theorem laws_FnLastingTiles_cut25 (S : SatT) (K : AVal → H → Prop) (p3_ : Pt) (s4_ : Sl) (i5_ : Int) (p8_ : Pt) (i9_ : Int) (p13_ : Pt) (i14_ : Int) (b147_ : Bool) (h : H) : (laws_FnLastingTiles_ks31 S K) .normal (laws_FnLastingTiles_f25 p3_ s4_ i5_ p8_ i9_ p13_ i14_ b147_) h = laws_FnLastingTiles_r25 S K p3_ s4_ i5_ p8_ i9_ p13_ i14_ b147_ h := by
  unfold laws_FnLastingTiles_r25
  refine (kSeq_n _ _ _ _).trans ?_
  refine (cwp_sp_cond laws_FnLastingTiles_sp_1_1_1_1_1_1_1_1_1_1_1_1_1_0_1_0_1_1_1 (t := b147_) rfl).trans (bif_cong ?_ ?_)
  · refine (cwp_sp_seq laws_FnLastingTiles_sp_1_1_1_1_1_1_1_1_1_1_1_1_1_0_1_0_1_1_1_0).trans ?_
    exact laws_FnLastingTiles_g26_0_link S _ _ p3_ s4_ i5_ p8_ i9_ p13_ i14_ b147_ h
  · refine (cwp_sp_skip laws_FnLastingTiles_sp_1_1_1_1_1_1_1_1_1_1_1_1_1_0_1_0_1_1_1_1).trans ?_
    refine (kSeq_n _ _ _ _).trans ?_
    refine (cwp_sp_seq laws_FnLastingTiles_sp_1_1_1_1_1_1_1_1_1_1_1_1_1_1).trans ?_
    refine (cwp_sp_seq laws_FnLastingTiles_sp_1_1_1_1_1_1_1_1_1_1_1_1_1_1_0).trans ?_
    exact laws_FnLastingTiles_g27_0_link S _ _ p3_ s4_ i5_ p8_ i9_ p13_ i14_ b147_ h
def laws_FnLastingTiles_r24 (S : SatT) (K : AVal → H → Prop) (p3_ : Pt) (s4_ : Sl) (i5_ : Int) (p8_ : Pt) (i9_ : Int) (p13_ : Pt) (i14_ : Int) (b19_ : Bool) (i24_ : Int) (b25_ : Bool) (i26_ : Int) (h : H) : Prop :=
 laws_FnLastingTiles_g25_0 S (laws_FnLastingTiles_ks31 S K) p3_ s4_ i5_ p8_ i9_ p13_ i14_ b19_ i24_ b25_ i26_ h
theorem laws_FnLastingTiles_cut24 (S : SatT) (K : AVal → H → Prop) (p3_ : Pt) (s4_ : Sl) (i5_ : Int) (p8_ : Pt) (i9_ : Int) (p13_ : Pt) (i14_ : Int) (b19_ : Bool) (i24_ : Int) (b25_ : Bool) (i26_ : Int) (h : H) : (laws_FnLastingTiles_ks30 S K) .normal (laws_FnLastingTiles_f24 p3_ s4_ i5_ p8_ i9_ p13_ i14_ b19_ i24_ b25_ i26_) h = laws_FnLastingTiles_r24 S K p3_ s4_ i5_ p8_ i9_ p13_ i14_ b19_ i24_ b25_ i26_ h := by
  unfold laws_FnLastingTiles_r24
  refine (kSeq_n _ _ _ _).trans ?_
  refine (cwp_sp_seq laws_FnLastingTiles_sp_1_1_1_1_1_1_1_1_1_1_1_1_1_0_1_0_1_1).trans ?_
  exact laws_FnLastingTiles_g25_0_link S _ _ p3_ s4_ i5_ p8_ i9_ p13_ i14_ b19_ i24_ b25_ i26_ h
def laws_FnLastingTiles_r23 (S : SatT) (K : AVal → H → Prop) (p3_ : Pt) (s4_ : Sl) (i5_ : Int) (p8_ : Pt) (i9_ : Int) (p13_ : Pt) (i14_ : Int) (i18_ : Int) (b19_ : Bool) (p23_ : Pt) (i24_ : Int) (h : H) : Prop :=
 laws_FnLastingTiles_g24_0 S (laws_FnLastingTiles_ks30 S K) p3_ s4_ i5_ p8_ i9_ p13_ i14_ i18_ b19_ p23_ i24_ h
theorem laws_FnLastingTiles_cut23 (S : SatT) (K : AVal → H → Prop) (p3_ : Pt) (s4_ : Sl) (i5_ : Int) (p8_ : Pt) (i9_ : Int) (p13_ : Pt) (i14_ : Int) (i18_ : Int) (b19_ : Bool) (p23_ : Pt) (i24_ : Int) (h : H) : (laws_FnLastingTiles_ks29 S K) .normal (laws_FnLastingTiles_f23 p3_ s4_ i5_ p8_ i9_ p13_ i14_ i18_ b19_ p23_ i24_) h = laws_FnLastingTiles_r23 S K p3_ s4_ i5_ p8_ i9_ p13_ i14_ i18_ b19_ p23_ i24_ h := by
  unfold laws_FnLastingTiles_r23
  refine (kSeq_n _ _ _ _).trans ?_
  refine (cwp_sp_seq laws_FnLastingTiles_sp_1_1_1_1_1_1_1_1_1_1_1_1_1_0_1_0_1).trans ?_
  exact laws_FnLastingTiles_g24_0_link S _ _ p3_ s4_ i5_ p8_ i9_ p13_ i14_ i18_ b19_ p23_ i24_ h
theorem laws_FnLastingTiles_sp_1_1_1_1_1_1_1_1_1_1_1_1_1_0_1_1 : (sub [1, 1, 1, 1, 1, 1, 1, 1, 1, 1, 1, 1, 1, 0, 1, 1] (bodyOf Try.f3)) = .skip := by kernel_rfl
def laws_FnLastingTiles_ks56 (S : SatT) (K : AVal → H → Prop) : Kont := kSeq (cwp S tab laws_FnLastingTiles_M [] (sub [1, 1, 1, 1, 1, 1, 1, 1, 1, 1, 1, 1, 1, 1, 1] (bodyOf Try.f3)) (kFun tab (Try.f3).results.toList K)) (kFun tab (Try.f3).results.toList K)
def laws_FnLastingTiles_ks57 (S : SatT) (K : AVal → H → Prop) : Kont := kSeq (cwp S tab laws_FnLastingTiles_M [] (sub [1, 1, 1, 1, 1, 1, 1, 1, 1, 1, 1, 1, 1, 1, 0, 1] (bodyOf Try.f3)) (laws_FnLastingTiles_ks56 S K)) (laws_FnLastingTiles_ks56 S K)
def laws_FnLastingTiles_g27_1 (S : SatT) (k : Kont) (p3_ : Pt) (s4_ : Sl) (i5_ : Int) (p8_ : Pt) (i9_ : Int) (p13_ : Pt) (i14_ : Int) (p17_ : Pt) (i18_ : Int) (b19_ : Bool) (b123_ : Bool) (h : H) : Prop :=
 k .normal (laws_FnLastingTiles_f27 p3_ s4_ i5_ p8_ i9_ p13_ (i14_ == (0))) h
theorem laws_FnLastingTiles_g27_1_link (S : SatT) (k : Kont) (m : List Nat) (p3_ : Pt) (s4_ : Sl) (i5_ : Int) (p8_ : Pt) (i9_ : Int) (p13_ : Pt) (i14_ : Int) (p17_ : Pt) (i18_ : Int) (b19_ : Bool) (b123_ : Bool) (h : H) : cwp S tab laws_FnLastingTiles_M m (sub [1, 1, 1, 1, 1, 1, 1, 1, 1, 1, 1, 1, 1, 1, 0, 0] (bodyOf Try.f3)) k (laws_FnLastingTiles_f22 p3_ s4_ i5_ p8_ i9_ p13_ i14_ p17_ i18_ b19_ b123_) h = laws_FnLastingTiles_g27_1 S k p3_ s4_ i5_ p8_ i9_ p13_ i14_ p17_ i18_ b19_ b123_ h := by kernel_rfl
def laws_FnLastingTiles_r22 (S : SatT) (K : AVal → H → Prop) (p3_ : Pt) (s4_ : Sl) (i5_ : Int) (p8_ : Pt) (i9_ : Int) (p13_ : Pt) (i14_ : Int) (p17_ : Pt) (i18_ : Int) (b19_ : Bool) (b123_ : Bool) (h : H) : Prop :=
 bif b123_ then
 laws_FnLastingTiles_g23_0 S (laws_FnLastingTiles_ks29 S K) p3_ s4_ i5_ p8_ i9_ p13_ i14_ p17_ i18_ b19_ b123_ h
 else
 laws_FnLastingTiles_g27_1 S (laws_FnLastingTiles_ks57 S K) p3_ s4_ i5_ p8_ i9_ p13_ i14_ p17_ i18_ b19_ b123_ h
theorem laws_FnLastingTiles_cut22 (S : SatT) (K : AVal → H → Prop) (p3_ : Pt) (s4_ : Sl) (i5_ : Int) (p8_ : Pt) (i9_ : Int) (p13_ : Pt) (i14_ : Int) (p17_ : Pt) (i18_ : Int) (b19_ : Bool) (b123_ : Bool) (h : H) : (laws_FnLastingTiles_ks28 S K) .normal (laws_FnLastingTiles_f22 p3_ s4_ i5_ p8_ i9_ p13_ i14_ p17_ i18_ b19_ b123_) h = laws_FnLastingTiles_r22 S K p3_ s4_ i5_ p8_ i9_ p13_ i14_ p17_ i18_ b19_ b123_ h := by
  unfold laws_FnLastingTiles_r22
  refine (kSeq_n _ _ _ _).trans ?_
  refine (cwp_sp_cond laws_FnLastingTiles_sp_1_1_1_1_1_1_1_1_1_1_1_1_1_0_1 (t := b123_) rfl).trans (bif_cong ?_ ?_)
  · refine (cwp_sp_seq laws_FnLastingTiles_sp_1_1_1_1_1_1_1_1_1_1_1_1_1_0_1_0).trans ?_
    exact laws_FnLastingTiles_g23_0_link S _ _ p3_ s4_ i5_ p8_ i9_ p13_ i14_ p17_ i18_ b19_ b123_ h
  · refine (cwp_sp_skip laws_FnLastingTiles_sp_1_1_1_1_1_1_1_1_1_1_1_1_1_0_1_1).trans ?_
    refine (kSeq_n _ _ _ _).trans ?_
    refine (cwp_sp_seq laws_FnLastingTiles_sp_1_1_1_1_1_1_1_1_1_1_1_1_1_1).trans ?_
    refine (cwp_sp_seq laws_FnLastingTiles_sp_1_1_1_1_1_1_1_1_1_1_1_1_1_1_0).trans ?_
    exact laws_FnLastingTiles_g27_1_link S _ _ p3_ s4_ i5_ p8_ i9_ p13_ i14_ p17_ i18_ b19_ b123_ h
def laws_FnLastingTiles_r20 (S : SatT) (K : AVal → H → Prop) (p3_ : Pt) (s4_ : Sl) (i5_ : Int) (p8_ : Pt) (i9_ : Int) (p13_ : Pt) (i14_ : Int) (p17_ : Pt) (i18_ : Int) (b19_ : Bool) (i20_ : Int) (b121_ : Bool) (h : H) : Prop :=
 bif b121_ then
 laws_FnLastingTiles_g21_0 S (laws_FnLastingTiles_ks26 S K) p3_ s4_ i5_ p8_ i9_ p13_ i14_ p17_ i18_ b19_ i20_ b121_ h
 else
 laws_FnLastingTiles_g22_0 S (laws_FnLastingTiles_ks28 S K) p3_ s4_ i5_ p8_ i9_ p13_ i14_ p17_ i18_ b19_ i20_ b121_ h
theorem laws_FnLastingTiles_cut20 (S : SatT) (K : AVal → H → Prop) (p3_ : Pt) (s4_ : Sl) (i5_ : Int) (p8_ : Pt) (i9_ : Int) (p13_ : Pt) (i14_ : Int) (p17_ : Pt) (i18_ : Int) (b19_ : Bool) (i20_ : Int) (b121_ : Bool) (h : H) : (laws_FnLastingTiles_ks25 S K) .normal (laws_FnLastingTiles_f20 p3_ s4_ i5_ p8_ i9_ p13_ i14_ p17_ i18_ b19_ i20_ b121_) h = laws_FnLastingTiles_r20 S K p3_ s4_ i5_ p8_ i9_ p13_ i14_ p17_ i18_ b19_ i20_ b121_ h := by
  unfold laws_FnLastingTiles_r20
  refine (kSeq_n _ _ _ _).trans ?_
  refine (cwp_sp_cond laws_FnLastingTiles_sp_1_1_1_1_1_1_1_1_1_1_1_1_0_1_1 (t := b121_) rfl).trans (bif_cong ?_ ?_)
  · refine (cwp_sp_seq laws_FnLastingTiles_sp_1_1_1_1_1_1_1_1_1_1_1_1_0_1_1_0).trans ?_
    exact laws_FnLastingTiles_g21_0_link S _ _ p3_ s4_ i5_ p8_ i9_ p13_ i14_ p17_ i18_ b19_ i20_ b121_ h
  · refine (cwp_sp_skip laws_FnLastingTiles_sp_1_1_1_1_1_1_1_1_1_1_1_1_0_1_1_1).trans ?_
    refine (kSeq_n _ _ _ _).trans ?_
    refine (cwp_sp_seq laws_FnLastingTiles_sp_1_1_1_1_1_1_1_1_1_1_1_1_1).trans ?_
    refine (cwp_sp_seq laws_FnLastingTiles_sp_1_1_1_1_1_1_1_1_1_1_1_1_1_0).trans ?_
    exact laws_FnLastingTiles_g22_0_link S _ _ p3_ s4_ i5_ p8_ i9_ p13_ i14_ p17_ i18_ b19_ i20_ b121_ h
def laws_FnLastingTiles_r19 (S : SatT) (K : AVal → H → Prop) (p3_ : Pt) (s4_ : Sl) (i5_ : Int) (p8_ : Pt) (i9_ : Int) (p13_ : Pt) (i14_ : Int) (p17_ : Pt) (i18_ : Int) (b19_ : Bool) (i20_ : Int) (b21_ : Bool) (i22_ : Int) (h : H) : Prop :=
 laws_FnLastingTiles_g20_0 S (laws_FnLastingTiles_ks25 S K) p3_ s4_ i5_ p8_ i9_ p13_ i14_ p17_ i18_ b19_ i20_ b21_ i22_ h
theorem laws_FnLastingTiles_cut19 (S : SatT) (K : AVal → H → Prop) (p3_ : Pt) (s4_ : Sl) (i5_ : Int) (p8_ : Pt) (i9_ : Int) (p13_ : Pt) (i14_ : Int) (p17_ : Pt) (i18_ : Int) (b19_ : Bool) (i20_ : Int) (b21_ : Bool) (i22_ : Int) (h : H) : (laws_FnLastingTiles_ks24 S K) .normal (laws_FnLastingTiles_f19 p3_ s4_ i5_ p8_ i9_ p13_ i14_ p17_ i18_ b19_ i20_ b21_ i22_) h = laws_FnLastingTiles_r19 S K p3_ s4_ i5_ p8_ i9_ p13_ i14_ p17_ i18_ b19_ i20_ b21_ i22_ h := by
  unfold laws_FnLastingTiles_r19
  refine (kSeq_n _ _ _ _).trans ?_
  refine (cwp_sp_seq laws_FnLastingTiles_sp_1_1_1_1_1_1_1_1_1_1_1_1_0_1).trans ?_
  exact laws_FnLastingTiles_g20_0_link S _ _ p3_ s4_ i5_ p8_ i9_ p13_ i14_ p17_ i18_ b19_ i20_ b21_ i22_ h
def laws_FnLastingTiles_r18 (S : SatT) (K : AVal → H → Prop) (p3_ : Pt) (s4_ : Sl) (i5_ : Int) (p8_ : Pt) (i9_ : Int) (p13_ : Pt) (i14_ : Int) (p17_ : Pt) (i18_ : Int) (b19_ : Bool) (i20_ : Int) (h : H) : Prop :=
 laws_FnLastingTiles_g19_0 S (laws_FnLastingTiles_ks24 S K) p3_ s4_ i5_ p8_ i9_ p13_ i14_ p17_ i18_ b19_ i20_ h
theorem laws_FnLastingTiles_cut18 (S : SatT) (K : AVal → H → Prop) (p3_ : Pt) (s4_ : Sl) (i5_ : Int) (p8_ : Pt) (i9_ : Int) (p13_ : Pt) (i14_ : Int) (p17_ : Pt) (i18_ : Int) (b19_ : Bool) (i20_ : Int) (h : H) : (laws_FnLastingTiles_ks22 S K) .normal (laws_FnLastingTiles_f18 p3_ s4_ i5_ p8_ i9_ p13_ i14_ p17_ i18_ b19_ i20_) h = laws_FnLastingTiles_r18 S K p3_ s4_ i5_ p8_ i9_ p13_ i14_ p17_ i18_ b19_ i20_ h := by
  unfold laws_FnLastingTiles_r18
  refine (kSeq_n _ _ _ _).trans ?_
  refine (cwp_sp_seq laws_FnLastingTiles_sp_1_1_1_1_1_1_1_1_1_1_1_1).trans ?_
  refine (cwp_sp_seq laws_FnLastingTiles_sp_1_1_1_1_1_1_1_1_1_1_1_1_0).trans ?_
  exact laws_FnLastingTiles_g19_0_link S _ _ p3_ s4_ i5_ p8_ i9_ p13_ i14_ p17_ i18_ b19_ i20_ h
def laws_FnLastingTiles_r17 (S : SatT) (K : AVal → H → Prop) (p3_ : Pt) (s4_ : Sl) (i5_ : Int) (p8_ : Pt) (i9_ : Int) (p13_ : Pt) (i14_ : Int) (p17_ : Pt) (i18_ : Int) (h : H) : Prop :=
 laws_FnLastingTiles_g18_0 S (laws_FnLastingTiles_ks22 S K) p3_ s4_ i5_ p8_ i9_ p13_ i14_ p17_ i18_ h
theorem laws_FnLastingTiles_cut17 (S : SatT) (K : AVal → H → Prop) (p3_ : Pt) (s4_ : Sl) (i5_ : Int) (p8_ : Pt) (i9_ : Int) (p13_ : Pt) (i14_ : Int) (p17_ : Pt) (i18_ : Int) (h : H) : (laws_FnLastingTiles_ks21 S K) .normal (laws_FnLastingTiles_f17 p3_ s4_ i5_ p8_ i9_ p13_ i14_ p17_ i18_) h = laws_FnLastingTiles_r17 S K p3_ s4_ i5_ p8_ i9_ p13_ i14_ p17_ i18_ h := by
  unfold laws_FnLastingTiles_r17
  refine (kSeq_n _ _ _ _).trans ?_
  refine (cwp_sp_seq laws_FnLastingTiles_sp_1_1_1_1_1_1_1_1_1_1_1).trans ?_
  exact laws_FnLastingTiles_g18_0_link S _ _ p3_ s4_ i5_ p8_ i9_ p13_ i14_ p17_ i18_ h
def laws_FnLastingTiles_r15 (S : SatT) (K : AVal → H → Prop) (s0_ : Sl) (p3_ : Pt) (s4_ : Sl) (i5_ : Int) (p8_ : Pt) (i9_ : Int) (p13_ : Pt) (i14_ : Int) (b96_ : Bool) (h : H) : Prop :=
 bif b96_ then
 laws_FnLastingTiles_g16_0 S (laws_FnLastingTiles_ks20 S K) s0_ p3_ s4_ i5_ p8_ i9_ p13_ i14_ b96_ h
 else
 laws_FnLastingTiles_g17_0 S (laws_FnLastingTiles_ks21 S K) s0_ p3_ s4_ i5_ p8_ i9_ p13_ i14_ b96_ h
theorem laws_FnLastingTiles_cut15 (S : SatT) (K : AVal → H → Prop) (s0_ : Sl) (p3_ : Pt) (s4_ : Sl) (i5_ : Int) (p8_ : Pt) (i9_ : Int) (p13_ : Pt) (i14_ : Int) (b96_ : Bool) (h : H) : (laws_FnLastingTiles_ks19 S K) .normal (laws_FnLastingTiles_f15 s0_ p3_ s4_ i5_ p8_ i9_ p13_ i14_ b96_) h = laws_FnLastingTiles_r15 S K s0_ p3_ s4_ i5_ p8_ i9_ p13_ i14_ b96_ h := by
  unfold laws_FnLastingTiles_r15
  refine (kSeq_n _ _ _ _).trans ?_
  refine (cwp_sp_cond laws_FnLastingTiles_sp_1_1_1_1_1_1_1_1_1_0_1_1 (t := b96_) rfl).trans (bif_cong ?_ ?_)
  · refine (cwp_sp_seq laws_FnLastingTiles_sp_1_1_1_1_1_1_1_1_1_0_1_1_0).trans ?_
    exact laws_FnLastingTiles_g16_0_link S _ _ s0_ p3_ s4_ i5_ p8_ i9_ p13_ i14_ b96_ h
  · refine (cwp_sp_skip laws_FnLastingTiles_sp_1_1_1_1_1_1_1_1_1_0_1_1_1).trans ?_
    refine (kSeq_n _ _ _ _).trans ?_
    refine (cwp_sp_seq laws_FnLastingTiles_sp_1_1_1_1_1_1_1_1_1_1).trans ?_
    exact laws_FnLastingTiles_g17_0_link S _ _ s0_ p3_ s4_ i5_ p8_ i9_ p13_ i14_ b96_ h
def laws_FnLastingTiles_r14 (S : SatT) (K : AVal → H → Prop) (s0_ : Sl) (p3_ : Pt) (s4_ : Sl) (i5_ : Int) (p8_ : Pt) (i9_ : Int) (p13_ : Pt) (i14_ : Int) (p15_ : Pt) (i16_ : Int) (h : H) : Prop :=
 laws_FnLastingTiles_g15_0 S (laws_FnLastingTiles_ks19 S K) s0_ p3_ s4_ i5_ p8_ i9_ p13_ i14_ p15_ i16_ h
theorem laws_FnLastingTiles_cut14 (S : SatT) (K : AVal → H → Prop) (s0_ : Sl) (p3_ : Pt) (s4_ : Sl) (i5_ : Int) (p8_ : Pt) (i9_ : Int) (p13_ : Pt) (i14_ : Int) (p15_ : Pt) (i16_ : Int) (h : H) : (laws_FnLastingTiles_ks18 S K) .normal (laws_FnLastingTiles_f14 s0_ p3_ s4_ i5_ p8_ i9_ p13_ i14_ p15_ i16_) h = laws_FnLastingTiles_r14 S K s0_ p3_ s4_ i5_ p8_ i9_ p13_ i14_ p15_ i16_ h := by
  unfold laws_FnLastingTiles_r14
  refine (kSeq_n _ _ _ _).trans ?_
  refine (cwp_sp_seq laws_FnLastingTiles_sp_1_1_1_1_1_1_1_1_1_0_1).trans ?_
  exact laws_FnLastingTiles_g15_0_link S _ _ s0_ p3_ s4_ i5_ p8_ i9_ p13_ i14_ p15_ i16_ h
def laws_FnLastingTiles_r13 (S : SatT) (K : AVal → H → Prop) (s0_ : Sl) (p3_ : Pt) (s4_ : Sl) (i5_ : Int) (p8_ : Pt) (i9_ : Int) (p12_ : Pt) (p13_ : Pt) (i14_ : Int) (h : H) : Prop :=
 laws_FnLastingTiles_g14_0 S (laws_FnLastingTiles_ks18 S K) s0_ p3_ s4_ i5_ p8_ i9_ p12_ p13_ i14_ h
theorem laws_FnLastingTiles_cut13 (S : SatT) (K : AVal → H → Prop) (s0_ : Sl) (p3_ : Pt) (s4_ : Sl) (i5_ : Int) (p8_ : Pt) (i9_ : Int) (p12_ : Pt) (p13_ : Pt) (i14_ : Int) (h : H) : (laws_FnLastingTiles_ks16 S K) .normal (laws_FnLastingTiles_f13 s0_ p3_ s4_ i5_ p8_ i9_ p12_ p13_ i14_) h = laws_FnLastingTiles_r13 S K s0_ p3_ s4_ i5_ p8_ i9_ p12_ p13_ i14_ h := by
  unfold laws_FnLastingTiles_r13
  refine (kSeq_n _ _ _ _).trans ?_
  refine (cwp_sp_seq laws_FnLastingTiles_sp_1_1_1_1_1_1_1_1_1).trans ?_
  refine (cwp_sp_seq laws_FnLastingTiles_sp_1_1_1_1_1_1_1_1_1_0).trans ?_
  exact laws_FnLastingTiles_g14_0_link S _ _ s0_ p3_ s4_ i5_ p8_ i9_ p12_ p13_ i14_ h
def laws_FnLastingTiles_r12 (S : SatT) (K : AVal → H → Prop) (s0_ : Sl) (p3_ : Pt) (s4_ : Sl) (i5_ : Int) (p8_ : Pt) (i9_ : Int) (p12_ : Pt) (h : H) : Prop :=
 laws_FnLastingTiles_g13_0 S (laws_FnLastingTiles_ks16 S K) s0_ p3_ s4_ i5_ p8_ i9_ p12_ h
theorem laws_FnLastingTiles_cut12 (S : SatT) (K : AVal → H → Prop) (s0_ : Sl) (p3_ : Pt) (s4_ : Sl) (i5_ : Int) (p8_ : Pt) (i9_ : Int) (p12_ : Pt) (h : H) : (laws_FnLastingTiles_ks15 S K) .normal (laws_FnLastingTiles_f12 s0_ p3_ s4_ i5_ p8_ i9_ p12_) h = laws_FnLastingTiles_r12 S K s0_ p3_ s4_ i5_ p8_ i9_ p12_ h := by
  unfold laws_FnLastingTiles_r12
  refine (kSeq_n _ _ _ _).trans ?_
  refine (cwp_sp_seq laws_FnLastingTiles_sp_1_1_1_1_1_1_1_1).trans ?_
  exact laws_FnLastingTiles_g13_0_link S _ _ s0_ p3_ s4_ i5_ p8_ i9_ p12_ h
def laws_FnLastingTiles_r10 (S : SatT) (K : AVal → H → Prop) (s0_ : Sl) (p3_ : Pt) (s4_ : Sl) (i5_ : Int) (p8_ : Pt) (i9_ : Int) (b75_ : Bool) (h : H) : Prop :=
 bif b75_ then
 laws_FnLastingTiles_g11_0 S (laws_FnLastingTiles_ks14 S K) s0_ p3_ s4_ i5_ p8_ i9_ b75_ h
 else
 laws_FnLastingTiles_g12_0 S (laws_FnLastingTiles_ks15 S K) s0_ p3_ s4_ i5_ p8_ i9_ b75_ h
theorem laws_FnLastingTiles_cut10 (S : SatT) (K : AVal → H → Prop) (s0_ : Sl) (p3_ : Pt) (s4_ : Sl) (i5_ : Int) (p8_ : Pt) (i9_ : Int) (b75_ : Bool) (h : H) : (laws_FnLastingTiles_ks13 S K) .normal (laws_FnLastingTiles_f10 s0_ p3_ s4_ i5_ p8_ i9_ b75_) h = laws_FnLastingTiles_r10 S K s0_ p3_ s4_ i5_ p8_ i9_ b75_ h := by
  unfold laws_FnLastingTiles_r10
  refine (kSeq_n _ _ _ _).trans ?_
  refine (cwp_sp_cond laws_FnLastingTiles_sp_1_1_1_1_1_1_0_1_1 (t := b75_) rfl).trans (bif_cong ?_ ?_)
  · refine (cwp_sp_seq laws_FnLastingTiles_sp_1_1_1_1_1_1_0_1_1_0).trans ?_
    exact laws_FnLastingTiles_g11_0_link S _ _ s0_ p3_ s4_ i5_ p8_ i9_ b75_ h
  · refine (cwp_sp_skip laws_FnLastingTiles_sp_1_1_1_1_1_1_0_1_1_1).trans ?_
    refine (kSeq_n _ _ _ _).trans ?_
    refine (cwp_sp_seq laws_FnLastingTiles_sp_1_1_1_1_1_1_1).trans ?_
    exact laws_FnLastingTiles_g12_0_link S _ _ s0_ p3_ s4_ i5_ p8_ i9_ b75_ h
def laws_FnLastingTiles_r9 (S : SatT) (K : AVal → H → Prop) (s0_ : Sl) (p3_ : Pt) (s4_ : Sl) (i5_ : Int) (p8_ : Pt) (i9_ : Int) (p10_ : Pt) (i11_ : Int) (h : H) : Prop :=
 laws_FnLastingTiles_g10_0 S (laws_FnLastingTiles_ks13 S K) s0_ p3_ s4_ i5_ p8_ i9_ p10_ i11_ h
theorem laws_FnLastingTiles_cut9 (S : SatT) (K : AVal → H → Prop) (s0_ : Sl) (p3_ : Pt) (s4_ : Sl) (i5_ : Int) (p8_ : Pt) (i9_ : Int) (p10_ : Pt) (i11_ : Int) (h : H) : (laws_FnLastingTiles_ks12 S K) .normal (laws_FnLastingTiles_f9 s0_ p3_ s4_ i5_ p8_ i9_ p10_ i11_) h = laws_FnLastingTiles_r9 S K s0_ p3_ s4_ i5_ p8_ i9_ p10_ i11_ h := by
  unfold laws_FnLastingTiles_r9
  refine (kSeq_n _ _ _ _).trans ?_
  refine (cwp_sp_seq laws_FnLastingTiles_sp_1_1_1_1_1_1_0_1).trans ?_
  exact laws_FnLastingTiles_g10_0_link S _ _ s0_ p3_ s4_ i5_ p8_ i9_ p10_ i11_ h
def laws_FnLastingTiles_r8 (S : SatT) (K : AVal → H → Prop) (s0_ : Sl) (p3_ : Pt) (s4_ : Sl) (i5_ : Int) (p8_ : Pt) (i9_ : Int) (h : H) : Prop :=
 laws_FnLastingTiles_g9_0 S (laws_FnLastingTiles_ks12 S K) s0_ p3_ s4_ i5_ p8_ i9_ h
theorem laws_FnLastingTiles_cut8 (S : SatT) (K : AVal → H → Prop) (s0_ : Sl) (p3_ : Pt) (s4_ : Sl) (i5_ : Int) (p8_ : Pt) (i9_ : Int) (h : H) : (laws_FnLastingTiles_ks10 S K) .normal (laws_FnLastingTiles_f8 s0_ p3_ s4_ i5_ p8_ i9_) h = laws_FnLastingTiles_r8 S K s0_ p3_ s4_ i5_ p8_ i9_ h := by
  unfold laws_FnLastingTiles_r8
  refine (kSeq_n _ _ _ _).trans ?_
  refine (cwp_sp_seq laws_FnLastingTiles_sp_1_1_1_1_1_1).trans ?_
  refine (cwp_sp_seq laws_FnLastingTiles_sp_1_1_1_1_1_1_0).trans ?_
  exact laws_FnLastingTiles_g9_0_link S _ _ s0_ p3_ s4_ i5_ p8_ i9_ h
def laws_FnLastingTiles_r6 (S : SatT) (K : AVal → H → Prop) (s0_ : Sl) (p3_ : Pt) (s4_ : Sl) (i5_ : Int) (b56_ : Bool) (h : H) : Prop :=
 bif b56_ then
 laws_FnLastingTiles_g7_0 S (laws_FnLastingTiles_ks9 S K) s0_ p3_ s4_ i5_ b56_ h
 else
 laws_FnLastingTiles_g8_0 S (laws_FnLastingTiles_ks10 S K) s0_ p3_ s4_ i5_ b56_ h
theorem laws_FnLastingTiles_cut6 (S : SatT) (K : AVal → H → Prop) (s0_ : Sl) (p3_ : Pt) (s4_ : Sl) (i5_ : Int) (b56_ : Bool) (h : H) : (laws_FnLastingTiles_ks8 S K) .normal (laws_FnLastingTiles_f6 s0_ p3_ s4_ i5_ b56_) h = laws_FnLastingTiles_r6 S K s0_ p3_ s4_ i5_ b56_ h := by
  unfold laws_FnLastingTiles_r6
  refine (kSeq_n _ _ _ _).trans ?_
  refine (cwp_sp_cond laws_FnLastingTiles_sp_1_1_1_1_0_1_1 (t := b56_) rfl).trans (bif_cong ?_ ?_)
  · refine (cwp_sp_seq laws_FnLastingTiles_sp_1_1_1_1_0_1_1_0).trans ?_
    exact laws_FnLastingTiles_g7_0_link S _ _ s0_ p3_ s4_ i5_ b56_ h
  · refine (cwp_sp_skip laws_FnLastingTiles_sp_1_1_1_1_0_1_1_1).trans ?_
    refine (kSeq_n _ _ _ _).trans ?_
    refine (cwp_sp_seq laws_FnLastingTiles_sp_1_1_1_1_1).trans ?_
    exact laws_FnLastingTiles_g8_0_link S _ _ s0_ p3_ s4_ i5_ b56_ h
def laws_FnLastingTiles_r5 (S : SatT) (K : AVal → H → Prop) (s0_ : Sl) (p3_ : Pt) (s4_ : Sl) (i5_ : Int) (s6_ : Sl) (i7_ : Int) (h : H) : Prop :=
 laws_FnLastingTiles_g6_0 S (laws_FnLastingTiles_ks8 S K) s0_ p3_ s4_ i5_ s6_ i7_ h
theorem laws_FnLastingTiles_cut5 (S : SatT) (K : AVal → H → Prop) (s0_ : Sl) (p3_ : Pt) (s4_ : Sl) (i5_ : Int) (s6_ : Sl) (i7_ : Int) (h : H) : (laws_FnLastingTiles_ks7 S K) .normal (laws_FnLastingTiles_f5 s0_ p3_ s4_ i5_ s6_ i7_) h = laws_FnLastingTiles_r5 S K s0_ p3_ s4_ i5_ s6_ i7_ h := by
  unfold laws_FnLastingTiles_r5
  refine (kSeq_n _ _ _ _).trans ?_
  refine (cwp_sp_seq laws_FnLastingTiles_sp_1_1_1_1_0_1).trans ?_
  exact laws_FnLastingTiles_g6_0_link S _ _ s0_ p3_ s4_ i5_ s6_ i7_ h
def laws_FnLastingTiles_r4 (S : SatT) (K : AVal → H → Prop) (s0_ : Sl) (p3_ : Pt) (s4_ : Sl) (i5_ : Int) (h : H) : Prop :=
 laws_FnLastingTiles_g5_0 S (laws_FnLastingTiles_ks7 S K) s0_ p3_ s4_ i5_ h
theorem laws_FnLastingTiles_cut4 (S : SatT) (K : AVal → H → Prop) (s0_ : Sl) (p3_ : Pt) (s4_ : Sl) (i5_ : Int) (h : H) : (laws_FnLastingTiles_ks5 S K) .normal (laws_FnLastingTiles_f4 s0_ p3_ s4_ i5_) h = laws_FnLastingTiles_r4 S K s0_ p3_ s4_ i5_ h := by
  unfold laws_FnLastingTiles_r4
  refine (kSeq_n _ _ _ _).trans ?_
  refine (cwp_sp_seq laws_FnLastingTiles_sp_1_1_1_1).trans ?_
  refine (cwp_sp_seq laws_FnLastingTiles_sp_1_1_1_1_0).trans ?_
  exact laws_FnLastingTiles_g5_0_link S _ _ s0_ p3_ s4_ i5_ h
def laws_FnLastingTiles_r3 (S : SatT) (K : AVal → H → Prop) (s0_ : Sl) (p3_ : Pt) (h : H) : Prop :=
 laws_FnLastingTiles_g4_0 S (laws_FnLastingTiles_ks5 S K) s0_ p3_ h
theorem laws_FnLastingTiles_cut3 (S : SatT) (K : AVal → H → Prop) (s0_ : Sl) (p3_ : Pt) (h : H) : (laws_FnLastingTiles_ks4 S K) .normal (laws_FnLastingTiles_f3 s0_ p3_) h = laws_FnLastingTiles_r3 S K s0_ p3_ h := by
  unfold laws_FnLastingTiles_r3
  refine (kSeq_n _ _ _ _).trans ?_
  refine (cwp_sp_seq laws_FnLastingTiles_sp_1_1_1).trans ?_
  exact laws_FnLastingTiles_g4_0_link S _ _ s0_ p3_ h
def laws_FnLastingTiles_r1 (S : SatT) (K : AVal → H → Prop) (s0_ : Sl) (b35_ : Bool) (h : H) : Prop :=
 bif b35_ then
 laws_FnLastingTiles_g2_0 S (laws_FnLastingTiles_ks3 S K) s0_ b35_ h
 else
 laws_FnLastingTiles_g3_0 S (laws_FnLastingTiles_ks4 S K) s0_ b35_ h
theorem laws_FnLastingTiles_cut1 (S : SatT) (K : AVal → H → Prop) (s0_ : Sl) (b35_ : Bool) (h : H) : (laws_FnLastingTiles_ks2 S K) .normal (laws_FnLastingTiles_f1 s0_ b35_) h = laws_FnLastingTiles_r1 S K s0_ b35_ h := by
  unfold laws_FnLastingTiles_r1
  refine (kSeq_n _ _ _ _).trans ?_
  refine (cwp_sp_cond laws_FnLastingTiles_sp_1_0_1 (t := b35_) rfl).trans (bif_cong ?_ ?_)
  · refine (cwp_sp_seq laws_FnLastingTiles_sp_1_0_1_0).trans ?_
    exact laws_FnLastingTiles_g2_0_link S _ _ s0_ b35_ h
  · refine (cwp_sp_skip laws_FnLastingTiles_sp_1_0_1_1).trans ?_
    refine (kSeq_n _ _ _ _).trans ?_
    refine (cwp_sp_seq laws_FnLastingTiles_sp_1_1).trans ?_
    exact laws_FnLastingTiles_g3_0_link S _ _ s0_ b35_ h
def laws_FnLastingTiles_r0 (S : SatT) (K : AVal → H → Prop) (s0_ : Sl) (h : H) : Prop :=
 laws_FnLastingTiles_g1_0 S (laws_FnLastingTiles_ks2 S K) s0_ h
theorem laws_FnLastingTiles_cut0 (S : SatT) (K : AVal → H → Prop) (s0_ : Sl) (h : H) : (laws_FnLastingTiles_ks0 S K) .normal (laws_FnLastingTiles_f0 s0_) h = laws_FnLastingTiles_r0 S K s0_ h := by
  unfold laws_FnLastingTiles_r0
  refine (kSeq_n _ _ _ _).trans ?_
  refine (cwp_sp_seq laws_FnLastingTiles_sp_1).trans ?_
  refine (cwp_sp_seq laws_FnLastingTiles_sp_1_0).trans ?_
  exact laws_FnLastingTiles_g1_0_link S _ _ s0_ h
def laws_FnLastingTiles_main (S : SatT) (K : AVal → H → Prop) (x0 : Sl) (h : H) : Prop :=
 laws_FnLastingTiles_g0_0 S (laws_FnLastingTiles_ks0 S K) x0 h
theorem laws_FnLastingTiles_main_link (S : SatT) (K : AVal → H → Prop) (x0 : Sl) (h : H) : cwp S tab laws_FnLastingTiles_M [] (bodyOf Try.f3) (kFun tab Try.f3.results.toList K) (fr0 Try.f3 [.sl x0]) h = laws_FnLastingTiles_main S K x0 h := by 
  unfold laws_FnLastingTiles_main
  refine (cwp_sp_seq laws_FnLastingTiles_sp).trans ?_
  exact laws_FnLastingTiles_g0_0_link S _ _ x0 h
theorem laws_FnLastingTiles_call (x0 : Sl) (h : H) (K : Bool → H → Prop) (hm : laws_FnLastingTiles_main (Sat Try.prog) (fun v h' => ∃ r, v = .bool r ∧ K r h') x0 h) : callB (Sat Try.prog) i_laws_FnLastingTiles [.sl x0] h K := by
  have := Sat.ex tok mixed laws_FnLastingTiles_M Try.func3 (c := bodyOf Try.f3) (by kernel_rfl) (calls_of Try.func3 (c := bodyOf Try.f3) (by kernel_rfl) (by decide)) ((laws_FnLastingTiles_main_link _ _ x0 h).mpr hm)
  obtain ⟨v, h2, h3, r, rfl, h4⟩ := this; exact ⟨r, h2, h3, h4⟩

end Go.Proofs.Ytlcgclmobfdbcaa.Cl

/- Contracts of the functions on tiles, of the search in slices and of the laws' helpers. No claim is stated here. -/
set_option linter.unusedVariables false
set_option linter.unusedSimpArgs false
namespace Go.Proofs.Ytlcgclmobfdbcaa.Cl
open Go
abbrev SP : SatT := Sat Try.prog
abbrev Tile := Int × Int × Int × Int
def tc (t : Tile) : List AVal := [i64 t.1, i64 t.2.1, i64 t.2.2.1, i64 t.2.2.2]
def tcs (ts : List Tile) : List AVal := (ts.map tc).flatten
theorem tc_len (t : Tile) : (tc t).length = 4 := rfl
theorem tcs_len : ∀ ts : List Tile, (tcs ts).length = ts.length * 4
  | [] => rfl
  | t :: ts => by
    have := tcs_len ts
    unfold tcs at *
    simp only [List.map_cons, List.flatten_cons, List.length_append, tc_len, List.length_cons]
    omega
theorem tcs_app (a b : List Tile) : tcs (a ++ b) = tcs a ++ tcs b := by simp [tcs]
theorem tcs_cons (a : Tile) (b : List Tile) : tcs (a :: b) = tc a ++ tcs b := by simp [tcs]
theorem tcs_at : ∀ (ts : List Tile) (i : Nat) (t : Tile), ts[i]? = some t → ((tcs ts).drop (i * 4)).take 4 = tc t
  | [], i, t, e => by simp at e
  | a :: ts, 0, t, e => by
    simp at e; subst e
    rw [tcs_cons]; simp [List.take_append, tc_len]
    rw [List.take_of_length_le (by simp [tc_len])]
  | a :: ts, i + 1, t, e => by
    rw [tcs_cons, show (i + 1) * 4 = (tc a).length + i * 4 by rw [tc_len]; omega, ← List.drop_drop, List.drop_left]
    exact tcs_at ts i t (by simpa using e)
/-- A slice of tiles. -/
theorem Rd.ldT {h : H} {s : Sl} {ts : List Tile} (r : Rd h s 4 (tcs ts)) {i : Int} (h0 : 0 ≤ i) (h1 : i < ts.length) {K : List AVal → Prop} (hk : ∀ t, ts[i.toNat]? = some t → K (tc t)) : ixS s 4 i fun p => Cl.ldA p 4 h K := by
  have hlen : ts.length = s.len := by have := r.len; rw [tcs_len] at this; omega
  have hx : ts[i.toNat]? = some ts[i.toNat] := List.getElem?_eq_getElem (by omega)
  exact r.ldA h0 (by omega) (by rw [tcs_at ts _ _ hx]; exact hk _ hx)
theorem Rd.tlen {h : H} {s : Sl} {ts : List Tile} (r : Rd h s 4 (tcs ts)) : s.len = ts.length := by have := r.len; rw [tcs_len] at this; omega

def turn (t : Tile) : Tile := (t.2.2.2, t.1, t.2.1, t.2.2.1)
def i64ok (n : Int) : Prop := -9223372036854775808 ≤ n ∧ n < 9223372036854775808
def tileok (c : Int) (t : Tile) : Bool := decide (0 ≤ t.1 ∧ t.1 ≤ c - 1) && decide (0 ≤ t.2.1 ∧ t.2.1 ≤ c - 1) && decide (0 ≤ t.2.2.1 ∧ t.2.2.1 ≤ c - 1) && decide (0 ≤ t.2.2.2 ∧ t.2.2.2 ≤ c - 1)
attribute [local simp] newK newO ixA ldI ldA stN st1 Cl.range cell Cl.cells putN put1 owned get_app get_app0 set_app set_app0 Pt.add splice Ext.app Ext.refl cutA isPt

theorem l01In_c (a b c : Int) (h : H) : callB SP i_spec_l01In [i64 a, i64 b, i64 c] h fun r h' => r = decide (b ≤ a ∧ a ≤ c) ∧ h' = h := by
  apply spec_l01In_call
  unfold spec_l01In_main
  refine bif_dec (fun h1 => ?_) (fun h1 => ?_)
  all_goals simp; try omega
theorem within_c (a b c : Int) (h : H) : callB SP i_impl_within [i64 a, i64 b, i64 c] h fun r h' => r = decide (b ≤ a ∧ a ≤ c) ∧ h' = h := by
  apply impl_within_call
  unfold impl_within_main
  refine bif_dec (fun h1 => ?_) (fun h1 => ?_)
  all_goals simp; try omega
/-! ### search -/
def findI {α : Type} (q : α → Bool) (l : List α) : Int := match l.findIdx? q with | some i => (i : Int) | none => -1
theorem findI_hit {α : Type} {q : α → Bool} {l : List α} {i : Nat} {x : α} (hx : l[i]? = some x) (hq : q x = true) (hn : ∀ j y, j < i → l[j]? = some y → q y = false) : findI q l = i := by
  unfold findI
  have : l.findIdx? q = some i := by
    rw [List.findIdx?_eq_some_iff_getElem]
    obtain ⟨h1, h2⟩ := List.getElem?_eq_some_iff.1 hx
    refine ⟨h1, by rw [h2]; exact hq, fun j hj => ?_⟩
    rw [hn j _ hj (List.getElem?_eq_getElem (by omega))]; simp
  rw [this]
theorem findI_none {α : Type} {q : α → Bool} {l : List α} (hn : ∀ y ∈ l, q y = false) : findI q l = -1 := by
  unfold findI
  have : l.findIdx? q = none := by
    rw [List.findIdx?_eq_none_iff]
    intro x hx; rw [hn x hx]
  rw [this]
theorem findI_ge {α : Type} (q : α → Bool) (l : List α) : decide (findI q l ≥ 0) = l.any q := by
  unfold findI
  cases h : l.findIdx? q with
  | none =>
    rw [List.findIdx?_eq_none_iff] at h
    have : l.any q = false := by rw [List.any_eq_false]; intro x hx; rw [h x hx]; simp
    rw [this]; simp
  | some i =>
    have h2 : l.any q = true := by
      rw [List.findIdx?_eq_some_iff_getElem] at h
      obtain ⟨h1, h2, _⟩ := h
      exact List.any_eq_true.2 ⟨_, List.getElem_mem h1, h2⟩
    rw [h2]; simp
theorem indexFunc_int_c {h0 : H} {s : Sl} {l : List Int} (r : Rd h0 s 1 (ic l)) (hl : l.length < 4000000000000000000) (g : Nat) (cap : List AVal) (q : Int → Bool)
    (hg : ∀ x ∈ l, ∀ h, Ext h0 h → callB SP g (i64 x :: cap) h fun b h' => b = q x ∧ Ext h h') : callI SP .i64 i_slices_IndexFunc_s_int64_int64_ [.sl s, .func g cap] h0 fun n h' => n = findI q l ∧ Ext h0 h' := by
  have hlen : s.len = l.length := by have := r.len; rw [ic_len] at this; omega
  apply slices_IndexFunc_s_int64_int64__call
  unfold slices_IndexFunc_s_int64_int64__main
  refine slices_IndexFunc_s_int64_int64__rule0 _ _ s _ _ (fun i h => 0 ≤ i ∧ i ≤ l.length ∧ Ext h0 h ∧ ∀ j y, j < i.toNat → l[j]? = some y → q y = false) (fun i _ => (l.length - i).toNat) ?_ _ ⟨by omega, by omega, Ext.refl _, fun j y hj => by omega⟩
  intro X i h ⟨i0, i1, hx, hn⟩ hX
  unfold slices_IndexFunc_s_int64_int64__b0
  refine bif_dec (fun hi => ?_) (fun hi => ?_)
  · refine (r.ext hx).ldI i0 (by omega) fun x hxe => via_func ?_
    refine (hg x (List.mem_of_getElem? hxe) h hx).to ?_
    rintro _ h' ⟨rfl, hx'⟩
    refine bif_b (fun hq => ?_) (fun hq => ?_)
    · refine ⟨i, rfl, ?_, hx.trans hx'⟩
      rw [findI_hit hxe hq hn]; omega
    · rw [w64_of (by omega) (by omega)]
      refine hX _ _ ⟨by omega, by omega, hx.trans hx', fun j y hj hy => ?_⟩ (by omega)
      by_cases hji : j = i.toNat
      · subst hji; rw [hxe] at hy; cases hy; exact hq
      · exact hn j y (by omega) hy
  · refine ⟨_, rfl, ?_, hx⟩
    rw [findI_none]
    intro y hy
    obtain ⟨j, hj, rfl⟩ := List.mem_iff_getElem.1 hy
    exact hn j _ (by omega) (List.getElem?_eq_getElem hj)
theorem containsFunc_int_c {h0 : H} {s : Sl} {l : List Int} (r : Rd h0 s 1 (ic l)) (hl : l.length < 4000000000000000000) (g : Nat) (cap : List AVal) (q : Int → Bool)
    (hg : ∀ x ∈ l, ∀ h, Ext h0 h → callB SP g (i64 x :: cap) h fun b h' => b = q x ∧ Ext h h') : callB SP i_slices_ContainsFunc_s_int64_int64_ [.sl s, .func g cap] h0 fun b h' => b = l.any q ∧ Ext h0 h' := by
  apply slices_ContainsFunc_s_int64_int64__call
  unfold slices_ContainsFunc_s_int64_int64__main
  refine (indexFunc_int_c r hl g cap q hg).to ?_
  rintro _ h' ⟨rfl, hx⟩
  exact ⟨_, rfl, findI_ge q l, hx⟩
theorem indexFunc_tile_c {h0 : H} {s : Sl} {l : List Tile} (r : Rd h0 s 4 (tcs l)) (hl : l.length < 4000000000000000000) (g : Nat) (cap : List AVal) (q : Tile → Bool)
    (hg : ∀ x ∈ l, ∀ h, Ext h0 h → callB SP g (.agg (tc x) :: cap) h fun b h' => b = q x ∧ Ext h h') : callI SP .i64 i_slices_IndexFunc_s_impl_Tile_impl_Tile_ [.sl s, .func g cap] h0 fun n h' => n = findI q l ∧ Ext h0 h' := by
  have hlen : s.len = l.length := r.tlen
  apply slices_IndexFunc_s_impl_Tile_impl_Tile__call
  unfold slices_IndexFunc_s_impl_Tile_impl_Tile__main
  refine slices_IndexFunc_s_impl_Tile_impl_Tile__rule0 _ _ s _ _ (fun i h => 0 ≤ i ∧ i ≤ l.length ∧ Ext h0 h ∧ ∀ j y, j < i.toNat → l[j]? = some y → q y = false) (fun i _ => (l.length - i).toNat) ?_ _ ⟨by omega, by omega, Ext.refl _, fun j y hj => by omega⟩
  intro X i h ⟨i0, i1, hx, hn⟩ hX
  unfold slices_IndexFunc_s_impl_Tile_impl_Tile__b0
  refine bif_dec (fun hi => ?_) (fun hi => ?_)
  · refine (r.ext hx).ldT i0 (by omega) fun x hxe => via_func ?_
    refine (hg x (List.mem_of_getElem? hxe) h hx).to ?_
    rintro _ h' ⟨rfl, hx'⟩
    refine bif_b (fun hq => ?_) (fun hq => ?_)
    · refine ⟨i, rfl, ?_, hx.trans hx'⟩
      rw [findI_hit hxe hq hn]; omega
    · rw [w64_of (by omega) (by omega)]
      refine hX _ _ ⟨by omega, by omega, hx.trans hx', fun j y hj hy => ?_⟩ (by omega)
      by_cases hji : j = i.toNat
      · subst hji; rw [hxe] at hy; cases hy; exact hq
      · exact hn j y (by omega) hy
  · refine ⟨_, rfl, ?_, hx⟩
    rw [findI_none]
    intro y hy
    obtain ⟨j, hj, rfl⟩ := List.mem_iff_getElem.1 hy
    exact hn j _ (by omega) (List.getElem?_eq_getElem hj)
/-! ### tiles -/
theorem isTile1_w (x c : Int) (o : Nat) (h : H) (ho : h[o]? = some (.own [i64 c])) : callB SP i_impl_isTile_1 [i64 x, .ptr ⟨some o, 1, 0⟩] h fun b h' => b = (!decide (0 ≤ x ∧ x ≤ w64 (c - 1))) ∧ h' = h := by
  apply impl_isTile_1_call
  unfold impl_isTile_1_main
  refine ⟨c, by simp [ho], ?_⟩
  dsimp only
  refine (within_c _ _ _ _).to ?_
  rintro _ _ ⟨rfl, rfl⟩
  exact ⟨_, rfl, rfl, rfl⟩
theorem isTile_w (t : Tile) (c : Int) (h : H) : callB SP i_impl_isTile [.agg (tc t), i64 c] h fun b h' => b = tileok (w64 (c - 1) + 1) t ∧ Ext h h' := by
  apply impl_isTile_call
  simp only [impl_isTile_main, newK, newO]
  refine ⟨rfl, ⟨by omega, by omega, by omega⟩, rfl, rfl, ?_⟩
  refine (containsFunc_int_c (l := [t.1, t.2.1, t.2.2.1, t.2.2.2]) ⟨rfl, .inr ⟨rfl, rfl, ?_⟩⟩ (by simp) i_impl_isTile_1 _ (fun x => !decide (0 ≤ x ∧ x ≤ w64 (c - 1))) ?_).to ?_
  · simp [tc, ic]
  · intro x _ h' hx
    refine (isTile1_w x c _ h' (hx.own (by simp))).to ?_
    rintro _ _ ⟨rfl, rfl⟩
    exact ⟨rfl, Ext.refl _⟩
  · rintro _ h' ⟨rfl, l, rfl⟩
    refine ⟨_, rfl, ?_, by simp⟩
    simp [tileok, Bool.and_assoc]
theorem tcs_one (t : Tile) : tcs [t] = tc t := by simp [tcs]
theorem l01Tile_c (c : Int) (hc : i64ok (c - 1)) (t : Tile) (h : H) : callB SP i_spec_l01Tile [i64 c, .agg (tc t)] h fun b h' => b = tileok c t ∧ Ext h h' := by
  apply spec_l01Tile_call
  simp only [spec_l01Tile_main, newK]
  refine ⟨rfl, ?_⟩
  refine spec_l01Tile_rule0 _ _ _ _ (fun i h' => 0 ≤ i ∧ i ≤ 4 ∧ h' = h ++ [.own (tc t)] ∧ ∀ j y, j < i.toNat → [t.1, t.2.1, t.2.2.1, t.2.2.2][j]? = some y → 0 ≤ y ∧ y ≤ c - 1) (fun i _ => (4 - i).toNat) ?_ _ ⟨by omega, by omega, rfl, fun j y hj => by omega⟩
  rintro X i _ ⟨i0, i1, rfl, hn⟩ hX
  unfold spec_l01Tile_b0 spec_l01Tile_C0
  refine bif_dec (fun hi => ?_) (fun hi => ?_)
  · have hx : ∃ x, [t.1, t.2.1, t.2.2.1, t.2.2.2][i.toNat]? = some x := ⟨_, List.getElem?_eq_getElem (by simp; omega)⟩
    obtain ⟨x, hx⟩ := hx
    refine ⟨⟨i0, hi⟩, rfl, x, ?_, ?_⟩
    · have hg : (tc t)[i.toNat]? = some (i64 x) := by
        rw [show tc t = ic [t.1, t.2.1, t.2.2.1, t.2.2.2] from rfl]
        unfold ic
        rw [List.getElem?_map, hx]; rfl
      simp [hg, tc_len]
    · dsimp only
      rw [w64_of hc.1 hc.2, w64_of (by omega) (by omega)]
      refine (l01In_c _ _ _ _).to ?_
      rintro _ _ ⟨rfl, rfl⟩
      refine bif_not (fun hq => ?_) (fun hq => ?_)
      · refine ⟨_, rfl, ?_, by simp⟩
        rw [decide_eq_false_iff_not] at hq
        have hm := List.mem_of_getElem? hx
        simp only [List.mem_cons, List.not_mem_nil, or_false] at hm
        unfold tileok
        rcases hm with rfl | rfl | rfl | rfl <;> simp [hq]
      · refine hX _ _ ⟨by omega, by omega, rfl, fun j y hj hy => ?_⟩ (by omega)
        by_cases hji : j = i.toNat
        · subst hji; rw [hx] at hy; cases hy; exact of_decide_eq_true hq
        · exact hn j y (by omega) hy
  · refine ⟨_, rfl, ?_, by simp⟩
    unfold tileok
    have h4 : i.toNat = 4 := by omega
    rw [h4] at hn
    have a0 := hn 0 _ (by omega) rfl
    have a1 := hn 1 _ (by omega) rfl
    have a2 := hn 2 _ (by omega) rfl
    have a3 := hn 3 _ (by omega) rfl
    simp [a0, a1, a2, a3]
/-! ### TurnsOf -/
/-! ### the laws' helpers -/
def tl (t : Tile) : List Int := [t.1, t.2.1, t.2.2.1, t.2.2.2]
/-- a store into a view that is owned whole -/
theorem Ow.st1 {h : H} {s : Sl} {z : Nat} {l : List Int} (r : Ow h s z (ic l)) {i j : Int} (hz : 0 < z) (h0 : 0 ≤ i) (h1 : i < s.len) (j0 : 0 ≤ j) (j1 : j < z) (x : Int) {K : H → Prop}
    (hk : ∀ h', Ow h' s z (ic (l.set (i.toNat * z + j.toNat) x)) → But s.o h h' → h'.length = h.length → K h') : ixS s z i fun p => ixA p z 1 j fun q => Cl.st1 q (i64 x) h K := by
  obtain ⟨a, b⟩ | ⟨o, a, b, c, d, e⟩ := r.at_
  · omega
  · have hlen := r.len
    rw [ic_len] at hlen
    have hb : i.toNat * z + j.toNat < l.length := by
      have : (i.toNat + 1) * z ≤ s.len * z := Nat.mul_le_mul_right _ (by omega)
      rw [Nat.add_mul] at this; omega
    have ho : o < h.length := (List.getElem?_eq_some_iff.1 e).1
    refine ⟨⟨h0, h1⟩, b, by simp [a], ⟨j0, j1⟩, by simp [Pt.add, a], h.set o (.own (ic (l.set (i.toNat * z + j.toNat) x))), ?_, hk _ ⟨by rw [ic_len]; simpa using hlen, .inr ⟨o, a, b, c, d, by simp [List.getElem?_set, ho]⟩⟩ ?_ (by simp)⟩
    · unfold put1 owned Pt.add
      have : (ic l).set (i.toNat * z + j.toNat) (i64 x) = ic (l.set (i.toNat * z + j.toNat) x) := by unfold ic; rw [List.map_set]
      simp [a, c, d, e, ic_len, hlen, this]
      omega
    · rw [a]
      exact ⟨by simp, fun k hk hn => by rw [List.getElem?_set, if_neg (fun e => hn (by rw [e]))]⟩
attribute [local simp] newK newO ixA ldI ldA stN st1 Cl.range cell Cl.cells putN put1 owned get_app get_app0 set_app set_app0 Pt.add splice Ext.app Ext.refl cutA isPt
/-! ### comparing -/
def cmpL : List Int → List Int → Int
  | [], [] => 0
  | [], _ :: _ => -1
  | _ :: _, [] => 1
  | a :: l, b :: m => if a < b then -1 else if a > b then 1 else cmpL l m
theorem isNaN_c (x : Int) (h : H) : callB SP i_cmp_isNaN_int64_ [i64 x] h fun b h' => b = false ∧ h' = h := by
  apply cmp_isNaN_int64__call
  unfold cmp_isNaN_int64__main
  exact ⟨_, rfl, by simp, rfl⟩
theorem cmpCompare_c (x y : Int) (h : H) : callI SP .i64 i_cmp_Compare_int64_ [i64 x, i64 y] h fun n h' => n = (if x < y then -1 else if x > y then 1 else 0) ∧ h' = h := by
  apply cmp_Compare_int64__call
  unfold cmp_Compare_int64__main
  refine (isNaN_c x h).to ?_
  rintro _ _ ⟨rfl, rfl⟩
  refine (isNaN_c y _).to ?_
  rintro _ _ ⟨rfl, rfl⟩
  refine bif_dec (fun h1 => ⟨_, rfl, by simp [h1], rfl⟩) (fun h1 => bif_dec (fun h2 => ⟨_, rfl, by simp [h1, h2], rfl⟩) (fun h2 => ⟨_, rfl, by simp [h1, h2], rfl⟩))
theorem drop_cons {α : Type} {l : List α} {i : Nat} {x : α} (e : l[i]? = some x) : l.drop i = x :: l.drop (i + 1) := by
  obtain ⟨h, rfl⟩ := List.getElem?_eq_some_iff.1 e
  exact List.drop_eq_getElem_cons h
theorem sCompare_c {h0 : H} {s s' : Sl} {l l' : List Int} (r : Rd h0 s 1 (ic l)) (r' : Rd h0 s' 1 (ic l')) (hl : l.length < 4000000000000000000) : callI SP .i64 i_slices_Compare_s_int64_int64_ [.sl s, .sl s'] h0 fun n h' => n = cmpL l l' ∧ h' = h0 := by
  have hlen : s.len = l.length := by have := r.len; rw [ic_len] at this; omega
  have hlen' : s'.len = l'.length := by have := r'.len; rw [ic_len] at this; omega
  apply slices_Compare_s_int64_int64__call
  unfold slices_Compare_s_int64_int64__main
  refine slices_Compare_s_int64_int64__rule0 _ _ s s' s _ (fun i h => 0 ≤ i ∧ i ≤ l.length ∧ i ≤ l'.length ∧ h = h0 ∧ cmpL l l' = cmpL (l.drop i.toNat) (l'.drop i.toNat)) (fun i _ => (l.length - i).toNat) ?_ _ ⟨by omega, by omega, by omega, rfl, by simp⟩
  rintro X i _ ⟨i0, i1, i2, rfl, he⟩ hX
  unfold slices_Compare_s_int64_int64__b0 slices_Compare_s_int64_int64__C0
  refine bif_dec (fun hi => ?_) (fun hi => ?_)
  · refine r.ldI i0 (by omega) fun x hx => bif_dec (fun hj => ?_) (fun hj => ?_)
    · refine ⟨_, rfl, ?_, rfl⟩
      rw [he, drop_cons hx, List.drop_eq_nil_of_le (show l'.length ≤ i.toNat by omega)]; rfl
    · refine r'.ldI i0 (by omega) fun y hy => ?_
      refine (cmpCompare_c x y _).to ?_
      rintro _ _ ⟨rfl, rfl⟩
      rw [drop_cons hx, drop_cons hy, cmpL] at he
      refine bif_ne (fun hq => ⟨_, rfl, ?_, rfl⟩) (fun hq => ?_)
      · rw [he]
        split
        · rfl
        · split
          · rfl
          · next h1 h2 => simp [h1, h2] at hq
      · rw [w64_of (by omega) (by omega)]
        refine hX _ _ ⟨by omega, by omega, by omega, rfl, ?_⟩ (by omega)
        rw [he, show (i + 1).toNat = i.toNat + 1 by omega]
        split
        · next h1 => simp [h1] at hq
        · split
          · next h1 h2 => simp [h1, h2] at hq
          · rfl
  · have e1 : l.drop i.toNat = [] := List.drop_eq_nil_of_le (by omega)
    refine bif_dec (fun hj => ⟨_, rfl, ?_, rfl⟩) (fun hj => ⟨_, rfl, ?_, rfl⟩)
    · have hy : l'[i.toNat]? = some _ := List.getElem?_eq_getElem (by omega)
      rw [he, e1, drop_cons hy]; rfl
    · rw [he, e1, List.drop_eq_nil_of_le (show l'.length ≤ i.toNat by omega)]; rfl
def cmpT (a b : Tile) : Int := cmpL (tl a) (tl b)
theorem compare_c (a b : Tile) (h : H) : callI SP .i64 i_impl_compare [.agg (tc a), .agg (tc b)] h fun n h' => n = cmpT a b ∧ Ext h h' := by
  apply impl_compare_call
  simp only [impl_compare_main, newK]
  refine ⟨rfl, rfl, ⟨by omega, by omega, by omega⟩, rfl, rfl, ⟨by omega, by omega, by omega⟩, rfl, rfl, ?_⟩
  refine (sCompare_c (l := tl a) (l' := tl b) ⟨rfl, .inr ⟨rfl, rfl, ?_⟩⟩ ⟨rfl, .inr ⟨rfl, rfl, ?_⟩⟩ (by simp [tl])).to ?_
  · simp [tc, tl, ic]
  · simp [tc, tl, ic]
  · rintro _ _ ⟨rfl, rfl⟩
    exact ⟨_, rfl, rfl, by simp⟩
theorem l01Before_c (a b : Tile) (h : H) : callB SP i_spec_l01Before [.agg (tc a), .agg (tc b)] h fun r h' => r = decide (cmpT a b < 0) ∧ Ext h h' := by
  apply spec_l01Before_call
  simp only [spec_l01Before_main, newK]
  refine ⟨rfl, rfl, ?_⟩
  refine spec_l01Before_rule0 _ _ _ _ (fun i h' => 0 ≤ i ∧ i ≤ 4 ∧ h' = h ++ [.own (tc a)] ++ [.own (tc b)] ∧ cmpT a b = cmpL ((tl a).drop i.toNat) ((tl b).drop i.toNat)) (fun i _ => (4 - i).toNat) ?_ _ ⟨by omega, by omega, rfl, by simp [cmpT]⟩
  rintro X i _ ⟨i0, i1, rfl, he⟩ hX
  unfold spec_l01Before_b0 spec_l01Before_C0
  refine bif_dec (fun hi => ?_) (fun hi => ?_)
  · have hx : (tl a)[i.toNat]? = some _ := List.getElem?_eq_getElem (by simp [tl]; omega)
    have hy : (tl b)[i.toNat]? = some _ := List.getElem?_eq_getElem (by simp [tl]; omega)
    rw [drop_cons hx, drop_cons hy, cmpL] at he
    have gx := ic_at hx
    have gy := ic_at hy
    refine ixA_ldI (cs := tc a) (by simp) rfl i0 hi gx (ixA_ldI (cs := tc b) (by simp) rfl i0 hi gy (bif_ne (fun hq => ?_) (fun hq => ?_)))
    · refine ixA_ldI (cs := tc a) (by simp) rfl i0 hi gx (ixA_ldI (cs := tc b) (by simp) rfl i0 hi gy ⟨_, rfl, ?_, by simp⟩)
      rw [he]
      by_cases h1 : (tl a)[i.toNat]'(by simp [tl]; omega) < (tl b)[i.toNat]'(by simp [tl]; omega)
      · simp [h1]
      · have h2 : (tl a)[i.toNat]'(by simp [tl]; omega) > (tl b)[i.toNat]'(by simp [tl]; omega) := by omega
        simp [h1, h2]
    · rw [w64_of (by omega) (by omega)]
      refine hX _ _ ⟨by omega, by omega, rfl, ?_⟩ (by omega)
      rw [he, if_neg (by omega), if_neg (by omega), show (i + 1).toNat = i.toNat + 1 by omega]
  · refine ⟨_, rfl, ?_, by simp⟩
    rw [he, List.drop_eq_nil_of_le (by simp [tl]; omega), List.drop_eq_nil_of_le (by simp [tl]; omega)]
    rfl
/-- a store of one cell into a view that is owned whole -/
theorem Ow.stC {h : H} {s : Sl} {cs : List AVal} (r : Ow h s 1 cs) {i : Int} (h0 : 0 ≤ i) (h1 : i < s.len) (v : AVal) {K : H → Prop}
    (hk : ∀ h', Ow h' s 1 (cs.set i.toNat v) → But s.o h h' → h'.length = h.length → K h') : ixS s 1 i fun p => Cl.st1 p v h K := by
  obtain ⟨a, b⟩ | ⟨o, a, b, c, d, e⟩ := r.at_
  · omega
  · have hlen := r.len
    have ho : o < h.length := (List.getElem?_eq_some_iff.1 e).1
    refine ⟨⟨h0, h1⟩, b, by simp [a], h.set o (.own (cs.set i.toNat v)), ?_, hk _ ⟨by simpa using hlen, .inr ⟨o, a, b, c, d, by simp [List.getElem?_set, ho]⟩⟩ ?_ (by simp)⟩
    · unfold put1 owned
      simp [a, c, d, e, hlen]
      omega
    · rw [a]
      exact ⟨by simp, fun k hk hn => by rw [List.getElem?_set, if_neg (fun e => hn (by rw [e]))]⟩
theorem Ow.stI {h : H} {s : Sl} {l : List Int} (r : Ow h s 1 (ic l)) {i : Int} (h0 : 0 ≤ i) (h1 : i < s.len) (x : Int) {K : H → Prop}
    (hk : ∀ h', Ow h' s 1 (ic (l.set i.toNat x)) → But s.o h h' → h'.length = h.length → K h') : ixS s 1 i fun p => Cl.st1 p (.int .i64 x) h K :=
  r.stC h0 h1 _ fun h' o b n => hk h' (by
    have : (ic l).set i.toNat (i64 x) = ic (l.set i.toNat x) := by unfold ic; rw [List.map_set]
    rw [← this]; exact o) b n
/-- a store of an element of several cells into a view that is owned whole -/
theorem Ow.stA {h : H} {s : Sl} {z : Nat} {cs : List AVal} (r : Ow h s z cs) {i : Int} (h0 : 0 ≤ i) (h1 : i < s.len) (vs : List AVal) (hv : vs.length = z) {K : H → Prop}
    (hk : ∀ h', Ow h' s z (splice cs (i.toNat * z) vs) → But s.o h h' → h'.length = h.length → K h') : ixS s z i fun p => Cl.stN p z vs h K := by
  obtain ⟨a, b⟩ | ⟨o, a, b, c, d, e⟩ := r.at_
  · omega
  · have hlen := r.len
    have ho : o < h.length := (List.getElem?_eq_some_iff.1 e).1
    have hb : i.toNat * z + z ≤ s.len * z := by
      have : (i.toNat + 1) * z ≤ s.len * z := Nat.mul_le_mul_right _ (by omega)
      rw [Nat.add_mul] at this; omega
    have hsl : (splice cs (i.toNat * z) vs).length = s.len * z := by
      unfold splice
      rw [List.length_append, List.length_append, List.length_take, List.length_drop, hlen, hv]; omega
    refine ⟨⟨h0, h1⟩, b, by simp [a], h.set o (.own (splice cs (i.toNat * z) vs)), hv, ?_, hk _ ⟨hsl, .inr ⟨o, a, b, c, d, by simp [List.getElem?_set, ho]⟩⟩ ?_ (by simp)⟩
    · unfold putN owned
      simp [a, c, d, e, hlen, hv]
      omega
    · rw [a]
      exact ⟨by simp, fun k hk hn => by rw [List.getElem?_set, if_neg (fun e => hn (by rw [e]))]⟩
theorem tcs_set : ∀ (l : List Tile) (i : Nat) (t : Tile), i < l.length → splice (tcs l) (i * 4) (tc t) = tcs (l.set i t)
  | [], i, t, h => by simp at h
  | a :: l, 0, t, h => by
    unfold splice
    simp [tcs_cons, tc]
  | a :: l, i + 1, t, h => by
    have ih := tcs_set l i t (by simpa using h)
    rw [List.set_cons_succ, tcs_cons, tcs_cons, ← ih]
    unfold splice
    rw [show (i + 1) * 4 = (tc a).length + i * 4 by rw [tc_len]; omega, show (tc a).length + i * 4 + (tc t).length = (tc a).length + (i * 4 + (tc t).length) by omega]
    rw [List.take_length_add_append, List.drop_length_add_append]
    simp
end Go.Proofs.Ytlcgclmobfdbcaa.Cl

/- Contracts of the laws' helpers for sets and for slices of slices, and of the functions that tell sets. No claim is stated here. -/
set_option linter.unusedVariables false
set_option linter.unusedSimpArgs false
namespace Go.Proofs.Ytlcgclmobfdbcaa.Cl
open Go
/-! ### sets -/
/-- The cells of a set. -/
def SetC (c : Int) (s : Sl) : List AVal := [i64 c, .sl s]
/-! ### slices of integers and of slices -/
/-- All lengths of a slice of slices, and its own. -/
def sumLen (ls : List (List Int)) : Nat := (ls.map List.length).sum
theorem NewSS.top {n : Nat} {hx h0 : H} {s : Sl} {ls : List (List Int)} (r : NewSS n hx s ls) {Q : Nat → Prop} (c : Chg Q hx h0) (hq : ∀ o, n ≤ o → ¬ Q o) (vs : List Sl) (hv : Ow h0 s 1 (vs.map .sl)) : ∀ v ∈ vs, ∀ o, v.o = some o → n ≤ o ∧ o < hx.length := by
  obtain ⟨us, h1, h2, h3, h4, _⟩ := r
  have hu := h2.chg c fun o e => hq o (h3 o e)
  have hq : vs = us := by
    have a := hu.rd.sread (by omega)
    have b := hv.rd.sread (by omega)
    rw [a] at b
    have : us.map AVal.sl = vs.map AVal.sl := Option.some.inj b
    exact (List.map_inj_right (fun a b e => by simpa using e) |>.1 this).symm
  subst hq
  intro v hm o e
  obtain ⟨i, hi⟩ := List.getElem?_of_mem hm
  obtain ⟨l, hl⟩ := mem_idx h1 hi
  obtain ⟨p, q⟩ := h4 i v l hi hl
  exact ⟨q o e, p.lt e⟩
end Go.Proofs.Ytlcgclmobfdbcaa.Cl

/- Contracts of the functions that tell sets, rows of numbers of tiles, fillings, cylinders and tori. No claim is stated here. -/
set_option linter.unusedVariables false
set_option linter.unusedSimpArgs false
namespace Go.Proofs.Ytlcgclmobfdbcaa.Cl
open Go
/-! ### reading, by place -/
def sd (t : Tile) : Nat → Int | 0 => t.1 | 1 => t.2.1 | 2 => t.2.2.1 | _ => t.2.2.2
def tat (ts : List Tile) (n : Int) : Tile := ts.getD n.toNat (0, 0, 0, 0)
theorem tat_at {ts : List Tile} {n : Int} {t : Tile} (h : ts[n.toNat]? = some t) : tat ts n = t := by unfold tat; rw [List.getD_eq_getElem?_getD, h]; rfl
theorem at_tat {ts : List Tile} {n : Int} (h1 : n.toNat < ts.length) : ts[n.toNat]? = some (tat ts n) := by unfold tat; rw [List.getD_eq_getElem?_getD, List.getElem?_eq_getElem h1]; rfl
theorem tc_sd (t : Tile) {k : Nat} (hk : k < 4) : (tc t)[k]? = some (i64 (sd t k)) := by
  match k with
  | 0 => rfl
  | 1 => rfl
  | 2 => rfl
  | 3 => rfl
theorem Rd.sideG {h : H} {s : Sl} {ts : List Tile} (r : Rd h s 4 (tcs ts)) {n k : Int} (h0 : 0 ≤ n) (h1 : n < ts.length) (k0 : 0 ≤ k) (k1 : k < 4) {K : Int → Prop} (hk : K (sd (tat ts n) k.toNat)) : ixS s 4 n fun p => ixA p 4 1 k fun q => Cl.ldI .i64 q h K := by
  have hl := r.tlen
  refine r.ix h0 (by omega) fun p po pr => ⟨⟨k0, by omega⟩, po, _, ?_, hk⟩
  have := cell_of_range pr (i := k.toNat) (by omega)
  rw [Pt.add, Nat.mul_one, this, tcs_at ts n.toNat _ (at_tat (by omega)), tc_sd _ (by omega)]
theorem Rd.tileG {h : H} {s : Sl} {ts : List Tile} (r : Rd h s 4 (tcs ts)) {n : Int} (h0 : 0 ≤ n) (h1 : n < ts.length) {K : List AVal → Prop} (hk : K (tc (tat ts n))) : ixS s 4 n fun p => Cl.ldA p 4 h K :=
  r.ldT h0 h1 fun t ht => by rw [← tat_at ht]; exact hk
theorem Ext.rangeE {h h' : H} (x : Ext h h') {o n off k cs} (e : Cl.range h o n off k = some cs) : Cl.range h' o n off k = Cl.range h o n off k := by rw [x.range e, e]
theorem Obj.sdI {h : H} {o : Nat} {t : Tile} (x : Obj h o (tc t)) {k : Int} (k0 : 0 ≤ k) (k1 : k < 4) {K : Int → Prop} (hk : K (sd t k.toNat)) : ixA ⟨some o, 4, 0⟩ 4 1 k fun p => Cl.ldI .i64 p h K :=
  ixA_ldI x rfl k0 (by omega) (tc_sd t (by omega)) hk
def rw_ (rows : List (List Int)) (y : Nat) : List Int := rows.getD y []
def G (rows : List (List Int)) (y x : Nat) : Int := (rw_ rows y).getD x 0
theorem rw_at {rows : List (List Int)} {y : Nat} {l : List Int} (h : rows[y]? = some l) : rw_ rows y = l := by unfold rw_; rw [List.getD_eq_getElem?_getD, h]; rfl
theorem at_rw {rows : List (List Int)} {y : Nat} (h : y < rows.length) : rows[y]? = some (rw_ rows y) := by unfold rw_; rw [List.getD_eq_getElem?_getD, List.getElem?_eq_getElem h]; rfl
theorem within_k {a b c : Int} {h : H} {K : Bool → H → Prop} (hk : K (decide (b ≤ a ∧ a ≤ c)) h) : callB SP i_impl_within [i64 a, i64 b, i64 c] h K :=
  (within_c a b c h).to (by rintro _ _ ⟨rfl, rfl⟩; exact hk)
theorem l01In_k {a b c : Int} {h : H} {K : Bool → H → Prop} (hk : K (decide (b ≤ a ∧ a ≤ c)) h) : callB SP i_spec_l01In [i64 a, i64 b, i64 c] h K :=
  (l01In_c a b c h).to (by rintro _ _ ⟨rfl, rfl⟩; exact hk)
/-! ### sets -/
def Qset (c : Int) (ts : List Tile) (j : Nat) : Prop := tileok c (tat ts j) = true ∧ (0 < j → cmpT (tat ts ((j : Int) - 1)) (tat ts j) < 0)
def setOK (c : Int) (ts : List Tile) : Prop := (1 ≤ c ∧ c ≤ 6) ∧ ts.length ≤ 16 ∧ ∀ j, j < ts.length → Qset c ts j
theorem l01Is_c {h0 : H} {c : Int} {s : Sl} {ts : List Tile} (r : Rd h0 s 4 (tcs ts)) : callB SP i_spec_l01Is [.agg (SetC c s)] h0 fun b h' => (b = true ↔ setOK c ts) ∧ Ext h0 h' := by
  have hl := r.tlen
  apply spec_l01Is_call
  unfold spec_l01Is_main
  refine newK_obj fun h1 o1 x1 n1 => ?_
  refine isPt_in (o1.ldI rfl rfl ?_)
  refine l01In_k ?_
  refine bif_not (fun hc => ⟨_, rfl, ?_, x1⟩) (fun hc => ?_)
  · simp only [Bool.false_eq_true, false_iff]
    intro hs
    simp at hc
    have := hs.1; omega
  have hc' : 1 ≤ c ∧ c ≤ 6 := by simpa using hc
  refine isPt_in (o1.ldS rfl rfl ?_)
  refine bif_dec (fun hq => ⟨_, rfl, ?_, x1⟩) (fun hq => ?_)
  · simp only [Bool.false_eq_true, false_iff]
    intro hs
    have := hs.2.1; omega
  refine spec_l01Is_rule0 _ _ _ (fun i h => 0 ≤ i ∧ i ≤ ts.length ∧ Ext h1 h ∧ ∀ j, j < i.toNat → Qset c ts j) (fun i _ => (ts.length - i).toNat) ?_ _ ⟨by omega, by omega, Ext.refl _, fun j hj => by omega⟩
  rintro X i h ⟨i0, i1, x, hj⟩ hX
  unfold spec_l01Is_b0 spec_l01Is_C0
  have o := o1.ext x
  refine isPt_in (o.ldS rfl rfl ?_)
  have no : ∀ {h'}, Ext h h' → ¬ Qset c ts i.toNat → i < ts.length → ∃ b, AVal.bool false = .bool b ∧ (b = true ↔ setOK c ts) ∧ Ext h0 h' := fun {h'} x' hn hi =>
    ⟨_, rfl, by simp only [Bool.false_eq_true, false_iff]; exact fun hs => hn (hs.2.2 _ (by omega)), (x1.trans x).trans x'⟩
  refine bif_dec (fun hi => ?_) (fun hi => ?_)
  · refine isPt_in (o.ldI rfl rfl ?_)
    refine isPt_in (o.ldS rfl rfl ?_)
    have hn : ((i.toNat : Nat) : Int) = i := by omega
    refine (r.ext (x1.trans x)).tileG i0 (by omega) ?_
    refine (l01Tile_c c ⟨by omega, by omega⟩ (tat ts i) h).to ?_
    rintro _ h2 ⟨rfl, x2⟩
    refine bif_not (fun hq => no x2 (fun q => ?_) (by omega)) (fun hq => ?_)
    · have := q.1; rw [hn, hq] at this; cases this
    refine bif_dec (fun hp => ?_) (fun hp => ?_)
    · have o2 := o.ext x2
      have r2 := r.ext ((x1.trans x).trans x2)
      refine isPt_in (o2.ldS rfl rfl ?_)
      rw [w64_of (by omega) (by omega)]
      refine r2.tileG (by omega) (by omega) ?_
      refine isPt_in (o2.ldS rfl rfl ?_)
      refine r2.tileG i0 (by omega) ?_
      refine (l01Before_c _ _ _).to ?_
      rintro _ h3 ⟨rfl, x3⟩
      refine bif_not (fun hb => no (x2.trans x3) (fun q => ?_) (by omega)) (fun hb => ?_)
      · have := q.2 (by omega); rw [hn] at this; simp at hb; omega
      · rw [w64_of (by omega) (by omega)]
        refine hX _ _ ⟨by omega, by omega, (x.trans x2).trans x3, fun j hjj => ?_⟩ (by omega)
        by_cases e : j = i.toNat
        · subst e; refine ⟨by rw [hn]; exact hq, fun _ => ?_⟩; rw [hn]; simpa using hb
        · exact hj j (by omega)
    · rw [w64_of (by omega) (by omega)]
      refine hX _ _ ⟨by omega, by omega, x.trans x2, fun j hjj => ?_⟩ (by omega)
      by_cases e : j = i.toNat
      · subst e; exact ⟨by rw [hn]; exact hq, fun h => by omega⟩
      · exact hj j (by omega)
  · exact ⟨_, rfl, ⟨fun _ => ⟨hc', by omega, fun j hjj => hj j (by omega)⟩, fun _ => rfl⟩, x1.trans x⟩
theorem IsSet_c {h0 : H} {c : Int} {s : Sl} {ts : List Tile} (r : Rd h0 s 4 (tcs ts)) (hbig : ts.length < 4000000000000000000) : callB SP i_impl_IsSet [.agg (SetC c s)] h0 fun b h' => (b = true ↔ setOK c ts) ∧ Ext h0 h' := by
  have hl := r.tlen
  apply impl_IsSet_call
  unfold impl_IsSet_main
  refine newK_obj fun h1 o1 x1 n1 => ?_
  refine isPt_in (o1.ldS rfl rfl ?_)
  have hw : 1 ≤ c ∧ c ≤ 6 → w64 (c - 1) + 1 = c := fun hc => by rw [w64_of (by omega) (by omega)]; omega
  refine impl_IsSet_rule0 _ _ _ _ _ (fun i h => 0 ≤ i ∧ i ≤ ts.length ∧ Ext h1 h ∧ (1 ≤ c ∧ c ≤ 6 → ∀ j, j < i.toNat → Qset c ts j)) (fun i _ => (ts.length - i).toNat) ?_ _ ⟨by omega, by omega, Ext.refl _, fun _ j hj => by omega⟩
  rintro X i h ⟨i0, i1, x, hj⟩ hX
  unfold impl_IsSet_b0 impl_IsSet_C0
  have o := o1.ext x
  have no : ∀ {h'}, Ext h h' → (1 ≤ c ∧ c ≤ 6 → ¬ Qset c ts i.toNat) → i < ts.length → ∃ b, AVal.bool false = .bool b ∧ (b = true ↔ setOK c ts) ∧ Ext h0 h' := fun {h'} x' hn hi =>
    ⟨_, rfl, by simp only [Bool.false_eq_true, false_iff]; exact fun hs => hn hs.1 (hs.2.2 _ (by omega)), (x1.trans x).trans x'⟩
  refine bif_dec (fun hi => ?_) (fun hi => ?_)
  · have hn : ((i.toNat : Nat) : Int) = i := by omega
    refine (r.ext (x1.trans x)).tileG i0 (by omega) ?_
    refine newO_obj fun h2 o2 x2 n2 => ?_
    refine o2.stA fun h3 o3 b3 n3 => ?_
    have x3 : Ext h h3 := x2.but_ b3 (some_le (Nat.le_refl _))
    refine o3.ldA rfl ?_
    refine isPt_in ((o.ext x3).ldI rfl rfl ?_)
    refine (isTile_w (tat ts i) c h3).to ?_
    rintro _ h4 ⟨rfl, x4⟩
    refine bif_not (fun hq => no (x3.trans x4) (fun hc q => ?_) (by omega)) (fun hq => ?_)
    · have := q.1; rw [hn] at this; rw [hw hc, this] at hq; cases hq
    refine bif_dec (fun hp => ?_) (fun hp => ?_)
    · have o4 := o.ext (x3.trans x4)
      have r4 := r.ext ((x1.trans x).trans (x3.trans x4))
      refine isPt_in (o4.ldS rfl rfl ?_)
      rw [w64_of (n := i - 1) (by omega) (by omega)]
      refine r4.tileG (by omega) (by omega) ?_
      refine (o3.ext x4).ldA rfl ?_
      refine (compare_c _ _ _).to ?_
      rintro _ h5 ⟨rfl, x5⟩
      refine bif_dec (fun hb => no ((x3.trans x4).trans x5) (fun hc q => ?_) (by omega)) (fun hb => ?_)
      · have := q.2 (by omega); rw [hn] at this; omega
      · rw [w64_of (n := i + 1) (by omega) (by omega)]
        refine hX _ _ ⟨by omega, by omega, x.trans ((x3.trans x4).trans x5), fun hc j hjj => ?_⟩ (by omega)
        by_cases e : j = i.toNat
        · subst e; refine ⟨by rw [hn, ← hw hc]; exact hq, fun _ => ?_⟩; rw [hn]; omega
        · exact hj hc j (by omega)
    · rw [w64_of (n := i + 1) (by omega) (by omega)]
      refine hX _ _ ⟨by omega, by omega, x.trans (x3.trans x4), fun hc j hjj => ?_⟩ (by omega)
      by_cases e : j = i.toNat
      · subst e; exact ⟨by rw [hn, ← hw hc]; exact hq, fun h => by omega⟩
      · exact hj hc j (by omega)
  · refine isPt_in (o.ldI rfl rfl ?_)
    refine within_k ?_
    refine bif_dec (fun hc => ?_) (fun hc => ⟨_, rfl, ?_, x1.trans x⟩)
    · refine isPt_in (o.ldS rfl rfl ⟨_, rfl, ?_, x1.trans x⟩)
      rw [decide_eq_true_eq]
      exact ⟨fun hs => ⟨hc, by omega, fun j hjj => hj hc j (by omega)⟩, fun hs => by have := hs.2.1; omega⟩
    · simp only [Bool.false_eq_true, false_iff]
      exact fun hs => hc hs.1
/-! ### codes -/
open Classical in
noncomputable def bP (A : Prop) : Bool := decide A
theorem bP_iff (A : Prop) : bP A = true ↔ A := by unfold bP; simp
theorem bP_of {b : Bool} {A : Prop} (h : b = true ↔ A) : b = bP A := by rw [Bool.eq_iff_iff, h, bP_iff]
open Classical in
noncomputable def codeOf (A B : Prop) : Int := if A then (if B then 0 else 2) else 1
theorem codeOf_no {A B : Prop} (h : ¬ A) : codeOf A B = 1 := by unfold codeOf; rw [if_neg h]
theorem codeOf_range {A B : Prop} (h : A) (h2 : ¬ B) : codeOf A B = 2 := by unfold codeOf; rw [if_pos h, if_neg h2]
theorem codeOf_yes {A B : Prop} (h : A) (h2 : B) : codeOf A B = 0 := by unfold codeOf; rw [if_pos h, if_pos h2]
theorem codeOf_zero {A B : Prop} (h : codeOf A B = 0) : A ∧ B := by
  unfold codeOf at h
  split at h
  · split at h
    · exact ⟨by assumption, by assumption⟩
    · cases h
  · cases h
theorem setCode_c {h0 : H} {c : Int} {s : Sl} {ts : List Tile} (r : Rd h0 s 4 (tcs ts)) (hbig : ts.length < 4000000000000000000) (g : Nat) (cap : List AVal) (Q : Prop)
    (hg : setOK c ts → ∀ h, Ext h0 h → callB SP g cap h fun b h' => (b = true ↔ Q) ∧ Ext h h') : callI SP .i64 i_impl_setCode [.agg (SetC c s), .func g cap] h0 fun n h' => n = codeOf (setOK c ts) Q ∧ Ext h0 h' := by
  apply impl_setCode_call
  unfold impl_setCode_main
  refine newK_obj fun h1 o1 x1 n1 => ?_
  refine o1.ldA rfl ?_
  refine (IsSet_c (r.ext x1) hbig).to ?_
  rintro b h2 ⟨hb, x2⟩
  refine bif_not (fun hq => ⟨_, rfl, (codeOf_no fun hs => ?_).symm, x1.trans x2⟩) (fun hq => ?_)
  · rw [hb.2 hs] at hq; cases hq
  have hs := hb.1 hq
  refine via_func ?_
  rw [List.nil_append]
  refine (hg hs h2 (x1.trans x2)).to ?_
  rintro b h3 ⟨hb3, x3⟩
  refine bif_not (fun hq => ⟨_, rfl, (codeOf_range hs fun q => ?_).symm, (x1.trans x2).trans x3⟩) (fun hq => ⟨_, rfl, (codeOf_yes hs (hb3.1 hq)).symm, (x1.trans x2).trans x3⟩)
  rw [hb3.2 q] at hq; cases hq
/-! ### rows of numbers -/
/-- All sides of the tiles are colours. -/
def TS (c : Int) (ts : List Tile) : Prop := 1 ≤ c ∧ ∀ t ∈ ts, ∀ k, k < 4 → 0 ≤ sd t k ∧ sd t k < c
theorem setOK.ts {c : Int} {ts : List Tile} (h : setOK c ts) : TS c ts := by
  refine ⟨h.1.1, fun t ht k hk => ?_⟩
  obtain ⟨i, hi, rfl⟩ := List.getElem_of_mem ht
  have := (h.2.2 i hi).1
  rw [tat_at (n := (i : Int)) (t := ts[i]) (by rw [Int.toNat_natCast]; exact List.getElem?_eq_getElem hi)] at this
  unfold tileok at this
  simp only [Bool.and_eq_true, decide_eq_true_eq] at this
  match k, hk with
  | 0, _ => show 0 ≤ ts[i].1 ∧ ts[i].1 < c; omega
  | 1, _ => show 0 ≤ ts[i].2.1 ∧ ts[i].2.1 < c; omega
  | 2, _ => show 0 ≤ ts[i].2.2.1 ∧ ts[i].2.2.1 < c; omega
  | 3, _ => show 0 ≤ ts[i].2.2.2 ∧ ts[i].2.2.2 < c; omega
end Go.Proofs.Ytlcgclmobfdbcaa.Cl

/- Stacked pairs: the program's walk. No claim is stated here. -/
set_option linter.unusedVariables false
set_option linter.unusedSimpArgs false
namespace Go.Proofs.Ytlcgclmobfdbcaa.Cl
open Go
theorem push_tc {h : H} {s : Sl} {l : List Tile} {t : Tile} (r : Ow h s 4 (tcs l)) (hl : (l.length : Int) + 1 ≤ lim) {K : Sl → H → Prop}
    (hk : ∀ s' h', Ow h' s' 4 (tcs (l ++ [t])) → But s.o h h' → (∀ o, s'.o = some o → s.o = some o ∨ h.length ≤ o) → h.length ≤ h'.length → K s' h') : newS 1 4 (tc t) h fun x h1 => app s x 4 h1 K := by
  refine newS_ow (by rfl) fun x h1 ot tl to e1 => ?_
  have e1' : Ext h h1 := by rw [e1]; exact Ext.app _ _
  have hln := e1'.len
  have hsl := r.rd.tlen
  refine app_ow (by omega) (r.ext e1') ot.rd (by rw [tl, hsl]; exact_mod_cast hl) fun s' h' o' ln b k1 k2 => hk s' h' (by rw [tcs_app]; simpa [tcs] using o') ((e1'.but _).trans b) (fun o e => ?_) (Nat.le_trans hln b.1)
  cases hq : s.o with
  | none => have := k2 hq o e; exact .inr (by omega)
  | some p => rw [k1 p hq] at e; exact .inl e
theorem Fr.push {n : Nat} {s s' : Sl} {h : H} (f : Fr n s) (hn : n ≤ h.length) (hs : ∀ o, s'.o = some o → s.o = some o ∨ h.length ≤ o) : Fr n s' := fun o e => by
  rcases hs o e with h1 | h1
  · exact f o h1
  · omega
/-! ### stacked pairs, by the numbers of their tiles -/
section
variable {h0 : H} {s t : Sl} {S T : List Tile}
end
end Go.Proofs.Ytlcgclmobfdbcaa.Cl

/- Orders, lists without repetition in order: plain. No claim is stated here. -/
set_option linter.unusedVariables false
set_option linter.unusedSimpArgs false
namespace Go.Proofs.Ytlcgclmobfdbcaa.Cl
open Go
/-- a strict total order -/
structure STO {α : Type} (lt : α → α → Prop) : Prop where
  irr : ∀ a, ¬ lt a a
  trans : ∀ a b c, lt a b → lt b c → lt a c
  tri : ∀ a b, a ≠ b → lt a b ∨ lt b a
theorem STO.asym {α : Type} {lt : α → α → Prop} (o : STO lt) {a b : α} (h : lt a b) : ¬ lt b a := fun h2 => o.irr a (o.trans _ _ _ h h2)
theorem srt_unique {α : Type} {lt : α → α → Prop} (o : STO lt) : ∀ {l m : List α}, l.Pairwise lt → m.Pairwise lt → (∀ x, x ∈ l ↔ x ∈ m) → l = m
  | [], [], _, _, _ => rfl
  | [], b :: m, _, _, h => by have := (h b).2 (by simp); cases this
  | a :: l, [], _, _, h => by have := (h a).1 (by simp); cases this
  | a :: l, b :: m, hl, hm, h => by
    have h1 := List.pairwise_cons.1 hl
    have h2 := List.pairwise_cons.1 hm
    have hab : a = b := Classical.byContradiction fun hne => by
      rcases o.tri a b hne with h3 | h3
      · have := (h a).1 (by simp)
        rcases List.mem_cons.1 this with h4 | h4
        · exact hne h4
        · exact o.asym h3 (h2.1 a h4)
      · have := (h b).2 (by simp)
        rcases List.mem_cons.1 this with h4 | h4
        · exact hne h4.symm
        · exact o.asym h3 (h1.1 b h4)
    subst hab
    congr 1
    refine srt_unique o h1.2 h2.2 fun x => ⟨fun hx => ?_, fun hx => ?_⟩
    · rcases List.mem_cons.1 ((h x).1 (by simp [hx])) with h4 | h4
      · subst h4; exact absurd (h1.1 x hx) (o.irr x)
      · exact h4
    · rcases List.mem_cons.1 ((h x).2 (by simp [hx])) with h4 | h4
      · subst h4; exact absurd (h2.1 x hx) (o.irr x)
      · exact h4
open Classical in
noncomputable def insD {α : Type} (lt : α → α → Prop) (x : α) : List α → List α
  | [] => [x]
  | y :: l => if x = y then y :: l else if lt x y then x :: y :: l else y :: insD lt x l
theorem mem_insD {α : Type} {lt : α → α → Prop} {x z : α} : ∀ {l : List α}, z ∈ insD lt x l ↔ z = x ∨ z ∈ l
  | [] => by simp [insD]
  | y :: l => by
    unfold insD
    split
    · next h => subst h; simp
    · split
      · simp
      · simp only [List.mem_cons, mem_insD (l := l)]
        constructor
        · rintro (h | h | h)
          · exact .inr (.inl h)
          · exact .inl h
          · exact .inr (.inr h)
        · rintro (h | h | h)
          · exact .inr (.inl h)
          · exact .inl h
          · exact .inr (.inr h)
theorem pw_insD {α : Type} {lt : α → α → Prop} (o : STO lt) {x : α} : ∀ {l : List α}, l.Pairwise lt → (insD lt x l).Pairwise lt
  | [], _ => by simp [insD]
  | y :: l, h => by
    have h1 := List.pairwise_cons.1 h
    unfold insD
    split
    · exact h
    · next hne =>
      split
      · next hlt =>
        refine List.pairwise_cons.2 ⟨fun z hz => ?_, h⟩
        rcases List.mem_cons.1 hz with rfl | hz
        · exact hlt
        · exact o.trans _ _ _ hlt (h1.1 z hz)
      · next hnl =>
        refine List.pairwise_cons.2 ⟨fun z hz => ?_, pw_insD o h1.2⟩
        rcases mem_insD.1 hz with rfl | hz
        · exact (o.tri _ _ hne).resolve_left hnl
        · exact h1.1 z hz
noncomputable def dsort {α : Type} (lt : α → α → Prop) (l : List α) : List α := l.foldr (insD lt) []
theorem mem_dsort {α : Type} {lt : α → α → Prop} {z : α} : ∀ {l : List α}, z ∈ dsort lt l ↔ z ∈ l
  | [] => by simp [dsort]
  | x :: l => by
    show z ∈ insD lt x (dsort lt l) ↔ _
    rw [mem_insD, mem_dsort, List.mem_cons]
theorem pw_dsort {α : Type} {lt : α → α → Prop} (o : STO lt) : ∀ (l : List α), (dsort lt l).Pairwise lt
  | [] => by simp [dsort]
  | x :: l => pw_insD o (pw_dsort o l)
theorem dsort_eq {α : Type} {lt : α → α → Prop} (o : STO lt) {l m : List α} (hm : m.Pairwise lt) (h : ∀ x, x ∈ m ↔ x ∈ l) : m = dsort lt l :=
  srt_unique o hm (pw_dsort o l) fun x => by rw [h, mem_dsort]
theorem insD_len {α : Type} {lt : α → α → Prop} {x : α} : ∀ {l : List α}, (insD lt x l).length ≤ l.length + 1
  | [] => by simp [insD]
  | y :: l => by
    have := insD_len (lt := lt) (x := x) (l := l)
    unfold insD
    split
    · omega
    · split <;> simp <;> omega
theorem dsort_len {α : Type} {lt : α → α → Prop} : ∀ (l : List α), (dsort lt l).length ≤ l.length
  | [] => by simp [dsort]
  | x :: l => by
    have := dsort_len (lt := lt) l
    have := insD_len (lt := lt) (x := x) (l := dsort lt l)
    show (insD lt x (dsort lt l)).length ≤ _
    simp only [List.length_cons]; omega
/-! ### lists of numbers -/
def ltL (l m : List Int) : Prop := cmpL l m < 0
theorem cmpL_anti' : ∀ a b, cmpL b a = - cmpL a b
  | [], [] => rfl
  | [], _ :: _ => rfl
  | _ :: _, [] => rfl
  | a :: l, b :: m => by
    have := cmpL_anti' l m
    simp only [cmpL]
    by_cases h1 : a < b
    · rw [if_neg (by omega), if_pos (show b > a from h1), if_pos h1]; rfl
    · by_cases h2 : b < a
      · rw [if_pos h2, if_neg h1, if_pos (show a > b from h2)]
      · rw [if_neg h2, if_neg (show ¬ b > a from h1), if_neg h1, if_neg (show ¬ a > b from h2), this]
theorem cmpL_zero : ∀ a b, cmpL a b = 0 → a = b
  | [], [], _ => rfl
  | [], _ :: _, h => by simp [cmpL] at h
  | _ :: _, [], h => by simp [cmpL] at h
  | a :: l, b :: m, h => by
    simp only [cmpL] at h
    split at h
    · cases h
    · split at h
      · cases h
      · rw [cmpL_zero l m h, show a = b by omega]
theorem cmpL_self' : ∀ a, cmpL a a = 0
  | [] => rfl
  | a :: l => by simp only [cmpL]; rw [if_neg (by omega), if_neg (by omega), cmpL_self' l]
theorem ltL_trans : ∀ a b c, ltL a b → ltL b c → ltL a c
  | [], [], _, h, _ => by simp [ltL, cmpL] at h
  | [], _ :: _, [], _, h => by simp [ltL, cmpL] at h
  | [], _ :: _, _ :: _, _, _ => by simp [ltL, cmpL]
  | _ :: _, [], _, h, _ => by simp [ltL, cmpL] at h
  | _ :: _, _ :: _, [], _, h => by simp [ltL, cmpL] at h
  | a :: l, b :: m, c :: n, h1, h2 => by
    have ih := ltL_trans l m n
    unfold ltL at *
    simp only [cmpL] at h1 h2 ⊢
    by_cases e1 : a < b
    · by_cases e2 : b < c
      · rw [if_pos (by omega)]; decide
      · rw [if_neg e2] at h2
        by_cases e3 : b > c
        · rw [if_pos e3] at h2; omega
        · rw [if_pos (by omega)]; decide
    · rw [if_neg e1] at h1
      by_cases e3 : a > b
      · rw [if_pos e3] at h1; omega
      · rw [if_neg e3] at h1
        by_cases e2 : b < c
        · rw [if_pos (by omega)]; decide
        · rw [if_neg e2] at h2
          by_cases e4 : b > c
          · rw [if_pos e4] at h2; omega
          · rw [if_neg e4] at h2
            rw [if_neg (by omega), if_neg (by omega)]
            exact ih h1 h2
theorem ltL_sto : STO ltL := ⟨fun a h => by unfold ltL at h; rw [cmpL_self'] at h; omega, ltL_trans, fun a b h => by
  unfold ltL
  have := cmpL_anti' a b
  have : cmpL a b ≠ 0 := fun e => h (cmpL_zero a b e)
  omega⟩
theorem STO.inv {α β : Type} {lt : β → β → Prop} (o : STO lt) (f : α → β) (hf : ∀ a b, f a = f b → a = b) : STO fun a b => lt (f a) (f b) :=
  ⟨fun a => o.irr _, fun a b c => o.trans _ _ _, fun a b h => o.tri _ _ fun e => h (hf a b e)⟩
def ltT (a b : Tile) : Prop := cmpT a b < 0
theorem ltT_sto : STO ltT := ltL_sto.inv tl fun a b h => by
  obtain ⟨a1, a2, a3, a4⟩ := a
  obtain ⟨b1, b2, b3, b4⟩ := b
  simp [tl] at h
  obtain ⟨rfl, rfl, rfl, rfl⟩ := h
  rfl
section
variable {s : Sl}
theorem tcs_take4 : ∀ (l : List Tile) (n : Nat), (tcs l).take (n * 4) = tcs (l.take n)
  | [], n => by simp [tcs]
  | a :: l, 0 => by simp [tcs]
  | a :: l, n + 1 => by
    rw [List.take_succ_cons, tcs_cons, tcs_cons, ← tcs_take4 l n, show (n + 1) * 4 = (tc a).length + n * 4 by rw [tc_len]; omega, List.take_length_add_append]
theorem tcs_drop4 : ∀ (l : List Tile) (n : Nat), (tcs l).drop (n * 4) = tcs (l.drop n)
  | [], n => by simp [tcs]
  | a :: l, 0 => by simp
  | a :: l, n + 1 => by
    rw [List.drop_succ_cons, tcs_cons, ← tcs_drop4 l n, show (n + 1) * 4 = (tc a).length + n * 4 by rw [tc_len]; omega, ← List.drop_drop, List.drop_left]
theorem Ow.cutV {h : H} {A : List Tile} (r : Ow h s 4 (tcs A)) {o : Nat} (ho : s.o = some o) {lo hi : Int} (h0 : 0 ≤ lo) (h1 : lo ≤ hi) (h2 : hi ≤ s.len) {K : Sl → Prop} (hk : K ⟨s.o, s.n, lo.toNat * 4, (hi - lo).toNat, 4⟩) : cut s 4 lo hi h K := by
  obtain ⟨a, _⟩ | ⟨o', a, b, c, d, e⟩ := r.at_
  · rw [ho] at a; cases a
  · have hc : (cells h o' s.n).isSome = true := by unfold cells; rw [e]; simp only; rw [if_pos (by rw [r.len, d])]; rfl
    refine ⟨⟨h0, h1⟩, by unfold okS; rw [a]; exact hc, (fun hn => by rw [a] at hn; cases hn), fun _ => ⟨b, by rw [c, d]; have : hi.toNat * 4 ≤ s.len * 4 := Nat.mul_le_mul_right _ (by omega); omega⟩, ?_⟩
    rw [c, Nat.zero_add]
    exact hk
theorem Ow.viewT {h : H} {A : List Tile} (r : Ow h s 4 (tcs A)) {o : Nat} (ho : s.o = some o) {lo n : Nat} (hn : lo + n ≤ s.len) : Rd h ⟨s.o, s.n, lo * 4, n, 4⟩ 4 (tcs ((A.drop lo).take n)) := by
  have hal : A.length = s.len := by have := r.rd.tlen; omega
  obtain ⟨a, _⟩ | ⟨o', a, b, c, d, e⟩ := r.at_
  · rw [ho] at a; cases a
  · refine ⟨by rw [tcs_len, List.length_take, List.length_drop]; show min n (A.length - lo) * 4 = n * 4; rw [show min n (A.length - lo) = n by omega], .inr ⟨rfl, by rw [ho]; rfl, ?_⟩⟩
    have hc : cells h o' s.n = some (tcs A) := by unfold cells; rw [e]; simp only; rw [if_pos (by rw [r.len, d])]
    show range h s.o s.n (lo * 4) (n * 4) = _
    rw [a, range_of hc (by rw [tcs_len]; omega), tcs_drop4, tcs_take4]
noncomputable def dsT (l : List Tile) : List Tile := dsort ltT l
theorem dsT_len (l : List Tile) : (dsT l).length ≤ l.length := dsort_len l
end
section
variable {c : Int} {ts : List Tile}
theorem tat_nat {i : Nat} (h : i < ts.length) : tat ts (i : Int) = ts[i] := tat_at (by rw [Int.toNat_natCast, List.getElem?_eq_getElem h])
theorem setOK.pw (h : setOK c ts) : ts.Pairwise ltT := by
  rw [List.pairwise_iff_getElem]
  have key : ∀ n i j : Nat, (hi : i < ts.length) → (hj : j < ts.length) → j = i + n + 1 → ltT ts[i] ts[j] := by
    intro n
    induction n with
    | zero =>
      intro i j hi hj e
      have := (h.2.2 j hj).2 (by omega)
      rw [show ((j : Int) - 1) = ((i : Nat) : Int) by omega, tat_nat hi, tat_nat hj] at this
      exact this
    | succ n ih =>
      intro i j hi hj e
      have h1 := ih i (j - 1) hi (by omega) (by omega)
      have h2 := (h.2.2 j hj).2 (by omega)
      rw [show ((j : Int) - 1) = ((j - 1 : Nat) : Int) by omega, tat_nat (show j - 1 < ts.length by omega), tat_nat hj] at h2
      exact ltT_sto.trans _ _ _ h1 h2
  intro i j hi hj hij
  exact key (j - i - 1) i j hi hj (by omega)
theorem setOK_of (h1 : 1 ≤ c) (h2 : c ≤ 6) (hl : ts.length ≤ 16) (hp : ts.Pairwise ltT) (hs : ∀ t ∈ ts, ∀ k, k < 4 → 0 ≤ sd t k ∧ sd t k < c) : setOK c ts := by
  refine ⟨⟨h1, h2⟩, hl, fun j hj => ⟨?_, fun h0 => ?_⟩⟩
  · rw [tat_nat hj]
    have hm := List.getElem_mem hj
    have a0 := hs _ hm 0 (by omega)
    have a1 := hs _ hm 1 (by omega)
    have a2 := hs _ hm 2 (by omega)
    have a3 := hs _ hm 3 (by omega)
    simp only [sd] at a0 a1 a2 a3
    unfold tileok
    simp only [Bool.and_eq_true, decide_eq_true_eq]
    omega
  · rw [show ((j : Int) - 1) = ((j - 1 : Nat) : Int) by omega, tat_nat (show j - 1 < ts.length by omega), tat_nat hj]
    exact List.pairwise_iff_getElem.1 hp (j - 1) j (by omega) hj (by omega)
theorem dsT_self (hp : ts.Pairwise ltT) : dsT ts = ts := (dsort_eq ltT_sto hp fun x => Iff.rfl).symm
end
theorem ix4 {h : H} {o : Nat} {t : Tile} (x : Obj h o (tc t)) (i : Nat) (hi : i < 4) {K : Pt → Int → Prop} (hk : ∀ p, p = Pt.add ⟨some o, 4, 0⟩ i → K p (sd t i)) : ixA ⟨some o, 4, 0⟩ 4 1 (i : Int) fun p => Cl.ldI .i64 p h (K p) := by
  refine ⟨⟨by omega, by omega⟩, rfl, ?_⟩
  rw [show (i : Int).toNat * 1 = i by omega]
  exact ⟨_, by rw [x.cellE (n := 4) rfl]; exact tc_sd t hi, hk _ rfl⟩
theorem eqA_tc {a b : Tile} {K : Bool → Prop} (h : K (decide (a = b))) : eqA .i64 4 (tc a) (tc b) K := by
  refine ⟨tl a, tl b, rfl, rfl, rfl, rfl, ?_⟩
  have : (tl a == tl b) = decide (a = b) := by
    obtain ⟨a1, a2, a3, a4⟩ := a
    obtain ⟨b1, b2, b3, b4⟩ := b
    rw [Bool.eq_iff_iff, beq_iff_eq, decide_eq_true_eq]
    simp [tl]
  rw [this]
  exact h
end Go.Proofs.Ytlcgclmobfdbcaa.Cl

/- Lasting tiles: plain; maps of integers as sets. No claim is stated here. -/
set_option linter.unusedVariables false
set_option linter.unusedSimpArgs false
namespace Go.Proofs.Ytlcgclmobfdbcaa.Cl
open Go
section
variable {L U : List Tile} {t : Tile}
/-- Has a tile neighbours on both sides in a list? -/
def SQ (U : List Tile) (t : Tile) : Prop := (∃ a ∈ U, sd a 2 = sd t 0) ∧ (∃ a ∈ U, sd a 0 = sd t 2)
def LastP (L : List Tile) (t : Tile) : Prop := ∃ Q : Tile → Prop, Q t ∧ ∀ a, Q a → a ∈ L ∧ (∃ b, Q b ∧ sd b 2 = sd a 0) ∧ (∃ b, Q b ∧ sd b 0 = sd a 2)
theorem LastP.mem (h : LastP L t) : t ∈ L := by obtain ⟨Q, h1, h2⟩ := h; exact (h2 t h1).1
theorem LastP.sup (h : LastP L t) : (∃ b, LastP L b ∧ sd b 2 = sd t 0) ∧ (∃ b, LastP L b ∧ sd b 0 = sd t 2) := by
  obtain ⟨Q, h1, h2⟩ := h
  obtain ⟨_, ⟨b, b1, b2⟩, ⟨d, d1, d2⟩⟩ := h2 t h1
  exact ⟨⟨b, ⟨Q, b1, h2⟩, b2⟩, ⟨d, ⟨Q, d1, h2⟩, d2⟩⟩
open Classical in
noncomputable def sqB (U : List Tile) (t : Tile) : Bool := decide (SQ U t)
theorem sqB_iff : sqB U t = true ↔ SQ U t := by unfold sqB; simp
open Classical in
noncomputable def lastB (L : List Tile) (t : Tile) : Bool := decide (LastP L t)
theorem lastB_iff : lastB L t = true ↔ LastP L t := by unfold lastB; simp
/-- The lasting tiles of a list. -/
noncomputable def kpL (L : List Tile) : List Tile := L.filter (lastB L)
/-- A stage of the deletion. -/
def Stg (L U : List Tile) : Prop := ∃ p : Tile → Bool, U = L.filter p ∧ ∀ t, LastP L t → p t = true
theorem Stg.refl (L : List Tile) : Stg L L := ⟨fun _ => true, (List.filter_eq_self.2 fun _ _ => rfl).symm, fun _ _ => rfl⟩
theorem Stg.mem (h : Stg L U) (ht : LastP L t) : t ∈ U := by
  obtain ⟨p, rfl, hp⟩ := h
  exact List.mem_filter.2 ⟨ht.mem, hp t ht⟩
theorem Stg.sq (h : Stg L U) (ht : LastP L t) : SQ U t := by
  obtain ⟨⟨b, b1, b2⟩, ⟨d, d1, d2⟩⟩ := ht.sup
  exact ⟨⟨b, h.mem b1, b2⟩, ⟨d, h.mem d1, d2⟩⟩
theorem Stg.step (h : Stg L U) : Stg L (U.filter (sqB U)) := by
  have h2 := h
  obtain ⟨p, hU, hp⟩ := h
  refine ⟨fun t => p t && sqB U t, ?_, fun t ht => ?_⟩
  · conv => lhs; rw [show U.filter (sqB U) = (L.filter p).filter (sqB U) by rw [← hU]]
    rw [List.filter_filter]
    congr 1
    funext a
    rw [Bool.and_comm]
  · rw [Bool.and_eq_true]
    exact ⟨hp t ht, sqB_iff.2 (h2.sq ht)⟩
theorem Stg.end_ (h : Stg L U) (he : (U.filter (sqB U)).length = U.length) : U = kpL L := by
  have hall : ∀ t ∈ U, sqB U t = true := by rwa [List.length_filter_eq_length_iff] at he
  have h2 := h
  obtain ⟨p, hU, hp⟩ := h
  have hl : ∀ t ∈ U, LastP L t := fun t ht => by
    refine ⟨fun a => a ∈ U, ht, fun a ha => ⟨?_, ?_⟩⟩
    · rw [hU] at ha; exact (List.mem_filter.1 ha).1
    · obtain ⟨⟨b, b1, b2⟩, ⟨d, d1, d2⟩⟩ := sqB_iff.1 (hall a ha)
      exact ⟨⟨b, b1, b2⟩, ⟨d, d1, d2⟩⟩
  unfold kpL
  rw [hU]
  refine List.filter_congr fun t ht => ?_
  rw [Bool.eq_iff_iff, lastB_iff]
  exact ⟨fun h => hl t (by rw [hU]; exact List.mem_filter.2 ⟨ht, h⟩), hp t⟩
theorem Stg.filter_end (h : Stg L U) (he : (U.filter (sqB U)).length = U.length) : U.filter (sqB U) = kpL L := by
  have hall : ∀ t ∈ U, sqB U t = true := by rwa [List.length_filter_eq_length_iff] at he
  rw [List.filter_eq_self.2 hall]
  exact h.end_ he
theorem kpL_len (L : List Tile) : (kpL L).length ≤ L.length := List.length_filter_le _ _
end
/-! ### maps of integers as sets -/
def mpI (D : List Int) : List (AVal × AVal) := D.map fun k => (i64 k, .bool true)
def MpI (h : H) (o : Nat) (D : List Int) : Prop := h[o]? = some (.mp (mpI D))
def addI (D : List Int) (k : Int) : List Int := if k ∈ D then D else D ++ [k]
theorem mem_addI {D : List Int} {k x : Int} : x ∈ addI D k ↔ x ∈ D ∨ x = k := by
  unfold addI
  split
  · next h => exact ⟨.inl, fun q => q.elim id fun e => e ▸ h⟩
  · simp
theorem mpPut_I (k : Int) : ∀ D : List Int, mpPut (i64 k) (.bool true) (mpI D) = some (mpI (addI D k))
  | [] => rfl
  | e :: D => by
    have ih := mpPut_I k D
    show mpPut (i64 k) (.bool true) ((i64 e, .bool true) :: mpI D) = _
    unfold mpPut
    simp only [keyIs, i64, if_pos, ↓reduceIte]
    by_cases h : k = e
    · subst h
      simp [addI, mpI]
    · rw [show (k == e) = false by simpa using h]
      simp only
      rw [show AVal.int .i64 k = i64 k from rfl, ih]
      simp only [Option.map_some]
      unfold addI
      by_cases h2 : k ∈ D
      · rw [if_pos h2, if_pos (by simp [h2])]; rfl
      · rw [if_neg h2, if_neg (by simp [h2, h])]; rfl
theorem mpFind_I (k : Int) : ∀ D : List Int, mpFind (i64 k) (mpI D) = some (if k ∈ D then some (.bool true) else none)
  | [] => rfl
  | e :: D => by
    have ih := mpFind_I k D
    show mpFind (i64 k) ((i64 e, .bool true) :: mpI D) = _
    unfold mpFind
    simp only [keyIs, i64, if_pos, ↓reduceIte]
    by_cases h : k = e
    · subst h; simp
    · rw [show (k == e) = false by simpa using h]
      simp only
      rw [show AVal.int .i64 k = i64 k from rfl, ih]
      by_cases h2 : k ∈ D
      · rw [if_pos h2, if_pos (by simp [h2])]
      · rw [if_neg h2, if_neg (by simp [h2, h])]
section
variable {h h' : H} {o : Nat} {D : List Int}
theorem MpI.lt (x : MpI h o D) : o < h.length := (List.getElem?_eq_some_iff.1 x).1
theorem MpI.ext (x : MpI h o D) (e : Ext h h') : MpI h' o D := e.own x
theorem MpI.but {p : Option Nat} (x : MpI h o D) (b : But p h h') (hn : p ≠ some o) : MpI h' o D := b.get x hn
theorem MpI.put (x : MpI h o D) (k : Int) {K : H → Prop} (hk : ∀ h', MpI h' o (addI D k) → But (some o) h h' → h'.length = h.length → K h') : mput (.map (some o)) (i64 k) (.bool true) h K :=
  ⟨o, _, _, rfl, x, mpPut_I k D, hk _ (by unfold MpI; have := x.lt; simp [this]) ⟨by simp, fun i hi hne => by rw [List.getElem?_set, if_neg (fun e => hne (by rw [e]))]⟩ (by simp)⟩
theorem MpI.new {K : AVal → H → Prop} (hk : ∀ h', MpI h' h.length [] → Ext h h' → h'.length = h.length + 1 → K (.map (some h.length)) h') : newM h K :=
  hk _ (by unfold MpI mpI; simp) (Ext.app _ _) (by simp)
theorem MpI.at_ (x : MpI h o D) : mapAt h (some o) = some (mpI D) := by simp only [mapAt]; rw [show h[o]? = some (.mp (mpI D)) from x]
theorem MpI.get (x : MpI h o D) (k : Int) {K : Bool → Prop} (hk : K (decide (k ∈ D))) : mgetB (.map (some o)) (i64 k) h K := by
  refine ⟨some o, _, _, decide (k ∈ D), rfl, x.at_, mpFind_I k D, ?_, hk⟩
  by_cases h : k ∈ D
  · rw [if_pos h, decide_eq_true h]; exact .inr rfl
  · rw [if_neg h, decide_eq_false h]; exact .inl ⟨rfl, rfl⟩
end
end Go.Proofs.Ytlcgclmobfdbcaa.Cl

/- The program's kept: the lasting tiles. No claim is stated here. -/
set_option linter.unusedVariables false
set_option linter.unusedSimpArgs false
namespace Go.Proofs.Ytlcgclmobfdbcaa.Cl
open Go
theorem ix4V {h : H} {o : Nat} {ms : List AVal} (x : Obj h o ms) (hl : ms.length = 4) {i : Nat} {j : Int} (hj : j = i) (hi : i < 4) {v : AVal} (e : ms[i]? = some v) {K : AVal → Prop} (hk : K v) : ixA ⟨some o, 4, 0⟩ 4 1 j fun p => ldV p h K := by
  subst hj
  refine ⟨⟨by omega, by omega⟩, rfl, v, ?_, hk⟩
  rw [show (i : Int).toNat * 1 = i by omega, x.cellE hl, e]
theorem ix4st {h : H} {o : Nat} {ms : List AVal} (x : Obj h o ms) (hl : ms.length = 4) {i : Nat} (hi : i < 4) (v : AVal) {K : H → Prop} (hk : ∀ h', Obj h' o (ms.set i v) → But (some o) h h' → h'.length = h.length → K h') : ixA ⟨some o, 4, 0⟩ 4 1 (i : Int) fun p => st1 p v h K := by
  refine ⟨⟨by omega, by omega⟩, rfl, ?_⟩
  rw [show (i : Int).toNat * 1 = i by omega]
  exact x.st1 hl hi v hk
def SideM (U : List Tile) (j : Nat) (D : List Int) : Prop := ∀ x, x ∈ D ↔ ∃ a ∈ U, sd a j = x
section
variable {h0 : H} {s : Sl} {L : List Tile}
theorem kept_c (r : Rd h0 s 4 (tcs L)) (hL : L.length ≤ 1000000) : callS SP i_impl_kept [.sl s] h0 fun u h' => Ow h' u 4 (tcs (kpL L)) ∧ Fr h0.length u ∧ Ext h0 h' := by
  apply impl_kept_call
  unfold impl_kept_main
  refine impl_kept_rule0 _ _ (fun s h => ∃ U, Rd h s 4 (tcs U) ∧ Stg L U ∧ Ext h0 h ∧ U.length ≤ L.length) (fun s _ => s.len) ?_ _ ⟨L, r, Stg.refl L, Ext.refl _, Nat.le_refl _⟩
  rintro X0 s h ⟨U, r, hS, x, hUl⟩ hX
  have hsl := r.tlen
  unfold impl_kept_b0
  refine newO_obj fun h1 o1 x1 n1 => ?_
  refine o1.stA fun h2 o2 b2 n2 => ?_
  have y2 : Ext h h2 := x1.but_ b2 (some_le (Nat.le_refl _))
  refine impl_kept_rule2 _ _ X0 _ _ (fun i g => ∃ (k : Nat) (ms : List AVal), i = k ∧ k ≤ 4 ∧ Ext h g ∧ ms.length = 4 ∧ Obj g h.length ms ∧ ∀ j, j < k → ∃ o D, ms[j]? = some (.map (some o)) ∧ MpI g o D ∧ o ≠ h.length ∧ SideM U j D) (fun i _ => (4 - i).toNat) ?_ _ ⟨0, _, rfl, by omega, y2, rfl, o2, fun j hj => by omega⟩
  rintro X2 _ g ⟨k, ms, rfl, hk, y, hml, om, hms⟩ hY
  unfold impl_kept_b2
  refine bif_dec (fun hi => ?_) (fun hi => ?_)
  · have hk4 : k < 4 := by omega
    refine MpI.new fun g1 m1 z1 e1 => ?_
    have om1 := om.ext z1
    refine ix4st om1 hml hk4 _ fun g2 om2 c2 e2 => ?_
    have hgl := om.lt
    have m2 := m1.but c2 (fun e => by have := Option.some.inj e; omega)
    have z2 : But (some h.length) g g2 := (z1.but _).trans c2
    have w2 : Ext h g2 := y.but_ z2 (some_le (Nat.le_refl _))
    refine impl_kept_rule4 _ _ X0 X2 _ _ _ _ _ _ (fun z q => ∃ (w : Nat) (D : List Int), z = w ∧ w ≤ U.length ∧ MpI q g.length D ∧ SideM (U.take w) k D ∧ Chg (fun i => i = g.length) g2 q) (fun z _ => ((U.length : Int) - z).toNat) ?_ _ ⟨0, [], rfl, by omega, m2, fun x => by simp, Chg.refl _ _⟩
    rintro X4 _ q ⟨w, D, rfl, hw, mq, hD, ch⟩ hZ
    have Xq : Ext h q := w2.chg_ ch fun i e => by have := y.len; omega
    have omq := om2.chg ch (by omega)
    unfold impl_kept_b4
    refine bif_dec (fun hi2 => ?_) (fun hi2 => ?_)
    · have hwl : w < U.length := by omega
      refine (r.ext Xq).tileG (by omega) (by omega) ?_
      refine newO_obj fun q1 p1 v1 l1 => ?_
      refine p1.stA fun q2 p2 d2 l2 => ?_
      have v2 : Ext q q2 := v1.but_ d2 (some_le (Nat.le_refl _))
      refine ix4V (omq.ext v2) (by simp [hml]) rfl hk4 (v := .map (some g.length)) (by rw [List.getElem?_set_self (by omega)]) ?_
      refine ix4 p2 k hk4 fun p7 _ => ?_
      refine (mq.ext v2).put _ fun q3 mq3 d3 l3 => ?_
      rw [w64_of (by omega) (by omega)]
      refine hZ _ _ ⟨w + 1, _, by push_cast; rfl, by omega, mq3, fun x => ?_, ch.trans ((v2.chg _).trans (d3.chg fun i e => (Option.some.inj e).symm))⟩ (by omega)
      rw [mem_addI, hD x]
      have tw : tat U (w : Int) = U[w] := tat_at (by rw [Int.toNat_natCast, List.getElem?_eq_getElem hwl])
      rw [List.take_succ_eq_append_getElem hwl, tw]
      constructor
      · rintro (⟨a, ha, e⟩ | e)
        · exact ⟨a, List.mem_append_left _ ha, e⟩
        · exact ⟨U[w], List.mem_append_right _ (List.mem_singleton_self _), e.symm⟩
      · rintro ⟨a, ha, e⟩
        rcases List.mem_append.1 ha with ha | ha
        · exact .inl ⟨a, ha, e⟩
        · rw [List.mem_singleton] at ha; subst ha; exact .inr e.symm
    · unfold impl_kept_C4 impl_kept_C3
      rw [w64_of (by omega) (by omega)]
      have hwU : w = U.length := by omega
      rw [hwU, List.take_length] at hD
      refine hY _ _ ⟨k + 1, _, by push_cast; rfl, by omega, Xq, by simp [hml], omq, fun j hj => ?_⟩ (by omega)
      by_cases e : j = k
      · subst e
        exact ⟨g.length, D, by rw [List.getElem?_set_self (by omega)], mq, by omega, hD⟩
      · obtain ⟨o, D', a1, a2, a3, a4⟩ := hms j (by omega)
        have ho := a2.lt
        exact ⟨o, D', by rw [List.getElem?_set_ne (by omega)]; exact a1, ch.get ((a2.but z2 fun e => a3 (Option.some.inj e).symm) : MpI g2 o D') (by omega), a3, a4⟩
  · have hk4 : k = 4 := by omega
    subst hk4
    unfold impl_kept_C2
    obtain ⟨ow, Dw, w1, w2, w3, w4⟩ := hms 0 (by omega)
    obtain ⟨oe, De, e1, e2, e3, e4⟩ := hms 2 (by omega)
    refine newS_ow (by rfl) fun u h3 ou lu uo eu => ?_
    have x3 : Ext g h3 := by rw [eu]; exact Ext.app _ _
    have Y3 := y.trans x3
    have hgl := om.lt
    refine impl_kept_rule6 _ _ X0 _ _ _ _ (fun u z q => ∃ w : Nat, z = w ∧ w ≤ U.length ∧ Ow q u 4 (tcs ((U.take w).filter (sqB U))) ∧ Fr g.length u ∧ Ext g q) (fun _ z _ => ((U.length : Int) - z).toNat) ?_ _ _ ⟨0, rfl, by omega, by simpa [tcs] using ou, fun o e => by rw [uo] at e; cases e; omega, x3⟩
    rintro X6 u _ q ⟨w, rfl, hw, ou, fu, yq⟩ hZ
    unfold impl_kept_b6
    have Yq := y.trans yq
    refine bif_dec (fun hi2 => ?_) (fun hi2 => ?_)
    · have hwl : w < U.length := by omega
      have tw : tat U (w : Int) = U[w] := tat_at (by rw [Int.toNat_natCast, List.getElem?_eq_getElem hwl])
      refine (r.ext Yq).tileG (by omega) (by omega) ?_
      rw [tw]
      refine newO_obj fun q1 p1 v1 l1 => ?_
      refine p1.stA fun q2 p2 d2 l2 => ?_
      have v2 : Ext q q2 := v1.but_ d2 (some_le (Nat.le_refl _))
      have z2 := yq.trans v2
      have omq := om.ext z2
      have htk : (U.take (w + 1)).filter (sqB U) = (U.take w).filter (sqB U) ++ if sqB U U[w] then [U[w]] else [] := by
        rw [List.take_succ_eq_append_getElem hwl, List.filter_append]
        simp only [List.filter_cons, List.filter_nil]
      have hul := ou.rd.tlen
      have hfl := List.length_filter_le (sqB U) (U.take w)
      have htl : (U.take w).length = w := by rw [List.length_take]; omega
      have skip : ∀ {q' : H}, Ext q q' → ¬ SQ U U[w] → X6 (impl_kept_e6 s ⟨some h.length, 4, 0⟩ u s (s.len : Int) (w64 ((w : Int) + 1))) q' := fun {q'} v hn => by
        rw [w64_of (by omega) (by omega)]
        have hb : sqB U U[w] = false := by
          cases hb : sqB U U[w]
          · rfl
          · exact absurd (sqB_iff.1 hb) hn
        refine hZ _ _ _ ⟨w + 1, by push_cast; rfl, by omega, ?_, fu, yq.trans v⟩ (by omega)
        rw [htk, hb]
        simpa using ou.ext v
      refine ix4V omq hml (i := 2) rfl (by omega) e1 ?_
      refine ix4 p2 0 (by omega) fun p7 _ => ?_
      refine (e2.ext z2).get _ ?_
      refine bif_dec (fun hb => ?_) (fun hb => skip v2 fun hs => hb ((e4 _).2 hs.1))
      refine ix4V omq hml (i := 0) rfl (by omega) w1 ?_
      refine ix4 p2 2 (by omega) fun p12 _ => ?_
      refine (w2.ext z2).get _ ?_
      refine bif_dec (fun hb2 => ?_) (fun hb2 => skip v2 fun hs => hb2 ((w4 _).2 hs.2))
      refine p2.ldA rfl ⟨rfl, ?_⟩
      have hb3 : sqB U U[w] = true := sqB_iff.2 ⟨(e4 _).1 hb, (w4 _).1 hb2⟩
      refine push_tc (t := U[w]) (ou.ext v2) (by unfold lim; omega) fun u' q3 ou3 b3 hu3 l3 => ?_
      rw [w64_of (by omega) (by omega)]
      have hyq := yq.len
      have hv2 := v2.len
      refine hZ _ _ _ ⟨w + 1, by push_cast; rfl, by omega, ?_, fu.push (h := q2) (by omega) hu3, z2.but_ b3 fun o e => fu o e⟩ (by omega)
      rw [htk, hb3]
      exact ou3
    · have hwU : w = U.length := by omega
      rw [hwU, List.take_length] at ou
      have hul := ou.rd.tlen
      unfold impl_kept_C6
      have hgle := y.len
      refine bif_eq (fun he => ?_) (fun hne => ?_)
      · refine ⟨u, rfl, ?_, fu.le (by have := x.len; omega), x.trans Yq⟩
        rw [← hS.filter_end (by omega)]
        exact ou
      · have hle := List.length_filter_le (sqB U) U
        exact hX _ _ ⟨_, ou.rd, hS.step, x.trans Yq, by omega⟩ (by omega)
end
end Go.Proofs.Ytlcgclmobfdbcaa.Cl

/- Contracts of the functions that tell fillings, cylinders and tori. No claim is stated here. -/
set_option linter.unusedVariables false
set_option linter.unusedSimpArgs false
namespace Go.Proofs.Ytlcgclmobfdbcaa.Cl
open Go
section
variable {h : H} {a : Nat} {c : Int} {s q : Sl} {ts : List Tile} {rows : List (List Int)}
theorem side_of (o : Obj h a (SetC c s)) (r : Rd h s 4 (tcs ts)) {n k : Int} (n0 : 0 ≤ n) (n1 : n < ts.length) (k0 : 0 ≤ k) (k1 : k < 4) {K : Int → Prop} (hk : K (sd (tat ts n) k.toNat)) :
    isPt ⟨some a, 2, 0⟩ (ldS (Pt.add ⟨some a, 2, 0⟩ 1) h fun s2 => ixS s2 4 n fun p => ixA p 4 1 k fun p => ldI .i64 p h K) :=
  isPt_in (o.ldS rfl rfl (r.sideG n0 n1 k0 k1 hk))
end
section
variable {h0 : H} {c : Int} {s q : Sl} {ts : List Tile} {rows : List (List Int)}
end
end Go.Proofs.Ytlcgclmobfdbcaa.Cl

/- Contracts of IsCylinder and IsTorus. No claim is stated here. -/
set_option linter.unusedVariables false
set_option linter.unusedSimpArgs false
namespace Go.Proofs.Ytlcgclmobfdbcaa.Cl
open Go
section
variable {h0 : H} {c : Int} {s q : Sl} {ts : List Tile} {rows : List (List Int)}
end
end Go.Proofs.Ytlcgclmobfdbcaa.Cl

/- Contracts of shifted tori: shifts, comparing, least forms, shifts that keep. No claim is stated here. -/
set_option linter.unusedVariables false
set_option linter.unusedSimpArgs false
namespace Go.Proofs.Ytlcgclmobfdbcaa.Cl
open Go
/-! ### one element more -/
theorem push_c {h : H} {s : Sl} {l : List AVal} {x : AVal} (r : Ow h s 1 l) (hl : (s.len : Int) + 1 ≤ lim) {K : Sl → H → Prop}
    (hk : ∀ s' h', Ow h' s' 1 (l ++ [x]) → s'.len = s.len + 1 → But s.o h h' → (∀ n, Fr n s → n ≤ h.length → Fr n s') → K s' h') : newS 1 1 [x] h fun t h1 => app s t 1 h1 K := by
  refine newS_ow (by rfl) fun t h1 ot tl to e1 => ?_
  subst e1
  refine app_ow (by omega) (r.ext (Ext.app _ _)) ot.rd (by rw [tl]; exact_mod_cast hl) fun s' h' o' ln b k1 k2 => hk s' h' o' (by omega) ?_ fun n fn hn o e => ?_
  · exact ((Ext.app h _).but _).trans b
  · cases hq : s.o with
    | none => have := k2 hq o e; simp at this; omega
    | some p => rw [k1 p hq] at e; cases e; exact fn _ hq
theorem pushI {h : H} {s : Sl} {l : List Int} {x : Int} (r : Ow h s 1 (ic l)) (hl : (l.length : Int) + 1 ≤ lim) {K : Sl → H → Prop}
    (hk : ∀ s' h', Ow h' s' 1 (ic (l ++ [x])) → But s.o h h' → (∀ n, Fr n s → n ≤ h.length → Fr n s') → K s' h') : newS 1 1 [.int .i64 x] h fun t h1 => app s t 1 h1 K := by
  refine push_c r (by have := r.rd.ilen; omega) fun s' h' o' _ b f => hk s' h' ?_ b f
  rw [ic_app]; exact o'
theorem NewSS.push {n m : Nat} {h : H} {s : Sl} {ls : List (List Int)} (r : NewSS n h s ls) {v : Sl} {l : List Int} (ov : Ow h v 1 (ic l)) (fv : Fr m v) (hnm : n ≤ m) (hm : ∃ h0 : H, NewSS n h0 s ls ∧ h0.length ≤ m ∧ Ext h0 h)
    (hl : (ls.length : Int) + 1 ≤ lim) (hnh : n ≤ h.length) {K : Sl → H → Prop} (hk : ∀ s' h', NewSS n h' s' (ls ++ [l]) → But s.o h h' → K s' h') : newS 1 1 [.sl v] h fun t h1 => Cl.app s t 1 h1 K := by
  refine newS_ow (by rfl) fun t h1 ot tl to e1 => ?_
  have e1' : Ext h h1 := by rw [e1]; exact Ext.app _ _
  obtain ⟨h0, r0, l0, x0⟩ := hm
  refine (r.ext e1').app_new (ov.ext e1') fv hnm ⟨h0, r0, l0, x0.trans e1'⟩ ot.rd hl (Nat.le_trans hnh e1'.len) fun s' h' n' b _ _ => hk s' h' n' ((e1'.but _).trans b)
theorem NewSS.fr {n h s ls} (r : NewSS n h s ls) : Fr n s := by obtain ⟨_, _, _, f, _⟩ := r; exact f
/-! ### tables of numbers -/
/-! ### shifts -/
abbrev wide (rows : List (List Int)) : Nat := (rw_ rows 0).length
/-- Rows of one length, not too many. -/
structure Rect (rows : List (List Int)) : Prop where
  h0 : 1 ≤ rows.length
  h1 : rows.length ≤ 8
  w : ∀ y, y < rows.length → (rw_ rows y).length = wide rows
  w0 : 1 ≤ wide rows
  w1 : wide rows ≤ 8
section
variable {h0 : H} {q : Sl} {rows : List (List Int)}
end
/-! ### comparing rows -/
section
variable {h0 : H} {q q' : Sl} {A B : List (List Int)}
end
end Go.Proofs.Ytlcgclmobfdbcaa.Cl

/- Contracts of ShiftTorus, LeastForm, ShiftsKept and ShiftNumber. No claim is stated here. -/
set_option linter.unusedVariables false
set_option linter.unusedSimpArgs false
namespace Go.Proofs.Ytlcgclmobfdbcaa.Cl
open Go
/-- append of a new view to a slice of views, of objects of P -/
theorem NewP.app {P : Nat → Prop} {h s ls} (r : NewP P h s ls) {v : Sl} {l : List Int} (ov : Ow h v 1 (ic l)) (fv : ∀ o, v.o = some o → P o) (hap : ∀ o, v.o = some o → s.o ≠ some o ∧ ∀ vs : List Sl, Ow h s 1 (vs.map .sl) → ∀ w ∈ vs, w.o ≠ some o)
    {x : Sl} (rx : Rd h x 1 [.sl v]) (hl : (ls.length : Int) + 1 ≤ lim) (hnh : ∀ i, h.length ≤ i → P i) {K : Sl → H → Prop} (hk : ∀ s' h', NewP P h' s' (ls ++ [l]) → But s.o h h' → (∀ o, s.o = some o → s'.o = some o) → (s.o = none → ∀ o, s'.o = some o → h.length ≤ o) → K s' h') : Cl.app s x 1 h K := by
  obtain ⟨vs, h1, h2, h3, h4, h5, h6⟩ := r
  have hx : x.len = 1 := by have := rx.len; simp at this; omega
  have hs : s.len = ls.length := by have := h2.len; simp at this; omega
  refine app_ow (by omega) h2 rx (by rw [hs, hx]; exact_mod_cast hl) fun s' h' o' ln b k1 k2 => ?_
  have hso : ∀ o, s'.o = some o → s.o = some o ∨ h.length ≤ o := fun o e => by
    cases hq : s.o with
    | none => exact .inr (k2 hq o e)
    | some p => rw [k1 p hq] at e; exact .inl e
  refine hk s' h' ⟨vs ++ [v], by simp [h1], by simpa using o', ?_, ?_, ?_, ?_⟩ b k1 k2
  · intro o e
    rcases hso o e with e | e
    · exact h3 o e
    · exact hnh o e
  · intro i w l' a c
    rw [List.getElem?_append] at a c
    rw [h1] at a
    split at a
    · next hi =>
      rw [if_pos hi] at c
      obtain ⟨p, q⟩ := h4 i w l' a c
      refine ⟨p.but b ?_, q⟩
      cases hw : w.o with
      | none => 
        cases hq : s.o with
        | none => exact .inr rfl
        | some _ => exact .inl (by simp)
      | some o => exact .inl (by rw [← hw]; intro e; exact h6 i w a o hw (by rw [e, hw]))
    · next hi =>
      rw [if_neg hi] at c
      have : i = ls.length := by
        have := (List.getElem?_eq_some_iff.1 c).1
        simp at this; omega
      subst this
      simp at a c
      subst a c
      refine ⟨ov.but b ?_, fv⟩
      cases hw : v.o with
      | none =>
        cases hq : s.o with
        | none => exact .inr rfl
        | some _ => exact .inl (by simp)
      | some o => exact .inl (by intro e; exact (hap o hw).1 e)
  · intro i j w u hne a c o e
    have hwl : ∀ {k : Nat} {y : Sl}, (vs ++ [v])[k]? = some y → vs[k]? = some y ∨ (k = vs.length ∧ y = v) := fun {k y} e => by
      rw [List.getElem?_append] at e
      split at e
      · exact .inl e
      · have : k = vs.length := by
          have := (List.getElem?_eq_some_iff.1 e).1
          simp at this; omega
        subst this
        simp at e
        exact .inr ⟨rfl, e.symm⟩
    rcases hwl a with a1 | ⟨rfl, rfl⟩
    · rcases hwl c with c1 | ⟨rfl, rfl⟩
      · exact h5 i j w u hne a1 c1 o e
      · intro e2
        exact (hap o e2).2 vs h2 w (List.mem_of_getElem? a1) e
    · rcases hwl c with c1 | ⟨rfl, rfl⟩
      · exact (hap o e).2 vs h2 u (List.mem_of_getElem? c1)
      · exact absurd rfl hne
  · intro i w a o e
    have hlt : o < h.length ∧ s.o ≠ some o := by
      rw [List.getElem?_append] at a
      split at a
      · obtain ⟨l', hl'⟩ := mem_idx h1 a
        exact ⟨(h4 i w l' a hl').1.lt e, h6 i w a o e⟩
      · have : w = v := by
          have := List.mem_of_getElem? a
          simpa using this
        subst this
        exact ⟨ov.lt e, (hap o e).1⟩
    intro e2
    rcases hso o e2 with e3 | e3
    · exact hlt.2 e3
    · omega
theorem NewP.push {P : Nat → Prop} {h : H} {s : Sl} {ls : List (List Int)} (r : NewP P h s ls) {v : Sl} {l : List Int} {h0 : H} (r0 : NewP P h0 s ls) (x0 : Ext h0 h) (ov : Ow h v 1 (ic l)) (fv : Fr h0.length v) (hP : ∀ i, h0.length ≤ i → P i)
    (hl : (ls.length : Int) + 1 ≤ lim) {K : Sl → H → Prop} (hk : ∀ s' h', NewP P h' s' (ls ++ [l]) → But s.o h h' → K s' h') : newS 1 1 [.sl v] h fun t h1 => Cl.app s t 1 h1 K := by
  refine newS_ow (by rfl) fun t h1 ot tl to e1 => ?_
  have e1' : Ext h h1 := by rw [e1]; exact Ext.app _ _
  have l0 := x0.len
  have l1 := e1'.len
  refine (r.ext e1').app (ov.ext e1') (fun o e => hP o (fv o e)) (fun o e => ?_) ot.rd hl (fun i hi => hP i (by omega)) fun s' h' n' b _ _ => hk s' h' n' ((e1'.but _).trans b)
  obtain ⟨vs, h1', h2, h3, h4, h5, h6⟩ := r0
  have ho := fv o e
  refine ⟨fun e2 => by have := h2.lt e2; omega, fun us hu w hw => ?_⟩
  intro e2
  have hq : us = vs := by
    have a := hu.rd.sread (by omega)
    have b := (h2.ext (x0.trans e1')).rd.sread (by omega)
    rw [a] at b
    have : us.map AVal.sl = vs.map AVal.sl := Option.some.inj b
    exact List.map_inj_right (fun a b e => by simpa using e) |>.1 this
  subst hq
  obtain ⟨i, hi⟩ := List.getElem?_of_mem hw
  obtain ⟨l', hl'⟩ := mem_idx h1' hi
  have := (h4 i w l' hi hl').1.lt e2
  omega
/-- Of the form of the rows. -/
def Like (rows s : List (List Int)) : Prop := s.length = rows.length ∧ ∀ y, y < rows.length → (rw_ s y).length = wide rows
theorem Like.mem {rows s} (h : Like rows s) {l} (hl : l ∈ s) : l.length = wide rows := by
  obtain ⟨i, hi⟩ := List.getElem?_of_mem hl
  have := (List.getElem?_eq_some_iff.1 hi).1
  rw [← rw_at hi]
  exact h.2 i (by have := h.1; omega)
theorem sumLen_le {ls : List (List Int)} {n : Nat} (h : ∀ l ∈ ls, l.length ≤ n) : sumLen ls ≤ ls.length * n := by
  unfold sumLen
  induction ls with
  | nil => simp
  | cons a ls ih =>
    have h1 := h a (by simp)
    have h2 := ih fun l hl => h l (by simp [hl])
    simp only [List.map_cons, List.sum_cons, List.length_cons, Nat.add_mul, Nat.one_mul]
    omega
theorem Like.small {rows s} (R : Rect rows) (h : Like rows s) : s.length < 1000000 ∧ sumLen s < 1000000 := by
  have := R.h1
  have hw := R.w1
  have h1 := sumLen_le (ls := s) (n := 8) fun l hl => by rw [h.mem hl]; exact hw
  have := h.1
  constructor <;> omega
section
variable {h0 : H} {q : Sl} {rows : List (List Int)}
end
end Go.Proofs.Ytlcgclmobfdbcaa.Cl

/- Steps of the laws. No claim is stated here. -/
set_option linter.unusedVariables false
set_option linter.unusedSimpArgs false
namespace Go.Proofs.Ytlcgclmobfdbcaa.Cl
open Go
theorem Obj.rangeE {h o cs} (x : Obj h o cs) {n : Nat} (hn : cs.length = n) : Cl.range h (some o) n 0 n = some cs := by
  have x' : h[o]? = some (.own cs) := x
  subst hn
  rw [range_of (xs := cs) (by unfold cells; simp [x']) (by simp)]
  simp
theorem Obj.stays {h h' o cs} (x : Obj h o cs) {n : Nat} (hn : cs.length = n) (e : Ext h h') : Cl.range h' (some o) n 0 n = Cl.range h (some o) n 0 n := by rw [e.range (x.rangeE hn), x.rangeE hn]
end Go.Proofs.Ytlcgclmobfdbcaa.Cl

/- Lasting edges: the plain law (ways without end over finitely many colours). No claim is stated here. -/
set_option linter.unusedVariables false
set_option linter.unusedSimpArgs false
namespace Go.Proofs.Ytlcgclmobfdbcaa.Cl
/-- An edge leads from its first colour to its second one. -/
abbrev Edge := Nat × Nat
def stepB (es : List Edge) (A : Nat → Bool) (w : Nat) : Bool := es.any fun e => e.1 == w && A e.2
def itB (es : List Edge) : Nat → Nat → Bool
  | 0 => fun _ => true
  | k + 1 => stepB es (itB es k)
theorem stepB_iff {es : List Edge} {A : Nat → Bool} {w : Nat} : stepB es A w = true ↔ ∃ e ∈ es, e.1 = w ∧ A e.2 = true := by
  unfold stepB
  simp [List.any_eq_true]
theorem stepB_mono {es : List Edge} {A B : Nat → Bool} (h : ∀ w, A w = true → B w = true) (w : Nat) (a : stepB es A w = true) : stepB es B w = true := by
  obtain ⟨e, he, h1, h2⟩ := stepB_iff.1 a
  exact stepB_iff.2 ⟨e, he, h1, h _ h2⟩
theorem itB_dec (es : List Edge) : ∀ k w, itB es (k + 1) w = true → itB es k w = true
  | 0, w, _ => rfl
  | k + 1, w, h => stepB_mono (itB_dec es k) w h
theorem stepB_congr {es : List Edge} {n : Nat} (hn : ∀ e ∈ es, e.2 < n) {A B : Nat → Bool} (h : ∀ w, w < n → A w = B w) (w : Nat) : stepB es A w = stepB es B w := by
  have key : ∀ A B : Nat → Bool, (∀ w, w < n → A w = B w) → stepB es A w = true → stepB es B w = true := fun A B h a => by
    obtain ⟨e, he, h1, h2⟩ := stepB_iff.1 a
    exact stepB_iff.2 ⟨e, he, h1, by rw [← h _ (hn e he)]; exact h2⟩
  have a := key A B h
  have b := key B A fun w hw => (h w hw).symm
  revert a b
  cases stepB es A w <;> cases stepB es B w <;> simp
def cntB (n : Nat) (A : Nat → Bool) : Nat := (List.range n).countP A
theorem countP_lt {α : Type} {p q : α → Bool} : ∀ (l : List α), (∀ x ∈ l, q x = true → p x = true) → (∃ x ∈ l, p x = true ∧ q x = false) → l.countP q < l.countP p
  | [], _, h => by obtain ⟨x, hx, _⟩ := h; cases hx
  | a :: l, h, ⟨x, hx, h1, h2⟩ => by
    rw [List.countP_cons, List.countP_cons]
    have hle : l.countP q ≤ l.countP p := List.countP_mono_left fun y hy hq => h y (by simp [hy]) hq
    rcases List.mem_cons.1 hx with rfl | hx
    · rw [h1, h2]; simp; omega
    · have ih := countP_lt l (fun y hy => h y (by simp [hy])) ⟨x, hx, h1, h2⟩
      by_cases hq : q a = true
      · rw [hq, h a (by simp) hq]; omega
      · rw [if_neg hq]; split <;> omega
theorem cntB_lt {n : Nat} {A B : Nat → Bool} (h : ∀ w, w < n → B w = true → A w = true) (hne : ∃ w, w < n ∧ A w ≠ B w) : cntB n B < cntB n A := by
  obtain ⟨w, hw, hd⟩ := hne
  refine countP_lt _ (fun x hx => h x (List.mem_range.1 hx)) ⟨w, List.mem_range.2 hw, ?_⟩
  have := h w hw
  revert hd this
  cases A w <;> cases B w <;> simp
theorem itB_stable {es : List Edge} {n : Nat} (hn : ∀ e ∈ es, e.2 < n) {k : Nat} (h : ∀ w, w < n → itB es (k + 1) w = itB es k w) (w : Nat) : itB es (k + 2) w = itB es (k + 1) w := stepB_congr hn h w
theorem itB_fix {es : List Edge} {n : Nat} (hn : ∀ e ∈ es, e.2 < n) : ∀ k, (∀ w, w < n → itB es (k + 1) w = itB es k w) ∨ cntB n (itB es k) + k ≤ n
  | 0 => .inr (by unfold cntB; have := List.countP_le_length (p := itB es 0) (l := List.range n); rw [List.length_range] at this; omega)
  | k + 1 => by
    rcases itB_fix hn k with h | h
    · exact .inl fun w _ => itB_stable hn h w
    · by_cases e : ∀ w, w < n → itB es (k + 1) w = itB es k w
      · exact .inl fun w _ => itB_stable hn e w
      · have hex : ∃ w, w < n ∧ itB es k w ≠ itB es (k + 1) w := by
          refine Classical.byContradiction fun c => e fun w hw => ?_
          exact Classical.byContradiction fun d => c ⟨w, hw, fun q => d q.symm⟩
        have := cntB_lt (n := n) (A := itB es k) (B := itB es (k + 1)) (fun w _ => itB_dec es k w) hex
        exact .inr (by omega)
/-- After as many steps as there are colours, nothing changes any more. -/
theorem itB_end {es : List Edge} {n : Nat} (hn : ∀ e ∈ es, e.2 < n) (w : Nat) (hw : w < n) : itB es (n + 1) w = itB es n w := by
  rcases itB_fix hn n with h | h
  · exact h w hw
  · have h0 : cntB n (itB es n) = 0 := by omega
    have hf : itB es n w = false := by
      unfold cntB at h0
      rw [List.countP_eq_zero] at h0
      have := h0 w (List.mem_range.2 hw)
      simpa using this
    rw [hf]
    have := itB_dec es n w
    rw [hf] at this
    cases hq : itB es (n + 1) w
    · rfl
    · exact absurd (this hq) (by simp)
/-- A stable and greatest set of colours. -/
structure Endless (n : Nat) (es : List Edge) (A : Nat → Bool) : Prop where
  fix : ∀ w, w < n → stepB es A w = A w
  top : ∀ G : Nat → Bool, (∀ w, G w = true → stepB es G w = true) → ∀ w, G w = true → A w = true
theorem itB_top {es : List Edge} {G : Nat → Bool} (hG : ∀ w, G w = true → stepB es G w = true) : ∀ k w, G w = true → itB es k w = true
  | 0, _, _ => rfl
  | k + 1, w, h => stepB_mono (itB_top hG k) w (hG w h)
theorem endless_it {es : List Edge} {n k : Nat} (h : ∀ w, w < n → itB es (k + 1) w = itB es k w) : Endless n es (itB es k) := ⟨h, fun G hG w hw => itB_top hG k w hw⟩
def flipE (es : List Edge) : List Edge := es.map fun e => (e.2, e.1)
/-- Is an edge lasting? A: colours to which endless ways lead; B: colours from which endless ways lead on. -/
def lastE (A B : Nat → Bool) (e : Edge) : Bool := A e.1 && B e.2
structure Lst (n : Nat) (es : List Edge) (A B : Nat → Bool) : Prop where
  hn : ∀ e ∈ es, e.1 < n ∧ e.2 < n
  a : Endless n (flipE es) A
  b : Endless n es B
section
variable {n : Nat} {es : List Edge} {A B : Nat → Bool}
theorem Lst.pred (L : Lst n es A B) {e : Edge} (he : e ∈ es) (h : lastE A B e = true) : ∃ e' ∈ es, lastE A B e' = true ∧ e'.2 = e.1 := by
  unfold lastE at h ⊢
  rw [Bool.and_eq_true] at h
  have h1 := L.a.fix e.1 (L.hn e he).1
  rw [h.1] at h1
  obtain ⟨x, hx, x1, x2⟩ := stepB_iff.1 h1
  obtain ⟨y, hy, rfl⟩ := List.mem_map.1 hx
  refine ⟨y, hy, ?_, x1⟩
  rw [Bool.and_eq_true]
  refine ⟨x2, ?_⟩
  rw [show y.2 = e.1 from x1, ← L.b.fix e.1 (L.hn e he).1]
  exact stepB_iff.2 ⟨e, he, rfl, h.2⟩
theorem Lst.succ (L : Lst n es A B) {e : Edge} (he : e ∈ es) (h : lastE A B e = true) : ∃ e' ∈ es, lastE A B e' = true ∧ e'.1 = e.2 := by
  unfold lastE at h ⊢
  rw [Bool.and_eq_true] at h
  have h1 := L.b.fix e.2 (L.hn e he).2
  rw [h.2] at h1
  obtain ⟨y, hy, y1, y2⟩ := stepB_iff.1 h1
  refine ⟨y, hy, ?_, y1⟩
  rw [Bool.and_eq_true]
  refine ⟨?_, y2⟩
  rw [show y.1 = e.2 from y1, ← L.a.fix e.2 (L.hn e he).2]
  exact stepB_iff.2 ⟨(e.2, e.1), List.mem_map.2 ⟨e, he, rfl⟩, rfl, h.1⟩
/-- Each stable set of edges is lasting. -/
theorem Lst.top (L : Lst n es A B) {Q : Edge → Bool} (hp : ∀ e ∈ es, Q e = true → ∃ e' ∈ es, Q e' = true ∧ e'.2 = e.1) (hs : ∀ e ∈ es, Q e = true → ∃ e' ∈ es, Q e' = true ∧ e'.1 = e.2) {e : Edge} (he : e ∈ es) (h : Q e = true) : lastE A B e = true := by
  unfold lastE
  rw [Bool.and_eq_true]
  constructor
  · refine L.a.top (fun w => es.any fun e => Q e && e.1 == w) (fun w hw => ?_) e.1 (List.any_eq_true.2 ⟨e, he, by simp [h]⟩)
    obtain ⟨x, hx, h2⟩ := List.any_eq_true.1 hw
    simp at h2
    obtain ⟨y, hy, y1, y2⟩ := hp x hx h2.1
    refine stepB_iff.2 ⟨(y.2, y.1), List.mem_map.2 ⟨y, hy, rfl⟩, by simp [y2, h2.2], List.any_eq_true.2 ⟨y, hy, by simp [y1]⟩⟩
  · refine L.b.top (fun w => es.any fun e => Q e && e.2 == w) (fun w hw => ?_) e.2 (List.any_eq_true.2 ⟨e, he, by simp [h]⟩)
    obtain ⟨x, hx, h2⟩ := List.any_eq_true.1 hw
    simp at h2
    obtain ⟨y, hy, y1, y2⟩ := hs x hx h2.1
    refine stepB_iff.2 ⟨y, hy, by simp [y2, h2.2], List.any_eq_true.2 ⟨y, hy, by simp [y1]⟩⟩
/-- A colour that lies on an endless way in both directions is that of a lasting edge. -/
theorem Lst.word (L : Lst n es A B) {w : Nat} (hw : w < n) : (A w && B w) = true ↔ (∃ e ∈ es, lastE A B e = true ∧ (e.1 = w ∨ e.2 = w)) := by
  rw [Bool.and_eq_true]
  constructor
  · rintro ⟨h1, h2⟩
    have h3 := L.b.fix w hw
    rw [h2] at h3
    obtain ⟨y, hy, y1, y2⟩ := stepB_iff.1 h3
    refine ⟨y, hy, ?_, .inl y1⟩
    unfold lastE
    rw [y1, h1, y2]; rfl
  · rintro ⟨e, he, h, q⟩
    rcases q with rfl | rfl
    · have h' := h
      unfold lastE at h
      rw [Bool.and_eq_true] at h
      refine ⟨h.1, ?_⟩
      rw [← L.b.fix e.1 hw]
      exact stepB_iff.2 ⟨e, he, rfl, h.2⟩
    · unfold lastE at h
      rw [Bool.and_eq_true] at h
      refine ⟨?_, h.2⟩
      rw [← L.a.fix e.2 hw]
      exact stepB_iff.2 ⟨(e.2, e.1), List.mem_map.2 ⟨e, he, rfl⟩, rfl, h.1⟩
end
end Go.Proofs.Ytlcgclmobfdbcaa.Cl

/- Columns: the plain law (cell by cell, and layer by layer). No claim is stated here. -/
set_option linter.unusedVariables false
set_option linter.unusedSimpArgs false
namespace Go.Proofs.Ytlcgclmobfdbcaa.Cl
open Go
section
variable (c : Int) (ts : List Tile)
def colP : Nat → Int → Int → Int → List (Int × Int)
  | 0, _, l, r => [(l, r)]
  | m + 1, s, l, r => ts.flatMap fun t => if 0 ≤ s ∧ s ≠ sd t 1 then [] else colP m (sd t 3) (l * c + sd t 0) (r * c + sd t 2)
/-- The program's columns: west word, east word, north colour. -/
def colI (h : Nat) : Nat → Int → Int → Int → Int → List (Int × Int × Int)
  | 0, top, _, l, r => [(l, r, top)]
  | m + 1, top, last, l, r => ts.flatMap fun t => if m + 1 < h ∧ sd t 1 ≠ last then [] else colI h m (if m + 1 = h then sd t 1 else top) (sd t 3) (l * c + sd t 0) (r * c + sd t 2)
end
variable {c : Int} {ts : List Tile}
/-- The columns of a height: west words and east words. -/
def colsOf (c : Int) (ts : List Tile) (h : Int) : List (Int × Int) := colP c ts h.toNat (-1) 0 0
end Go.Proofs.Ytlcgclmobfdbcaa.Cl

/- slices.Repeat of one element. No claim is stated here. -/
set_option linter.unusedVariables false
set_option linter.unusedSimpArgs false
namespace Go.Proofs.Ytlcgclmobfdbcaa.Cl
open Go
theorem wrapU_of {n : Int} (h1 : 0 ≤ n) (h2 : n < 18446744073709551616) : IntKind.wrap .u64 n = n := by
  unfold IntKind.wrap
  simp [IntKind.bits, IntKind.signed] <;> omega
theorem andLow {x : Int} (h0 : 0 ≤ x) (h1 : x < 4294967296) : bitsOp .and .u64 x 4294967295 = x := by
  obtain ⟨n, rfl⟩ : ∃ n : Nat, x = n := ⟨x.toNat, by omega⟩
  have hn : n < 4294967296 := by omega
  have e : (BitVec.ofInt 64 (n : Int) &&& BitVec.ofInt 64 4294967295).toNat = n := by
    rw [BitVec.toNat_and, BitVec.toNat_ofInt, BitVec.toNat_ofInt]
    have a : ((n : Int) % ((2 ^ 64 : Nat) : Int)).toNat = n := by
      have : ((2 ^ 64 : Nat) : Int) = 18446744073709551616 := by decide
      omega
    have b : ((4294967295 : Int) % ((2 ^ 64 : Nat) : Int)).toNat = 2 ^ 32 - 1 := by decide
    rw [a, b, Nat.and_two_pow_sub_one_eq_mod]
    exact Nat.mod_eq_of_lt hn
  unfold bitsOp
  show IntKind.wrap .u64 (((BitVec.ofInt 64 (n : Int) &&& BitVec.ofInt 64 4294967295).toNat : Nat) : Int) = n
  rw [e]
  exact wrapU_of (by omega) (by omega)
theorem shrU {x : Int} (h0 : 0 ≤ x) (h1 : x < 4294967296) : shrI .u64 x 32 = 0 := by
  unfold shrI
  have : (2 : Int) ^ (min (32 : Int).toNat IntKind.u64.bits) = 4294967296 := by decide
  rw [this, Int.fdiv_eq_ediv_of_nonneg _ (by omega)]
  exact Int.ediv_eq_zero_of_lt h0 h1
theorem mul64_c {x y : Int} (x0 : 0 ≤ x) (x1 : x ≤ 1) (y0 : 0 ≤ y) (y1 : y < 4294967296) {h : H} {K : AVal → H → Prop} (hk : K (.tuple [.int .u64 0, .int .u64 (x * y)]) h) : callV SP i_math_bits_Mul64 [.int .u64 x, .int .u64 y] h K := by
  have hp : 0 ≤ x * y ∧ x * y < 4294967296 := by
    rcases (show x = 0 ∨ x = 1 by omega) with rfl | rfl <;> omega
  refine (show callV SP i_math_bits_Mul64 [.int .u64 x, .int .u64 y] h fun v h' => v = .tuple [.int .u64 0, .int .u64 (x * y)] ∧ h' = h from ?_).to (by rintro _ _ ⟨rfl, rfl⟩; exact hk)
  apply math_bits_Mul64_call
  unfold math_bits_Mul64_main
  rw [shrU x0 (by omega), shrU y0 y1, andLow x0 (by omega), andLow y0 y1, Int.zero_mul, Int.zero_mul, Int.mul_zero, wrapU_of (n := x * y) hp.1 (by omega), wrapU_of (n := 0) (by omega) (by omega), shrU hp.1 hp.2, Int.add_zero, wrapU_of (n := 0) (by omega) (by omega), shrU (x := 0) (by omega) (by omega), andLow (x := 0) (by omega) (by omega), Int.add_zero, wrapU_of (n := 0) (by omega) (by omega), shrU (x := 0) (by omega) (by omega), Int.add_zero, wrapU_of (n := 0) (by omega) (by omega)]
  exact ⟨by decide, by decide, by decide, by decide, by decide, rfl, rfl⟩
theorem mul_c {x y : Int} (x0 : 0 ≤ x) (x1 : x ≤ 1) (y0 : 0 ≤ y) (y1 : y < 4294967296) {h : H} {K : AVal → H → Prop} (hk : K (.tuple [.int .u64 0, .int .u64 (x * y)]) h) : callV SP i_math_bits_Mul [.int .u64 x, .int .u64 y] h K := by
  refine (show callV SP i_math_bits_Mul [.int .u64 x, .int .u64 y] h fun v h' => v = .tuple [.int .u64 0, .int .u64 (x * y)] ∧ h' = h from ?_).to (by rintro _ _ ⟨rfl, rfl⟩; exact hk)
  apply math_bits_Mul_call
  unfold math_bits_Mul_main
  refine mul64_c x0 x1 y0 y1 ?_
  exact ⟨_, rfl, _, rfl, _, rfl, _, rfl, rfl, rfl⟩
/-- A part of a view that is owned whole. -/
theorem cut_own {h : H} {s : Sl} {z : Nat} {cs : List AVal} (r : Ow h s z cs) {o : Nat} (ho : s.o = some o) {lo hi : Int} (h0 : 0 ≤ lo) (h1 : lo ≤ hi) (h2 : hi ≤ s.len) {K : Sl → Prop} (hk : K ⟨some o, s.n, lo.toNat * z, (hi - lo).toNat, z⟩) : cut s z lo hi h K := by
  obtain ⟨a, b⟩ | ⟨o', a, b, c, d, e⟩ := r.at_
  · rw [a] at ho; cases ho
  · have : o' = o := by rw [a] at ho; exact Option.some.inj ho
    subst this
    refine ⟨⟨h0, h1⟩, ?_, (fun q => by rw [a] at q; cases q), fun _ => ⟨b, ?_⟩, ?_⟩
    · unfold okS
      rw [a]
      simp only
      unfold cells
      rw [e]
      simp [r.len, d]
    · rw [c, d]
      have : hi.toNat * z ≤ s.len * z := Nat.mul_le_mul_right _ (by omega)
      omega
    · rw [a, c]; simpa using hk
theorem copy_own {h : H} {s : Sl} {cs : List AVal} (r : Ow h s 1 cs) {o : Nat} (ho : s.o = some o) {a m : Nat} (ham : a + m ≤ s.len) {x : Sl} {xs : List AVal} (hx : x.sz = 1) (hr : range h x.o x.n x.off (min x.len m * 1) = some xs) {K : Int → H → Prop}
    (hk : ∀ h', Ow h' s 1 (splice cs a xs) → But (some o) h h' → h'.length = h.length → K (min x.len m : Nat) h') : copyS ⟨some o, s.n, a, m, 1⟩ x 1 h K := by
  obtain ⟨p, q⟩ | ⟨o', p, b, c, d, e⟩ := r.at_
  · rw [p] at ho; cases ho
  · have : o' = o := by rw [p] at ho; exact Option.some.inj ho
    subst this
    have hxl := range_len hr
    have hcl := r.len
    have hol : o' < h.length := (List.getElem?_eq_some_iff.1 e).1
    have hsl : (splice cs a xs).length = cs.length := by unfold splice; simp; omega
    refine ⟨xs, h.set o' (.own (splice cs a xs)), hr, rfl, hx, ?_, hk _ ⟨by rw [hsl, hcl], .inr ⟨o', p, b, c, d, by simp [List.getElem?_set, hol]⟩⟩ ⟨by simp, fun i hi hn => by rw [List.getElem?_set, if_neg (fun e => hn (by rw [e]))]⟩ (by simp)⟩
    unfold putN owned
    simp only [e, Option.bind_some]
    rw [if_pos (by omega)]
    simp only [Option.bind_some]
    rw [if_pos (by omega)]
theorem rep_splice (v w : AVal) (i n k : Nat) (h : i + k ≤ n) : splice (List.replicate i v ++ List.replicate (n - i) w) i (List.replicate k v) = List.replicate (i + k) v ++ List.replicate (n - (i + k)) w := by
  unfold splice
  rw [List.take_left' (by simp), List.length_replicate, List.drop_append]
  simp only [List.length_replicate, List.drop_replicate]
  rw [show i - (i + k) = 0 by omega, show i + k - i = k by omega, show n - i - k = n - (i + k) by omega]
  simp [List.replicate_append_replicate]
theorem rep_take (v w : AVal) (i n k : Nat) (h : k ≤ i) : (List.replicate i v ++ List.replicate (n - i) w).take k = List.replicate k v := by
  rw [List.take_append_of_le_length (by simpa using h), List.take_replicate, Nat.min_eq_left h]
theorem ow_range {h : H} {s : Sl} {cs : List AVal} (r : Ow h s 1 cs) {o : Nat} (ho : s.o = some o) {k : Nat} (hk : k ≤ s.len) : range h (some o) s.n 0 k = some (cs.take k) := by
  obtain ⟨p, q⟩ | ⟨o', p, b, c, d, e⟩ := r.at_
  · rw [p] at ho; cases ho
  · have : o' = o := by rw [p] at ho; exact Option.some.inj ho
    subst this
    have hcl := r.len
    rw [range_of (xs := cs) (by unfold cells; simp [e, d, hcl]) (by omega)]
    simp
section
variable {h0 : H} {x : Sl} {n : Int}
theorem repeatB_c {v : Bool} (r : Rd h0 x 1 [.bool v]) (n0 : 0 ≤ n) (n1 : n ≤ 1000000) : callS SP i_slices_Repeat_s_bool_bool_ [.sl x, i64 n] h0 fun s h' => Ow h' s 1 (List.replicate n.toNat (.bool v)) ∧ Fr h0.length s ∧ Ext h0 h' := by
  have hxl : x.len = 1 := by have := r.len; simp at this; omega
  have hx : x.sz = 1 ∧ range h0 x.o x.n x.off 1 = some [.bool v] := by
    obtain a | ⟨a, _, c⟩ := r.at_
    · omega
    · exact ⟨a, by rw [hxl] at c; exact c⟩
  apply slices_Repeat_s_bool_bool__call
  unfold slices_Repeat_s_bool_bool__main
  refine bif_dec (fun f => by omega) (fun _ => ?_)
  rw [wrapU_of (n := (x.len : Int)) (by omega) (by omega), wrapU_of n0 (by omega), hxl]
  refine mul_c (by decide) (by decide) n0 (by omega) ?_
  refine ⟨_, rfl, _, rfl, _, rfl, _, rfl, ?_⟩
  rw [show ((1 : Nat) : Int) * n = n by omega]
  refine bif_dec (fun f => by omega) (fun _ => ?_)
  refine bif_dec (fun f => by omega) (fun _ => ?_)
  rw [w64_of (by omega) (by omega)]
  refine mkS_ow n0 (by unfold lim; omega) fun s h7 os ls so e7 => ?_
  have x7 : Ext h0 h7 := by rw [e7]; exact Ext.app _ _
  have os' : Ow h7 s 1 (List.replicate n.toNat (.bool false)) := by simpa using os
  obtain ⟨N, rfl⟩ : ∃ N : Nat, n = N := ⟨n.toNat, by omega⟩
  rw [Int.toNat_natCast] at *
  have hsv : s = ⟨some h0.length, s.n, 0, s.len, 1⟩ := by
    obtain ⟨a, _⟩ | ⟨o, a, b, c, d, _⟩ := os'.at_
    · rw [a] at so; cases so
    · rw [show some h0.length = s.o from so.symm, show (0 : Nat) = s.off from c.symm, show (1 : Nat) = s.sz from b.symm]
  have hmin : min x.len s.len = min 1 N := by rw [hxl, ls]
  have rep0 : List.replicate N (AVal.bool false) = List.replicate 0 (.bool v) ++ List.replicate (N - 0) (.bool false) := by simp
  have step : copyS ⟨some h0.length, s.n, 0, s.len, 1⟩ x 1 h7 fun n8 h9 => slices_Repeat_s_bool_bool__L0 SP (fun v_1 h' => ∃ b, v_1 = AVal.sl b ∧ Ow h' b 1 (List.replicate N (.bool v)) ∧ Fr h0.length b ∧ Ext h0 h') s n8 h9 := by
    refine copy_own os' so (by omega) hx.1 (xs := List.replicate (min 1 N) (.bool v)) ?_ fun h9 o9 b9 l9 => ?_
    · rw [hmin]
      have := x7.range hx.2
      by_cases hN : N = 0
      · subst hN
        have := range_sub this (a := 0) (b := 0) (by omega)
        simpa using this
      · rw [show min 1 N = 1 by omega]; exact this
    · rw [rep0, show splice _ 0 _ = _ from rep_splice _ _ 0 N (min 1 N) (by omega)] at o9
      rw [hmin, Nat.zero_add] at *
      have E9 : Ext h0 h9 := x7.but_ b9 (some_le (Nat.le_refl _))
      refine slices_Repeat_s_bool_bool__rule0 _ _ _ (fun i h => ∃ j : Nat, i = j ∧ j ≤ N ∧ (0 < N → 0 < j) ∧ Ow h s 1 (List.replicate j (.bool v) ++ List.replicate (N - j) (.bool false)) ∧ Ext h0 h) (fun i _ => (N - i).toNat) ?_ _ ⟨min 1 N, rfl, by omega, by omega, o9, E9⟩
      rintro X _ h ⟨j, rfl, hj, hp, o, e⟩ hX
      unfold slices_Repeat_s_bool_bool__b0 slices_Repeat_s_bool_bool__C0
      refine bif_dec (fun hi => ?_) (fun hi => ⟨_, rfl, ?_, (fun o' e' => by rw [so] at e'; cases e'; exact Nat.le_refl _), e⟩)
      · refine cut_own o so (by omega) (by omega) (Int.le_refl _) ?_
        refine cut_own o so (by omega) (by omega) (by omega) ?_
        simp only [Int.toNat_natCast, Nat.mul_one, Int.toNat_zero]
        rw [show ((s.len : Int) - (j : Int)).toNat = s.len - j by omega, show ((j : Int) - 0).toNat = j by omega]
        refine copy_own o so (by omega) rfl (xs := List.replicate (min j (s.len - j)) (.bool v)) ?_ fun h3 o3 b3 l3 => ?_
        · simp only [Nat.mul_one]
          rw [ow_range o so (by omega), rep_take _ _ _ _ _ (by omega)]
        · rw [rep_splice _ _ j N _ (by omega)] at o3
          simp only
          rw [w64_of (by omega) (by omega)]
          refine hX _ _ ⟨j + min j (s.len - j), by push_cast; rfl, by omega, fun _ => by omega, o3, e.but_ b3 (some_le (Nat.le_refl _))⟩ (by omega)
      · have : j = N := by omega
        subst this
        simpa using o
  rw [← hsv] at step
  exact step
end
end Go.Proofs.Ytlcgclmobfdbcaa.Cl
