/- Typed forms of functions, and their links. No claim is stated here. -/
import Derived.Test.YtcoampecbpiecaaFT
set_option linter.unusedVariables false
namespace Go.Proofs.Ytcoampecbpiecaa.Cl
open Go
abbrev KT := AVal → H → Prop
abbrev XT := Frame → H → Prop
def f2_M : Nat → List Nat := fun i => bif i == 6 then [5, 10, 28, 29, 30, 31, 32] else bif i == 4 then [5, 10, 28, 29, 30, 31] else bif i == 2 then [3, 4, 5, 6, 9, 10, 13, 14, 19, 23, 25, 26, 27] else bif i == 0 then [3, 4, 5, 6, 9, 10, 13, 14, 19, 23, 25] else []
def f2_ks30 (S : SatT) (K : KT) : Kont := kSeq (cwp S tab f2_M [] (sub [1, 1, 1, 1, 1, 1, 1, 1, 1, 1, 1, 1, 1] (bodyOf Try.f4)) (kFun tab (Try.f4).results.toList K)) (kFun tab (Try.f4).results.toList K)
def f2_e0 (p3_ : Pt) (i4 : Int) (s5_ : Sl) (i6 i9 i10 : Int) (b13_ : Bool) (i14 : Int) (s19_ s23_ : Sl) (i25 : Int) : Frame := [U, U, U, .ptr p3_, .int .i64 i4, .sl s5_, .int .i64 i6, U, U, .int .i64 i9, .int .i64 i10, U, U, .bool b13_, .int .i64 i14, U, U, U, U, .sl s19_, U, U, U, .sl s23_, U, .int .i64 i25, U, U, U, U, U, U, U, U, U, U, U, U, U, U, U, U, U, U, U, U, U, U, U, U, U, U, U, U, U, U, U, U, U, U, U, U, U, U, U, U, U, U, U, U, U, U, U, U, U, U, U, U, U, U, U, U, U, U, U, U, U, U, U, U, U, U, U, U, U, U, U, U, U, U, U, U, U, U, U, U, U, U, U, U, U, U, U, U, U, U, U, U, U, U, U, U, U, U, U, U, U, U, U, U, U, U, U, U, U, U, U, U, U, U, U, U, U, U, U, U, U, U, U, U, U, U, U, U, U, U, U, U, U, U, U, U, U, U, U, U, U, U, U, U, U, U, U, U, U, U, U, U, U, U, U, U, U, U, U, U, U, U, U, U, U, U, U, U, U, U, U, U, U, U, U, U, U, U, U, U, U, U, U, U, U, U, U, U, U, U, U, U, U, U, U, U, U, U, U, U, U, U, U, U, U, U, U, U, U, U, U, U, U, U, U, U, U, U, U, U, U, U, U, U, U, U, U, U, U, U, U, U, U]
def f2_w0 (S : SatT) (K : KT) : (XT) → XT := fun X fr h => cwp S tab f2_M (f2_M 0) (sub [1, 1, 1, 1, 1, 1, 1, 1, 1, 1, 1, 1, 0, 1, 0, 1, 1, 0, 1, 0, 0] (bodyOf Try.f4)) (kSeq (fun fr h => X (mask (f2_M 0) fr) h) (kBlk 0 (f2_ks30 S K))) fr h
def f2_L0 (S : SatT) (K : KT) (p3_ : Pt) (i4 : Int) (s5_ : Sl) (i6 i9 i10 : Int) (b13_ : Bool) (i14 : Int) (s19_ s23_ : Sl) (i25 : Int) (h : H) : Prop := loopK (f2_w0 S K) (f2_e0 p3_ i4 s5_ i6 i9 i10 b13_ i14 s19_ s23_ i25) h
def f2_ks37 (S : SatT) (K : KT) (X0 : XT) : Kont := kSeq (cwp S tab f2_M (f2_M 0) (sub [1, 1, 1, 1, 1, 1, 1, 1, 1, 1, 1, 1, 0, 1, 0, 1, 1, 0, 1, 0, 0, 1, 1] (bodyOf Try.f4)) (kSeq (fun fr h => X0 (mask (f2_M 0) fr) h) (kBlk 0 (f2_ks30 S K)))) (kSeq (fun fr h => X0 (mask (f2_M 0) fr) h) (kBlk 0 (f2_ks30 S K)))
def f2_ks39 (S : SatT) (K : KT) (X0 : XT) : Kont := kSeq (cwp S tab f2_M (f2_M 1) (sub [1, 1, 1, 1, 1, 1, 1, 1, 1, 1, 1, 1, 0, 1, 0, 1, 1, 0, 1, 0, 0, 1, 0, 0, 1, 1] (bodyOf Try.f4)) (kBlk 1 (f2_ks37 S K X0))) (kBlk 1 (f2_ks37 S K X0))
def f2_e2 (p3_ : Pt) (i4 : Int) (s5_ : Sl) (i6 i9 i10 : Int) (b13_ : Bool) (i14 : Int) (s19_ s23_ : Sl) (i25 i26 i27 : Int) : Frame := [U, U, U, .ptr p3_, .int .i64 i4, .sl s5_, .int .i64 i6, U, U, .int .i64 i9, .int .i64 i10, U, U, .bool b13_, .int .i64 i14, U, U, U, U, .sl s19_, U, U, U, .sl s23_, U, .int .i64 i25, .int .i64 i26, .int .i64 i27, U, U, U, U, U, U, U, U, U, U, U, U, U, U, U, U, U, U, U, U, U, U, U, U, U, U, U, U, U, U, U, U, U, U, U, U, U, U, U, U, U, U, U, U, U, U, U, U, U, U, U, U, U, U, U, U, U, U, U, U, U, U, U, U, U, U, U, U, U, U, U, U, U, U, U, U, U, U, U, U, U, U, U, U, U, U, U, U, U, U, U, U, U, U, U, U, U, U, U, U, U, U, U, U, U, U, U, U, U, U, U, U, U, U, U, U, U, U, U, U, U, U, U, U, U, U, U, U, U, U, U, U, U, U, U, U, U, U, U, U, U, U, U, U, U, U, U, U, U, U, U, U, U, U, U, U, U, U, U, U, U, U, U, U, U, U, U, U, U, U, U, U, U, U, U, U, U, U, U, U, U, U, U, U, U, U, U, U, U, U, U, U, U, U, U, U, U, U, U, U, U, U, U, U, U, U, U, U, U, U, U, U, U, U, U, U, U, U, U, U, U, U, U, U, U, U, U, U, U, U, U]
def f2_w2 (S : SatT) (K : KT) (X0 : XT) : (XT) → XT := fun X fr h => cwp S tab f2_M (f2_M 2) (sub [1, 1, 1, 1, 1, 1, 1, 1, 1, 1, 1, 1, 0, 1, 0, 1, 1, 0, 1, 0, 0, 1, 0, 0, 1, 0, 1, 0, 0] (bodyOf Try.f4)) (kSeq (fun fr h => X (mask (f2_M 2) fr) h) (kBlk 2 (f2_ks39 S K X0))) fr h
def f2_L2 (S : SatT) (K : KT) (X0 : XT) (p3_ : Pt) (i4 : Int) (s5_ : Sl) (i6 i9 i10 : Int) (b13_ : Bool) (i14 : Int) (s19_ s23_ : Sl) (i25 i26 i27 : Int) (h : H) : Prop := loopK (f2_w2 S K X0) (f2_e2 p3_ i4 s5_ i6 i9 i10 b13_ i14 s19_ s23_ i25 i26 i27) h
def f2_C1 (S : SatT) (K : KT) (X0 : XT) (p3_ : Pt) (i4 : Int) (s5_ : Sl) (i6 i9 i10 : Int) (b13_ : Bool) (i14 : Int) (s19_ s23_ : Sl) (i25 : Int) (h : H) : Prop :=
 X0 (f2_e0 p3_ i4 s5_ i6 i9 i10 b13_ i14 s19_ s23_ (w64 (i25 + (1)))) h
def f2_C2 (S : SatT) (K : KT) (X0 : XT) (p3_ : Pt) (i4 : Int) (s5_ : Sl) (i6 i9 i10 : Int) (b13_ : Bool) (i14 : Int) (s19_ s23_ : Sl) (i25 i26 : Int) (h : H) : Prop :=
 ixS s23_ 1 i25 fun p0 =>
 ldI .i64 p0 h fun n1 =>
 nz (10007) (
 bif (i26 != (Int.tmod n1 (10007))) then
 K (.bool false) h
 else
 f2_C1 S K X0 p3_ i4 s5_ i6 i9 i10 b13_ i14 s19_ s23_ i25 h)
def f2_b2 (S : SatT) (K : KT) (X0 X2 : XT) (p3_ : Pt) (i4 : Int) (s5_ : Sl) (i6 i9 i10 : Int) (b13_ : Bool) (i14 : Int) (s19_ s23_ : Sl) (i25 i26 i27 : Int) (h : H) : Prop :=
 bif (decide (i27 < (s19_.len : Int))) then
 ixS s19_ 1 i27 fun p0 =>
 ldI .i64 p0 h fun n1 =>
 ixS s23_ 1 (w64 ((w64 (i25 - (1))) - i27)) fun p2 =>
 ldI .i64 p2 h fun n3 =>
 nz (10007) (
 nz (10007) (
 X2 (f2_e2 p3_ i4 s5_ i6 i9 i10 b13_ i14 s19_ s23_ i25 (Int.tmod (w64 (i26 + (w64 (n1 * (Int.tmod n3 (10007)))))) (10007)) (w64 (i27 + (1)))) h))
 else
 f2_C2 S K X0 p3_ i4 s5_ i6 i9 i10 b13_ i14 s19_ s23_ i25 i26 h
theorem f2_link2 (S : SatT) (K : KT) (X0 X2 : XT) (p3_ : Pt) (i4 : Int) (s5_ : Sl) (i6 i9 i10 : Int) (b13_ : Bool) (i14 : Int) (s19_ s23_ : Sl) (i25 i26 i27 : Int) (h : H) : f2_w2 S K X0 X2 (f2_e2 p3_ i4 s5_ i6 i9 i10 b13_ i14 s19_ s23_ i25 i26 i27) h = f2_b2 S K X0 X2 p3_ i4 s5_ i6 i9 i10 b13_ i14 s19_ s23_ i25 i26 i27 h := by kernel_rfl
theorem f2_rule2 (S : SatT) (K : KT) (X0 : XT) (p3_ : Pt) (i4 : Int) (s5_ : Sl) (i6 i9 i10 : Int) (b13_ : Bool) (i14 : Int) (s19_ s23_ : Sl) (i25 : Int) (I_ : Int → Int → H → Prop) (m_ : Int → Int → H → Nat)
  (hs : ∀ (X2 : XT) (i26 i27 : Int) (h : H), I_ i26 i27 h → (∀ (i26' i27' : Int) (h' : H), I_ i26' i27' h' → m_ i26' i27' h' < m_ i26 i27 h → X2 (f2_e2 p3_ i4 s5_ i6 i9 i10 b13_ i14 s19_ s23_ i25 i26' i27') h') → f2_b2 S K X0 X2 p3_ i4 s5_ i6 i9 i10 b13_ i14 s19_ s23_ i25 i26 i27 h) (i26 i27 : Int) {h : H} (h0 : I_ i26 i27 h) : f2_L2 S K X0 p3_ i4 s5_ i6 i9 i10 b13_ i14 s19_ s23_ i25 i26 i27 h :=
 loop_rule (σ := (Int) × (Int)) (fun s_ => f2_e2 p3_ i4 s5_ i6 i9 i10 b13_ i14 s19_ s23_ i25 (s_.1) (s_.2)) (fun s_ h => I_ (s_.1) (s_.2) h) (fun s_ h => m_ (s_.1) (s_.2) h)
  (fun X s_ h hi hx => (f2_link2 S K X0 X p3_ i4 s5_ i6 i9 i10 b13_ i14 s19_ s23_ i25 (s_.1) (s_.2) h).mpr (hs X (s_.1) (s_.2) h hi fun i26' i27' h' hi' hm' => hx (i26', i27') h' hi' hm')) (i26, i27) h0
def f2_ks54 (S : SatT) (K : KT) : Kont := kSeq (cwp S tab f2_M [] (sub [1, 1, 1, 1, 1, 1, 1, 1, 1, 1, 1, 1, 1, 1, 1, 1, 1, 1] (bodyOf Try.f4)) (kFun tab (Try.f4).results.toList K)) (kFun tab (Try.f4).results.toList K)
def f2_e4 (s5_ : Sl) (i10 : Int) (s28_ : Sl) (i29 : Int) (s30_ : Sl) (i31 : Int) : Frame := [U, U, U, U, U, .sl s5_, U, U, U, U, .int .i64 i10, U, U, U, U, U, U, U, U, U, U, U, U, U, U, U, U, U, .sl s28_, .int .i64 i29, .sl s30_, .int .i64 i31, U, U, U, U, U, U, U, U, U, U, U, U, U, U, U, U, U, U, U, U, U, U, U, U, U, U, U, U, U, U, U, U, U, U, U, U, U, U, U, U, U, U, U, U, U, U, U, U, U, U, U, U, U, U, U, U, U, U, U, U, U, U, U, U, U, U, U, U, U, U, U, U, U, U, U, U, U, U, U, U, U, U, U, U, U, U, U, U, U, U, U, U, U, U, U, U, U, U, U, U, U, U, U, U, U, U, U, U, U, U, U, U, U, U, U, U, U, U, U, U, U, U, U, U, U, U, U, U, U, U, U, U, U, U, U, U, U, U, U, U, U, U, U, U, U, U, U, U, U, U, U, U, U, U, U, U, U, U, U, U, U, U, U, U, U, U, U, U, U, U, U, U, U, U, U, U, U, U, U, U, U, U, U, U, U, U, U, U, U, U, U, U, U, U, U, U, U, U, U, U, U, U, U, U, U, U, U, U, U, U, U, U, U, U, U, U, U, U, U, U, U, U, U, U, U, U, U]
def f2_w4 (S : SatT) (K : KT) : (XT) → XT := fun X fr h => cwp S tab f2_M (f2_M 4) (sub [1, 1, 1, 1, 1, 1, 1, 1, 1, 1, 1, 1, 1, 1, 1, 1, 1, 0, 1, 0, 0] (bodyOf Try.f4)) (kSeq (fun fr h => X (mask (f2_M 4) fr) h) (kBlk 4 (f2_ks54 S K))) fr h
def f2_L4 (S : SatT) (K : KT) (s5_ : Sl) (i10 : Int) (s28_ : Sl) (i29 : Int) (s30_ : Sl) (i31 : Int) (h : H) : Prop := loopK (f2_w4 S K) (f2_e4 s5_ i10 s28_ i29 s30_ i31) h
def f2_ks58 (S : SatT) (K : KT) (X4 : XT) : Kont := kSeq (cwp S tab f2_M (f2_M 4) (sub [1, 1, 1, 1, 1, 1, 1, 1, 1, 1, 1, 1, 1, 1, 1, 1, 1, 0, 1, 0, 0, 1, 1] (bodyOf Try.f4)) (kSeq (fun fr h => X4 (mask (f2_M 4) fr) h) (kBlk 4 (f2_ks54 S K)))) (kSeq (fun fr h => X4 (mask (f2_M 4) fr) h) (kBlk 4 (f2_ks54 S K)))
def f2_e6 (s5_ : Sl) (i10 : Int) (s28_ : Sl) (i29 : Int) (s30_ : Sl) (i31 i32 : Int) : Frame := [U, U, U, U, U, .sl s5_, U, U, U, U, .int .i64 i10, U, U, U, U, U, U, U, U, U, U, U, U, U, U, U, U, U, .sl s28_, .int .i64 i29, .sl s30_, .int .i64 i31, .int .i64 i32, U, U, U, U, U, U, U, U, U, U, U, U, U, U, U, U, U, U, U, U, U, U, U, U, U, U, U, U, U, U, U, U, U, U, U, U, U, U, U, U, U, U, U, U, U, U, U, U, U, U, U, U, U, U, U, U, U, U, U, U, U, U, U, U, U, U, U, U, U, U, U, U, U, U, U, U, U, U, U, U, U, U, U, U, U, U, U, U, U, U, U, U, U, U, U, U, U, U, U, U, U, U, U, U, U, U, U, U, U, U, U, U, U, U, U, U, U, U, U, U, U, U, U, U, U, U, U, U, U, U, U, U, U, U, U, U, U, U, U, U, U, U, U, U, U, U, U, U, U, U, U, U, U, U, U, U, U, U, U, U, U, U, U, U, U, U, U, U, U, U, U, U, U, U, U, U, U, U, U, U, U, U, U, U, U, U, U, U, U, U, U, U, U, U, U, U, U, U, U, U, U, U, U, U, U, U, U, U, U, U, U, U, U, U, U, U, U, U, U, U, U, U, U, U, U, U]
def f2_w6 (S : SatT) (K : KT) (X4 : XT) : (XT) → XT := fun X fr h => cwp S tab f2_M (f2_M 6) (sub [1, 1, 1, 1, 1, 1, 1, 1, 1, 1, 1, 1, 1, 1, 1, 1, 1, 0, 1, 0, 0, 1, 0, 0, 1, 0, 0] (bodyOf Try.f4)) (kSeq (fun fr h => X (mask (f2_M 6) fr) h) (kBlk 6 (kBlk 5 (f2_ks58 S K X4)))) fr h
def f2_L6 (S : SatT) (K : KT) (X4 : XT) (s5_ : Sl) (i10 : Int) (s28_ : Sl) (i29 : Int) (s30_ : Sl) (i31 i32 : Int) (h : H) : Prop := loopK (f2_w6 S K X4) (f2_e6 s5_ i10 s28_ i29 s30_ i31 i32) h
def f2_C5 (S : SatT) (K : KT) (X4 : XT) (s5_ : Sl) (i10 : Int) (s28_ : Sl) (i29 : Int) (s30_ : Sl) (i31 : Int) (h : H) : Prop :=
 X4 (f2_e4 s5_ i10 s28_ i29 s30_ (w64 (i31 + (1)))) h
def f2_C6 (S : SatT) (K : KT) (X4 : XT) (s5_ : Sl) (i10 : Int) (s28_ : Sl) (i29 : Int) (s30_ : Sl) (i31 : Int) (h : H) : Prop :=
 f2_C5 S K X4 s5_ i10 s28_ i29 s30_ i31 h
def f2_b6 (S : SatT) (K : KT) (X4 X6 : XT) (s5_ : Sl) (i10 : Int) (s28_ : Sl) (i29 : Int) (s30_ : Sl) (i31 i32 : Int) (h : H) : Prop :=
 ixS s5_ 1 i31 fun p0 =>
 ldS p0 h fun s1 =>
 bif (decide (i32 < (s1.len : Int))) then
 ixS s5_ 1 i31 fun p2 =>
 ldS p2 h fun s3 =>
 ixS s3 1 i32 fun p4 =>
 ldI .i64 p4 h fun n5 =>
 bif (decide (n5 < (0))) then
 K (.bool false) h
 else
 bif (decide (n5 ≥ (s28_.len : Int))) then
 K (.bool false) h
 else
 ixS s30_ 1 n5 fun p6 =>
 ldB p6 h fun b7 =>
 bif b7 then
 K (.bool false) h
 else
 ixS s30_ 1 n5 fun p8 =>
 st1 p8 (.bool true) h fun h9 =>
 X6 (f2_e6 s5_ i10 s28_ i29 s30_ i31 (w64 (i32 + (1)))) h9
 else
 f2_C6 S K X4 s5_ i10 s28_ i29 s30_ i31 h
theorem f2_link6 (S : SatT) (K : KT) (X4 X6 : XT) (s5_ : Sl) (i10 : Int) (s28_ : Sl) (i29 : Int) (s30_ : Sl) (i31 i32 : Int) (h : H) : f2_w6 S K X4 X6 (f2_e6 s5_ i10 s28_ i29 s30_ i31 i32) h = f2_b6 S K X4 X6 s5_ i10 s28_ i29 s30_ i31 i32 h := by kernel_rfl
theorem f2_rule6 (S : SatT) (K : KT) (X4 : XT) (s5_ : Sl) (i10 : Int) (s28_ : Sl) (i29 : Int) (s30_ : Sl) (i31 : Int) (I_ : Int → H → Prop) (m_ : Int → H → Nat)
  (hs : ∀ (X6 : XT) (i32 : Int) (h : H), I_ i32 h → (∀ (i32' : Int) (h' : H), I_ i32' h' → m_ i32' h' < m_ i32 h → X6 (f2_e6 s5_ i10 s28_ i29 s30_ i31 i32') h') → f2_b6 S K X4 X6 s5_ i10 s28_ i29 s30_ i31 i32 h) (i32 : Int) {h : H} (h0 : I_ i32 h) : f2_L6 S K X4 s5_ i10 s28_ i29 s30_ i31 i32 h :=
 loop_rule (σ := (Int)) (fun s_ => f2_e6 s5_ i10 s28_ i29 s30_ i31 (s_)) (fun s_ h => I_ (s_) h) (fun s_ h => m_ (s_) h)
  (fun X s_ h hi hx => (f2_link6 S K X4 X s5_ i10 s28_ i29 s30_ i31 (s_) h).mpr (hs X (s_) h hi fun i32' h' hi' hm' => hx (i32') h' hi' hm')) (i32) h0
def f2_C4 (S : SatT) (K : KT) (s5_ : Sl) (i10 : Int) (s28_ : Sl) (i29 : Int) (h : H) : Prop :=
 bif (i29 == (0)) then
 bif ((s5_.len : Int) == (1)) then
 ixS s5_ 1 (0) fun p0 =>
 ldS p0 h fun s1 =>
 K (.bool ((i10 == (0)) == ((s1.len : Int) == (s28_.len : Int)))) h
 else
 K (.bool ((i10 == (0)) == false)) h
 else
 K (.bool false) h
def f2_b4 (S : SatT) (K : KT) (X4 : XT) (s5_ : Sl) (i10 : Int) (s28_ : Sl) (i29 : Int) (s30_ : Sl) (i31 : Int) (h : H) : Prop :=
 bif (decide (i31 < (s5_.len : Int))) then
 f2_L6 S K X4 s5_ i10 s28_ i29 s30_ i31 (0) h
 else
 f2_C4 S K s5_ i10 s28_ i29 h
theorem f2_link4 (S : SatT) (K : KT) (X4 : XT) (s5_ : Sl) (i10 : Int) (s28_ : Sl) (i29 : Int) (s30_ : Sl) (i31 : Int) (h : H) : f2_w4 S K X4 (f2_e4 s5_ i10 s28_ i29 s30_ i31) h = f2_b4 S K X4 s5_ i10 s28_ i29 s30_ i31 h := by kernel_rfl
theorem f2_rule4 (S : SatT) (K : KT) (s5_ : Sl) (i10 : Int) (s28_ : Sl) (i29 : Int) (s30_ : Sl) (I_ : Int → H → Prop) (m_ : Int → H → Nat)
  (hs : ∀ (X4 : XT) (i31 : Int) (h : H), I_ i31 h → (∀ (i31' : Int) (h' : H), I_ i31' h' → m_ i31' h' < m_ i31 h → X4 (f2_e4 s5_ i10 s28_ i29 s30_ i31') h') → f2_b4 S K X4 s5_ i10 s28_ i29 s30_ i31 h) (i31 : Int) {h : H} (h0 : I_ i31 h) : f2_L4 S K s5_ i10 s28_ i29 s30_ i31 h :=
 loop_rule (σ := (Int)) (fun s_ => f2_e4 s5_ i10 s28_ i29 s30_ (s_)) (fun s_ h => I_ (s_) h) (fun s_ h => m_ (s_) h)
  (fun X s_ h hi hx => (f2_link4 S K X s5_ i10 s28_ i29 s30_ (s_) h).mpr (hs X (s_) h hi fun i31' h' hi' hm' => hx (i31') h' hi' hm')) (i31) h0
def f2_C0 (S : SatT) (K : KT) (p3_ : Pt) (i4 : Int) (s5_ : Sl) (i6 i9 i10 : Int) (b13_ : Bool) (i14 : Int) (h : H) : Prop :=
 bif (i14 == (0)) then
 bif (i10 == (0)) then
 bif (b13_ != (i9 == (1))) then
 K (.bool false) h
 else
 bif (i6 != (0)) then
 K (.bool ((s5_.len : Int) == (0))) h
 else
 ldA p3_ 2 h fun cs0 =>
 callV S i_f8 [.agg cs0, .int .i64 i4] h fun v2 h1 =>
 viaT v2 fun vs3 =>
 exS vs3 0 fun s4 =>
 viaT v2 fun vs5 =>
 exI .i64 vs5 1 fun n6 =>
 mkS (s4.len : Int) [.bool false] h1 fun s7 h8 =>
 f2_L4 S K s5_ i10 s4 n6 s7 (0) h8
 else
 bif (b13_ != false) then
 K (.bool false) h
 else
 bif (i6 != (0)) then
 K (.bool ((s5_.len : Int) == (0))) h
 else
 ldA p3_ 2 h fun cs9 =>
 callV S i_f8 [.agg cs9, .int .i64 i4] h fun v11 h10 =>
 viaT v11 fun vs12 =>
 exS vs12 0 fun s13 =>
 viaT v11 fun vs14 =>
 exI .i64 vs14 1 fun n15 =>
 mkS (s13.len : Int) [.bool false] h10 fun s16 h17 =>
 f2_L4 S K s5_ i10 s13 n15 s16 (0) h17
 else
 bif (i6 != (0)) then
 K (.bool ((s5_.len : Int) == (0))) h
 else
 ldA p3_ 2 h fun cs18 =>
 callV S i_f8 [.agg cs18, .int .i64 i4] h fun v20 h19 =>
 viaT v20 fun vs21 =>
 exS vs21 0 fun s22 =>
 viaT v20 fun vs23 =>
 exI .i64 vs23 1 fun n24 =>
 mkS (s22.len : Int) [.bool false] h19 fun s25 h26 =>
 f2_L4 S K s5_ i10 s22 n24 s25 (0) h26
def f2_b0 (S : SatT) (K : KT) (X0 : XT) (p3_ : Pt) (i4 : Int) (s5_ : Sl) (i6 i9 i10 : Int) (b13_ : Bool) (i14 : Int) (s19_ s23_ : Sl) (i25 : Int) (h : H) : Prop :=
 bif (decide (i25 < (s23_.len : Int))) then
 f2_L2 S K X0 p3_ i4 s5_ i6 i9 i10 b13_ i14 s19_ s23_ i25 (0) (0) h
 else
 f2_C0 S K p3_ i4 s5_ i6 i9 i10 b13_ i14 h
theorem f2_link0 (S : SatT) (K : KT) (X0 : XT) (p3_ : Pt) (i4 : Int) (s5_ : Sl) (i6 i9 i10 : Int) (b13_ : Bool) (i14 : Int) (s19_ s23_ : Sl) (i25 : Int) (h : H) : f2_w0 S K X0 (f2_e0 p3_ i4 s5_ i6 i9 i10 b13_ i14 s19_ s23_ i25) h = f2_b0 S K X0 p3_ i4 s5_ i6 i9 i10 b13_ i14 s19_ s23_ i25 h := by kernel_rfl
theorem f2_rule0 (S : SatT) (K : KT) (p3_ : Pt) (i4 : Int) (s5_ : Sl) (i6 i9 i10 : Int) (b13_ : Bool) (i14 : Int) (s19_ s23_ : Sl) (I_ : Int → H → Prop) (m_ : Int → H → Nat)
  (hs : ∀ (X0 : XT) (i25 : Int) (h : H), I_ i25 h → (∀ (i25' : Int) (h' : H), I_ i25' h' → m_ i25' h' < m_ i25 h → X0 (f2_e0 p3_ i4 s5_ i6 i9 i10 b13_ i14 s19_ s23_ i25') h') → f2_b0 S K X0 p3_ i4 s5_ i6 i9 i10 b13_ i14 s19_ s23_ i25 h) (i25 : Int) {h : H} (h0 : I_ i25 h) : f2_L0 S K p3_ i4 s5_ i6 i9 i10 b13_ i14 s19_ s23_ i25 h :=
 loop_rule (σ := (Int)) (fun s_ => f2_e0 p3_ i4 s5_ i6 i9 i10 b13_ i14 s19_ s23_ (s_)) (fun s_ h => I_ (s_) h) (fun s_ h => m_ (s_) h)
  (fun X s_ h hi hx => (f2_link0 S K X p3_ i4 s5_ i6 i9 i10 b13_ i14 s19_ s23_ (s_) h).mpr (hs X (s_) h hi fun i25' h' hi' hm' => hx (i25') h' hi' hm')) (i25) h0
def f2_main (S : SatT) (K : KT) (x0 : Sl) (h : H) : Prop :=
 callB S i_f3 [.sl x0] h fun b1 h0 =>
 bif b1 then
 K (.bool true) h0
 else
 callV S i_f18 [.sl x0] h0 fun v3 h2 =>
 viaT v3 fun vs4 =>
 exA vs4 0 fun cs5 =>
 viaT v3 fun vs6 =>
 exI .i64 vs6 1 fun n7 =>
 newO [.int .i64 (0), .sl Sl.nil] h2 fun p8 h9 =>
 stN p8 2 cs5 h9 fun h10 =>
 ldA p8 2 h10 fun cs11 =>
 callV S i_f19 [.agg cs11, .int .i64 n7] h10 fun v13 h12 =>
 viaT v13 fun vs14 =>
 exS vs14 0 fun s15 =>
 viaT v13 fun vs16 =>
 exI .i64 vs16 1 fun n17 =>
 ldA p8 2 h12 fun cs18 =>
 callV S i_f20 [.agg cs18, .int .i64 n7] h12 fun v20 h19 =>
 viaT v20 fun vs21 =>
 exS vs21 0 fun s22 =>
 viaT v20 fun vs23 =>
 exI .i64 vs23 1 fun n24 =>
 bif (n17 != n24) then
 K (.bool false) h19
 else
 callB S i_f7 [.sl s15, .sl s22] h19 fun b26 h25 =>
 bif (!b26) then
 K (.bool false) h25
 else
 ldA p8 2 h25 fun cs27 =>
 callV S i_f21 [.agg cs27, .int .i64 n7] h25 fun v29 h28 =>
 viaT v29 fun vs30 =>
 exI .i64 vs30 0 fun n31 =>
 viaT v29 fun vs32 =>
 exI .i64 vs32 1 fun n33 =>
 ldA p8 2 h28 fun cs34 =>
 callV S i_f22 [.agg cs34, .int .i64 n7] h28 fun v36 h35 =>
 viaT v36 fun vs37 =>
 exI .i64 vs37 0 fun n38 =>
 viaT v36 fun vs39 =>
 exI .i64 vs39 1 fun n40 =>
 bif (n33 != n40) then
 K (.bool false) h35
 else
 bif (n31 != n38) then
 K (.bool false) h35
 else
 ldA p8 2 h35 fun cs41 =>
 callV S i_f23 [.agg cs41, .int .i64 n7] h35 fun v43 h42 =>
 viaT v43 fun vs44 =>
 exB vs44 0 fun b45 =>
 viaT v43 fun vs46 =>
 exI .i64 vs46 1 fun n47 =>
 ldA p8 2 h42 fun cs48 =>
 callV S i_f24 [.agg cs48, .int .i64 n7] h42 fun v50 h49 =>
 viaT v50 fun vs51 =>
 exB vs51 0 fun b52 =>
 viaT v50 fun vs53 =>
 exI .i64 vs53 1 fun n54 =>
 bif (n47 != n54) then
 K (.bool false) h49
 else
 bif (b45 != b52) then
 K (.bool false) h49
 else
 callV S i_f25 [.sl x0] h49 fun v56 h55 =>
 viaT v56 fun vs57 =>
 exA vs57 0 fun cs58 =>
 viaT v56 fun vs59 =>
 exI .i64 vs59 1 fun n60 =>
 newO [.int .i64 (0), .sl Sl.nil] h55 fun p61 h62 =>
 stN p61 2 cs58 h62 fun h63 =>
 ldA p61 2 h63 fun cs64 =>
 callV S i_f26 [.agg cs64, .int .i64 n60] h63 fun v66 h65 =>
 viaT v66 fun vs67 =>
 exS vs67 0 fun s68 =>
 viaT v66 fun vs69 =>
 exI .i64 vs69 1 fun n70 =>
 ldA p61 2 h65 fun cs71 =>
 callV S i_f27 [.agg cs71, .int .i64 n60] h65 fun v73 h72 =>
 viaT v73 fun vs74 =>
 exS vs74 0 fun s75 =>
 viaT v73 fun vs76 =>
 exI .i64 vs76 1 fun n77 =>
 bif (n70 != n77) then
 K (.bool false) h72
 else
 callB S i_f15 [.sl s68, .sl s75] h72 fun b79 h78 =>
 bif (!b79) then
 K (.bool false) h78
 else
 bif (n70 == (0)) then
 ldA p61 2 h78 fun cs80 =>
 callV S i_f13 [.agg cs80, .int .i64 n60, .int .i64 (12)] h78 fun v82 h81 =>
 viaT v82 fun vs83 =>
 exS vs83 0 fun s84 =>
 viaT v82 fun vs85 =>
 exI .i64 vs85 1 fun n86 =>
 bif (n86 == (0)) then
 f2_L0 S K p8 n7 s15 n17 n31 n33 b45 n47 s68 s84 (s68.len : Int) h81
 else
 bif (n47 == (0)) then
 bif (n33 == (0)) then
 bif (b45 != (n31 == (1))) then
 K (.bool false) h81
 else
 bif (n17 != (0)) then
 K (.bool ((s15.len : Int) == (0))) h81
 else
 ldA p8 2 h81 fun cs87 =>
 callV S i_f8 [.agg cs87, .int .i64 n7] h81 fun v89 h88 =>
 viaT v89 fun vs90 =>
 exS vs90 0 fun s91 =>
 viaT v89 fun vs92 =>
 exI .i64 vs92 1 fun n93 =>
 mkS (s91.len : Int) [.bool false] h88 fun s94 h95 =>
 f2_L4 S K s15 n33 s91 n93 s94 (0) h95
 else
 bif (b45 != false) then
 K (.bool false) h81
 else
 bif (n17 != (0)) then
 K (.bool ((s15.len : Int) == (0))) h81
 else
 ldA p8 2 h81 fun cs96 =>
 callV S i_f8 [.agg cs96, .int .i64 n7] h81 fun v98 h97 =>
 viaT v98 fun vs99 =>
 exS vs99 0 fun s100 =>
 viaT v98 fun vs101 =>
 exI .i64 vs101 1 fun n102 =>
 mkS (s100.len : Int) [.bool false] h97 fun s103 h104 =>
 f2_L4 S K s15 n33 s100 n102 s103 (0) h104
 else
 bif (n17 != (0)) then
 K (.bool ((s15.len : Int) == (0))) h81
 else
 ldA p8 2 h81 fun cs105 =>
 callV S i_f8 [.agg cs105, .int .i64 n7] h81 fun v107 h106 =>
 viaT v107 fun vs108 =>
 exS vs108 0 fun s109 =>
 viaT v107 fun vs110 =>
 exI .i64 vs110 1 fun n111 =>
 mkS (s109.len : Int) [.bool false] h106 fun s112 h113 =>
 f2_L4 S K s15 n33 s109 n111 s112 (0) h113
 else
 bif (n47 == (0)) then
 bif (n33 == (0)) then
 bif (b45 != (n31 == (1))) then
 K (.bool false) h78
 else
 bif (n17 != (0)) then
 K (.bool ((s15.len : Int) == (0))) h78
 else
 ldA p8 2 h78 fun cs114 =>
 callV S i_f8 [.agg cs114, .int .i64 n7] h78 fun v116 h115 =>
 viaT v116 fun vs117 =>
 exS vs117 0 fun s118 =>
 viaT v116 fun vs119 =>
 exI .i64 vs119 1 fun n120 =>
 mkS (s118.len : Int) [.bool false] h115 fun s121 h122 =>
 f2_L4 S K s15 n33 s118 n120 s121 (0) h122
 else
 bif (b45 != false) then
 K (.bool false) h78
 else
 bif (n17 != (0)) then
 K (.bool ((s15.len : Int) == (0))) h78
 else
 ldA p8 2 h78 fun cs123 =>
 callV S i_f8 [.agg cs123, .int .i64 n7] h78 fun v125 h124 =>
 viaT v125 fun vs126 =>
 exS vs126 0 fun s127 =>
 viaT v125 fun vs128 =>
 exI .i64 vs128 1 fun n129 =>
 mkS (s127.len : Int) [.bool false] h124 fun s130 h131 =>
 f2_L4 S K s15 n33 s127 n129 s130 (0) h131
 else
 bif (n17 != (0)) then
 K (.bool ((s15.len : Int) == (0))) h78
 else
 ldA p8 2 h78 fun cs132 =>
 callV S i_f8 [.agg cs132, .int .i64 n7] h78 fun v134 h133 =>
 viaT v134 fun vs135 =>
 exS vs135 0 fun s136 =>
 viaT v134 fun vs137 =>
 exI .i64 vs137 1 fun n138 =>
 mkS (s136.len : Int) [.bool false] h133 fun s139 h140 =>
 f2_L4 S K s15 n33 s136 n138 s139 (0) h140
theorem f2_main_link (S : SatT) (K : KT) (x0 : Sl) (h : H) : cwp S tab f2_M [] (bodyOf Try.f4) (kFun tab Try.f4.results.toList K) (fr0 Try.f4 [.sl x0]) h = f2_main S K x0 h := by kernel_rfl
theorem f2_call (x0 : Sl) (h : H) (K : Bool → H → Prop) (hm : f2_main (Sat Try.prog) (fun v h' => ∃ r, v = .bool r ∧ K r h') x0 h) : callB (Sat Try.prog) i_f2 [.sl x0] h K := by
 have := Sat.ex tok mixed f2_M Try.func4 (c := bodyOf Try.f4) (by kernel_rfl) (calls_of Try.func4 (c := bodyOf Try.f4) (by kernel_rfl) (by decide)) ((f2_main_link _ _ x0 h).mpr hm)
 obtain ⟨v, h2, h3, r, rfl, h4⟩ := this; exact ⟨r, h2, h3, h4⟩
def f51_M : Nat → List Nat := fun i => bif i == 6 then [4, 6, 10, 80, 81, 82, 87, 88, 89] else bif i == 4 then [4, 6, 80, 81, 82] else bif i == 2 then [0, 4, 5, 6, 7, 48, 49, 50] else bif i == 0 then [0, 4, 5, 6, 7] else []
def f51_ks8 (S : SatT) (K : KT) : Kont := kSeq (cwp S tab f51_M [] (sub [1, 1, 1, 1, 1, 1] (bodyOf Try.f53)) (kFun tab (Try.f53).results.toList K)) (kFun tab (Try.f53).results.toList K)
def f51_e0 (s0_ s4_ s5_ : Sl) (i6 i7 : Int) : Frame := [.sl s0_, U, U, U, .sl s4_, .sl s5_, .int .i64 i6, .int .i64 i7, U, U, U, U, U, U, U, U, U, U, U, U, U, U, U, U, U, U, U, U, U, U, U, U, U, U, U, U, U, U, U, U, U, U, U, U, U, U, U, U, U, U, U, U, U, U, U, U, U, U, U, U, U, U, U, U, U, U, U, U, U, U, U, U, U, U, U, U, U, U, U, U, U, U, U, U, U, U, U, U, U, U, U, U, U, U, U, U, U, U, U, U, U, U, U, U, U, U, U, U, U, U, U, U, U, U, U]
def f51_w0 (S : SatT) (K : KT) : (XT) → XT := fun X fr h => cwp S tab f51_M (f51_M 0) (sub [1, 1, 1, 1, 1, 0, 1, 0, 0] (bodyOf Try.f53)) (kSeq (fun fr h => X (mask (f51_M 0) fr) h) (kBlk 0 (f51_ks8 S K))) fr h
def f51_L0 (S : SatT) (K : KT) (s0_ s4_ s5_ : Sl) (i6 i7 : Int) (h : H) : Prop := loopK (f51_w0 S K) (f51_e0 s0_ s4_ s5_ i6 i7) h
def f51_ks12 (S : SatT) (K : KT) (X0 : XT) : Kont := kSeq (cwp S tab f51_M (f51_M 0) (sub [1, 1, 1, 1, 1, 0, 1, 0, 0, 1, 1] (bodyOf Try.f53)) (kSeq (fun fr h => X0 (mask (f51_M 0) fr) h) (kBlk 0 (f51_ks8 S K)))) (kSeq (fun fr h => X0 (mask (f51_M 0) fr) h) (kBlk 0 (f51_ks8 S K)))
def f51_e2 (s0_ s4_ s5_ : Sl) (i6 i7 : Int) (s48_ : Sl) (i49 i50 : Int) : Frame := [.sl s0_, U, U, U, .sl s4_, .sl s5_, .int .i64 i6, .int .i64 i7, U, U, U, U, U, U, U, U, U, U, U, U, U, U, U, U, U, U, U, U, U, U, U, U, U, U, U, U, U, U, U, U, U, U, U, U, U, U, U, U, .sl s48_, .int .i64 i49, .int .i64 i50, U, U, U, U, U, U, U, U, U, U, U, U, U, U, U, U, U, U, U, U, U, U, U, U, U, U, U, U, U, U, U, U, U, U, U, U, U, U, U, U, U, U, U, U, U, U, U, U, U, U, U, U, U, U, U, U, U, U, U, U, U, U, U, U]
def f51_w2 (S : SatT) (K : KT) (X0 : XT) : (XT) → XT := fun X fr h => cwp S tab f51_M (f51_M 2) (sub [1, 1, 1, 1, 1, 0, 1, 0, 0, 1, 0, 0, 1, 0, 0] (bodyOf Try.f53)) (kSeq (fun fr h => X (mask (f51_M 2) fr) h) (kBlk 2 (kBlk 1 (f51_ks12 S K X0)))) fr h
def f51_L2 (S : SatT) (K : KT) (X0 : XT) (s0_ s4_ s5_ : Sl) (i6 i7 : Int) (s48_ : Sl) (i49 i50 : Int) (h : H) : Prop := loopK (f51_w2 S K X0) (f51_e2 s0_ s4_ s5_ i6 i7 s48_ i49 i50) h
def f51_C1 (S : SatT) (K : KT) (X0 : XT) (s0_ s4_ s5_ : Sl) (i6 i7 : Int) (h : H) : Prop :=
 X0 (f51_e0 s0_ s4_ s5_ i6 (w64 (i7 + (1)))) h
def f51_C2 (S : SatT) (K : KT) (X0 : XT) (s0_ s4_ s5_ : Sl) (i6 i7 : Int) (h : H) : Prop :=
 f51_C1 S K X0 s0_ s4_ s5_ i6 i7 h
def f51_b2 (S : SatT) (K : KT) (X0 X2 : XT) (s0_ s4_ s5_ : Sl) (i6 i7 : Int) (s48_ : Sl) (i49 i50 : Int) (h : H) : Prop :=
 bif (decide (i50 < i49)) then
 ixS s48_ 1 i50 fun p0 =>
 ldI .i64 p0 h fun n1 =>
 bif (decide (n1 > (0))) then
 ixS s4_ 1 i50 fun p2 =>
 ldI .i64 p2 h fun n3 =>
 bif (decide (n3 < (0))) then
 ixS s5_ 1 i7 fun p4 =>
 ldI .i64 p4 h fun n5 =>
 ixS s4_ 1 n5 fun p6 =>
 ldI .i64 p6 h fun n7 =>
 ixS s4_ 1 i50 fun p8 =>
 st1 p8 (.int .i64 (w64 (n7 + (1)))) h fun h9 =>
 newS 1 1 [.int .i64 i50] h9 fun s10 h11 =>
 app s5_ s10 1 h11 fun s12 h13 =>
 X2 (f51_e2 s0_ s4_ s12 i6 i7 s48_ i49 (w64 (i50 + (1)))) h13
 else
 X2 (f51_e2 s0_ s4_ s5_ i6 i7 s48_ i49 (w64 (i50 + (1)))) h
 else
 X2 (f51_e2 s0_ s4_ s5_ i6 i7 s48_ i49 (w64 (i50 + (1)))) h
 else
 f51_C2 S K X0 s0_ s4_ s5_ i6 i7 h
theorem f51_link2 (S : SatT) (K : KT) (X0 X2 : XT) (s0_ s4_ s5_ : Sl) (i6 i7 : Int) (s48_ : Sl) (i49 i50 : Int) (h : H) : f51_w2 S K X0 X2 (f51_e2 s0_ s4_ s5_ i6 i7 s48_ i49 i50) h = f51_b2 S K X0 X2 s0_ s4_ s5_ i6 i7 s48_ i49 i50 h := by kernel_rfl
theorem f51_rule2 (S : SatT) (K : KT) (X0 : XT) (s0_ s4_ : Sl) (i6 i7 : Int) (s48_ : Sl) (i49 : Int) (I_ : Sl → Int → H → Prop) (m_ : Sl → Int → H → Nat)
  (hs : ∀ (X2 : XT) (s5_ : Sl) (i50 : Int) (h : H), I_ s5_ i50 h → (∀ (s5_' : Sl) (i50' : Int) (h' : H), I_ s5_' i50' h' → m_ s5_' i50' h' < m_ s5_ i50 h → X2 (f51_e2 s0_ s4_ s5_' i6 i7 s48_ i49 i50') h') → f51_b2 S K X0 X2 s0_ s4_ s5_ i6 i7 s48_ i49 i50 h) (s5_ : Sl) (i50 : Int) {h : H} (h0 : I_ s5_ i50 h) : f51_L2 S K X0 s0_ s4_ s5_ i6 i7 s48_ i49 i50 h :=
 loop_rule (σ := (Sl) × (Int)) (fun s_ => f51_e2 s0_ s4_ (s_.1) i6 i7 s48_ i49 (s_.2)) (fun s_ h => I_ (s_.1) (s_.2) h) (fun s_ h => m_ (s_.1) (s_.2) h)
  (fun X s_ h hi hx => (f51_link2 S K X0 X s0_ s4_ (s_.1) i6 i7 s48_ i49 (s_.2) h).mpr (hs X (s_.1) (s_.2) h hi fun s5_' i50' h' hi' hm' => hx (s5_', i50') h' hi' hm')) (s5_, i50) h0
def f51_ks20 (S : SatT) (K : KT) : Kont := kSeq (cwp S tab f51_M [] (sub [1, 1, 1, 1, 1, 1, 1] (bodyOf Try.f53)) (kFun tab (Try.f53).results.toList K)) (kFun tab (Try.f53).results.toList K)
def f51_e4 (s4_ : Sl) (i6 : Int) (s80_ : Sl) (i81 i82 : Int) : Frame := [U, U, U, U, .sl s4_, U, .int .i64 i6, U, U, U, U, U, U, U, U, U, U, U, U, U, U, U, U, U, U, U, U, U, U, U, U, U, U, U, U, U, U, U, U, U, U, U, U, U, U, U, U, U, U, U, U, U, U, U, U, U, U, U, U, U, U, U, U, U, U, U, U, U, U, U, U, U, U, U, U, U, U, U, U, U, .sl s80_, .int .i64 i81, .int .i64 i82, U, U, U, U, U, U, U, U, U, U, U, U, U, U, U, U, U, U, U, U, U, U, U, U, U, U, U, U, U, U, U, U]
def f51_w4 (S : SatT) (K : KT) : (XT) → XT := fun X fr h => cwp S tab f51_M (f51_M 4) (sub [1, 1, 1, 1, 1, 1, 0, 1, 0, 0] (bodyOf Try.f53)) (kSeq (fun fr h => X (mask (f51_M 4) fr) h) (kBlk 4 (f51_ks20 S K))) fr h
def f51_L4 (S : SatT) (K : KT) (s4_ : Sl) (i6 : Int) (s80_ : Sl) (i81 i82 : Int) (h : H) : Prop := loopK (f51_w4 S K) (f51_e4 s4_ i6 s80_ i81 i82) h
def f51_ks24 (S : SatT) (K : KT) (X4 : XT) : Kont := kSeq (cwp S tab f51_M (f51_M 4) (sub [1, 1, 1, 1, 1, 1, 0, 1, 0, 0, 1, 1, 1] (bodyOf Try.f53)) (kSeq (fun fr h => X4 (mask (f51_M 4) fr) h) (kBlk 4 (f51_ks20 S K)))) (kSeq (fun fr h => X4 (mask (f51_M 4) fr) h) (kBlk 4 (f51_ks20 S K)))
def f51_e6 (s4_ : Sl) (i6 i10 : Int) (s80_ : Sl) (i81 i82 : Int) (s87_ : Sl) (i88 i89 : Int) : Frame := [U, U, U, U, .sl s4_, U, .int .i64 i6, U, U, U, .int .i64 i10, U, U, U, U, U, U, U, U, U, U, U, U, U, U, U, U, U, U, U, U, U, U, U, U, U, U, U, U, U, U, U, U, U, U, U, U, U, U, U, U, U, U, U, U, U, U, U, U, U, U, U, U, U, U, U, U, U, U, U, U, U, U, U, U, U, U, U, U, U, .sl s80_, .int .i64 i81, .int .i64 i82, U, U, U, U, .sl s87_, .int .i64 i88, .int .i64 i89, U, U, U, U, U, U, U, U, U, U, U, U, U, U, U, U, U, U, U, U, U, U, U, U, U]
def f51_w6 (S : SatT) (K : KT) (X4 : XT) : (XT) → XT := fun X fr h => cwp S tab f51_M (f51_M 6) (sub [1, 1, 1, 1, 1, 1, 0, 1, 0, 0, 1, 1, 0, 0, 1, 1, 0, 0] (bodyOf Try.f53)) (kSeq (fun fr h => X (mask (f51_M 6) fr) h) (kBlk 6 (kBlk 5 (f51_ks24 S K X4)))) fr h
def f51_L6 (S : SatT) (K : KT) (X4 : XT) (s4_ : Sl) (i6 i10 : Int) (s80_ : Sl) (i81 i82 : Int) (s87_ : Sl) (i88 i89 : Int) (h : H) : Prop := loopK (f51_w6 S K X4) (f51_e6 s4_ i6 i10 s80_ i81 i82 s87_ i88 i89) h
def f51_C5 (S : SatT) (K : KT) (X4 : XT) (s4_ : Sl) (i6 : Int) (s80_ : Sl) (i81 i82 : Int) (h : H) : Prop :=
 X4 (f51_e4 s4_ i6 s80_ i81 (w64 (i82 + (1)))) h
def f51_C6 (S : SatT) (K : KT) (X4 : XT) (s4_ : Sl) (i6 : Int) (s80_ : Sl) (i81 i82 : Int) (h : H) : Prop :=
 f51_C5 S K X4 s4_ i6 s80_ i81 i82 h
def f51_b6 (S : SatT) (K : KT) (X4 X6 : XT) (s4_ : Sl) (i6 i10 : Int) (s80_ : Sl) (i81 i82 : Int) (s87_ : Sl) (i88 i89 : Int) (h : H) : Prop :=
 bif (decide (i89 < i88)) then
 ixS s87_ 1 i89 fun p0 =>
 ldI .i64 p0 h fun n1 =>
 ixS s4_ 1 i10 fun p2 =>
 ldI .i64 p2 h fun n3 =>
 ixS s4_ 1 i89 fun p4 =>
 ldI .i64 p4 h fun n5 =>
 bif (decide (n1 > (0))) then
 callI S .i64 i_f73 [.int .i64 i6, .int .i64 (mxI (w64 ((w64 (n3 + (1))) - n5)) (w64 (0 - (w64 ((w64 (n3 + (1))) - n5)))))] h fun n7 h6 =>
 X6 (f51_e6 s4_ n7 i10 s80_ i81 i82 s87_ i88 (w64 (i89 + (1)))) h6
 else
 X6 (f51_e6 s4_ i6 i10 s80_ i81 i82 s87_ i88 (w64 (i89 + (1)))) h
 else
 f51_C6 S K X4 s4_ i6 s80_ i81 i82 h
theorem f51_link6 (S : SatT) (K : KT) (X4 X6 : XT) (s4_ : Sl) (i6 i10 : Int) (s80_ : Sl) (i81 i82 : Int) (s87_ : Sl) (i88 i89 : Int) (h : H) : f51_w6 S K X4 X6 (f51_e6 s4_ i6 i10 s80_ i81 i82 s87_ i88 i89) h = f51_b6 S K X4 X6 s4_ i6 i10 s80_ i81 i82 s87_ i88 i89 h := by kernel_rfl
theorem f51_rule6 (S : SatT) (K : KT) (X4 : XT) (s4_ : Sl) (i10 : Int) (s80_ : Sl) (i81 i82 : Int) (s87_ : Sl) (i88 : Int) (I_ : Int → Int → H → Prop) (m_ : Int → Int → H → Nat)
  (hs : ∀ (X6 : XT) (i6 i89 : Int) (h : H), I_ i6 i89 h → (∀ (i6' i89' : Int) (h' : H), I_ i6' i89' h' → m_ i6' i89' h' < m_ i6 i89 h → X6 (f51_e6 s4_ i6' i10 s80_ i81 i82 s87_ i88 i89') h') → f51_b6 S K X4 X6 s4_ i6 i10 s80_ i81 i82 s87_ i88 i89 h) (i6 i89 : Int) {h : H} (h0 : I_ i6 i89 h) : f51_L6 S K X4 s4_ i6 i10 s80_ i81 i82 s87_ i88 i89 h :=
 loop_rule (σ := (Int) × (Int)) (fun s_ => f51_e6 s4_ (s_.1) i10 s80_ i81 i82 s87_ i88 (s_.2)) (fun s_ h => I_ (s_.1) (s_.2) h) (fun s_ h => m_ (s_.1) (s_.2) h)
  (fun X s_ h hi hx => (f51_link6 S K X4 X s4_ (s_.1) i10 s80_ i81 i82 s87_ i88 (s_.2) h).mpr (hs X (s_.1) (s_.2) h hi fun i6' i89' h' hi' hm' => hx (i6', i89') h' hi' hm')) (i6, i89) h0
def f51_C4 (S : SatT) (K : KT) (i6 : Int) (h : H) : Prop :=
 K (.int .i64 i6) h
def f51_b4 (S : SatT) (K : KT) (X4 : XT) (s4_ : Sl) (i6 : Int) (s80_ : Sl) (i81 i82 : Int) (h : H) : Prop :=
 bif (decide (i82 < i81)) then
 ixS s80_ 1 i82 fun p0 =>
 ldS p0 h fun s1 =>
 f51_L6 S K X4 s4_ i6 i82 s80_ i81 i82 s1 (s1.len : Int) (0) h
 else
 f51_C4 S K i6 h
theorem f51_link4 (S : SatT) (K : KT) (X4 : XT) (s4_ : Sl) (i6 : Int) (s80_ : Sl) (i81 i82 : Int) (h : H) : f51_w4 S K X4 (f51_e4 s4_ i6 s80_ i81 i82) h = f51_b4 S K X4 s4_ i6 s80_ i81 i82 h := by kernel_rfl
theorem f51_rule4 (S : SatT) (K : KT) (s4_ s80_ : Sl) (i81 : Int) (I_ : Int → Int → H → Prop) (m_ : Int → Int → H → Nat)
  (hs : ∀ (X4 : XT) (i6 i82 : Int) (h : H), I_ i6 i82 h → (∀ (i6' i82' : Int) (h' : H), I_ i6' i82' h' → m_ i6' i82' h' < m_ i6 i82 h → X4 (f51_e4 s4_ i6' s80_ i81 i82') h') → f51_b4 S K X4 s4_ i6 s80_ i81 i82 h) (i6 i82 : Int) {h : H} (h0 : I_ i6 i82 h) : f51_L4 S K s4_ i6 s80_ i81 i82 h :=
 loop_rule (σ := (Int) × (Int)) (fun s_ => f51_e4 s4_ (s_.1) s80_ i81 (s_.2)) (fun s_ h => I_ (s_.1) (s_.2) h) (fun s_ h => m_ (s_.1) (s_.2) h)
  (fun X s_ h hi hx => (f51_link4 S K X s4_ (s_.1) s80_ i81 (s_.2) h).mpr (hs X (s_.1) (s_.2) h hi fun i6' i82' h' hi' hm' => hx (i6', i82') h' hi' hm')) (i6, i82) h0
def f51_C0 (S : SatT) (K : KT) (s0_ s4_ : Sl) (i6 : Int) (h : H) : Prop :=
 f51_L4 S K s4_ i6 s0_ (s0_.len : Int) (0) h
def f51_b0 (S : SatT) (K : KT) (X0 : XT) (s0_ s4_ s5_ : Sl) (i6 i7 : Int) (h : H) : Prop :=
 bif (decide (i7 < (s5_.len : Int))) then
 ixS s5_ 1 i7 fun p0 =>
 ldI .i64 p0 h fun n1 =>
 ixS s0_ 1 n1 fun p2 =>
 ldS p2 h fun s3 =>
 f51_L2 S K X0 s0_ s4_ s5_ i6 i7 s3 (s3.len : Int) (0) h
 else
 f51_C0 S K s0_ s4_ i6 h
theorem f51_link0 (S : SatT) (K : KT) (X0 : XT) (s0_ s4_ s5_ : Sl) (i6 i7 : Int) (h : H) : f51_w0 S K X0 (f51_e0 s0_ s4_ s5_ i6 i7) h = f51_b0 S K X0 s0_ s4_ s5_ i6 i7 h := by kernel_rfl
theorem f51_rule0 (S : SatT) (K : KT) (s0_ s4_ : Sl) (i6 : Int) (I_ : Sl → Int → H → Prop) (m_ : Sl → Int → H → Nat)
  (hs : ∀ (X0 : XT) (s5_ : Sl) (i7 : Int) (h : H), I_ s5_ i7 h → (∀ (s5_' : Sl) (i7' : Int) (h' : H), I_ s5_' i7' h' → m_ s5_' i7' h' < m_ s5_ i7 h → X0 (f51_e0 s0_ s4_ s5_' i6 i7') h') → f51_b0 S K X0 s0_ s4_ s5_ i6 i7 h) (s5_ : Sl) (i7 : Int) {h : H} (h0 : I_ s5_ i7 h) : f51_L0 S K s0_ s4_ s5_ i6 i7 h :=
 loop_rule (σ := (Sl) × (Int)) (fun s_ => f51_e0 s0_ s4_ (s_.1) i6 (s_.2)) (fun s_ h => I_ (s_.1) (s_.2) h) (fun s_ h => m_ (s_.1) (s_.2) h)
  (fun X s_ h hi hx => (f51_link0 S K X s0_ s4_ (s_.1) i6 (s_.2) h).mpr (hs X (s_.1) (s_.2) h hi fun s5_' i7' h' hi' hm' => hx (s5_', i7') h' hi' hm')) (s5_, i7) h0
def f51_main (S : SatT) (K : KT) (x0 : Sl) (h : H) : Prop :=
 callS S i_f49 [.sl x0] h fun s1 h0 =>
 bif ((s1.len : Int) != (1)) then
 K (.int .i64 (0)) h0
 else
 ixS s1 1 (0) fun p2 =>
 ldS p2 h0 fun s3 =>
 bif ((s3.len : Int) != (x0.len : Int)) then
 K (.int .i64 (0)) h0
 else
 newS 1 1 [.int .i64 (-1)] h0 fun s4 h5 =>
 callS S i_f70 [.sl s4, .int .i64 (x0.len : Int)] h5 fun s7 h6 =>
 newS 1 1 [.int .i64 (0)] h6 fun s8 h9 =>
 ixS s7 1 (0) fun p10 =>
 st1 p10 (.int .i64 (0)) h9 fun h11 =>
 f51_L0 S K x0 s7 s8 (0) (0) h11
theorem f51_main_link (S : SatT) (K : KT) (x0 : Sl) (h : H) : cwp S tab f51_M [] (bodyOf Try.f53) (kFun tab Try.f53.results.toList K) (fr0 Try.f53 [.sl x0]) h = f51_main S K x0 h := by kernel_rfl
theorem f51_call (x0 : Sl) (h : H) (K : Int → H → Prop) (hm : f51_main (Sat Try.prog) (fun v h' => ∃ r, v = .int .i64 r ∧ K r h') x0 h) : callI (Sat Try.prog) .i64 i_f51 [.sl x0] h K := by
 have := Sat.ex tok mixed f51_M Try.func53 (c := bodyOf Try.f53) (by kernel_rfl) (calls_of Try.func53 (c := bodyOf Try.f53) (by kernel_rfl) (by decide)) ((f51_main_link _ _ x0 h).mpr hm)
 obtain ⟨v, h2, h3, r, rfl, h4⟩ := this; exact ⟨r, h2, h3, h4⟩
def f38_M : Nat → List Nat := fun i => bif i == 4 then [0, 1, 2, 7, 8, 51, 52, 53] else bif i == 2 then [0, 1, 2, 6, 7, 8, 27, 28, 29] else bif i == 0 then [0, 1, 2, 6] else []
def f38_e0 (p0_ : Pt) (f1_ f2_ : AVal) (s6_ : Sl) : Frame := [.ptr p0_, f1_, f2_, U, U, U, .sl s6_, U, U, U, U, U, U, U, U, U, U, U, U, U, U, U, U, U, U, U, U, U, U, U, U, U, U, U, U, U, U, U, U, U, U, U, U, U, U, U, U, U, U, U, U, U, U, U, U, U, U, U, U, U, U, U, U, U, U, U, U, U]
def f38_w0 (S : SatT) (K : KT) : (XT) → XT := fun X fr h => cwp S tab f38_M (f38_M 0) (sub [1, 0, 0] (bodyOf Try.f40)) (kSeq (fun fr h => X (mask (f38_M 0) fr) h) (kBlk 0 (kFun tab (Try.f40).results.toList K))) fr h
def f38_L0 (S : SatT) (K : KT) (p0_ : Pt) (f1_ f2_ : AVal) (s6_ : Sl) (h : H) : Prop := loopK (f38_w0 S K) (f38_e0 p0_ f1_ f2_ s6_) h
def f38_ks2 (S : SatT) (K : KT) (X0 : XT) : Kont := kSeq (cwp S tab f38_M (f38_M 1) (sub [1, 0, 0, 0, 1, 1] (bodyOf Try.f40)) (kBlk 1 (kSeq (fun fr h => X0 (mask (f38_M 0) fr) h) (kBlk 0 (kFun tab (Try.f40).results.toList K))))) (kBlk 1 (kSeq (fun fr h => X0 (mask (f38_M 0) fr) h) (kBlk 0 (kFun tab (Try.f40).results.toList K))))
def f38_e2 (p0_ : Pt) (f1_ f2_ : AVal) (s6_ s7_ : Sl) (i8 : Int) (s27_ : Sl) (i28 i29 : Int) : Frame := [.ptr p0_, f1_, f2_, U, U, U, .sl s6_, .sl s7_, .int .i64 i8, U, U, U, U, U, U, U, U, U, U, U, U, U, U, U, U, U, U, .sl s27_, .int .i64 i28, .int .i64 i29, U, U, U, U, U, U, U, U, U, U, U, U, U, U, U, U, U, U, U, U, U, U, U, U, U, U, U, U, U, U, U, U, U, U, U, U, U, U]
def f38_w2 (S : SatT) (K : KT) (X0 : XT) : (XT) → XT := fun X fr h => cwp S tab f38_M (f38_M 2) (sub [1, 0, 0, 0, 1, 0, 1, 0, 0] (bodyOf Try.f40)) (kSeq (fun fr h => X (mask (f38_M 2) fr) h) (kBlk 2 (f38_ks2 S K X0))) fr h
def f38_L2 (S : SatT) (K : KT) (X0 : XT) (p0_ : Pt) (f1_ f2_ : AVal) (s6_ s7_ : Sl) (i8 : Int) (s27_ : Sl) (i28 i29 : Int) (h : H) : Prop := loopK (f38_w2 S K X0) (f38_e2 p0_ f1_ f2_ s6_ s7_ i8 s27_ i28 i29) h
def f38_ks8 (S : SatT) (K : KT) (X0 : XT) : Kont := kSeq (cwp S tab f38_M (f38_M 1) (sub [1, 0, 0, 0, 1, 1, 1] (bodyOf Try.f40)) (kBlk 1 (kSeq (fun fr h => X0 (mask (f38_M 0) fr) h) (kBlk 0 (kFun tab (Try.f40).results.toList K))))) (kBlk 1 (kSeq (fun fr h => X0 (mask (f38_M 0) fr) h) (kBlk 0 (kFun tab (Try.f40).results.toList K))))
def f38_e4 (p0_ : Pt) (f1_ f2_ : AVal) (s7_ : Sl) (i8 : Int) (s51_ : Sl) (i52 i53 : Int) : Frame := [.ptr p0_, f1_, f2_, U, U, U, U, .sl s7_, .int .i64 i8, U, U, U, U, U, U, U, U, U, U, U, U, U, U, U, U, U, U, U, U, U, U, U, U, U, U, U, U, U, U, U, U, U, U, U, U, U, U, U, U, U, U, .sl s51_, .int .i64 i52, .int .i64 i53, U, U, U, U, U, U, U, U, U, U, U, U, U, U]
def f38_w4 (S : SatT) (K : KT) (X0 : XT) : (XT) → XT := fun X fr h => cwp S tab f38_M (f38_M 4) (sub [1, 0, 0, 0, 1, 1, 0, 1, 0, 0] (bodyOf Try.f40)) (kSeq (fun fr h => X (mask (f38_M 4) fr) h) (kBlk 4 (f38_ks8 S K X0))) fr h
def f38_L4 (S : SatT) (K : KT) (X0 : XT) (p0_ : Pt) (f1_ f2_ : AVal) (s7_ : Sl) (i8 : Int) (s51_ : Sl) (i52 i53 : Int) (h : H) : Prop := loopK (f38_w4 S K X0) (f38_e4 p0_ f1_ f2_ s7_ i8 s51_ i52 i53) h
def f38_C4 (S : SatT) (K : KT) (X0 : XT) (p0_ : Pt) (f1_ f2_ : AVal) (s7_ : Sl) (i8 : Int) (h : H) : Prop :=
 viaF f2_ [.int .i64 i8] fun g0 ys1 =>
 callB S g0 ys1 h fun b3 h2 =>
 bif (!b3) then
 K (.tuple []) h2
 else
 X0 (f38_e0 p0_ f1_ f2_ s7_) h2
def f38_b4 (S : SatT) (K : KT) (X0 X4 : XT) (p0_ : Pt) (f1_ f2_ : AVal) (s7_ : Sl) (i8 : Int) (s51_ : Sl) (i52 i53 : Int) (h : H) : Prop :=
 bif (decide (i53 < i52)) then
 ixS s51_ 1 i53 fun p0 =>
 ldI .i64 p0 h fun n1 =>
 viaF f1_ [.int .i64 (w64 (i8 + n1))] fun g2 ys3 =>
 callI S .i64 g2 ys3 h fun n5 h4 =>
 X4 (f38_e4 p0_ f1_ f2_ s7_ n5 s51_ i52 (w64 (i53 + (1)))) h4
 else
 f38_C4 S K X0 p0_ f1_ f2_ s7_ i8 h
theorem f38_link4 (S : SatT) (K : KT) (X0 X4 : XT) (p0_ : Pt) (f1_ f2_ : AVal) (s7_ : Sl) (i8 : Int) (s51_ : Sl) (i52 i53 : Int) (h : H) : f38_w4 S K X0 X4 (f38_e4 p0_ f1_ f2_ s7_ i8 s51_ i52 i53) h = f38_b4 S K X0 X4 p0_ f1_ f2_ s7_ i8 s51_ i52 i53 h := by kernel_rfl
theorem f38_rule4 (S : SatT) (K : KT) (X0 : XT) (p0_ : Pt) (f1_ f2_ : AVal) (s7_ s51_ : Sl) (i52 : Int) (I_ : Int → Int → H → Prop) (m_ : Int → Int → H → Nat)
  (hs : ∀ (X4 : XT) (i8 i53 : Int) (h : H), I_ i8 i53 h → (∀ (i8' i53' : Int) (h' : H), I_ i8' i53' h' → m_ i8' i53' h' < m_ i8 i53 h → X4 (f38_e4 p0_ f1_ f2_ s7_ i8' s51_ i52 i53') h') → f38_b4 S K X0 X4 p0_ f1_ f2_ s7_ i8 s51_ i52 i53 h) (i8 i53 : Int) {h : H} (h0 : I_ i8 i53 h) : f38_L4 S K X0 p0_ f1_ f2_ s7_ i8 s51_ i52 i53 h :=
 loop_rule (σ := (Int) × (Int)) (fun s_ => f38_e4 p0_ f1_ f2_ s7_ (s_.1) s51_ i52 (s_.2)) (fun s_ h => I_ (s_.1) (s_.2) h) (fun s_ h => m_ (s_.1) (s_.2) h)
  (fun X s_ h hi hx => (f38_link4 S K X0 X p0_ f1_ f2_ s7_ (s_.1) s51_ i52 (s_.2) h).mpr (hs X (s_.1) (s_.2) h hi fun i8' i53' h' hi' hm' => hx (i8', i53') h' hi' hm')) (i8, i53) h0
def f38_C2 (S : SatT) (K : KT) (X0 : XT) (p0_ : Pt) (f1_ f2_ : AVal) (s7_ : Sl) (i8 : Int) (h : H) : Prop :=
 f38_L4 S K X0 p0_ f1_ f2_ s7_ i8 s7_ (s7_.len : Int) (0) h
def f38_b2 (S : SatT) (K : KT) (X0 X2 : XT) (p0_ : Pt) (f1_ f2_ : AVal) (s6_ s7_ : Sl) (i8 : Int) (s27_ : Sl) (i28 i29 : Int) (h : H) : Prop :=
 bif (decide (i29 < i28)) then
 ixS s27_ 3 i29 fun p0 =>
 ldA p0 3 h fun cs1 =>
 newO [.int .i64 (0), .int .i64 (0), .int .i64 (0)] h fun p2 h3 =>
 stN p2 3 cs1 h3 fun h4 =>
 ixA p2 3 1 (1) fun p5 =>
 ldI .i64 p5 h4 fun n6 =>
 ixA p2 3 1 (1) fun p7 =>
 ldI .i64 p7 h4 fun n8 =>
 ixS s7_ 1 n8 fun p9 =>
 ldI .i64 p9 h4 fun n10 =>
 ixA p2 3 1 (0) fun p11 =>
 ldI .i64 p11 h4 fun n12 =>
 ixS s6_ 1 n12 fun p13 =>
 ldI .i64 p13 h4 fun n14 =>
 viaF f1_ [.int .i64 (w64 (n10 + n14))] fun g15 ys16 =>
 callI S .i64 g15 ys16 h4 fun n18 h17 =>
(cell h17 p5 = cell h4 p5) ∧ (
 ixS s7_ 1 n6 fun p19 =>
 st1 p19 (.int .i64 n18) h17 fun h20 =>
 X2 (f38_e2 p0_ f1_ f2_ s6_ s7_ i8 s27_ i28 (w64 (i29 + (1)))) h20)
 else
 f38_C2 S K X0 p0_ f1_ f2_ s7_ i8 h
theorem f38_link2 (S : SatT) (K : KT) (X0 X2 : XT) (p0_ : Pt) (f1_ f2_ : AVal) (s6_ s7_ : Sl) (i8 : Int) (s27_ : Sl) (i28 i29 : Int) (h : H) : f38_w2 S K X0 X2 (f38_e2 p0_ f1_ f2_ s6_ s7_ i8 s27_ i28 i29) h = f38_b2 S K X0 X2 p0_ f1_ f2_ s6_ s7_ i8 s27_ i28 i29 h := by kernel_rfl
theorem f38_rule2 (S : SatT) (K : KT) (X0 : XT) (p0_ : Pt) (f1_ f2_ : AVal) (s6_ s7_ : Sl) (i8 : Int) (s27_ : Sl) (i28 : Int) (I_ : Int → H → Prop) (m_ : Int → H → Nat)
  (hs : ∀ (X2 : XT) (i29 : Int) (h : H), I_ i29 h → (∀ (i29' : Int) (h' : H), I_ i29' h' → m_ i29' h' < m_ i29 h → X2 (f38_e2 p0_ f1_ f2_ s6_ s7_ i8 s27_ i28 i29') h') → f38_b2 S K X0 X2 p0_ f1_ f2_ s6_ s7_ i8 s27_ i28 i29 h) (i29 : Int) {h : H} (h0 : I_ i29 h) : f38_L2 S K X0 p0_ f1_ f2_ s6_ s7_ i8 s27_ i28 i29 h :=
 loop_rule (σ := (Int)) (fun s_ => f38_e2 p0_ f1_ f2_ s6_ s7_ i8 s27_ i28 (s_)) (fun s_ h => I_ (s_) h) (fun s_ h => m_ (s_) h)
  (fun X s_ h hi hx => (f38_link2 S K X0 X p0_ f1_ f2_ s6_ s7_ i8 s27_ i28 (s_) h).mpr (hs X (s_) h hi fun i29' h' hi' hm' => hx (i29') h' hi' hm')) (i29) h0
def f38_b0 (S : SatT) (K : KT) (X0 : XT) (p0_ : Pt) (f1_ f2_ : AVal) (s6_ : Sl) (h : H) : Prop :=
 nilC (.ptr p0_) (
 isPt p0_ (
 ldI .i64 (Pt.add p0_ 3) h fun n0 =>
 mkS n0 [.int .i64 (0)] h fun s1 h2 =>
 nilC (.ptr p0_) (
 isPt p0_ (
 ldS (Pt.add p0_ 4) h2 fun s3 =>
 f38_L2 S K X0 p0_ f1_ f2_ s6_ s1 (0) s3 (s3.len : Int) (0) h2))))
theorem f38_link0 (S : SatT) (K : KT) (X0 : XT) (p0_ : Pt) (f1_ f2_ : AVal) (s6_ : Sl) (h : H) : f38_w0 S K X0 (f38_e0 p0_ f1_ f2_ s6_) h = f38_b0 S K X0 p0_ f1_ f2_ s6_ h := by kernel_rfl
theorem f38_unroll0 (S : SatT) (K : KT) (p0_ : Pt) (f1_ f2_ : AVal) (s6_ : Sl) (h : H) (hb : f38_b0 S K (fun fr h => loopK (f38_w0 S K) fr h) p0_ f1_ f2_ s6_ h) : f38_L0 S K p0_ f1_ f2_ s6_ h := loop_unroll ((f38_link0 S K _ p0_ f1_ f2_ s6_ h).mpr hb)
def f38_main (S : SatT) (K : KT) (x0 : Pt) (x1 x2 : AVal) (h : H) : Prop :=
 newS 1 1 [.int .i64 (1)] h fun s0 h1 =>
 nilC (.ptr x0) (
 isPt x0 (
 ldI .i64 (Pt.add x0 3) h1 fun n2 =>
 callS S i_f70 [.sl s0, .int .i64 n2] h1 fun s4 h3 =>
 f38_L0 S K x0 x1 x2 s4 h3))
theorem f38_main_link (S : SatT) (K : KT) (x0 : Pt) (x1 x2 : AVal) (h : H) : cwp S tab f38_M [] (bodyOf Try.f40) (kFun tab Try.f40.results.toList K) (fr0 Try.f40 [.ptr x0, x1, x2]) h = f38_main S K x0 x1 x2 h := by kernel_rfl
theorem f38_call (x0 : Pt) (x1 x2 : AVal) (h : H) (K : KT) (hm : f38_main (Sat Try.prog) (fun v h' => K v h') x0 x1 x2 h) : callV (Sat Try.prog) i_f38 [.ptr x0, x1, x2] h K := by
 have := Sat.ex tok mixed f38_M Try.func40 (c := bodyOf Try.f40) (by kernel_rfl) (calls_of Try.func40 (c := bodyOf Try.f40) (by kernel_rfl) (by decide)) ((f38_main_link _ _ x0 x1 x2 h).mpr hm)
 exact this
def f49_M : Nat → List Nat := fun i => bif i == 2 then [3, 4, 5, 6, 12, 13, 18, 19] else bif i == 0 then [3, 4, 12, 13] else []
def f49_ks2 (S : SatT) (K : KT) : Kont := kSeq (cwp S tab f49_M [] (sub [1, 1, 1] (bodyOf Try.f51)) (kFun tab (Try.f51).results.toList K)) (kFun tab (Try.f51).results.toList K)
def f49_e0 (s3_ s4_ : Sl) (i12 i13 : Int) : Frame := [U, U, U, .sl s3_, .sl s4_, U, U, U, U, U, U, U, .int .i64 i12, .int .i64 i13, U, U, U, U, U, U, U, U, U, U, U, U, U, U, U, U, U, U, U, U, U, U, U, U, U, U, U, U, U, U, U, U, U, U, U, U, U, U, U, U, U, U, U, U, U]
def f49_w0 (S : SatT) (K : KT) : (XT) → XT := fun X fr h => cwp S tab f49_M (f49_M 0) (sub [1, 1, 0, 1, 0, 0] (bodyOf Try.f51)) (kSeq (fun fr h => X (mask (f49_M 0) fr) h) (kBlk 0 (f49_ks2 S K))) fr h
def f49_L0 (S : SatT) (K : KT) (s3_ s4_ : Sl) (i12 i13 : Int) (h : H) : Prop := loopK (f49_w0 S K) (f49_e0 s3_ s4_ i12 i13) h
def f49_ks6 (S : SatT) (K : KT) (X0 : XT) : Kont := kSeq (cwp S tab f49_M (f49_M 0) (sub [1, 1, 0, 1, 0, 0, 1, 1, 1] (bodyOf Try.f51)) (kSeq (fun fr h => X0 (mask (f49_M 0) fr) h) (kBlk 0 (f49_ks2 S K)))) (kSeq (fun fr h => X0 (mask (f49_M 0) fr) h) (kBlk 0 (f49_ks2 S K)))
def f49_ks9 (S : SatT) (K : KT) (X0 : XT) : Kont := kSeq (cwp S tab f49_M (f49_M 1) (sub [1, 1, 0, 1, 0, 0, 1, 1, 0, 0, 1, 1, 1] (bodyOf Try.f51)) (kBlk 1 (f49_ks6 S K X0))) (kBlk 1 (f49_ks6 S K X0))
def f49_e2 (s3_ s4_ : Sl) (i5 : Int) (s6_ : Sl) (i12 i13 : Int) (i18 i19 : Int) : Frame := [U, U, U, .sl s3_, .sl s4_, .int .i64 i5, .sl s6_, U, U, U, U, U, .int .i64 i12, .int .i64 i13, U, U, U, U, .int .i64 i18, .int .i64 i19, U, U, U, U, U, U, U, U, U, U, U, U, U, U, U, U, U, U, U, U, U, U, U, U, U, U, U, U, U, U, U, U, U, U, U, U, U, U, U]
def f49_w2 (S : SatT) (K : KT) (X0 : XT) : (XT) → XT := fun X fr h => cwp S tab f49_M (f49_M 2) (sub [1, 1, 0, 1, 0, 0, 1, 1, 0, 0, 1, 1, 0, 1, 0, 0] (bodyOf Try.f51)) (kSeq (fun fr h => X (mask (f49_M 2) fr) h) (kBlk 2 (f49_ks9 S K X0))) fr h
def f49_L2 (S : SatT) (K : KT) (X0 : XT) (s3_ s4_ : Sl) (i5 : Int) (s6_ : Sl) (i12 i13 : Int) (i18 i19 : Int) (h : H) : Prop := loopK (f49_w2 S K X0) (f49_e2 s3_ s4_ i5 s6_ i12 i13 i18 i19) h
def f49_C1 (S : SatT) (K : KT) (X0 : XT) (s3_ s4_ : Sl) (i12 i13 : Int) (h : H) : Prop :=
 X0 (f49_e0 s3_ s4_ i12 (w64 (i13 + (1)))) h
def f49_C2 (S : SatT) (K : KT) (X0 : XT) (s3_ s4_ : Sl) (i5 : Int) (s6_ : Sl) (i12 i13 : Int) (h : H) : Prop :=
 bif (decide ((s6_.len : Int) > (0))) then
 ixS s6_ 1 (0) fun p0 =>
 ldI .i64 p0 h fun n1 =>
 bif (n1 == i5) then
 newS 1 1 [.sl s6_] h fun s2 h3 =>
 app s3_ s2 1 h3 fun s4 h5 =>
 f49_C1 S K X0 s4 s4_ i12 i13 h5
 else
 f49_C1 S K X0 s3_ s4_ i12 i13 h
 else
 f49_C1 S K X0 s3_ s4_ i12 i13 h
def f49_b2 (S : SatT) (K : KT) (X0 X2 : XT) (s3_ s4_ : Sl) (i5 : Int) (s6_ : Sl) (i12 i13 : Int) (i18 i19 : Int) (h : H) : Prop :=
 bif (decide (i19 < i18)) then
 ixS s4_ 1 i5 fun p0 =>
 ldS p0 h fun s1 =>
 ixS s1 1 i19 fun p2 =>
 ldB p2 h fun b3 =>
 bif b3 then
 ixS s4_ 1 i19 fun p4 =>
 ldS p4 h fun s5 =>
 ixS s5 1 i5 fun p6 =>
 ldB p6 h fun b7 =>
 bif b7 then
 newS 1 1 [.int .i64 i19] h fun s8 h9 =>
 app s6_ s8 1 h9 fun s10 h11 =>
 X2 (f49_e2 s3_ s4_ i5 s10 i12 i13 i18 (w64 (i19 + (1)))) h11
 else
 X2 (f49_e2 s3_ s4_ i5 s6_ i12 i13 i18 (w64 (i19 + (1)))) h
 else
 X2 (f49_e2 s3_ s4_ i5 s6_ i12 i13 i18 (w64 (i19 + (1)))) h
 else
 f49_C2 S K X0 s3_ s4_ i5 s6_ i12 i13 h
theorem f49_link2 (S : SatT) (K : KT) (X0 X2 : XT) (s3_ s4_ : Sl) (i5 : Int) (s6_ : Sl) (i12 i13 : Int) (i18 i19 : Int) (h : H) : f49_w2 S K X0 X2 (f49_e2 s3_ s4_ i5 s6_ i12 i13 i18 i19) h = f49_b2 S K X0 X2 s3_ s4_ i5 s6_ i12 i13 i18 i19 h := by kernel_rfl
theorem f49_rule2 (S : SatT) (K : KT) (X0 : XT) (s3_ s4_ : Sl) (i5 i12 : Int) (i13 i18 : Int) (I_ : Sl → Int → H → Prop) (m_ : Sl → Int → H → Nat)
  (hs : ∀ (X2 : XT) (s6_ : Sl) (i19 : Int) (h : H), I_ s6_ i19 h → (∀ (s6_' : Sl) (i19' : Int) (h' : H), I_ s6_' i19' h' → m_ s6_' i19' h' < m_ s6_ i19 h → X2 (f49_e2 s3_ s4_ i5 s6_' i12 i13 i18 i19') h') → f49_b2 S K X0 X2 s3_ s4_ i5 s6_ i12 i13 i18 i19 h) (s6_ : Sl) (i19 : Int) {h : H} (h0 : I_ s6_ i19 h) : f49_L2 S K X0 s3_ s4_ i5 s6_ i12 i13 i18 i19 h :=
 loop_rule (σ := (Sl) × (Int)) (fun s_ => f49_e2 s3_ s4_ i5 (s_.1) i12 i13 i18 (s_.2)) (fun s_ h => I_ (s_.1) (s_.2) h) (fun s_ h => m_ (s_.1) (s_.2) h)
  (fun X s_ h hi hx => (f49_link2 S K X0 X s3_ s4_ i5 (s_.1) i12 i13 i18 (s_.2) h).mpr (hs X (s_.1) (s_.2) h hi fun s6_' i19' h' hi' hm' => hx (s6_', i19') h' hi' hm')) (s6_, i19) h0
def f49_C0 (S : SatT) (K : KT) (s3_ : Sl) (h : H) : Prop :=
 K (.sl s3_) h
def f49_b0 (S : SatT) (K : KT) (X0 : XT) (s3_ s4_ : Sl) (i12 i13 : Int) (h : H) : Prop :=
 bif (decide (i13 < i12)) then
 newS 0 1 [] h fun s0 h1 =>
 f49_L2 S K X0 s3_ s4_ i13 s0 i12 i13 (s4_.len : Int) (0) h1
 else
 f49_C0 S K s3_ h
theorem f49_link0 (S : SatT) (K : KT) (X0 : XT) (s3_ s4_ : Sl) (i12 i13 : Int) (h : H) : f49_w0 S K X0 (f49_e0 s3_ s4_ i12 i13) h = f49_b0 S K X0 s3_ s4_ i12 i13 h := by kernel_rfl
theorem f49_rule0 (S : SatT) (K : KT) (s4_ : Sl) (i12 : Int) (I_ : Sl → Int → H → Prop) (m_ : Sl → Int → H → Nat)
  (hs : ∀ (X0 : XT) (s3_ : Sl) (i13 : Int) (h : H), I_ s3_ i13 h → (∀ (s3_' : Sl) (i13' : Int) (h' : H), I_ s3_' i13' h' → m_ s3_' i13' h' < m_ s3_ i13 h → X0 (f49_e0 s3_' s4_ i12 i13') h') → f49_b0 S K X0 s3_ s4_ i12 i13 h) (s3_ : Sl) (i13 : Int) {h : H} (h0 : I_ s3_ i13 h) : f49_L0 S K s3_ s4_ i12 i13 h :=
 loop_rule (σ := (Sl) × (Int)) (fun s_ => f49_e0 (s_.1) s4_ i12 (s_.2)) (fun s_ h => I_ (s_.1) (s_.2) h) (fun s_ h => m_ (s_.1) (s_.2) h)
  (fun X s_ h hi hx => (f49_link0 S K X (s_.1) s4_ i12 (s_.2) h).mpr (hs X (s_.1) (s_.2) h hi fun s3_' i13' h' hi' hm' => hx (s3_', i13') h' hi' hm')) (s3_, i13) h0
def f49_main (S : SatT) (K : KT) (x0 : Sl) (h : H) : Prop :=
 newS 0 1 [] h fun s0 h1 =>
 callS S i_f71 [.sl x0] h1 fun s3 h2 =>
 f49_L0 S K s0 s3 (s3.len : Int) (0) h2
theorem f49_main_link (S : SatT) (K : KT) (x0 : Sl) (h : H) : cwp S tab f49_M [] (bodyOf Try.f51) (kFun tab Try.f51.results.toList K) (fr0 Try.f51 [.sl x0]) h = f49_main S K x0 h := by kernel_rfl
theorem f49_call (x0 : Sl) (h : H) (K : Sl → H → Prop) (hm : f49_main (Sat Try.prog) (fun v h' => ∃ r, v = .sl r ∧ K r h') x0 h) : callS (Sat Try.prog) i_f49 [.sl x0] h K := by
 have := Sat.ex tok mixed f49_M Try.func51 (c := bodyOf Try.f51) (by kernel_rfl) (calls_of Try.func51 (c := bodyOf Try.f51) (by kernel_rfl) (by decide)) ((f49_main_link _ _ x0 h).mpr hm)
 obtain ⟨v, h2, h3, r, rfl, h4⟩ := this; exact ⟨r, h2, h3, h4⟩
def f83_M : Nat → List Nat := fun i => bif i == 2 then [0, 1, 2, 7, 8, 25, 26, 27] else bif i == 0 then [0, 1, 2, 7] else []
def f83_e0 (p0_ : Pt) (i1 i2 : Int) (s7_ : Sl) : Frame := [.ptr p0_, .int .i64 i1, .int .i64 i2, U, U, U, U, .sl s7_, U, U, U, U, U, U, U, U, U, U, U, U, U, U, U, U, U, U, U, U, U, U, U, U, U, U, U, U, U, U, U, U, U, U, U, U, U, U, U, U, U, U, U, U, U, U, U, U]
def f83_w0 (S : SatT) (K : KT) : (XT) → XT := fun X fr h => cwp S tab f83_M (f83_M 0) (sub [1, 1, 0, 0] (bodyOf Try.f85)) (kSeq (fun fr h => X (mask (f83_M 0) fr) h) (kBlk 0 (kFun tab (Try.f85).results.toList K))) fr h
def f83_L0 (S : SatT) (K : KT) (p0_ : Pt) (i1 i2 : Int) (s7_ : Sl) (h : H) : Prop := loopK (f83_w0 S K) (f83_e0 p0_ i1 i2 s7_) h
def f83_ks3 (S : SatT) (K : KT) (X0 : XT) : Kont := kSeq (cwp S tab f83_M (f83_M 1) (sub [1, 1, 0, 0, 0, 1, 1] (bodyOf Try.f85)) (kBlk 1 (kSeq (fun fr h => X0 (mask (f83_M 0) fr) h) (kBlk 0 (kFun tab (Try.f85).results.toList K))))) (kBlk 1 (kSeq (fun fr h => X0 (mask (f83_M 0) fr) h) (kBlk 0 (kFun tab (Try.f85).results.toList K))))
def f83_e2 (p0_ : Pt) (i1 i2 : Int) (s7_ s8_ s25_ : Sl) (i26 i27 : Int) : Frame := [.ptr p0_, .int .i64 i1, .int .i64 i2, U, U, U, U, .sl s7_, .sl s8_, U, U, U, U, U, U, U, U, U, U, U, U, U, U, U, U, .sl s25_, .int .i64 i26, .int .i64 i27, U, U, U, U, U, U, U, U, U, U, U, U, U, U, U, U, U, U, U, U, U, U, U, U, U, U, U, U]
def f83_w2 (S : SatT) (K : KT) (X0 : XT) : (XT) → XT := fun X fr h => cwp S tab f83_M (f83_M 2) (sub [1, 1, 0, 0, 0, 1, 0, 1, 0, 0] (bodyOf Try.f85)) (kSeq (fun fr h => X (mask (f83_M 2) fr) h) (kBlk 2 (f83_ks3 S K X0))) fr h
def f83_L2 (S : SatT) (K : KT) (X0 : XT) (p0_ : Pt) (i1 i2 : Int) (s7_ s8_ s25_ : Sl) (i26 i27 : Int) (h : H) : Prop := loopK (f83_w2 S K X0) (f83_e2 p0_ i1 i2 s7_ s8_ s25_ i26 i27) h
def f83_C2 (S : SatT) (K : KT) (X0 : XT) (p0_ : Pt) (i1 i2 : Int) (s7_ s8_ : Sl) (h : H) : Prop :=
 callB S i_f98 [.sl s8_, .sl s7_] h fun b1 h0 =>
 bif b1 then
 K (.sl s7_) h0
 else
 X0 (f83_e0 p0_ i1 i2 s8_) h0
def f83_b2 (S : SatT) (K : KT) (X0 X2 : XT) (p0_ : Pt) (i1 i2 : Int) (s7_ s8_ s25_ : Sl) (i26 i27 : Int) (h : H) : Prop :=
 bif (decide (i27 < i26)) then
 ixS s25_ 3 i27 fun p0 =>
 ldA p0 3 h fun cs1 =>
 newO [.int .i64 (0), .int .i64 (0), .int .i64 (0)] h fun p2 h3 =>
 stN p2 3 cs1 h3 fun h4 =>
 ixA p2 3 1 i1 fun p5 =>
 ldI .i64 p5 h4 fun n6 =>
 ixA p2 3 1 i1 fun p7 =>
 ldI .i64 p7 h4 fun n8 =>
 ixS s8_ 1 n8 fun p9 =>
 ldB p9 h4 fun b10 =>
 bif b10 then
 ixS s8_ 1 n6 fun p11 =>
 st1 p11 (.bool true) h4 fun h12 =>
 X2 (f83_e2 p0_ i1 i2 s7_ s8_ s25_ i26 (w64 (i27 + (1)))) h12
 else
 ixA p2 3 1 i2 fun p13 =>
 ldI .i64 p13 h4 fun n14 =>
 ixS s7_ 1 n14 fun p15 =>
 ldB p15 h4 fun b16 =>
 ixS s8_ 1 n6 fun p17 =>
 st1 p17 (.bool b16) h4 fun h18 =>
 X2 (f83_e2 p0_ i1 i2 s7_ s8_ s25_ i26 (w64 (i27 + (1)))) h18
 else
 f83_C2 S K X0 p0_ i1 i2 s7_ s8_ h
theorem f83_link2 (S : SatT) (K : KT) (X0 X2 : XT) (p0_ : Pt) (i1 i2 : Int) (s7_ s8_ s25_ : Sl) (i26 i27 : Int) (h : H) : f83_w2 S K X0 X2 (f83_e2 p0_ i1 i2 s7_ s8_ s25_ i26 i27) h = f83_b2 S K X0 X2 p0_ i1 i2 s7_ s8_ s25_ i26 i27 h := by kernel_rfl
theorem f83_rule2 (S : SatT) (K : KT) (X0 : XT) (p0_ : Pt) (i1 i2 : Int) (s7_ s8_ s25_ : Sl) (i26 : Int) (I_ : Int → H → Prop) (m_ : Int → H → Nat)
  (hs : ∀ (X2 : XT) (i27 : Int) (h : H), I_ i27 h → (∀ (i27' : Int) (h' : H), I_ i27' h' → m_ i27' h' < m_ i27 h → X2 (f83_e2 p0_ i1 i2 s7_ s8_ s25_ i26 i27') h') → f83_b2 S K X0 X2 p0_ i1 i2 s7_ s8_ s25_ i26 i27 h) (i27 : Int) {h : H} (h0 : I_ i27 h) : f83_L2 S K X0 p0_ i1 i2 s7_ s8_ s25_ i26 i27 h :=
 loop_rule (σ := (Int)) (fun s_ => f83_e2 p0_ i1 i2 s7_ s8_ s25_ i26 (s_)) (fun s_ h => I_ (s_) h) (fun s_ h => m_ (s_) h)
  (fun X s_ h hi hx => (f83_link2 S K X0 X p0_ i1 i2 s7_ s8_ s25_ i26 (s_) h).mpr (hs X (s_) h hi fun i27' h' hi' hm' => hx (i27') h' hi' hm')) (i27) h0
def f83_b0 (S : SatT) (K : KT) (X0 : XT) (p0_ : Pt) (i1 i2 : Int) (s7_ : Sl) (h : H) : Prop :=
 nilC (.ptr p0_) (
 isPt p0_ (
 ldI .i64 (Pt.add p0_ 3) h fun n0 =>
 mkS n0 [.bool false] h fun s1 h2 =>
 nilC (.ptr p0_) (
 isPt p0_ (
 ldS (Pt.add p0_ 4) h2 fun s3 =>
 f83_L2 S K X0 p0_ i1 i2 s7_ s1 s3 (s3.len : Int) (0) h2))))
theorem f83_link0 (S : SatT) (K : KT) (X0 : XT) (p0_ : Pt) (i1 i2 : Int) (s7_ : Sl) (h : H) : f83_w0 S K X0 (f83_e0 p0_ i1 i2 s7_) h = f83_b0 S K X0 p0_ i1 i2 s7_ h := by kernel_rfl
theorem f83_rule0 (S : SatT) (K : KT) (p0_ : Pt) (i1 i2 : Int) (I_ : Sl → H → Prop) (m_ : Sl → H → Nat)
  (hs : ∀ (X0 : XT) (s7_ : Sl) (h : H), I_ s7_ h → (∀ (s7_' : Sl) (h' : H), I_ s7_' h' → m_ s7_' h' < m_ s7_ h → X0 (f83_e0 p0_ i1 i2 s7_') h') → f83_b0 S K X0 p0_ i1 i2 s7_ h) (s7_ : Sl) {h : H} (h0 : I_ s7_ h) : f83_L0 S K p0_ i1 i2 s7_ h :=
 loop_rule (σ := (Sl)) (fun s_ => f83_e0 p0_ i1 i2 (s_)) (fun s_ h => I_ (s_) h) (fun s_ h => m_ (s_) h)
  (fun X s_ h hi hx => (f83_link0 S K X p0_ i1 i2 (s_) h).mpr (hs X (s_) h hi fun s7_' h' hi' hm' => hx (s7_') h' hi' hm')) (s7_) h0
def f83_main (S : SatT) (K : KT) (x0 : Pt) (x1 x2 : Int) (h : H) : Prop :=
 newS 1 1 [.bool true] h fun s0 h1 =>
 nilC (.ptr x0) (
 isPt x0 (
 ldI .i64 (Pt.add x0 3) h1 fun n2 =>
 callS S i_f97 [.sl s0, .int .i64 n2] h1 fun s4 h3 =>
 f83_L0 S K x0 x1 x2 s4 h3))
theorem f83_main_link (S : SatT) (K : KT) (x0 : Pt) (x1 x2 : Int) (h : H) : cwp S tab f83_M [] (bodyOf Try.f85) (kFun tab Try.f85.results.toList K) (fr0 Try.f85 [.ptr x0, .int .i64 x1, .int .i64 x2]) h = f83_main S K x0 x1 x2 h := by kernel_rfl
theorem f83_call (x0 : Pt) (x1 x2 : Int) (h : H) (K : Sl → H → Prop) (hm : f83_main (Sat Try.prog) (fun v h' => ∃ r, v = .sl r ∧ K r h') x0 x1 x2 h) : callS (Sat Try.prog) i_f83 [.ptr x0, .int .i64 x1, .int .i64 x2] h K := by
 have := Sat.ex tok mixed f83_M Try.func85 (c := bodyOf Try.f85) (by kernel_rfl) (calls_of Try.func85 (c := bodyOf Try.f85) (by kernel_rfl) (by decide)) ((f83_main_link _ _ x0 x1 x2 h).mpr hm)
 obtain ⟨v, h2, h3, r, rfl, h4⟩ := this; exact ⟨r, h2, h3, h4⟩
def f106_M : Nat → List Nat := fun i => bif i == 0 then [2, 5, 6, 7] else []
def f106_ks6 (S : SatT) (K : KT) : Kont := kSeq (cwp S tab f106_M [] (sub [1, 1, 1, 1, 1] (bodyOf Try.f108)) (kFun tab (Try.f108).results.toList K)) (kFun tab (Try.f108).results.toList K)
def f106_e0 (p2_ p5_ : Pt) (s6_ : Sl) (i7 : Int) : Frame := [U, U, .ptr p2_, U, U, .ptr p5_, .sl s6_, .int .i64 i7, U, U, U, U, U, U, U, U, U, U, U, U, U, U, U, U, U, U, U, U, U, U, U, U, U, U, U, U, U, U, U, U, U, U, U, U, U, U, U, U, U, U, U, U, U, U, U, U, U, U, U, U, U, U, U, U, U, U, U, U, U, U]
def f106_w0 (S : SatT) (K : KT) : (XT) → XT := fun X fr h => cwp S tab f106_M (f106_M 0) (sub [1, 1, 1, 1, 0, 1, 0, 1, 1, 0, 0] (bodyOf Try.f108)) (kSeq (fun fr h => X (mask (f106_M 0) fr) h) (kBlk 0 (f106_ks6 S K))) fr h
def f106_L0 (S : SatT) (K : KT) (p2_ p5_ : Pt) (s6_ : Sl) (i7 : Int) (h : H) : Prop := loopK (f106_w0 S K) (f106_e0 p2_ p5_ s6_ i7) h
def f106_C0 (S : SatT) (K : KT) (p2_ p5_ : Pt) (h : H) : Prop :=
 ldA p5_ 2 h fun cs0 =>
 callB S i_f65 [.agg cs0] h fun b2 h1 =>
 bif (!b2) then
 stN p2_ 2 [.int .i64 (0), .sl Sl.nil] h1 fun h3 =>
 ldA p2_ 2 h3 fun cs4 =>
 K (.tuple [.agg cs4, .bool false]) h3
 else
 ldA p5_ 2 h1 fun cs5 =>
 stN p2_ 2 cs5 h1 fun h6 =>
 ldA p2_ 2 h6 fun cs7 =>
 K (.tuple [.agg cs7, .bool true]) h6
def f106_b0 (S : SatT) (K : KT) (X0 : XT) (p2_ p5_ : Pt) (s6_ : Sl) (i7 : Int) (h : H) : Prop :=
 bif (decide (i7 < (s6_.len : Int))) then
 ixS s6_ 1 i7 fun p0 =>
 ldV p0 h fun v1 =>
 viaStr v1 fun t2 =>
 bif ((t2.size : Int) != (4)) then
 stN p2_ 2 [.int .i64 (0), .sl Sl.nil] h fun h3 =>
 ldA p2_ 2 h3 fun cs4 =>
 K (.tuple [.agg cs4, .bool false]) h3
 else
 isPt p5_ (
 ldS (Pt.add p5_ 1) h fun s5 =>
 viaStr v1 fun t6 =>
 ixStr t6 (0) fun n7 =>
 viaStr v1 fun t8 =>
 ixStr t8 (1) fun n9 =>
 viaStr v1 fun t10 =>
 ixStr t10 (2) fun n11 =>
 viaStr v1 fun t12 =>
 ixStr t12 (3) fun n13 =>
 lenA [.int .i64 (w64 ((w64 (n7)) - (48))), .int .i64 (w64 ((w64 (n9)) - (48))), .int .i64 (w64 ((w64 (n11)) - (48))), .int .i64 (w64 ((w64 (n13)) - (48)))] 4 (
 newS 1 4 (spl [.int .i64 (0), .int .i64 (0), .int .i64 (0), .int .i64 (0)] 0 4 [.int .i64 (w64 ((w64 (n7)) - (48))), .int .i64 (w64 ((w64 (n9)) - (48))), .int .i64 (w64 ((w64 (n11)) - (48))), .int .i64 (w64 ((w64 (n13)) - (48)))]) h fun s14 h15 =>
(cell h15 (Pt.add p5_ 1) = cell h (Pt.add p5_ 1)) ∧ (
 app s5 s14 4 h15 fun s16 h17 =>
 isPt p5_ (
 st1 (Pt.add p5_ 1) (.sl s16) h17 fun h18 =>
 X0 (f106_e0 p2_ p5_ s6_ (w64 (i7 + (1)))) h18))))
 else
 f106_C0 S K p2_ p5_ h
theorem f106_link0 (S : SatT) (K : KT) (X0 : XT) (p2_ p5_ : Pt) (s6_ : Sl) (i7 : Int) (h : H) : f106_w0 S K X0 (f106_e0 p2_ p5_ s6_ i7) h = f106_b0 S K X0 p2_ p5_ s6_ i7 h := by kernel_rfl
theorem f106_rule0 (S : SatT) (K : KT) (p2_ p5_ : Pt) (s6_ : Sl) (I_ : Int → H → Prop) (m_ : Int → H → Nat)
  (hs : ∀ (X0 : XT) (i7 : Int) (h : H), I_ i7 h → (∀ (i7' : Int) (h' : H), I_ i7' h' → m_ i7' h' < m_ i7 h → X0 (f106_e0 p2_ p5_ s6_ i7') h') → f106_b0 S K X0 p2_ p5_ s6_ i7 h) (i7 : Int) {h : H} (h0 : I_ i7 h) : f106_L0 S K p2_ p5_ s6_ i7 h :=
 loop_rule (σ := (Int)) (fun s_ => f106_e0 p2_ p5_ s6_ (s_)) (fun s_ h => I_ (s_) h) (fun s_ h => m_ (s_) h)
  (fun X s_ h hi hx => (f106_link0 S K X p2_ p5_ s6_ (s_) h).mpr (hs X (s_) h hi fun i7' h' hi' hm' => hx (i7') h' hi' hm')) (i7) h0
def f106_main (S : SatT) (K : KT) (x0 : AVal) (h : H) : Prop :=
 newO [.int .i64 (0), .sl Sl.nil] h fun p0 h1 =>
 callS S i_f110 [x0, .int .u8 (58)] h1 fun s3 h2 =>
 bif ((s3.len : Int) != (2)) then
 stN p0 2 [.int .i64 (0), .sl Sl.nil] h2 fun h4 =>
 ldA p0 2 h4 fun cs5 =>
 K (.tuple [.agg cs5, .bool false]) h4
 else
 ixS s3 1 (0) fun p6 =>
 ldV p6 h2 fun v7 =>
 callI S .i64 i_f111 [v7] h2 fun n9 h8 =>
 newS 0 4 [] h8 fun s10 h11 =>
 newO [.int .i64 (0), .sl Sl.nil] h11 fun p12 h13 =>
 stN p12 2 [.int .i64 n9, .sl s10] h13 fun h14 =>
 ixS s3 1 (1) fun p15 =>
 ldV p15 h14 fun v16 =>
 strEq v16 (.str ByteArray.empty) fun b17 =>
 bif (!b17) then
 ixS s3 1 (1) fun p18 =>
 ldV p18 h14 fun v19 =>
 callS S i_f110 [v19, .int .u8 (44)] h14 fun s21 h20 =>
 f106_L0 S K p0 p12 s21 (0) h20
 else
 ldA p12 2 h14 fun cs22 =>
 callB S i_f65 [.agg cs22] h14 fun b24 h23 =>
 bif (!b24) then
 stN p0 2 [.int .i64 (0), .sl Sl.nil] h23 fun h25 =>
 ldA p0 2 h25 fun cs26 =>
 K (.tuple [.agg cs26, .bool false]) h25
 else
 ldA p12 2 h23 fun cs27 =>
 stN p0 2 cs27 h23 fun h28 =>
 ldA p0 2 h28 fun cs29 =>
 K (.tuple [.agg cs29, .bool true]) h28
theorem f106_main_link (S : SatT) (K : KT) (x0 : AVal) (h : H) : cwp S tab f106_M [] (bodyOf Try.f108) (kFun tab Try.f108.results.toList K) (fr0 Try.f108 [x0]) h = f106_main S K x0 h := by kernel_rfl
theorem f106_call (x0 : AVal) (h : H) (K : KT) (hm : f106_main (Sat Try.prog) (fun v h' => K v h') x0 h) : callV (Sat Try.prog) i_f106 [x0] h K := by
 have := Sat.ex tok mixed f106_M Try.func108 (c := bodyOf Try.f108) (by kernel_rfl) (calls_of Try.func108 (c := bodyOf Try.f108) (by kernel_rfl) (by decide)) ((f106_main_link _ _ x0 h).mpr hm)
 exact this
def f101_M : Nat → List Nat := fun i => bif i == 0 then [0, 1, 9, 10, 11] else []
def f101_ks1 (S : SatT) (K : KT) : Kont := kSeq (cwp S tab f101_M [] (sub [1, 1] (bodyOf Try.f103)) (kFun tab (Try.f103).results.toList K)) (kFun tab (Try.f103).results.toList K)
def f101_e0 (s0_ s1_ s9_ : Sl) (i10 i11 : Int) : Frame := [.sl s0_, .sl s1_, U, U, U, U, U, U, U, .sl s9_, .int .i64 i10, .int .i64 i11, U, U, U, U, U, U, U, U, U, U, U, U, U, U, U, U, U, U, U, U, U, U, U, U]
def f101_w0 (S : SatT) (K : KT) : (XT) → XT := fun X fr h => cwp S tab f101_M (f101_M 0) (sub [1, 0, 1, 0, 0] (bodyOf Try.f103)) (kSeq (fun fr h => X (mask (f101_M 0) fr) h) (kBlk 0 (f101_ks1 S K))) fr h
def f101_L0 (S : SatT) (K : KT) (s0_ s1_ s9_ : Sl) (i10 i11 : Int) (h : H) : Prop := loopK (f101_w0 S K) (f101_e0 s0_ s1_ s9_ i10 i11) h
def f101_C0 (S : SatT) (K : KT) (s0_ s1_ : Sl) (h : H) : Prop :=
 bif (decide ((s0_.len : Int) < (s1_.len : Int))) then
 K (.int .i64 (-1)) h
 else
 K (.int .i64 (0)) h
def f101_b0 (S : SatT) (K : KT) (X0 : XT) (s0_ s1_ s9_ : Sl) (i10 i11 : Int) (h : H) : Prop :=
 bif (decide (i11 < i10)) then
 ixS s9_ 1 i11 fun p0 =>
 ldI .i64 p0 h fun n1 =>
 bif (decide (i11 ≥ (s1_.len : Int))) then
 K (.int .i64 (1)) h
 else
 ixS s1_ 1 i11 fun p2 =>
 ldI .i64 p2 h fun n3 =>
 callI S .i64 i_f108 [.int .i64 n1, .int .i64 n3] h fun n5 h4 =>
 bif (n5 != (0)) then
 K (.int .i64 n5) h4
 else
 X0 (f101_e0 s0_ s1_ s9_ i10 (w64 (i11 + (1)))) h4
 else
 f101_C0 S K s0_ s1_ h
theorem f101_link0 (S : SatT) (K : KT) (X0 : XT) (s0_ s1_ s9_ : Sl) (i10 i11 : Int) (h : H) : f101_w0 S K X0 (f101_e0 s0_ s1_ s9_ i10 i11) h = f101_b0 S K X0 s0_ s1_ s9_ i10 i11 h := by kernel_rfl
theorem f101_rule0 (S : SatT) (K : KT) (s0_ s1_ s9_ : Sl) (i10 : Int) (I_ : Int → H → Prop) (m_ : Int → H → Nat)
  (hs : ∀ (X0 : XT) (i11 : Int) (h : H), I_ i11 h → (∀ (i11' : Int) (h' : H), I_ i11' h' → m_ i11' h' < m_ i11 h → X0 (f101_e0 s0_ s1_ s9_ i10 i11') h') → f101_b0 S K X0 s0_ s1_ s9_ i10 i11 h) (i11 : Int) {h : H} (h0 : I_ i11 h) : f101_L0 S K s0_ s1_ s9_ i10 i11 h :=
 loop_rule (σ := (Int)) (fun s_ => f101_e0 s0_ s1_ s9_ i10 (s_)) (fun s_ h => I_ (s_) h) (fun s_ h => m_ (s_) h)
  (fun X s_ h hi hx => (f101_link0 S K X s0_ s1_ s9_ i10 (s_) h).mpr (hs X (s_) h hi fun i11' h' hi' hm' => hx (i11') h' hi' hm')) (i11) h0
def f101_main (S : SatT) (K : KT) (x0 x1 : Sl) (h : H) : Prop :=
 f101_L0 S K x0 x1 x0 (x0.len : Int) (0) h
theorem f101_main_link (S : SatT) (K : KT) (x0 x1 : Sl) (h : H) : cwp S tab f101_M [] (bodyOf Try.f103) (kFun tab Try.f103.results.toList K) (fr0 Try.f103 [.sl x0, .sl x1]) h = f101_main S K x0 x1 h := by kernel_rfl
theorem f101_call (x0 x1 : Sl) (h : H) (K : Int → H → Prop) (hm : f101_main (Sat Try.prog) (fun v h' => ∃ r, v = .int .i64 r ∧ K r h') x0 x1 h) : callI (Sat Try.prog) .i64 i_f101 [.sl x0, .sl x1] h K := by
 have := Sat.ex tok mixed f101_M Try.func103 (c := bodyOf Try.f103) (by kernel_rfl) (calls_of Try.func103 (c := bodyOf Try.f103) (by kernel_rfl) (by decide)) ((f101_main_link _ _ x0 x1 h).mpr hm)
 obtain ⟨v, h2, h3, r, rfl, h4⟩ := this; exact ⟨r, h2, h3, h4⟩
def f97_M : Nat → List Nat := fun i => bif i == 0 then [7, 8] else []
def f97_ks8 (S : SatT) (K : KT) : Kont := kSeq (cwp S tab f97_M [] (sub [1, 1, 1, 1, 1, 1, 1] (bodyOf Try.f99)) (kFun tab (Try.f99).results.toList K)) (kFun tab (Try.f99).results.toList K)
def f97_e0 (s7_ : Sl) (i8 : Int) : Frame := [U, U, U, U, U, U, U, .sl s7_, .int .i64 i8, U, U, U, U, U, U, U, U, U, U, U, U, U, U, U, U, U, U, U, U, U, U, U, U, U, U, U, U, U, U, U, U, U, U, U, U, U, U, U]
def f97_w0 (S : SatT) (K : KT) : (XT) → XT := fun X fr h => cwp S tab f97_M (f97_M 0) (sub [1, 1, 1, 1, 1, 1, 0, 0, 0] (bodyOf Try.f99)) (kSeq (fun fr h => X (mask (f97_M 0) fr) h) (kBlk 0 (f97_ks8 S K))) fr h
def f97_L0 (S : SatT) (K : KT) (s7_ : Sl) (i8 : Int) (h : H) : Prop := loopK (f97_w0 S K) (f97_e0 s7_ i8) h
def f97_C0 (S : SatT) (K : KT) (s7_ : Sl) (h : H) : Prop :=
 K (.sl s7_) h
def f97_b0 (S : SatT) (K : KT) (X0 : XT) (s7_ : Sl) (i8 : Int) (h : H) : Prop :=
 bif (decide (i8 < (s7_.len : Int))) then
 cut s7_ 1 i8 (s7_.len : Int) h fun s0 =>
 cut s7_ 1 (0) i8 h fun s1 =>
 copyS s0 s1 1 h fun n2 h3 =>
 X0 (f97_e0 s7_ (w64 (i8 + n2))) h3
 else
 f97_C0 S K s7_ h
theorem f97_link0 (S : SatT) (K : KT) (X0 : XT) (s7_ : Sl) (i8 : Int) (h : H) : f97_w0 S K X0 (f97_e0 s7_ i8) h = f97_b0 S K X0 s7_ i8 h := by kernel_rfl
theorem f97_rule0 (S : SatT) (K : KT) (s7_ : Sl) (I_ : Int → H → Prop) (m_ : Int → H → Nat)
  (hs : ∀ (X0 : XT) (i8 : Int) (h : H), I_ i8 h → (∀ (i8' : Int) (h' : H), I_ i8' h' → m_ i8' h' < m_ i8 h → X0 (f97_e0 s7_ i8') h') → f97_b0 S K X0 s7_ i8 h) (i8 : Int) {h : H} (h0 : I_ i8 h) : f97_L0 S K s7_ i8 h :=
 loop_rule (σ := (Int)) (fun s_ => f97_e0 s7_ (s_)) (fun s_ h => I_ (s_) h) (fun s_ h => m_ (s_) h)
  (fun X s_ h hi hx => (f97_link0 S K X s7_ (s_) h).mpr (hs X (s_) h hi fun i8' h' hi' hm' => hx (i8') h' hi' hm')) (i8) h0
def f97_main (S : SatT) (K : KT) (x0 : Sl) (x1 : Int) (h : H) : Prop :=
 bif (decide (x1 < (0))) then
 False
 else
 callV S i_f89 [.int .u64 (IntKind.wrap .u64 ((x0.len : Int))), .int .u64 (IntKind.wrap .u64 (x1))] h fun v1 h0 =>
 viaT v1 fun vs2 =>
 exI .u64 vs2 0 fun n3 =>
 viaT v1 fun vs4 =>
 exI .u64 vs4 1 fun n5 =>
 bif (decide (n3 > (0))) then
 False
 else
 bif (decide (n5 > (9223372036854775807))) then
 False
 else
 mkS (w64 (n5)) [.bool false] h0 fun s6 h7 =>
 copyS s6 x0 1 h7 fun n8 h9 =>
 f97_L0 S K s6 n8 h9
theorem f97_main_link (S : SatT) (K : KT) (x0 : Sl) (x1 : Int) (h : H) : cwp S tab f97_M [] (bodyOf Try.f99) (kFun tab Try.f99.results.toList K) (fr0 Try.f99 [.sl x0, .int .i64 x1]) h = f97_main S K x0 x1 h := by kernel_rfl
theorem f97_call (x0 : Sl) (x1 : Int) (h : H) (K : Sl → H → Prop) (hm : f97_main (Sat Try.prog) (fun v h' => ∃ r, v = .sl r ∧ K r h') x0 x1 h) : callS (Sat Try.prog) i_f97 [.sl x0, .int .i64 x1] h K := by
 have := Sat.ex tok mixed f97_M Try.func99 (c := bodyOf Try.f99) (by kernel_rfl) (calls_of Try.func99 (c := bodyOf Try.f99) (by kernel_rfl) (by decide)) ((f97_main_link _ _ x0 x1 h).mpr hm)
 obtain ⟨v, h2, h3, r, rfl, h4⟩ := this; exact ⟨r, h2, h3, h4⟩
def f111_M : Nat → List Nat := fun i => bif i == 0 then [0, 3, 4] else []
def f111_ks7 (S : SatT) (K : KT) : Kont := kSeq (cwp S tab f111_M [] (sub [1, 1, 1, 1] (bodyOf Try.f113)) (kFun tab (Try.f113).results.toList K)) (kFun tab (Try.f113).results.toList K)
def f111_e0 (f0_ : AVal) (i3 i4 : Int) : Frame := [f0_, U, U, .int .i64 i3, .int .i64 i4, U, U, U, U, U, U, U, U, U, U, U, U, U, U, U, U, U, U, U, U, U, U, U, U, U, U, U, U, U, U, U, U, U, U, U, U, U, U, U, U, U, U, U]
def f111_w0 (S : SatT) (K : KT) : (XT) → XT := fun X fr h => cwp S tab f111_M (f111_M 0) (sub [1, 1, 1, 0, 1, 0, 0] (bodyOf Try.f113)) (kSeq (fun fr h => X (mask (f111_M 0) fr) h) (kBlk 0 (f111_ks7 S K))) fr h
def f111_L0 (S : SatT) (K : KT) (f0_ : AVal) (i3 i4 : Int) (h : H) : Prop := loopK (f111_w0 S K) (f111_e0 f0_ i3 i4) h
def f111_C0 (S : SatT) (K : KT) (i3 : Int) (h : H) : Prop :=
 K (.int .i64 i3) h
def f111_b0 (S : SatT) (K : KT) (X0 : XT) (f0_ : AVal) (i3 i4 : Int) (h : H) : Prop :=
 viaStr f0_ fun t0 =>
 bif (decide (i4 < (t0.size : Int))) then
 viaStr f0_ fun t1 =>
 ixStr t1 i4 fun n2 =>
 bif (decide (n2 < (48))) then
 K (.int .i64 (-1)) h
 else
 viaStr f0_ fun t3 =>
 ixStr t3 i4 fun n4 =>
 bif (decide (n4 > (57))) then
 K (.int .i64 (-1)) h
 else
 viaStr f0_ fun t5 =>
 ixStr t5 i4 fun n6 =>
 X0 (f111_e0 f0_ (w64 ((w64 (i3 * (10))) + (w64 ((IntKind.wrap .u8 (n6 - (48))))))) (w64 (i4 + (1)))) h
 else
 f111_C0 S K i3 h
theorem f111_link0 (S : SatT) (K : KT) (X0 : XT) (f0_ : AVal) (i3 i4 : Int) (h : H) : f111_w0 S K X0 (f111_e0 f0_ i3 i4) h = f111_b0 S K X0 f0_ i3 i4 h := by kernel_rfl
theorem f111_rule0 (S : SatT) (K : KT) (f0_ : AVal) (I_ : Int → Int → H → Prop) (m_ : Int → Int → H → Nat)
  (hs : ∀ (X0 : XT) (i3 i4 : Int) (h : H), I_ i3 i4 h → (∀ (i3' i4' : Int) (h' : H), I_ i3' i4' h' → m_ i3' i4' h' < m_ i3 i4 h → X0 (f111_e0 f0_ i3' i4') h') → f111_b0 S K X0 f0_ i3 i4 h) (i3 i4 : Int) {h : H} (h0 : I_ i3 i4 h) : f111_L0 S K f0_ i3 i4 h :=
 loop_rule (σ := (Int) × (Int)) (fun s_ => f111_e0 f0_ (s_.1) (s_.2)) (fun s_ h => I_ (s_.1) (s_.2) h) (fun s_ h => m_ (s_.1) (s_.2) h)
  (fun X s_ h hi hx => (f111_link0 S K X f0_ (s_.1) (s_.2) h).mpr (hs X (s_.1) (s_.2) h hi fun i3' i4' h' hi' hm' => hx (i3', i4') h' hi' hm')) (i3, i4) h0
def f111_main (S : SatT) (K : KT) (x0 : AVal) (h : H) : Prop :=
 viaStr x0 fun t0 =>
 bif ((t0.size : Int) == (0)) then
 K (.int .i64 (-1)) h
 else
 viaStr x0 fun t1 =>
 bif (decide ((t1.size : Int) > (9))) then
 K (.int .i64 (-1)) h
 else
 viaStr x0 fun t2 =>
 bif (decide ((t2.size : Int) > (1))) then
 viaStr x0 fun t3 =>
 ixStr t3 (0) fun n4 =>
 bif (n4 == (48)) then
 K (.int .i64 (-1)) h
 else
 f111_L0 S K x0 (0) (0) h
 else
 f111_L0 S K x0 (0) (0) h
theorem f111_main_link (S : SatT) (K : KT) (x0 : AVal) (h : H) : cwp S tab f111_M [] (bodyOf Try.f113) (kFun tab Try.f113.results.toList K) (fr0 Try.f113 [x0]) h = f111_main S K x0 h := by kernel_rfl
theorem f111_call (x0 : AVal) (h : H) (K : Int → H → Prop) (hm : f111_main (Sat Try.prog) (fun v h' => ∃ r, v = .int .i64 r ∧ K r h') x0 h) : callI (Sat Try.prog) .i64 i_f111 [x0] h K := by
 have := Sat.ex tok mixed f111_M Try.func113 (c := bodyOf Try.f113) (by kernel_rfl) (calls_of Try.func113 (c := bodyOf Try.f113) (by kernel_rfl) (by decide)) ((f111_main_link _ _ x0 h).mpr hm)
 obtain ⟨v, h2, h3, r, rfl, h4⟩ := this; exact ⟨r, h2, h3, h4⟩
def f65_M : Nat → List Nat := fun i => bif i == 0 then [1, 3] else []
def f65_ks5 (S : SatT) (K : KT) : Kont := kSeq (cwp S tab f65_M [] (sub [1, 1, 1] (bodyOf Try.f67)) (kFun tab (Try.f67).results.toList K)) (kFun tab (Try.f67).results.toList K)
def f65_e0 (p1_ : Pt) (i3 : Int) : Frame := [U, .ptr p1_, U, .int .i64 i3, U, U, U, U, U, U, U, U, U, U, U, U, U, U, U, U, U, U, U, U, U, U, U, U, U, U, U, U, U, U, U, U, U, U, U, U, U, U, U, U, U, U, U, U, U]
def f65_w0 (S : SatT) (K : KT) : (XT) → XT := fun X fr h => cwp S tab f65_M (f65_M 0) (sub [1, 1, 0, 1, 0, 0] (bodyOf Try.f67)) (kSeq (fun fr h => X (mask (f65_M 0) fr) h) (kBlk 0 (f65_ks5 S K))) fr h
def f65_L0 (S : SatT) (K : KT) (p1_ : Pt) (i3 : Int) (h : H) : Prop := loopK (f65_w0 S K) (f65_e0 p1_ i3) h
def f65_C0 (S : SatT) (K : KT) (h : H) : Prop :=
 K (.bool true) h
def f65_b0 (S : SatT) (K : KT) (X0 : XT) (p1_ : Pt) (i3 : Int) (h : H) : Prop :=
 isPt p1_ (
 ldS (Pt.add p1_ 1) h fun s0 =>
 bif (decide (i3 < (s0.len : Int))) then
 isPt p1_ (
 ldI .i64 (Pt.add p1_ 0) h fun n1 =>
 isPt p1_ (
 ldS (Pt.add p1_ 1) h fun s2 =>
 ixS s2 4 i3 fun p3 =>
 ldA p3 4 h fun cs4 =>
 callB S i_f85 [.int .i64 n1, .agg cs4] h fun b6 h5 =>
 bif (!b6) then
 K (.bool false) h5
 else
 bif (decide (i3 > (0))) then
 isPt p1_ (
 ldS (Pt.add p1_ 1) h5 fun s7 =>
 ixS s7 4 (w64 (i3 - (1))) fun p8 =>
 ldA p8 4 h5 fun cs9 =>
 isPt p1_ (
 ldS (Pt.add p1_ 1) h5 fun s10 =>
 ixS s10 4 i3 fun p11 =>
 ldA p11 4 h5 fun cs12 =>
 callB S i_f86 [.agg cs9, .agg cs12] h5 fun b14 h13 =>
 bif (!b14) then
 K (.bool false) h13
 else
 X0 (f65_e0 p1_ (w64 (i3 + (1)))) h13))
 else
 X0 (f65_e0 p1_ (w64 (i3 + (1)))) h5))
 else
 f65_C0 S K h)
theorem f65_link0 (S : SatT) (K : KT) (X0 : XT) (p1_ : Pt) (i3 : Int) (h : H) : f65_w0 S K X0 (f65_e0 p1_ i3) h = f65_b0 S K X0 p1_ i3 h := by kernel_rfl
theorem f65_rule0 (S : SatT) (K : KT) (p1_ : Pt) (I_ : Int → H → Prop) (m_ : Int → H → Nat)
  (hs : ∀ (X0 : XT) (i3 : Int) (h : H), I_ i3 h → (∀ (i3' : Int) (h' : H), I_ i3' h' → m_ i3' h' < m_ i3 h → X0 (f65_e0 p1_ i3') h') → f65_b0 S K X0 p1_ i3 h) (i3 : Int) {h : H} (h0 : I_ i3 h) : f65_L0 S K p1_ i3 h :=
 loop_rule (σ := (Int)) (fun s_ => f65_e0 p1_ (s_)) (fun s_ h => I_ (s_) h) (fun s_ h => m_ (s_) h)
  (fun X s_ h hi hx => (f65_link0 S K X p1_ (s_) h).mpr (hs X (s_) h hi fun i3' h' hi' hm' => hx (i3') h' hi' hm')) (i3) h0
def f65_main (S : SatT) (K : KT) (x0 : List AVal) (h : H) : Prop :=
 newK 2 x0 h fun p0 h1 =>
 isPt p0 (
 ldI .i64 (Pt.add p0 0) h1 fun n2 =>
 callB S i_f41 [.int .i64 n2, .int .i64 (1), .int .i64 (6)] h1 fun b4 h3 =>
 bif (!b4) then
 K (.bool false) h3
 else
 isPt p0 (
 ldS (Pt.add p0 1) h3 fun s5 =>
 bif (decide ((s5.len : Int) > (16))) then
 K (.bool false) h3
 else
 f65_L0 S K p0 (0) h3))
theorem f65_main_link (S : SatT) (K : KT) (x0 : List AVal) (h : H) : cwp S tab f65_M [] (bodyOf Try.f67) (kFun tab Try.f67.results.toList K) (fr0 Try.f67 [.agg x0]) h = f65_main S K x0 h := by kernel_rfl
theorem f65_call (x0 : List AVal) (h : H) (K : Bool → H → Prop) (hm : f65_main (Sat Try.prog) (fun v h' => ∃ r, v = .bool r ∧ K r h') x0 h) : callB (Sat Try.prog) i_f65 [.agg x0] h K := by
 have := Sat.ex tok mixed f65_M Try.func67 (c := bodyOf Try.f67) (by kernel_rfl) (calls_of Try.func67 (c := bodyOf Try.f67) (by kernel_rfl) (by decide)) ((f65_main_link _ _ x0 h).mpr hm)
 obtain ⟨v, h2, h3, r, rfl, h4⟩ := this; exact ⟨r, h2, h3, h4⟩
def f43_M : Nat → List Nat := fun i => bif i == 0 then [1, 2, 5, 6] else []
def f43_ks2 (S : SatT) (K : KT) : Kont := kSeq (cwp S tab f43_M [] (sub [1, 1, 1] (bodyOf Try.f45)) (kFun tab (Try.f45).results.toList K)) (kFun tab (Try.f45).results.toList K)
def f43_e0 (i1 : Int) (p2_ : Pt) (i5 i6 : Int) : Frame := [U, .int .i64 i1, .ptr p2_, U, U, .int .i64 i5, .int .i64 i6, U, U, U, U, U, U, U, U, U, U]
def f43_w0 (S : SatT) (K : KT) : (XT) → XT := fun X fr h => cwp S tab f43_M (f43_M 0) (sub [1, 1, 0, 1, 0, 0] (bodyOf Try.f45)) (kSeq (fun fr h => X (mask (f43_M 0) fr) h) (kBlk 0 (f43_ks2 S K))) fr h
def f43_L0 (S : SatT) (K : KT) (i1 : Int) (p2_ : Pt) (i5 i6 : Int) (h : H) : Prop := loopK (f43_w0 S K) (f43_e0 i1 p2_ i5 i6) h
def f43_C0 (S : SatT) (K : KT) (i5 : Int) (h : H) : Prop :=
 K (.int .i64 i5) h
def f43_b0 (S : SatT) (K : KT) (X0 : XT) (i1 : Int) (p2_ : Pt) (i5 i6 : Int) (h : H) : Prop :=
 bif (decide (i6 < i1)) then
 isPt p2_ (
 ldI .i64 (Pt.add p2_ 0) h fun n0 =>
 X0 (f43_e0 i1 p2_ (w64 (i5 * n0)) (w64 (i6 + (1)))) h)
 else
 f43_C0 S K i5 h
theorem f43_link0 (S : SatT) (K : KT) (X0 : XT) (i1 : Int) (p2_ : Pt) (i5 i6 : Int) (h : H) : f43_w0 S K X0 (f43_e0 i1 p2_ i5 i6) h = f43_b0 S K X0 i1 p2_ i5 i6 h := by kernel_rfl
theorem f43_rule0 (S : SatT) (K : KT) (i1 : Int) (p2_ : Pt) (I_ : Int → Int → H → Prop) (m_ : Int → Int → H → Nat)
  (hs : ∀ (X0 : XT) (i5 i6 : Int) (h : H), I_ i5 i6 h → (∀ (i5' i6' : Int) (h' : H), I_ i5' i6' h' → m_ i5' i6' h' < m_ i5 i6 h → X0 (f43_e0 i1 p2_ i5' i6') h') → f43_b0 S K X0 i1 p2_ i5 i6 h) (i5 i6 : Int) {h : H} (h0 : I_ i5 i6 h) : f43_L0 S K i1 p2_ i5 i6 h :=
 loop_rule (σ := (Int) × (Int)) (fun s_ => f43_e0 i1 p2_ (s_.1) (s_.2)) (fun s_ h => I_ (s_.1) (s_.2) h) (fun s_ h => m_ (s_.1) (s_.2) h)
  (fun X s_ h hi hx => (f43_link0 S K X i1 p2_ (s_.1) (s_.2) h).mpr (hs X (s_.1) (s_.2) h hi fun i5' i6' h' hi' hm' => hx (i5', i6') h' hi' hm')) (i5, i6) h0
def f43_main (S : SatT) (K : KT) (x0 : List AVal) (x1 : Int) (h : H) : Prop :=
 newK 2 x0 h fun p0 h1 =>
 f43_L0 S K x1 p0 (1) (0) h1
theorem f43_main_link (S : SatT) (K : KT) (x0 : List AVal) (x1 : Int) (h : H) : cwp S tab f43_M [] (bodyOf Try.f45) (kFun tab Try.f45.results.toList K) (fr0 Try.f45 [.agg x0, .int .i64 x1]) h = f43_main S K x0 x1 h := by kernel_rfl
theorem f43_call (x0 : List AVal) (x1 : Int) (h : H) (K : Int → H → Prop) (hm : f43_main (Sat Try.prog) (fun v h' => ∃ r, v = .int .i64 r ∧ K r h') x0 x1 h) : callI (Sat Try.prog) .i64 i_f43 [.agg x0, .int .i64 x1] h K := by
 have := Sat.ex tok mixed f43_M Try.func45 (c := bodyOf Try.f45) (by kernel_rfl) (calls_of Try.func45 (c := bodyOf Try.f45) (by kernel_rfl) (by decide)) ((f43_main_link _ _ x0 x1 h).mpr hm)
 obtain ⟨v, h2, h3, r, rfl, h4⟩ := this; exact ⟨r, h2, h3, h4⟩
def f90_M : Nat → List Nat := fun i => []
def f90_main (S : SatT) (K : KT) (x0 : Pt) (x1 : List AVal) (h : H) : Prop :=
 newK 2 x1 h fun p0 h1 =>
 newO [.int .i64 (0), .sl Sl.nil] h1 fun p2 h3 =>
 newS 0 4 [] h3 fun s4 h5 =>
 isPt p0 (
 ldS (Pt.add p0 1) h5 fun s6 =>
 app s4 s6 4 h5 fun s7 h8 =>
 callI S .i64 i_f80 [.ptr x0, .int .i64 (50)] h8 fun n10 h9 =>
 bif (n10 == (0)) then
 newS 3 1 [.int .i64 (0), .int .i64 (7), .int .i64 (-1)] h9 fun s11 h12 =>
 callI S .i64 i_f67 [.ptr x0, .sl s11] h12 fun n14 h13 =>
 stN p2 2 [.int .i64 n14, .sl s7] h13 fun h15 =>
 ldA p2 2 h15 fun cs16 =>
 K (.agg cs16) h15
 else
 bif (n10 == (1)) then
 isPt p0 (
 ldI .i64 (Pt.add p0 0) h9 fun n17 =>
 newS 2 1 [.int .i64 (0), .int .i64 (-1)] h9 fun s18 h19 =>
(cell h19 (Pt.add p0 0) = cell h9 (Pt.add p0 0)) ∧ (
 callI S .i64 i_f67 [.ptr x0, .sl s18] h19 fun n21 h20 =>
(cell h20 (Pt.add p0 0) = cell h9 (Pt.add p0 0)) ∧ (
 lenA [.int .i64 n17, .int .i64 (0), .int .i64 (0), .int .i64 n21] 4 (
 newS 1 4 (spl [.int .i64 (0), .int .i64 (0), .int .i64 (0), .int .i64 (0)] 0 4 [.int .i64 n17, .int .i64 (0), .int .i64 (0), .int .i64 n21]) h20 fun s22 h23 =>
 app s7 s22 4 h23 fun s24 h25 =>
 isPt p0 (
 ldI .i64 (Pt.add p0 0) h25 fun n26 =>
 stN p2 2 [.int .i64 n26, .sl s24] h25 fun h27 =>
 ldA p2 2 h27 fun cs28 =>
 K (.agg cs28) h27)))))
 else
 bif (n10 == (2)) then
 isPt p0 (
 ldI .i64 (Pt.add p0 0) h9 fun n29 =>
 callA S i_f104 [.ptr x0, .int .i64 n29] h9 fun cs31 h30 =>
 lenA cs31 4 (
 newS 1 4 (spl [.int .i64 (0), .int .i64 (0), .int .i64 (0), .int .i64 (0)] 0 4 cs31) h30 fun s32 h33 =>
 app s7 s32 4 h33 fun s34 h35 =>
 isPt p0 (
 ldI .i64 (Pt.add p0 0) h35 fun n36 =>
 stN p2 2 [.int .i64 n36, .sl s34] h35 fun h37 =>
 ldA p2 2 h37 fun cs38 =>
 K (.agg cs38) h37)))
 else
 bif (n10 == (3)) then
 bif (decide ((s7.len : Int) > (1))) then
 ixS s7 4 (0) fun p39 =>
 ldA p39 4 h9 fun cs40 =>
 newO [.int .i64 (0), .int .i64 (0), .int .i64 (0), .int .i64 (0)] h9 fun p41 h42 =>
 stN p41 4 cs40 h42 fun h43 =>
 ixS s7 4 (1) fun p44 =>
 ldA p44 4 h43 fun cs45 =>
 ixS s7 4 (0) fun p46 =>
 stN p46 4 cs45 h43 fun h47 =>
 ldA p41 4 h47 fun cs48 =>
 ixS s7 4 (1) fun p49 =>
 stN p49 4 cs48 h47 fun h50 =>
 isPt p0 (
 ldI .i64 (Pt.add p0 0) h50 fun n51 =>
 stN p2 2 [.int .i64 n51, .sl s7] h50 fun h52 =>
 ldA p2 2 h52 fun cs53 =>
 K (.agg cs53) h52)
 else
 isPt p0 (
 ldI .i64 (Pt.add p0 0) h9 fun n54 =>
 stN p2 2 [.int .i64 n54, .sl s7] h9 fun h55 =>
 ldA p2 2 h55 fun cs56 =>
 K (.agg cs56) h55)
 else
 ldA p0 2 h9 fun cs57 =>
 stN p2 2 cs57 h9 fun h58 =>
 ldA p2 2 h58 fun cs59 =>
 K (.agg cs59) h58)
theorem f90_main_link (S : SatT) (K : KT) (x0 : Pt) (x1 : List AVal) (h : H) : cwp S tab f90_M [] (bodyOf Try.f92) (kFun tab Try.f92.results.toList K) (fr0 Try.f92 [.ptr x0, .agg x1]) h = f90_main S K x0 x1 h := by kernel_rfl
theorem f90_call (x0 : Pt) (x1 : List AVal) (h : H) (K : List AVal → H → Prop) (hm : f90_main (Sat Try.prog) (fun v h' => ∃ r, v = .agg r ∧ K r h') x0 x1 h) : callA (Sat Try.prog) i_f90 [.ptr x0, .agg x1] h K := by
 have := Sat.ex tok mixed f90_M Try.func92 (c := bodyOf Try.f92) (by kernel_rfl) (calls_of Try.func92 (c := bodyOf Try.f92) (by kernel_rfl) (by decide)) ((f90_main_link _ _ x0 x1 h).mpr hm)
 obtain ⟨v, h2, h3, r, rfl, h4⟩ := this; exact ⟨r, h2, h3, h4⟩
def f73_M : Nat → List Nat := fun i => bif i == 0 then [0, 1] else []
def f73_ks1 (S : SatT) (K : KT) : Kont := kSeq (cwp S tab f73_M [] (sub [1, 1] (bodyOf Try.f75)) (kFun tab (Try.f75).results.toList K)) (kFun tab (Try.f75).results.toList K)
def f73_e0 (i0 i1 : Int) : Frame := [.int .i64 i0, .int .i64 i1, U, U, U, U, U, U, U, U, U, U]
def f73_w0 (S : SatT) (K : KT) : (XT) → XT := fun X fr h => cwp S tab f73_M (f73_M 0) (sub [1, 0, 0, 0] (bodyOf Try.f75)) (kSeq (fun fr h => X (mask (f73_M 0) fr) h) (kBlk 0 (f73_ks1 S K))) fr h
def f73_L0 (S : SatT) (K : KT) (i0 i1 : Int) (h : H) : Prop := loopK (f73_w0 S K) (f73_e0 i0 i1) h
def f73_C0 (S : SatT) (K : KT) (i0 : Int) (h : H) : Prop :=
 K (.int .i64 i0) h
def f73_b0 (S : SatT) (K : KT) (X0 : XT) (i0 i1 : Int) (h : H) : Prop :=
 bif (i1 != (0)) then
 nz i1 (
 X0 (f73_e0 i1 (Int.tmod i0 i1)) h)
 else
 f73_C0 S K i0 h
theorem f73_link0 (S : SatT) (K : KT) (X0 : XT) (i0 i1 : Int) (h : H) : f73_w0 S K X0 (f73_e0 i0 i1) h = f73_b0 S K X0 i0 i1 h := by kernel_rfl
theorem f73_rule0 (S : SatT) (K : KT) (I_ : Int → Int → H → Prop) (m_ : Int → Int → H → Nat)
  (hs : ∀ (X0 : XT) (i0 i1 : Int) (h : H), I_ i0 i1 h → (∀ (i0' i1' : Int) (h' : H), I_ i0' i1' h' → m_ i0' i1' h' < m_ i0 i1 h → X0 (f73_e0 i0' i1') h') → f73_b0 S K X0 i0 i1 h) (i0 i1 : Int) {h : H} (h0 : I_ i0 i1 h) : f73_L0 S K i0 i1 h :=
 loop_rule (σ := (Int) × (Int)) (fun s_ => f73_e0 (s_.1) (s_.2)) (fun s_ h => I_ (s_.1) (s_.2) h) (fun s_ h => m_ (s_.1) (s_.2) h)
  (fun X s_ h hi hx => (f73_link0 S K X (s_.1) (s_.2) h).mpr (hs X (s_.1) (s_.2) h hi fun i0' i1' h' hi' hm' => hx (i0', i1') h' hi' hm')) (i0, i1) h0
def f73_main (S : SatT) (K : KT) (x0 x1 : Int) (h : H) : Prop :=
 f73_L0 S K x0 x1 h
theorem f73_main_link (S : SatT) (K : KT) (x0 x1 : Int) (h : H) : cwp S tab f73_M [] (bodyOf Try.f75) (kFun tab Try.f75.results.toList K) (fr0 Try.f75 [.int .i64 x0, .int .i64 x1]) h = f73_main S K x0 x1 h := by kernel_rfl
theorem f73_call (x0 x1 : Int) (h : H) (K : Int → H → Prop) (hm : f73_main (Sat Try.prog) (fun v h' => ∃ r, v = .int .i64 r ∧ K r h') x0 x1 h) : callI (Sat Try.prog) .i64 i_f73 [.int .i64 x0, .int .i64 x1] h K := by
 have := Sat.ex tok mixed f73_M Try.func75 (c := bodyOf Try.f75) (by kernel_rfl) (calls_of Try.func75 (c := bodyOf Try.f75) (by kernel_rfl) (by decide)) ((f73_main_link _ _ x0 x1 h).mpr hm)
 obtain ⟨v, h2, h3, r, rfl, h4⟩ := this; exact ⟨r, h2, h3, h4⟩
def f13_M : Nat → List Nat := fun i => []
def f13_main (S : SatT) (K : KT) (x0 : List AVal) (x1 x2 : Int) (h : H) : Prop :=
 newK 2 x0 h fun p0 h1 =>
 newO [.int .i64 x1] h1 fun p2 h3 =>
 newO [.int .i64 x2] h3 fun p4 h5 =>
 ldA p0 2 h5 fun cs6 =>
 callI S .i64 i_f35 [.agg cs6, .func 38 [.ptr p2, .ptr p4]] h5 fun n8 h7 =>
 bif (n8 != (0)) then
 K (.tuple [.sl Sl.nil, .int .i64 n8]) h7
 else
 ldA p0 2 h7 fun cs9 =>
 ldI .i64 p2 h7 fun n10 =>
 callV S i_f32 [.agg cs9, .int .i64 n10] h7 fun v12 h11 =>
 viaT v12 fun vs13 =>
 exP vs13 0 fun p14 =>
 viaT v12 fun vs15 =>
 exI .i64 vs15 1 fun n16 =>
 bif (n16 != (0)) then
 K (.tuple [.sl Sl.nil, .int .i64 n16]) h11
 else
 newS 0 1 [] h11 fun s17 h18 =>
 newO [.sl Sl.nil] h18 fun p19 h20 =>
 newO [.bool false] h20 fun p21 h22 =>
 st1 p19 (.sl s17) h22 fun h23 =>
 st1 p21 (.bool true) h23 fun h24 =>
 callV S i_f38 [.ptr p14, .func 41 [], .func 42 [.ptr p19, .ptr p21, .ptr p4]] h24 fun v26 h25 =>
 ldB p21 h25 fun b27 =>
 bif (!b27) then
 K (.tuple [.sl Sl.nil, .int .i64 (3)]) h25
 else
 ldS p19 h25 fun s28 =>
 K (.tuple [.sl s28, .int .i64 (0)]) h25
theorem f13_main_link (S : SatT) (K : KT) (x0 : List AVal) (x1 x2 : Int) (h : H) : cwp S tab f13_M [] (bodyOf Try.f15) (kFun tab Try.f15.results.toList K) (fr0 Try.f15 [.agg x0, .int .i64 x1, .int .i64 x2]) h = f13_main S K x0 x1 x2 h := by kernel_rfl
theorem f13_call (x0 : List AVal) (x1 x2 : Int) (h : H) (K : KT) (hm : f13_main (Sat Try.prog) (fun v h' => K v h') x0 x1 x2 h) : callV (Sat Try.prog) i_f13 [.agg x0, .int .i64 x1, .int .i64 x2] h K := by
 have := Sat.ex tok mixed f13_M Try.func15 (c := bodyOf Try.f15) (by kernel_rfl) (calls_of Try.func15 (c := bodyOf Try.f15) (by kernel_rfl) (by decide)) ((f13_main_link _ _ x0 x1 x2 h).mpr hm)
 exact this
def f22_M : Nat → List Nat := fun i => []
def f22_main (S : SatT) (K : KT) (x0 : List AVal) (x1 : Int) (h : H) : Prop :=
 newK 2 x0 h fun p0 h1 =>
 ldA p0 2 h1 fun cs2 =>
 callV S i_f30 [.agg cs2, .int .i64 x1] h1 fun v4 h3 =>
 viaT v4 fun vs5 =>
 exS vs5 0 fun s6 =>
 viaT v4 fun vs7 =>
 exS vs7 1 fun s8 =>
 viaT v4 fun vs9 =>
 exI .i64 vs9 2 fun n10 =>
 bif (n10 != (0)) then
 K (.tuple [.int .i64 (0), .int .i64 n10]) h3
 else
 callV S i_f52 [.sl s8] h3 fun v12 h11 =>
 viaT v12 fun vs13 =>
 exI .i64 vs13 0 fun n14 =>
 viaT v12 fun vs15 =>
 exB vs15 1 fun b16 =>
 bif (!b16) then
 K (.tuple [.int .i64 (0), .int .i64 (5)]) h11
 else
 K (.tuple [.int .i64 n14, .int .i64 (0)]) h11
theorem f22_main_link (S : SatT) (K : KT) (x0 : List AVal) (x1 : Int) (h : H) : cwp S tab f22_M [] (bodyOf Try.f24) (kFun tab Try.f24.results.toList K) (fr0 Try.f24 [.agg x0, .int .i64 x1]) h = f22_main S K x0 x1 h := by kernel_rfl
theorem f22_call (x0 : List AVal) (x1 : Int) (h : H) (K : KT) (hm : f22_main (Sat Try.prog) (fun v h' => K v h') x0 x1 h) : callV (Sat Try.prog) i_f22 [.agg x0, .int .i64 x1] h K := by
 have := Sat.ex tok mixed f22_M Try.func24 (c := bodyOf Try.f24) (by kernel_rfl) (calls_of Try.func24 (c := bodyOf Try.f24) (by kernel_rfl) (by decide)) ((f22_main_link _ _ x0 x1 h).mpr hm)
 exact this
def f24_M : Nat → List Nat := fun i => []
def f24_main (S : SatT) (K : KT) (x0 : List AVal) (x1 : Int) (h : H) : Prop :=
 newK 2 x0 h fun p0 h1 =>
 ldA p0 2 h1 fun cs2 =>
 callV S i_f30 [.agg cs2, .int .i64 x1] h1 fun v4 h3 =>
 viaT v4 fun vs5 =>
 exS vs5 0 fun s6 =>
 viaT v4 fun vs7 =>
 exS vs7 1 fun s8 =>
 viaT v4 fun vs9 =>
 exI .i64 vs9 2 fun n10 =>
 bif (n10 != (0)) then
 K (.tuple [.bool false, .int .i64 n10]) h3
 else
 callV S i_f52 [.sl s8] h3 fun v12 h11 =>
 viaT v12 fun vs13 =>
 exI .i64 vs13 0 fun n14 =>
 viaT v12 fun vs15 =>
 exB vs15 1 fun b16 =>
 bif b16 then
 K (.tuple [.bool (n14 == (1)), .int .i64 (0)]) h11
 else
 K (.tuple [.bool false, .int .i64 (0)]) h11
theorem f24_main_link (S : SatT) (K : KT) (x0 : List AVal) (x1 : Int) (h : H) : cwp S tab f24_M [] (bodyOf Try.f26) (kFun tab Try.f26.results.toList K) (fr0 Try.f26 [.agg x0, .int .i64 x1]) h = f24_main S K x0 x1 h := by kernel_rfl
theorem f24_call (x0 : List AVal) (x1 : Int) (h : H) (K : KT) (hm : f24_main (Sat Try.prog) (fun v h' => K v h') x0 x1 h) : callV (Sat Try.prog) i_f24 [.agg x0, .int .i64 x1] h K := by
 have := Sat.ex tok mixed f24_M Try.func26 (c := bodyOf Try.f26) (by kernel_rfl) (calls_of Try.func26 (c := bodyOf Try.f26) (by kernel_rfl) (by decide)) ((f24_main_link _ _ x0 x1 h).mpr hm)
 exact this
def f28_M : Nat → List Nat := fun i => []
def f28_main (S : SatT) (K : KT) (x0 : Sl) (h : H) : Prop :=
 newO [.int .i64 (0), .sl Sl.nil] h fun p0 h1 =>
 callP S i_f59 [.sl x0] h1 fun p3 h2 =>
 callV S i_f58 [.ptr p3] h2 fun v5 h4 =>
 viaT v5 fun vs6 =>
 exA vs6 0 fun cs7 =>
 viaT v5 fun vs8 =>
 exI .i64 vs8 1 fun n9 =>
 newO [.int .i64 (0), .sl Sl.nil] h4 fun p10 h11 =>
 stN p10 2 cs7 h11 fun h12 =>
 ldA p10 2 h12 fun cs13 =>
 stN p0 2 cs13 h12 fun h14 =>
 ldA p0 2 h14 fun cs15 =>
 K (.tuple [.agg cs15, .int .i64 n9]) h14
theorem f28_main_link (S : SatT) (K : KT) (x0 : Sl) (h : H) : cwp S tab f28_M [] (bodyOf Try.f30) (kFun tab Try.f30.results.toList K) (fr0 Try.f30 [.sl x0]) h = f28_main S K x0 h := by kernel_rfl
theorem f28_call (x0 : Sl) (h : H) (K : KT) (hm : f28_main (Sat Try.prog) (fun v h' => K v h') x0 h) : callV (Sat Try.prog) i_f28 [.sl x0] h K := by
 have := Sat.ex tok mixed f28_M Try.func30 (c := bodyOf Try.f30) (by kernel_rfl) (calls_of Try.func30 (c := bodyOf Try.f30) (by kernel_rfl) (by decide)) ((f28_main_link _ _ x0 h).mpr hm)
 exact this
def f92_M : Nat → List Nat := fun i => []
def f92_main (S : SatT) (K : KT) (h : H) : Prop :=
 newS 8 1 [.str (⟨#[112, 108, 97, 105, 110]⟩ : ByteArray), .str (⟨#[99, 104, 101, 115, 115]⟩ : ByteArray), .str (⟨#[119, 105, 114, 101, 115]⟩ : ByteArray), .str (⟨#[98, 101, 110, 100, 115]⟩ : ByteArray), .str (⟨#[115, 117, 109, 115]⟩ : ByteArray), .str (⟨#[99, 97, 114, 114, 121]⟩ : ByteArray), .str (⟨#[119, 97, 108, 108]⟩ : ByteArray), .str (⟨#[119, 104, 101, 101, 108]⟩ : ByteArray)] h fun s0 h1 =>
 K (.sl s0) h1
theorem f92_main_link (S : SatT) (K : KT) (h : H) : cwp S tab f92_M [] (bodyOf Try.f94) (kFun tab Try.f94.results.toList K) (fr0 Try.f94 []) h = f92_main S K h := by kernel_rfl
theorem f92_call (h : H) (K : Sl → H → Prop) (hm : f92_main (Sat Try.prog) (fun v h' => ∃ r, v = .sl r ∧ K r h') h) : callS (Sat Try.prog) i_f92 [] h K := by
 have := Sat.ex tok mixed f92_M Try.func94 (c := bodyOf Try.f94) (by kernel_rfl) (calls_of Try.func94 (c := bodyOf Try.f94) (by kernel_rfl) (by decide)) ((f92_main_link _ _ h).mpr hm)
 obtain ⟨v, h2, h3, r, rfl, h4⟩ := this; exact ⟨r, h2, h3, h4⟩
def f87_M : Nat → List Nat := fun i => []
def f87_main (S : SatT) (K : KT) (x0 : List AVal) (x1 : Int) (h : H) : Prop :=
 newK 4 x0 h fun p0 h1 =>
 newO [.int .i64 x1] h1 fun p2 h3 =>
 cutA p0 4 1 (0) ((4 : Nat) : Int) fun s4 =>
 callB S i_f99 [.sl s4, .func 102 [.ptr p2]] h3 fun b6 h5 =>
 K (.bool (!b6)) h5
theorem f87_main_link (S : SatT) (K : KT) (x0 : List AVal) (x1 : Int) (h : H) : cwp S tab f87_M [] (bodyOf Try.f89) (kFun tab Try.f89.results.toList K) (fr0 Try.f89 [.agg x0, .int .i64 x1]) h = f87_main S K x0 x1 h := by kernel_rfl
theorem f87_call (x0 : List AVal) (x1 : Int) (h : H) (K : Bool → H → Prop) (hm : f87_main (Sat Try.prog) (fun v h' => ∃ r, v = .bool r ∧ K r h') x0 x1 h) : callB (Sat Try.prog) i_f87 [.agg x0, .int .i64 x1] h K := by
 have := Sat.ex tok mixed f87_M Try.func89 (c := bodyOf Try.f89) (by kernel_rfl) (calls_of Try.func89 (c := bodyOf Try.f89) (by kernel_rfl) (by decide)) ((f87_main_link _ _ x0 x1 h).mpr hm)
 obtain ⟨v, h2, h3, r, rfl, h4⟩ := this; exact ⟨r, h2, h3, h4⟩
def f37_M : Nat → List Nat := fun i => []
def f37_main (S : SatT) (K : KT) (x0 x1 x2 : Int) (h : H) : Prop :=
 bif (decide (x0 ≥ x1)) then
 K (.bool (decide (x0 ≤ x2))) h
 else
 K (.bool false) h
theorem f37_main_link (S : SatT) (K : KT) (x0 x1 x2 : Int) (h : H) : cwp S tab f37_M [] (bodyOf Try.f39) (kFun tab Try.f39.results.toList K) (fr0 Try.f39 [.int .i64 x0, .int .i64 x1, .int .i64 x2]) h = f37_main S K x0 x1 x2 h := by kernel_rfl
theorem f37_call (x0 x1 x2 : Int) (h : H) (K : Bool → H → Prop) (hm : f37_main (Sat Try.prog) (fun v h' => ∃ r, v = .bool r ∧ K r h') x0 x1 x2 h) : callB (Sat Try.prog) i_f37 [.int .i64 x0, .int .i64 x1, .int .i64 x2] h K := by
 have := Sat.ex tok mixed f37_M Try.func39 (c := bodyOf Try.f39) (by kernel_rfl) (calls_of Try.func39 (c := bodyOf Try.f39) (by kernel_rfl) (by decide)) ((f37_main_link _ _ x0 x1 x2 h).mpr hm)
 obtain ⟨v, h2, h3, r, rfl, h4⟩ := this; exact ⟨r, h2, h3, h4⟩
def f63_M : Nat → List Nat := fun i => []
def f63_main (S : SatT) (K : KT) (x0 : Pt) (h : H) : Prop :=
 ldI .i64 x0 h fun n0 =>
 callB S i_f37 [.int .i64 n0, .int .i64 (1), .int .i64 (4)] h fun b2 h1 =>
 K (.bool b2) h1
theorem f63_main_link (S : SatT) (K : KT) (x0 : Pt) (h : H) : cwp S tab f63_M [] (bodyOf Try.f65) (kFun tab Try.f65.results.toList K) (fr0 Try.f65 [.ptr x0]) h = f63_main S K x0 h := by kernel_rfl
theorem f63_call (x0 : Pt) (h : H) (K : Bool → H → Prop) (hm : f63_main (Sat Try.prog) (fun v h' => ∃ r, v = .bool r ∧ K r h') x0 h) : callB (Sat Try.prog) i_f63 [.ptr x0] h K := by
 have := Sat.ex tok mixed f63_M Try.func65 (c := bodyOf Try.f65) (by kernel_rfl) (calls_of Try.func65 (c := bodyOf Try.f65) (by kernel_rfl) (by decide)) ((f63_main_link _ _ x0 h).mpr hm)
 obtain ⟨v, h2, h3, r, rfl, h4⟩ := this; exact ⟨r, h2, h3, h4⟩
def f78_M : Nat → List Nat := fun i => []
def f78_main (S : SatT) (K : KT) (x0 : Sl) (h : H) : Prop :=
 newS 0 1 [] h fun s0 h1 =>
 app s0 x0 1 h1 fun s2 h3 =>
 K (.sl s2) h3
theorem f78_main_link (S : SatT) (K : KT) (x0 : Sl) (h : H) : cwp S tab f78_M [] (bodyOf Try.f80) (kFun tab Try.f80.results.toList K) (fr0 Try.f80 [.sl x0]) h = f78_main S K x0 h := by kernel_rfl
theorem f78_call (x0 : Sl) (h : H) (K : Sl → H → Prop) (hm : f78_main (Sat Try.prog) (fun v h' => ∃ r, v = .sl r ∧ K r h') x0 h) : callS (Sat Try.prog) i_f78 [.sl x0] h K := by
 have := Sat.ex tok mixed f78_M Try.func80 (c := bodyOf Try.f80) (by kernel_rfl) (calls_of Try.func80 (c := bodyOf Try.f80) (by kernel_rfl) (by decide)) ((f78_main_link _ _ x0 h).mpr hm)
 obtain ⟨v, h2, h3, r, rfl, h4⟩ := this; exact ⟨r, h2, h3, h4⟩
def f57_M : Nat → List Nat := fun i => bif i == 8 then [3, 7, 14, 15] else bif i == 6 then [0, 3, 4, 5, 6, 7, 8, 9, 11, 12, 13] else bif i == 4 then [0, 3, 4, 5, 6, 7, 8, 9, 11, 12] else bif i == 2 then [0, 3, 4, 5, 6, 7, 8, 9, 10] else bif i == 0 then [0, 3, 4, 5, 6, 7, 8] else []
def f57_ks2 (S : SatT) (K : KT) : Kont := kSeq (cwp S tab f57_M [] (sub [1, 1, 1] (bodyOf Try.f59)) (kFun tab (Try.f59).results.toList K)) (kFun tab (Try.f59).results.toList K)
def f57_e0 (s0_ s3_ s4_ : Sl) (i5 i6 : Int) (i7 i8 : Int) : Frame := [.sl s0_, U, U, .sl s3_, .sl s4_, .int .i64 i5, .int .i64 i6, .int .i64 i7, .int .i64 i8, U, U, U, U, U, U, U, U, U, U, U, U, U, U, U, U, U, U, U, U, U, U, U, U, U, U, U, U, U, U, U, U, U, U, U, U, U, U, U, U, U, U, U, U, U, U, U, U, U, U, U, U, U, U, U, U, U, U, U, U, U, U, U, U, U, U, U, U, U, U, U, U, U, U, U, U, U, U, U, U, U, U, U, U, U, U, U, U, U, U, U, U, U, U, U, U, U, U, U, U, U, U, U, U, U, U, U, U, U, U, U, U, U, U, U, U, U, U, U, U, U, U, U]
def f57_w0 (S : SatT) (K : KT) : (XT) → XT := fun X fr h => cwp S tab f57_M (f57_M 0) (sub [1, 1, 0, 1, 0, 0] (bodyOf Try.f59)) (kSeq (fun fr h => X (mask (f57_M 0) fr) h) (kBlk 0 (f57_ks2 S K))) fr h
def f57_L0 (S : SatT) (K : KT) (s0_ s3_ s4_ : Sl) (i5 i6 : Int) (i7 i8 : Int) (h : H) : Prop := loopK (f57_w0 S K) (f57_e0 s0_ s3_ s4_ i5 i6 i7 i8) h
def f57_ks6 (S : SatT) (K : KT) (X0 : XT) : Kont := kSeq (cwp S tab f57_M (f57_M 0) (sub [1, 1, 0, 1, 0, 0, 1, 1] (bodyOf Try.f59)) (kSeq (fun fr h => X0 (mask (f57_M 0) fr) h) (kBlk 0 (f57_ks2 S K)))) (kSeq (fun fr h => X0 (mask (f57_M 0) fr) h) (kBlk 0 (f57_ks2 S K)))
def f57_ks8 (S : SatT) (K : KT) (X0 : XT) : Kont := kSeq (cwp S tab f57_M (f57_M 1) (sub [1, 1, 0, 1, 0, 0, 1, 0, 0, 1, 1] (bodyOf Try.f59)) (kBlk 1 (f57_ks6 S K X0))) (kBlk 1 (f57_ks6 S K X0))
def f57_e2 (s0_ s3_ s4_ : Sl) (i5 i6 : Int) (i7 i8 : Int) (i9 i10 : Int) : Frame := [.sl s0_, U, U, .sl s3_, .sl s4_, .int .i64 i5, .int .i64 i6, .int .i64 i7, .int .i64 i8, .int .i64 i9, .int .i64 i10, U, U, U, U, U, U, U, U, U, U, U, U, U, U, U, U, U, U, U, U, U, U, U, U, U, U, U, U, U, U, U, U, U, U, U, U, U, U, U, U, U, U, U, U, U, U, U, U, U, U, U, U, U, U, U, U, U, U, U, U, U, U, U, U, U, U, U, U, U, U, U, U, U, U, U, U, U, U, U, U, U, U, U, U, U, U, U, U, U, U, U, U, U, U, U, U, U, U, U, U, U, U, U, U, U, U, U, U, U, U, U, U, U, U, U, U, U, U, U, U, U]
def f57_w2 (S : SatT) (K : KT) (X0 : XT) : (XT) → XT := fun X fr h => cwp S tab f57_M (f57_M 2) (sub [1, 1, 0, 1, 0, 0, 1, 0, 0, 1, 0, 1, 0, 0] (bodyOf Try.f59)) (kSeq (fun fr h => X (mask (f57_M 2) fr) h) (kBlk 2 (f57_ks8 S K X0))) fr h
def f57_L2 (S : SatT) (K : KT) (X0 : XT) (s0_ s3_ s4_ : Sl) (i5 i6 : Int) (i7 i8 : Int) (i9 i10 : Int) (h : H) : Prop := loopK (f57_w2 S K X0) (f57_e2 s0_ s3_ s4_ i5 i6 i7 i8 i9 i10) h
def f57_C1 (S : SatT) (K : KT) (X0 : XT) (s0_ s3_ s4_ : Sl) (i5 i6 : Int) (i7 i8 : Int) (h : H) : Prop :=
 X0 (f57_e0 s0_ s3_ s4_ i5 i6 i7 (w64 (i8 + (1)))) h
def f57_ks17 (S : SatT) (K : KT) (X0 : XT) : Kont := kSeq (cwp S tab f57_M (f57_M 1) (sub [1, 1, 0, 1, 0, 0, 1, 0, 0, 1, 1, 1, 1, 1] (bodyOf Try.f59)) (kBlk 1 (f57_ks6 S K X0))) (kBlk 1 (f57_ks6 S K X0))
def f57_e4 (s0_ s3_ s4_ : Sl) (i5 i6 : Int) (i7 i8 i9 : Int) (s11_ : Sl) (i12 : Int) : Frame := [.sl s0_, U, U, .sl s3_, .sl s4_, .int .i64 i5, .int .i64 i6, .int .i64 i7, .int .i64 i8, .int .i64 i9, U, .sl s11_, .int .i64 i12, U, U, U, U, U, U, U, U, U, U, U, U, U, U, U, U, U, U, U, U, U, U, U, U, U, U, U, U, U, U, U, U, U, U, U, U, U, U, U, U, U, U, U, U, U, U, U, U, U, U, U, U, U, U, U, U, U, U, U, U, U, U, U, U, U, U, U, U, U, U, U, U, U, U, U, U, U, U, U, U, U, U, U, U, U, U, U, U, U, U, U, U, U, U, U, U, U, U, U, U, U, U, U, U, U, U, U, U, U, U, U, U, U, U, U, U, U, U, U]
def f57_w4 (S : SatT) (K : KT) (X0 : XT) : (XT) → XT := fun X fr h => cwp S tab f57_M (f57_M 4) (sub [1, 1, 0, 1, 0, 0, 1, 0, 0, 1, 1, 1, 1, 0, 0, 0] (bodyOf Try.f59)) (kSeq (fun fr h => X (mask (f57_M 4) fr) h) (kBlk 4 (f57_ks17 S K X0))) fr h
def f57_L4 (S : SatT) (K : KT) (X0 : XT) (s0_ s3_ s4_ : Sl) (i5 i6 : Int) (i7 i8 i9 : Int) (s11_ : Sl) (i12 : Int) (h : H) : Prop := loopK (f57_w4 S K X0) (f57_e4 s0_ s3_ s4_ i5 i6 i7 i8 i9 s11_ i12) h
def f57_ks20 (S : SatT) (K : KT) (X0 : XT) : Kont := kSeq (cwp S tab f57_M (f57_M 1) (sub [1, 1, 0, 1, 0, 0, 1, 0, 0, 1, 1, 1, 1, 1, 1] (bodyOf Try.f59)) (kBlk 1 (f57_ks6 S K X0))) (kBlk 1 (f57_ks6 S K X0))
def f57_e6 (s0_ s3_ s4_ : Sl) (i5 i6 : Int) (i7 i8 i9 : Int) (s11_ : Sl) (i12 i13 : Int) : Frame := [.sl s0_, U, U, .sl s3_, .sl s4_, .int .i64 i5, .int .i64 i6, .int .i64 i7, .int .i64 i8, .int .i64 i9, U, .sl s11_, .int .i64 i12, .int .i64 i13, U, U, U, U, U, U, U, U, U, U, U, U, U, U, U, U, U, U, U, U, U, U, U, U, U, U, U, U, U, U, U, U, U, U, U, U, U, U, U, U, U, U, U, U, U, U, U, U, U, U, U, U, U, U, U, U, U, U, U, U, U, U, U, U, U, U, U, U, U, U, U, U, U, U, U, U, U, U, U, U, U, U, U, U, U, U, U, U, U, U, U, U, U, U, U, U, U, U, U, U, U, U, U, U, U, U, U, U, U, U, U, U, U, U, U, U, U, U]
def f57_w6 (S : SatT) (K : KT) (X0 : XT) : (XT) → XT := fun X fr h => cwp S tab f57_M (f57_M 6) (sub [1, 1, 0, 1, 0, 0, 1, 0, 0, 1, 1, 1, 1, 1, 0, 1, 0, 0] (bodyOf Try.f59)) (kSeq (fun fr h => X (mask (f57_M 6) fr) h) (kBlk 6 (f57_ks20 S K X0))) fr h
def f57_L6 (S : SatT) (K : KT) (X0 : XT) (s0_ s3_ s4_ : Sl) (i5 i6 : Int) (i7 i8 i9 : Int) (s11_ : Sl) (i12 i13 : Int) (h : H) : Prop := loopK (f57_w6 S K X0) (f57_e6 s0_ s3_ s4_ i5 i6 i7 i8 i9 s11_ i12 i13) h
def f57_C6 (S : SatT) (K : KT) (X0 : XT) (s0_ s3_ s4_ : Sl) (i5 i6 : Int) (i7 i8 i9 : Int) (s11_ : Sl) (h : H) : Prop :=
 bif (decide ((w64 ((2) * i7)) ≤ i8)) then
 f57_C1 S K X0 s0_ s3_ s11_ (1) i9 (w64 ((w64 (i8 + (1))) - i7)) i8 h
 else
 f57_C1 S K X0 s0_ s3_ s4_ (w64 (i5 + (1))) i6 i7 i8 h
def f57_b6 (S : SatT) (K : KT) (X0 X6 : XT) (s0_ s3_ s4_ : Sl) (i5 i6 : Int) (i7 i8 i9 : Int) (s11_ : Sl) (i12 i13 : Int) (h : H) : Prop :=
 bif (decide (i13 < (s4_.len : Int))) then
 ixS s3_ 1 (w64 (i13 + i5)) fun p0 =>
 ldI .i64 p0 h fun n1 =>
 ixS s4_ 1 i13 fun p2 =>
 ldI .i64 p2 h fun n3 =>
 nz (10007) (
 ixS s3_ 1 (w64 (i13 + i5)) fun p4 =>
 st1 p4 (.int .i64 (Int.tmod (w64 (n1 + (w64 ((w64 ((10007) - i12)) * n3)))) (10007))) h fun h5 =>
 X6 (f57_e6 s0_ s3_ s4_ i5 i6 i7 i8 i9 s11_ i12 (w64 (i13 + (1)))) h5)
 else
 f57_C6 S K X0 s0_ s3_ s4_ i5 i6 i7 i8 i9 s11_ h
theorem f57_link6 (S : SatT) (K : KT) (X0 X6 : XT) (s0_ s3_ s4_ : Sl) (i5 i6 : Int) (i7 i8 i9 : Int) (s11_ : Sl) (i12 i13 : Int) (h : H) : f57_w6 S K X0 X6 (f57_e6 s0_ s3_ s4_ i5 i6 i7 i8 i9 s11_ i12 i13) h = f57_b6 S K X0 X6 s0_ s3_ s4_ i5 i6 i7 i8 i9 s11_ i12 i13 h := by kernel_rfl
theorem f57_rule6 (S : SatT) (K : KT) (X0 : XT) (s0_ s3_ s4_ : Sl) (i5 i6 : Int) (i7 i8 i9 : Int) (s11_ : Sl) (i12 : Int) (I_ : Int → H → Prop) (m_ : Int → H → Nat)
  (hs : ∀ (X6 : XT) (i13 : Int) (h : H), I_ i13 h → (∀ (i13' : Int) (h' : H), I_ i13' h' → m_ i13' h' < m_ i13 h → X6 (f57_e6 s0_ s3_ s4_ i5 i6 i7 i8 i9 s11_ i12 i13') h') → f57_b6 S K X0 X6 s0_ s3_ s4_ i5 i6 i7 i8 i9 s11_ i12 i13 h) (i13 : Int) {h : H} (h0 : I_ i13 h) : f57_L6 S K X0 s0_ s3_ s4_ i5 i6 i7 i8 i9 s11_ i12 i13 h :=
 loop_rule (σ := (Int)) (fun s_ => f57_e6 s0_ s3_ s4_ i5 i6 i7 i8 i9 s11_ i12 (s_)) (fun s_ h => I_ (s_) h) (fun s_ h => m_ (s_) h)
  (fun X s_ h hi hx => (f57_link6 S K X0 X s0_ s3_ s4_ i5 i6 i7 i8 i9 s11_ i12 (s_) h).mpr (hs X (s_) h hi fun i13' h' hi' hm' => hx (i13') h' hi' hm')) (i13) h0
def f57_C4 (S : SatT) (K : KT) (X0 : XT) (s0_ s3_ s4_ : Sl) (i5 i6 : Int) (i7 i8 i9 : Int) (s11_ : Sl) (i12 : Int) (h : H) : Prop :=
 f57_L6 S K X0 s0_ s3_ s4_ i5 i6 i7 i8 i9 s11_ i12 (0) h
def f57_b4 (S : SatT) (K : KT) (X0 X4 : XT) (s0_ s3_ s4_ : Sl) (i5 i6 : Int) (i7 i8 i9 : Int) (s11_ : Sl) (i12 : Int) (h : H) : Prop :=
 bif (decide ((s3_.len : Int) < (w64 ((s4_.len : Int) + i5)))) then
 newS 1 1 [.int .i64 (0)] h fun s0 h1 =>
 app s3_ s0 1 h1 fun s2 h3 =>
 X4 (f57_e4 s0_ s2 s4_ i5 i6 i7 i8 i9 s11_ i12) h3
 else
 f57_C4 S K X0 s0_ s3_ s4_ i5 i6 i7 i8 i9 s11_ i12 h
theorem f57_link4 (S : SatT) (K : KT) (X0 X4 : XT) (s0_ s3_ s4_ : Sl) (i5 i6 : Int) (i7 i8 i9 : Int) (s11_ : Sl) (i12 : Int) (h : H) : f57_w4 S K X0 X4 (f57_e4 s0_ s3_ s4_ i5 i6 i7 i8 i9 s11_ i12) h = f57_b4 S K X0 X4 s0_ s3_ s4_ i5 i6 i7 i8 i9 s11_ i12 h := by kernel_rfl
theorem f57_rule4 (S : SatT) (K : KT) (X0 : XT) (s0_ s4_ : Sl) (i5 i6 : Int) (i7 i8 i9 : Int) (s11_ : Sl) (i12 : Int) (I_ : Sl → H → Prop) (m_ : Sl → H → Nat)
  (hs : ∀ (X4 : XT) (s3_ : Sl) (h : H), I_ s3_ h → (∀ (s3_' : Sl) (h' : H), I_ s3_' h' → m_ s3_' h' < m_ s3_ h → X4 (f57_e4 s0_ s3_' s4_ i5 i6 i7 i8 i9 s11_ i12) h') → f57_b4 S K X0 X4 s0_ s3_ s4_ i5 i6 i7 i8 i9 s11_ i12 h) (s3_ : Sl) {h : H} (h0 : I_ s3_ h) : f57_L4 S K X0 s0_ s3_ s4_ i5 i6 i7 i8 i9 s11_ i12 h :=
 loop_rule (σ := (Sl)) (fun s_ => f57_e4 s0_ (s_) s4_ i5 i6 i7 i8 i9 s11_ i12) (fun s_ h => I_ (s_) h) (fun s_ h => m_ (s_) h)
  (fun X s_ h hi hx => (f57_link4 S K X0 X s0_ (s_) s4_ i5 i6 i7 i8 i9 s11_ i12 h).mpr (hs X (s_) h hi fun s3_' h' hi' hm' => hx (s3_') h' hi' hm')) (s3_) h0
def f57_C2 (S : SatT) (K : KT) (X0 : XT) (s0_ s3_ s4_ : Sl) (i5 i6 : Int) (i7 i8 i9 : Int) (h : H) : Prop :=
 bif (i9 == (0)) then
 f57_C1 S K X0 s0_ s3_ s4_ (w64 (i5 + (1))) i6 i7 i8 h
 else
 callS S i_f78 [.sl s3_] h fun s1 h0 =>
 callI S .i64 i_f79 [.int .i64 i6] h0 fun n3 h2 =>
 nz (10007) (
 f57_L4 S K X0 s0_ s3_ s4_ i5 i6 i7 i8 i9 s1 (Int.tmod (w64 (i9 * n3)) (10007)) h2)
def f57_b2 (S : SatT) (K : KT) (X0 X2 : XT) (s0_ s3_ s4_ : Sl) (i5 i6 : Int) (i7 i8 : Int) (i9 i10 : Int) (h : H) : Prop :=
 bif (decide (i10 ≤ i7)) then
 bif (decide (i10 < (s3_.len : Int))) then
 ixS s3_ 1 i10 fun p0 =>
 ldI .i64 p0 h fun n1 =>
 ixS s0_ 1 (w64 (i8 - i10)) fun p2 =>
 ldI .i64 p2 h fun n3 =>
 nz (10007) (
 X2 (f57_e2 s0_ s3_ s4_ i5 i6 i7 i8 (Int.tmod (w64 (i9 + (w64 (n1 * n3)))) (10007)) (w64 (i10 + (1)))) h)
 else
 f57_C2 S K X0 s0_ s3_ s4_ i5 i6 i7 i8 i9 h
 else
 f57_C2 S K X0 s0_ s3_ s4_ i5 i6 i7 i8 i9 h
theorem f57_link2 (S : SatT) (K : KT) (X0 X2 : XT) (s0_ s3_ s4_ : Sl) (i5 i6 : Int) (i7 i8 : Int) (i9 i10 : Int) (h : H) : f57_w2 S K X0 X2 (f57_e2 s0_ s3_ s4_ i5 i6 i7 i8 i9 i10) h = f57_b2 S K X0 X2 s0_ s3_ s4_ i5 i6 i7 i8 i9 i10 h := by kernel_rfl
theorem f57_rule2 (S : SatT) (K : KT) (X0 : XT) (s0_ s3_ s4_ : Sl) (i5 i6 : Int) (i7 i8 : Int) (I_ : Int → Int → H → Prop) (m_ : Int → Int → H → Nat)
  (hs : ∀ (X2 : XT) (i9 i10 : Int) (h : H), I_ i9 i10 h → (∀ (i9' i10' : Int) (h' : H), I_ i9' i10' h' → m_ i9' i10' h' < m_ i9 i10 h → X2 (f57_e2 s0_ s3_ s4_ i5 i6 i7 i8 i9' i10') h') → f57_b2 S K X0 X2 s0_ s3_ s4_ i5 i6 i7 i8 i9 i10 h) (i9 i10 : Int) {h : H} (h0 : I_ i9 i10 h) : f57_L2 S K X0 s0_ s3_ s4_ i5 i6 i7 i8 i9 i10 h :=
 loop_rule (σ := (Int) × (Int)) (fun s_ => f57_e2 s0_ s3_ s4_ i5 i6 i7 i8 (s_.1) (s_.2)) (fun s_ h => I_ (s_.1) (s_.2) h) (fun s_ h => m_ (s_.1) (s_.2) h)
  (fun X s_ h hi hx => (f57_link2 S K X0 X s0_ s3_ s4_ i5 i6 i7 i8 (s_.1) (s_.2) h).mpr (hs X (s_.1) (s_.2) h hi fun i9' i10' h' hi' hm' => hx (i9', i10') h' hi' hm')) (i9, i10) h0
def f57_ks30 (S : SatT) (K : KT) : Kont := kSeq (cwp S tab f57_M [] (sub [1, 1, 1, 1, 1] (bodyOf Try.f59)) (kFun tab (Try.f59).results.toList K)) (kFun tab (Try.f59).results.toList K)
def f57_e8 (s3_ : Sl) (i7 : Int) (s14_ : Sl) (i15 : Int) : Frame := [U, U, U, .sl s3_, U, U, U, .int .i64 i7, U, U, U, U, U, U, .sl s14_, .int .i64 i15, U, U, U, U, U, U, U, U, U, U, U, U, U, U, U, U, U, U, U, U, U, U, U, U, U, U, U, U, U, U, U, U, U, U, U, U, U, U, U, U, U, U, U, U, U, U, U, U, U, U, U, U, U, U, U, U, U, U, U, U, U, U, U, U, U, U, U, U, U, U, U, U, U, U, U, U, U, U, U, U, U, U, U, U, U, U, U, U, U, U, U, U, U, U, U, U, U, U, U, U, U, U, U, U, U, U, U, U, U, U, U, U, U, U, U, U]
def f57_w8 (S : SatT) (K : KT) : (XT) → XT := fun X fr h => cwp S tab f57_M (f57_M 8) (sub [1, 1, 1, 1, 0, 1, 0, 0] (bodyOf Try.f59)) (kSeq (fun fr h => X (mask (f57_M 8) fr) h) (kBlk 8 (f57_ks30 S K))) fr h
def f57_L8 (S : SatT) (K : KT) (s3_ : Sl) (i7 : Int) (s14_ : Sl) (i15 : Int) (h : H) : Prop := loopK (f57_w8 S K) (f57_e8 s3_ i7 s14_ i15) h
def f57_C8 (S : SatT) (K : KT) (s14_ : Sl) (h : H) : Prop :=
 K (.sl s14_) h
def f57_b8 (S : SatT) (K : KT) (X8 : XT) (s3_ : Sl) (i7 : Int) (s14_ : Sl) (i15 : Int) (h : H) : Prop :=
 bif (decide (i15 ≤ i7)) then
 bif (decide (i15 < (s3_.len : Int))) then
 ixS s3_ 1 i15 fun p0 =>
 ldI .i64 p0 h fun n1 =>
 nz (10007) (
 ixS s14_ 1 (w64 (i15 - (1))) fun p2 =>
 st1 p2 (.int .i64 (Int.tmod (w64 ((10007) - n1)) (10007))) h fun h3 =>
 X8 (f57_e8 s3_ i7 s14_ (w64 (i15 + (1)))) h3)
 else
 f57_C8 S K s14_ h
 else
 f57_C8 S K s14_ h
theorem f57_link8 (S : SatT) (K : KT) (X8 : XT) (s3_ : Sl) (i7 : Int) (s14_ : Sl) (i15 : Int) (h : H) : f57_w8 S K X8 (f57_e8 s3_ i7 s14_ i15) h = f57_b8 S K X8 s3_ i7 s14_ i15 h := by kernel_rfl
theorem f57_rule8 (S : SatT) (K : KT) (s3_ : Sl) (i7 : Int) (s14_ : Sl) (I_ : Int → H → Prop) (m_ : Int → H → Nat)
  (hs : ∀ (X8 : XT) (i15 : Int) (h : H), I_ i15 h → (∀ (i15' : Int) (h' : H), I_ i15' h' → m_ i15' h' < m_ i15 h → X8 (f57_e8 s3_ i7 s14_ i15') h') → f57_b8 S K X8 s3_ i7 s14_ i15 h) (i15 : Int) {h : H} (h0 : I_ i15 h) : f57_L8 S K s3_ i7 s14_ i15 h :=
 loop_rule (σ := (Int)) (fun s_ => f57_e8 s3_ i7 s14_ (s_)) (fun s_ h => I_ (s_) h) (fun s_ h => m_ (s_) h)
  (fun X s_ h hi hx => (f57_link8 S K X s3_ i7 s14_ (s_) h).mpr (hs X (s_) h hi fun i15' h' hi' hm' => hx (i15') h' hi' hm')) (i15) h0
def f57_C0 (S : SatT) (K : KT) (s3_ : Sl) (i7 : Int) (h : H) : Prop :=
 mkS i7 [.int .i64 (0)] h fun s0 h1 =>
 f57_L8 S K s3_ i7 s0 (1) h1
def f57_b0 (S : SatT) (K : KT) (X0 : XT) (s0_ s3_ s4_ : Sl) (i5 i6 : Int) (i7 i8 : Int) (h : H) : Prop :=
 bif (decide (i8 < (s0_.len : Int))) then
 f57_L2 S K X0 s0_ s3_ s4_ i5 i6 i7 i8 (0) (0) h
 else
 f57_C0 S K s3_ i7 h
theorem f57_link0 (S : SatT) (K : KT) (X0 : XT) (s0_ s3_ s4_ : Sl) (i5 i6 : Int) (i7 i8 : Int) (h : H) : f57_w0 S K X0 (f57_e0 s0_ s3_ s4_ i5 i6 i7 i8) h = f57_b0 S K X0 s0_ s3_ s4_ i5 i6 i7 i8 h := by kernel_rfl
theorem f57_rule0 (S : SatT) (K : KT) (s0_ : Sl) (I_ : Sl → Sl → Int → Int → Int → Int → H → Prop) (m_ : Sl → Sl → Int → Int → Int → Int → H → Nat)
  (hs : ∀ (X0 : XT) (s3_ s4_ : Sl) (i5 i6 : Int) (i7 i8 : Int) (h : H), I_ s3_ s4_ i5 i6 i7 i8 h → (∀ (s3_' s4_' : Sl) (i5' i6' : Int) (i7' i8' : Int) (h' : H), I_ s3_' s4_' i5' i6' i7' i8' h' → m_ s3_' s4_' i5' i6' i7' i8' h' < m_ s3_ s4_ i5 i6 i7 i8 h → X0 (f57_e0 s0_ s3_' s4_' i5' i6' i7' i8') h') → f57_b0 S K X0 s0_ s3_ s4_ i5 i6 i7 i8 h) (s3_ s4_ : Sl) (i5 i6 : Int) (i7 i8 : Int) {h : H} (h0 : I_ s3_ s4_ i5 i6 i7 i8 h) : f57_L0 S K s0_ s3_ s4_ i5 i6 i7 i8 h :=
 loop_rule (σ := (Sl) × (Sl) × (Int) × (Int) × (Int) × (Int)) (fun s_ => f57_e0 s0_ (s_.1) (s_.2.1) (s_.2.2.1) (s_.2.2.2.1) (s_.2.2.2.2.1) (s_.2.2.2.2.2)) (fun s_ h => I_ (s_.1) (s_.2.1) (s_.2.2.1) (s_.2.2.2.1) (s_.2.2.2.2.1) (s_.2.2.2.2.2) h) (fun s_ h => m_ (s_.1) (s_.2.1) (s_.2.2.1) (s_.2.2.2.1) (s_.2.2.2.2.1) (s_.2.2.2.2.2) h)
  (fun X s_ h hi hx => (f57_link0 S K X s0_ (s_.1) (s_.2.1) (s_.2.2.1) (s_.2.2.2.1) (s_.2.2.2.2.1) (s_.2.2.2.2.2) h).mpr (hs X (s_.1) (s_.2.1) (s_.2.2.1) (s_.2.2.2.1) (s_.2.2.2.2.1) (s_.2.2.2.2.2) h hi fun s3_' s4_' i5' i6' i7' i8' h' hi' hm' => hx (s3_', s4_', i5', i6', i7', i8') h' hi' hm')) (s3_, s4_, i5, i6, i7, i8) h0
def f57_main (S : SatT) (K : KT) (x0 : Sl) (h : H) : Prop :=
 newS 1 1 [.int .i64 (1)] h fun s0 h1 =>
 newS 1 1 [.int .i64 (1)] h1 fun s2 h3 =>
 f57_L0 S K x0 s0 s2 (1) (1) (0) (0) h3
theorem f57_main_link (S : SatT) (K : KT) (x0 : Sl) (h : H) : cwp S tab f57_M [] (bodyOf Try.f59) (kFun tab Try.f59.results.toList K) (fr0 Try.f59 [.sl x0]) h = f57_main S K x0 h := by kernel_rfl
theorem f57_call (x0 : Sl) (h : H) (K : Sl → H → Prop) (hm : f57_main (Sat Try.prog) (fun v h' => ∃ r, v = .sl r ∧ K r h') x0 h) : callS (Sat Try.prog) i_f57 [.sl x0] h K := by
 have := Sat.ex tok mixed f57_M Try.func59 (c := bodyOf Try.f59) (by kernel_rfl) (calls_of Try.func59 (c := bodyOf Try.f59) (by kernel_rfl) (by decide)) ((f57_main_link _ _ x0 h).mpr hm)
 obtain ⟨v, h2, h3, r, rfl, h4⟩ := this; exact ⟨r, h2, h3, h4⟩
def f52_M : Nat → List Nat := fun i => bif i == 8 then [0, 5, 10, 11, 12] else bif i == 6 then [0, 5, 10, 11] else bif i == 4 then [0, 5, 6, 8, 9] else bif i == 2 then [0, 5, 6] else bif i == 0 then [0, 5, 6, 7] else []
def f52_ks7 (S : SatT) (K : KT) : Kont := kSeq (cwp S tab f52_M [] (sub [1, 1, 1, 1, 1] (bodyOf Try.f54)) (kFun tab (Try.f54).results.toList K)) (kFun tab (Try.f54).results.toList K)
def f52_e0 (s0_ s5_ s6_ : Sl) (i7 : Int) : Frame := [.sl s0_, U, U, U, U, .sl s5_, .sl s6_, .int .i64 i7, U, U, U, U, U, U, U, U, U, U, U, U, U, U, U, U, U, U, U, U, U, U, U, U, U, U, U, U, U, U, U, U, U, U, U, U, U, U, U, U, U, U, U, U, U, U, U, U, U, U, U, U, U, U, U, U, U, U, U, U, U, U, U, U, U, U, U, U, U, U, U, U, U, U, U, U, U, U, U, U, U, U, U, U, U, U, U, U, U, U, U, U, U, U, U, U, U, U, U, U, U, U, U, U, U, U, U, U, U, U, U]
def f52_w0 (S : SatT) (K : KT) : (XT) → XT := fun X fr h => cwp S tab f52_M (f52_M 0) (sub [1, 1, 1, 1, 0, 1, 0, 0] (bodyOf Try.f54)) (kSeq (fun fr h => X (mask (f52_M 0) fr) h) (kBlk 0 (f52_ks7 S K))) fr h
def f52_L0 (S : SatT) (K : KT) (s0_ s5_ s6_ : Sl) (i7 : Int) (h : H) : Prop := loopK (f52_w0 S K) (f52_e0 s0_ s5_ s6_ i7) h
def f52_ks12 (S : SatT) (K : KT) : Kont := kSeq (cwp S tab f52_M [] (sub [1, 1, 1, 1, 1, 1] (bodyOf Try.f54)) (kFun tab (Try.f54).results.toList K)) (kFun tab (Try.f54).results.toList K)
def f52_e2 (s0_ s5_ s6_ : Sl) : Frame := [.sl s0_, U, U, U, U, .sl s5_, .sl s6_, U, U, U, U, U, U, U, U, U, U, U, U, U, U, U, U, U, U, U, U, U, U, U, U, U, U, U, U, U, U, U, U, U, U, U, U, U, U, U, U, U, U, U, U, U, U, U, U, U, U, U, U, U, U, U, U, U, U, U, U, U, U, U, U, U, U, U, U, U, U, U, U, U, U, U, U, U, U, U, U, U, U, U, U, U, U, U, U, U, U, U, U, U, U, U, U, U, U, U, U, U, U, U, U, U, U, U, U, U, U, U, U]
def f52_w2 (S : SatT) (K : KT) : (XT) → XT := fun X fr h => cwp S tab f52_M (f52_M 2) (sub [1, 1, 1, 1, 1, 0, 0, 0] (bodyOf Try.f54)) (kSeq (fun fr h => X (mask (f52_M 2) fr) h) (kBlk 2 (f52_ks12 S K))) fr h
def f52_L2 (S : SatT) (K : KT) (s0_ s5_ s6_ : Sl) (h : H) : Prop := loopK (f52_w2 S K) (f52_e2 s0_ s5_ s6_) h
def f52_e4 (s0_ s5_ s6_ : Sl) (i8 i9 : Int) : Frame := [.sl s0_, U, U, U, U, .sl s5_, .sl s6_, U, .int .i64 i8, .int .i64 i9, U, U, U, U, U, U, U, U, U, U, U, U, U, U, U, U, U, U, U, U, U, U, U, U, U, U, U, U, U, U, U, U, U, U, U, U, U, U, U, U, U, U, U, U, U, U, U, U, U, U, U, U, U, U, U, U, U, U, U, U, U, U, U, U, U, U, U, U, U, U, U, U, U, U, U, U, U, U, U, U, U, U, U, U, U, U, U, U, U, U, U, U, U, U, U, U, U, U, U, U, U, U, U, U, U, U, U, U, U]
def f52_w4 (S : SatT) (K : KT) (X2 : XT) : (XT) → XT := fun X fr h => cwp S tab f52_M (f52_M 4) (sub [1, 1, 1, 1, 1, 0, 0, 0, 1, 0, 1, 1, 1, 0, 0] (bodyOf Try.f54)) (kSeq (fun fr h => X (mask (f52_M 4) fr) h) (kBlk 4 (kBlk 3 (kSeq (fun fr h => X2 (mask (f52_M 2) fr) h) (kBlk 2 (f52_ks12 S K)))))) fr h
def f52_L4 (S : SatT) (K : KT) (X2 : XT) (s0_ s5_ s6_ : Sl) (i8 i9 : Int) (h : H) : Prop := loopK (f52_w4 S K X2) (f52_e4 s0_ s5_ s6_ i8 i9) h
def f52_C4 (S : SatT) (K : KT) (X2 : XT) (s0_ s5_ s6_ : Sl) (h : H) : Prop :=
 X2 (f52_e2 s0_ s5_ s6_) h
def f52_b4 (S : SatT) (K : KT) (X2 X4 : XT) (s0_ s5_ s6_ : Sl) (i8 i9 : Int) (h : H) : Prop :=
 bif (decide (i9 < (s0_.len : Int))) then
 ixS s0_ 1 i8 fun p0 =>
 ldS p0 h fun s1 =>
 ixS s1 1 i9 fun p2 =>
 ldI .i64 p2 h fun n3 =>
 bif (decide (n3 > (0))) then
 ixS s5_ 1 i9 fun p4 =>
 ldI .i64 p4 h fun n5 =>
 bif (decide (n5 < (0))) then
 ixS s5_ 1 i8 fun p6 =>
 ldI .i64 p6 h fun n7 =>
 ixS s5_ 1 i9 fun p8 =>
 st1 p8 (.int .i64 (w64 (n7 + (1)))) h fun h9 =>
 newS 1 1 [.int .i64 i9] h9 fun s10 h11 =>
 app s6_ s10 1 h11 fun s12 h13 =>
 X4 (f52_e4 s0_ s5_ s12 i8 (w64 (i9 + (1)))) h13
 else
 X4 (f52_e4 s0_ s5_ s6_ i8 (w64 (i9 + (1)))) h
 else
 X4 (f52_e4 s0_ s5_ s6_ i8 (w64 (i9 + (1)))) h
 else
 f52_C4 S K X2 s0_ s5_ s6_ h
theorem f52_link4 (S : SatT) (K : KT) (X2 X4 : XT) (s0_ s5_ s6_ : Sl) (i8 i9 : Int) (h : H) : f52_w4 S K X2 X4 (f52_e4 s0_ s5_ s6_ i8 i9) h = f52_b4 S K X2 X4 s0_ s5_ s6_ i8 i9 h := by kernel_rfl
theorem f52_rule4 (S : SatT) (K : KT) (X2 : XT) (s0_ s5_ : Sl) (i8 : Int) (I_ : Sl → Int → H → Prop) (m_ : Sl → Int → H → Nat)
  (hs : ∀ (X4 : XT) (s6_ : Sl) (i9 : Int) (h : H), I_ s6_ i9 h → (∀ (s6_' : Sl) (i9' : Int) (h' : H), I_ s6_' i9' h' → m_ s6_' i9' h' < m_ s6_ i9 h → X4 (f52_e4 s0_ s5_ s6_' i8 i9') h') → f52_b4 S K X2 X4 s0_ s5_ s6_ i8 i9 h) (s6_ : Sl) (i9 : Int) {h : H} (h0 : I_ s6_ i9 h) : f52_L4 S K X2 s0_ s5_ s6_ i8 i9 h :=
 loop_rule (σ := (Sl) × (Int)) (fun s_ => f52_e4 s0_ s5_ (s_.1) i8 (s_.2)) (fun s_ h => I_ (s_.1) (s_.2) h) (fun s_ h => m_ (s_.1) (s_.2) h)
  (fun X s_ h hi hx => (f52_link4 S K X2 X s0_ s5_ (s_.1) i8 (s_.2) h).mpr (hs X (s_.1) (s_.2) h hi fun s6_' i9' h' hi' hm' => hx (s6_', i9') h' hi' hm')) (s6_, i9) h0
def f52_ks24 (S : SatT) (K : KT) : Kont := kSeq (cwp S tab f52_M [] (sub [1, 1, 1, 1, 1, 1, 1, 1] (bodyOf Try.f54)) (kFun tab (Try.f54).results.toList K)) (kFun tab (Try.f54).results.toList K)
def f52_e6 (s0_ s5_ : Sl) (i10 i11 : Int) : Frame := [.sl s0_, U, U, U, U, .sl s5_, U, U, U, U, .int .i64 i10, .int .i64 i11, U, U, U, U, U, U, U, U, U, U, U, U, U, U, U, U, U, U, U, U, U, U, U, U, U, U, U, U, U, U, U, U, U, U, U, U, U, U, U, U, U, U, U, U, U, U, U, U, U, U, U, U, U, U, U, U, U, U, U, U, U, U, U, U, U, U, U, U, U, U, U, U, U, U, U, U, U, U, U, U, U, U, U, U, U, U, U, U, U, U, U, U, U, U, U, U, U, U, U, U, U, U, U, U, U, U, U]
def f52_w6 (S : SatT) (K : KT) : (XT) → XT := fun X fr h => cwp S tab f52_M (f52_M 6) (sub [1, 1, 1, 1, 1, 1, 1, 0, 1, 0, 0] (bodyOf Try.f54)) (kSeq (fun fr h => X (mask (f52_M 6) fr) h) (kBlk 6 (f52_ks24 S K))) fr h
def f52_L6 (S : SatT) (K : KT) (s0_ s5_ : Sl) (i10 i11 : Int) (h : H) : Prop := loopK (f52_w6 S K) (f52_e6 s0_ s5_ i10 i11) h
def f52_ks28 (S : SatT) (K : KT) (X6 : XT) : Kont := kSeq (cwp S tab f52_M (f52_M 6) (sub [1, 1, 1, 1, 1, 1, 1, 0, 1, 0, 0, 1, 1] (bodyOf Try.f54)) (kSeq (fun fr h => X6 (mask (f52_M 6) fr) h) (kBlk 6 (f52_ks24 S K)))) (kSeq (fun fr h => X6 (mask (f52_M 6) fr) h) (kBlk 6 (f52_ks24 S K)))
def f52_e8 (s0_ s5_ : Sl) (i10 i11 i12 : Int) : Frame := [.sl s0_, U, U, U, U, .sl s5_, U, U, U, U, .int .i64 i10, .int .i64 i11, .int .i64 i12, U, U, U, U, U, U, U, U, U, U, U, U, U, U, U, U, U, U, U, U, U, U, U, U, U, U, U, U, U, U, U, U, U, U, U, U, U, U, U, U, U, U, U, U, U, U, U, U, U, U, U, U, U, U, U, U, U, U, U, U, U, U, U, U, U, U, U, U, U, U, U, U, U, U, U, U, U, U, U, U, U, U, U, U, U, U, U, U, U, U, U, U, U, U, U, U, U, U, U, U, U, U, U, U, U, U]
def f52_w8 (S : SatT) (K : KT) (X6 : XT) : (XT) → XT := fun X fr h => cwp S tab f52_M (f52_M 8) (sub [1, 1, 1, 1, 1, 1, 1, 0, 1, 0, 0, 1, 0, 0, 1, 0, 0] (bodyOf Try.f54)) (kSeq (fun fr h => X (mask (f52_M 8) fr) h) (kBlk 8 (kBlk 7 (f52_ks28 S K X6)))) fr h
def f52_L8 (S : SatT) (K : KT) (X6 : XT) (s0_ s5_ : Sl) (i10 i11 i12 : Int) (h : H) : Prop := loopK (f52_w8 S K X6) (f52_e8 s0_ s5_ i10 i11 i12) h
def f52_C7 (S : SatT) (K : KT) (X6 : XT) (s0_ s5_ : Sl) (i10 i11 : Int) (h : H) : Prop :=
 X6 (f52_e6 s0_ s5_ i10 (w64 (i11 + (1)))) h
def f52_C8 (S : SatT) (K : KT) (X6 : XT) (s0_ s5_ : Sl) (i10 i11 : Int) (h : H) : Prop :=
 f52_C7 S K X6 s0_ s5_ i10 i11 h
def f52_b8 (S : SatT) (K : KT) (X6 X8 : XT) (s0_ s5_ : Sl) (i10 i11 i12 : Int) (h : H) : Prop :=
 bif (decide (i12 < (s0_.len : Int))) then
 ixS s0_ 1 i11 fun p0 =>
 ldS p0 h fun s1 =>
 ixS s1 1 i12 fun p2 =>
 ldI .i64 p2 h fun n3 =>
 bif (decide (n3 > (0))) then
 ixS s5_ 1 i11 fun p4 =>
 ldI .i64 p4 h fun n5 =>
 ixS s5_ 1 i12 fun p6 =>
 ldI .i64 p6 h fun n7 =>
 callI S .i64 i_f74 [.int .i64 i10, .int .i64 (mxI (w64 ((w64 (n5 + (1))) - n7)) (w64 (0 - (w64 ((w64 (n5 + (1))) - n7)))))] h fun n9 h8 =>
 X8 (f52_e8 s0_ s5_ n9 i11 (w64 (i12 + (1)))) h8
 else
 X8 (f52_e8 s0_ s5_ i10 i11 (w64 (i12 + (1)))) h
 else
 f52_C8 S K X6 s0_ s5_ i10 i11 h
theorem f52_link8 (S : SatT) (K : KT) (X6 X8 : XT) (s0_ s5_ : Sl) (i10 i11 i12 : Int) (h : H) : f52_w8 S K X6 X8 (f52_e8 s0_ s5_ i10 i11 i12) h = f52_b8 S K X6 X8 s0_ s5_ i10 i11 i12 h := by kernel_rfl
theorem f52_rule8 (S : SatT) (K : KT) (X6 : XT) (s0_ s5_ : Sl) (i11 : Int) (I_ : Int → Int → H → Prop) (m_ : Int → Int → H → Nat)
  (hs : ∀ (X8 : XT) (i10 i12 : Int) (h : H), I_ i10 i12 h → (∀ (i10' i12' : Int) (h' : H), I_ i10' i12' h' → m_ i10' i12' h' < m_ i10 i12 h → X8 (f52_e8 s0_ s5_ i10' i11 i12') h') → f52_b8 S K X6 X8 s0_ s5_ i10 i11 i12 h) (i10 i12 : Int) {h : H} (h0 : I_ i10 i12 h) : f52_L8 S K X6 s0_ s5_ i10 i11 i12 h :=
 loop_rule (σ := (Int) × (Int)) (fun s_ => f52_e8 s0_ s5_ (s_.1) i11 (s_.2)) (fun s_ h => I_ (s_.1) (s_.2) h) (fun s_ h => m_ (s_.1) (s_.2) h)
  (fun X s_ h hi hx => (f52_link8 S K X6 X s0_ s5_ (s_.1) i11 (s_.2) h).mpr (hs X (s_.1) (s_.2) h hi fun i10' i12' h' hi' hm' => hx (i10', i12') h' hi' hm')) (i10, i12) h0
def f52_C6 (S : SatT) (K : KT) (i10 : Int) (h : H) : Prop :=
 K (.tuple [.int .i64 i10, .bool true]) h
def f52_b6 (S : SatT) (K : KT) (X6 : XT) (s0_ s5_ : Sl) (i10 i11 : Int) (h : H) : Prop :=
 bif (decide (i11 < (s0_.len : Int))) then
 f52_L8 S K X6 s0_ s5_ i10 i11 (0) h
 else
 f52_C6 S K i10 h
theorem f52_link6 (S : SatT) (K : KT) (X6 : XT) (s0_ s5_ : Sl) (i10 i11 : Int) (h : H) : f52_w6 S K X6 (f52_e6 s0_ s5_ i10 i11) h = f52_b6 S K X6 s0_ s5_ i10 i11 h := by kernel_rfl
theorem f52_rule6 (S : SatT) (K : KT) (s0_ s5_ : Sl) (I_ : Int → Int → H → Prop) (m_ : Int → Int → H → Nat)
  (hs : ∀ (X6 : XT) (i10 i11 : Int) (h : H), I_ i10 i11 h → (∀ (i10' i11' : Int) (h' : H), I_ i10' i11' h' → m_ i10' i11' h' < m_ i10 i11 h → X6 (f52_e6 s0_ s5_ i10' i11') h') → f52_b6 S K X6 s0_ s5_ i10 i11 h) (i10 i11 : Int) {h : H} (h0 : I_ i10 i11 h) : f52_L6 S K s0_ s5_ i10 i11 h :=
 loop_rule (σ := (Int) × (Int)) (fun s_ => f52_e6 s0_ s5_ (s_.1) (s_.2)) (fun s_ h => I_ (s_.1) (s_.2) h) (fun s_ h => m_ (s_.1) (s_.2) h)
  (fun X s_ h hi hx => (f52_link6 S K X s0_ s5_ (s_.1) (s_.2) h).mpr (hs X (s_.1) (s_.2) h hi fun i10' i11' h' hi' hm' => hx (i10', i11') h' hi' hm')) (i10, i11) h0
def f52_C2 (S : SatT) (K : KT) (s0_ s5_ : Sl) (h : H) : Prop :=
 f52_L6 S K s0_ s5_ (0) (0) h
def f52_b2 (S : SatT) (K : KT) (X2 : XT) (s0_ s5_ s6_ : Sl) (h : H) : Prop :=
 bif (decide ((s6_.len : Int) > (0))) then
 ixS s6_ 1 (0) fun p0 =>
 ldI .i64 p0 h fun n1 =>
 cut s6_ 1 (1) (s6_.len : Int) h fun s2 =>
 f52_L4 S K X2 s0_ s5_ s2 n1 (0) h
 else
 f52_C2 S K s0_ s5_ h
theorem f52_link2 (S : SatT) (K : KT) (X2 : XT) (s0_ s5_ s6_ : Sl) (h : H) : f52_w2 S K X2 (f52_e2 s0_ s5_ s6_) h = f52_b2 S K X2 s0_ s5_ s6_ h := by kernel_rfl
theorem f52_rule2 (S : SatT) (K : KT) (s0_ s5_ : Sl) (I_ : Sl → H → Prop) (m_ : Sl → H → Nat)
  (hs : ∀ (X2 : XT) (s6_ : Sl) (h : H), I_ s6_ h → (∀ (s6_' : Sl) (h' : H), I_ s6_' h' → m_ s6_' h' < m_ s6_ h → X2 (f52_e2 s0_ s5_ s6_') h') → f52_b2 S K X2 s0_ s5_ s6_ h) (s6_ : Sl) {h : H} (h0 : I_ s6_ h) : f52_L2 S K s0_ s5_ s6_ h :=
 loop_rule (σ := (Sl)) (fun s_ => f52_e2 s0_ s5_ (s_)) (fun s_ h => I_ (s_) h) (fun s_ h => m_ (s_) h)
  (fun X s_ h hi hx => (f52_link2 S K X s0_ s5_ (s_) h).mpr (hs X (s_) h hi fun s6_' h' hi' hm' => hx (s6_') h' hi' hm')) (s6_) h0
def f52_C0 (S : SatT) (K : KT) (s0_ s5_ s6_ : Sl) (h : H) : Prop :=
 f52_L2 S K s0_ s5_ s6_ h
def f52_b0 (S : SatT) (K : KT) (X0 : XT) (s0_ s5_ s6_ : Sl) (i7 : Int) (h : H) : Prop :=
 bif (decide (i7 < (s5_.len : Int))) then
 ixS s5_ 1 i7 fun p0 =>
 st1 p0 (.int .i64 (-1)) h fun h1 =>
 X0 (f52_e0 s0_ s5_ s6_ (w64 (i7 + (1)))) h1
 else
 f52_C0 S K s0_ s5_ s6_ h
theorem f52_link0 (S : SatT) (K : KT) (X0 : XT) (s0_ s5_ s6_ : Sl) (i7 : Int) (h : H) : f52_w0 S K X0 (f52_e0 s0_ s5_ s6_ i7) h = f52_b0 S K X0 s0_ s5_ s6_ i7 h := by kernel_rfl
theorem f52_rule0 (S : SatT) (K : KT) (s0_ s5_ s6_ : Sl) (I_ : Int → H → Prop) (m_ : Int → H → Nat)
  (hs : ∀ (X0 : XT) (i7 : Int) (h : H), I_ i7 h → (∀ (i7' : Int) (h' : H), I_ i7' h' → m_ i7' h' < m_ i7 h → X0 (f52_e0 s0_ s5_ s6_ i7') h') → f52_b0 S K X0 s0_ s5_ s6_ i7 h) (i7 : Int) {h : H} (h0 : I_ i7 h) : f52_L0 S K s0_ s5_ s6_ i7 h :=
 loop_rule (σ := (Int)) (fun s_ => f52_e0 s0_ s5_ s6_ (s_)) (fun s_ h => I_ (s_) h) (fun s_ h => m_ (s_) h)
  (fun X s_ h hi hx => (f52_link0 S K X s0_ s5_ s6_ (s_) h).mpr (hs X (s_) h hi fun i7' h' hi' hm' => hx (i7') h' hi' hm')) (i7) h0
def f52_main (S : SatT) (K : KT) (x0 : Sl) (h : H) : Prop :=
 callS S i_f50 [.sl x0] h fun s1 h0 =>
 bif ((s1.len : Int) != (1)) then
 K (.tuple [.int .i64 (0), .bool false]) h0
 else
 ixS s1 1 (0) fun p2 =>
 ldS p2 h0 fun s3 =>
 bif ((s3.len : Int) != (x0.len : Int)) then
 K (.tuple [.int .i64 (0), .bool false]) h0
 else
 mkS (x0.len : Int) [.int .i64 (0)] h0 fun s4 h5 =>
 newS 1 1 [.int .i64 (0)] h5 fun s6 h7 =>
 f52_L0 S K x0 s4 s6 (1) h7
theorem f52_main_link (S : SatT) (K : KT) (x0 : Sl) (h : H) : cwp S tab f52_M [] (bodyOf Try.f54) (kFun tab Try.f54.results.toList K) (fr0 Try.f54 [.sl x0]) h = f52_main S K x0 h := by kernel_rfl
theorem f52_call (x0 : Sl) (h : H) (K : KT) (hm : f52_main (Sat Try.prog) (fun v h' => K v h') x0 h) : callV (Sat Try.prog) i_f52 [.sl x0] h K := by
 have := Sat.ex tok mixed f52_M Try.func54 (c := bodyOf Try.f54) (by kernel_rfl) (calls_of Try.func54 (c := bodyOf Try.f54) (by kernel_rfl) (by decide)) ((f52_main_link _ _ x0 h).mpr hm)
 exact this
def f60_M : Nat → List Nat := fun i => bif i == 4 then [4, 5, 6, 7, 9, 64, 65, 66] else bif i == 2 then [0, 4, 5, 6, 7, 9, 51, 52] else bif i == 0 then [0, 4, 5, 6, 7, 25, 26] else []
def f60_ks3 (S : SatT) (K : KT) : Kont := kSeq (cwp S tab f60_M [] (sub [1, 1, 1, 1] (bodyOf Try.f62)) (kFun tab (Try.f62).results.toList K)) (kFun tab (Try.f62).results.toList K)
def f60_e0 (p0_ : Pt) (s4_ s5_ : Sl) (s6_ s7_ : Sl) (i25 i26 : Int) : Frame := [.ptr p0_, U, U, U, .sl s4_, .sl s5_, .sl s6_, .sl s7_, U, U, U, U, U, U, U, U, U, U, U, U, U, U, U, U, U, .int .i64 i25, .int .i64 i26, U, U, U, U, U, U, U, U, U, U, U, U, U, U, U, U, U, U, U, U, U, U, U, U, U, U, U, U, U, U, U, U, U, U, U, U, U, U, U, U, U, U, U, U, U, U, U, U, U, U, U, U, U, U, U, U, U, U, U, U, U, U, U, U, U, U, U, U, U, U, U, U, U, U, U]
def f60_w0 (S : SatT) (K : KT) : (XT) → XT := fun X fr h => cwp S tab f60_M (f60_M 0) (sub [1, 1, 1, 0, 1, 0, 0] (bodyOf Try.f62)) (kSeq (fun fr h => X (mask (f60_M 0) fr) h) (kBlk 0 (f60_ks3 S K))) fr h
def f60_L0 (S : SatT) (K : KT) (p0_ : Pt) (s4_ s5_ : Sl) (s6_ s7_ : Sl) (i25 i26 : Int) (h : H) : Prop := loopK (f60_w0 S K) (f60_e0 p0_ s4_ s5_ s6_ s7_ i25 i26) h
def f60_ks12 (S : SatT) (K : KT) : Kont := kSeq (cwp S tab f60_M [] (sub [1, 1, 1, 1, 1, 1] (bodyOf Try.f62)) (kFun tab (Try.f62).results.toList K)) (kFun tab (Try.f62).results.toList K)
def f60_e2 (p0_ : Pt) (s4_ s5_ : Sl) (s6_ s7_ s9_ : Sl) (i51 i52 : Int) : Frame := [.ptr p0_, U, U, U, .sl s4_, .sl s5_, .sl s6_, .sl s7_, U, .sl s9_, U, U, U, U, U, U, U, U, U, U, U, U, U, U, U, U, U, U, U, U, U, U, U, U, U, U, U, U, U, U, U, U, U, U, U, U, U, U, U, U, U, .int .i64 i51, .int .i64 i52, U, U, U, U, U, U, U, U, U, U, U, U, U, U, U, U, U, U, U, U, U, U, U, U, U, U, U, U, U, U, U, U, U, U, U, U, U, U, U, U, U, U, U, U, U, U, U, U, U]
def f60_w2 (S : SatT) (K : KT) : (XT) → XT := fun X fr h => cwp S tab f60_M (f60_M 2) (sub [1, 1, 1, 1, 1, 0, 1, 0, 0] (bodyOf Try.f62)) (kSeq (fun fr h => X (mask (f60_M 2) fr) h) (kBlk 2 (f60_ks12 S K))) fr h
def f60_L2 (S : SatT) (K : KT) (p0_ : Pt) (s4_ s5_ : Sl) (s6_ s7_ s9_ : Sl) (i51 i52 : Int) (h : H) : Prop := loopK (f60_w2 S K) (f60_e2 p0_ s4_ s5_ s6_ s7_ s9_ i51 i52) h
def f60_ks17 (S : SatT) (K : KT) : Kont := kSeq (cwp S tab f60_M [] (sub [1, 1, 1, 1, 1, 1, 1] (bodyOf Try.f62)) (kFun tab (Try.f62).results.toList K)) (kFun tab (Try.f62).results.toList K)
def f60_e4 (s4_ s5_ : Sl) (s6_ s7_ : Sl) (s9_ s64_ : Sl) (i65 i66 : Int) : Frame := [U, U, U, U, .sl s4_, .sl s5_, .sl s6_, .sl s7_, U, .sl s9_, U, U, U, U, U, U, U, U, U, U, U, U, U, U, U, U, U, U, U, U, U, U, U, U, U, U, U, U, U, U, U, U, U, U, U, U, U, U, U, U, U, U, U, U, U, U, U, U, U, U, U, U, U, U, .sl s64_, .int .i64 i65, .int .i64 i66, U, U, U, U, U, U, U, U, U, U, U, U, U, U, U, U, U, U, U, U, U, U, U, U, U, U, U, U, U, U, U, U, U, U, U]
def f60_w4 (S : SatT) (K : KT) : (XT) → XT := fun X fr h => cwp S tab f60_M (f60_M 4) (sub [1, 1, 1, 1, 1, 1, 0, 1, 0, 0] (bodyOf Try.f62)) (kSeq (fun fr h => X (mask (f60_M 4) fr) h) (kBlk 4 (f60_ks17 S K))) fr h
def f60_L4 (S : SatT) (K : KT) (s4_ s5_ : Sl) (s6_ s7_ : Sl) (s9_ s64_ : Sl) (i65 i66 : Int) (h : H) : Prop := loopK (f60_w4 S K) (f60_e4 s4_ s5_ s6_ s7_ s9_ s64_ i65 i66) h
def f60_C4 (S : SatT) (K : KT) (s6_ s9_ : Sl) (h : H) : Prop :=
 K (.tuple [.sl s6_, .sl s9_]) h
def f60_b4 (S : SatT) (K : KT) (X4 : XT) (s4_ s5_ : Sl) (s6_ s7_ : Sl) (s9_ s64_ : Sl) (i65 i66 : Int) (h : H) : Prop :=
 bif (decide (i66 < i65)) then
 ixS s64_ 3 i66 fun p0 =>
 ldA p0 3 h fun cs1 =>
 newO [.int .i64 (0), .int .i64 (0), .int .i64 (0)] h fun p2 h3 =>
 stN p2 3 cs1 h3 fun h4 =>
 ixA p2 3 1 (0) fun p5 =>
 ldI .i64 p5 h4 fun n6 =>
 ixS s4_ 1 n6 fun p7 =>
 ldB p7 h4 fun b8 =>
 bif b8 then
 ixA p2 3 1 (1) fun p9 =>
 ldI .i64 p9 h4 fun n10 =>
 ixS s5_ 1 n10 fun p11 =>
 ldB p11 h4 fun b12 =>
 bif b12 then
 ixA p2 3 1 (0) fun p13 =>
 ldI .i64 p13 h4 fun n14 =>
 ixS s7_ 1 n14 fun p15 =>
 ldI .i64 p15 h4 fun n16 =>
 ixS s9_ 1 n16 fun p17 =>
 ldS p17 h4 fun s18 =>
 ixA p2 3 1 (1) fun p19 =>
 ldI .i64 p19 h4 fun n20 =>
 ixS s7_ 1 n20 fun p21 =>
 ldI .i64 p21 h4 fun n22 =>
 ixS s18 1 n22 fun p23 =>
 ldI .i64 p23 h4 fun n24 =>
 ixS s18 1 n22 fun p25 =>
 st1 p25 (.int .i64 (w64 (n24 + (1)))) h4 fun h26 =>
 X4 (f60_e4 s4_ s5_ s6_ s7_ s9_ s64_ i65 (w64 (i66 + (1)))) h26
 else
 X4 (f60_e4 s4_ s5_ s6_ s7_ s9_ s64_ i65 (w64 (i66 + (1)))) h4
 else
 X4 (f60_e4 s4_ s5_ s6_ s7_ s9_ s64_ i65 (w64 (i66 + (1)))) h4
 else
 f60_C4 S K s6_ s9_ h
theorem f60_link4 (S : SatT) (K : KT) (X4 : XT) (s4_ s5_ : Sl) (s6_ s7_ : Sl) (s9_ s64_ : Sl) (i65 i66 : Int) (h : H) : f60_w4 S K X4 (f60_e4 s4_ s5_ s6_ s7_ s9_ s64_ i65 i66) h = f60_b4 S K X4 s4_ s5_ s6_ s7_ s9_ s64_ i65 i66 h := by kernel_rfl
theorem f60_rule4 (S : SatT) (K : KT) (s4_ s5_ : Sl) (s6_ s7_ : Sl) (s9_ s64_ : Sl) (i65 : Int) (I_ : Int → H → Prop) (m_ : Int → H → Nat)
  (hs : ∀ (X4 : XT) (i66 : Int) (h : H), I_ i66 h → (∀ (i66' : Int) (h' : H), I_ i66' h' → m_ i66' h' < m_ i66 h → X4 (f60_e4 s4_ s5_ s6_ s7_ s9_ s64_ i65 i66') h') → f60_b4 S K X4 s4_ s5_ s6_ s7_ s9_ s64_ i65 i66 h) (i66 : Int) {h : H} (h0 : I_ i66 h) : f60_L4 S K s4_ s5_ s6_ s7_ s9_ s64_ i65 i66 h :=
 loop_rule (σ := (Int)) (fun s_ => f60_e4 s4_ s5_ s6_ s7_ s9_ s64_ i65 (s_)) (fun s_ h => I_ (s_) h) (fun s_ h => m_ (s_) h)
  (fun X s_ h hi hx => (f60_link4 S K X s4_ s5_ s6_ s7_ s9_ s64_ i65 (s_) h).mpr (hs X (s_) h hi fun i66' h' hi' hm' => hx (i66') h' hi' hm')) (i66) h0
def f60_C2 (S : SatT) (K : KT) (p0_ : Pt) (s4_ s5_ : Sl) (s6_ s7_ s9_ : Sl) (h : H) : Prop :=
 nilC (.ptr p0_) (
 isPt p0_ (
 ldS (Pt.add p0_ 4) h fun s0 =>
 f60_L4 S K s4_ s5_ s6_ s7_ s9_ s0 (s0.len : Int) (0) h))
def f60_b2 (S : SatT) (K : KT) (X2 : XT) (p0_ : Pt) (s4_ s5_ : Sl) (s6_ s7_ s9_ : Sl) (i51 i52 : Int) (h : H) : Prop :=
 bif (decide (i52 < i51)) then
 mkS (s6_.len : Int) [.int .i64 (0)] h fun s0 h1 =>
 newS 1 1 [.sl s0] h1 fun s2 h3 =>
 app s9_ s2 1 h3 fun s4 h5 =>
 X2 (f60_e2 p0_ s4_ s5_ s6_ s7_ s4 i51 (w64 (i52 + (1)))) h5
 else
 f60_C2 S K p0_ s4_ s5_ s6_ s7_ s9_ h
theorem f60_link2 (S : SatT) (K : KT) (X2 : XT) (p0_ : Pt) (s4_ s5_ : Sl) (s6_ s7_ s9_ : Sl) (i51 i52 : Int) (h : H) : f60_w2 S K X2 (f60_e2 p0_ s4_ s5_ s6_ s7_ s9_ i51 i52) h = f60_b2 S K X2 p0_ s4_ s5_ s6_ s7_ s9_ i51 i52 h := by kernel_rfl
theorem f60_rule2 (S : SatT) (K : KT) (p0_ : Pt) (s4_ s5_ : Sl) (s6_ s7_ : Sl) (i51 : Int) (I_ : Sl → Int → H → Prop) (m_ : Sl → Int → H → Nat)
  (hs : ∀ (X2 : XT) (s9_ : Sl) (i52 : Int) (h : H), I_ s9_ i52 h → (∀ (s9_' : Sl) (i52' : Int) (h' : H), I_ s9_' i52' h' → m_ s9_' i52' h' < m_ s9_ i52 h → X2 (f60_e2 p0_ s4_ s5_ s6_ s7_ s9_' i51 i52') h') → f60_b2 S K X2 p0_ s4_ s5_ s6_ s7_ s9_ i51 i52 h) (s9_ : Sl) (i52 : Int) {h : H} (h0 : I_ s9_ i52 h) : f60_L2 S K p0_ s4_ s5_ s6_ s7_ s9_ i51 i52 h :=
 loop_rule (σ := (Sl) × (Int)) (fun s_ => f60_e2 p0_ s4_ s5_ s6_ s7_ (s_.1) i51 (s_.2)) (fun s_ h => I_ (s_.1) (s_.2) h) (fun s_ h => m_ (s_.1) (s_.2) h)
  (fun X s_ h hi hx => (f60_link2 S K X p0_ s4_ s5_ s6_ s7_ (s_.1) i51 (s_.2) h).mpr (hs X (s_.1) (s_.2) h hi fun s9_' i52' h' hi' hm' => hx (s9_', i52') h' hi' hm')) (s9_, i52) h0
def f60_C0 (S : SatT) (K : KT) (p0_ : Pt) (s4_ s5_ : Sl) (s6_ s7_ : Sl) (h : H) : Prop :=
 newS 0 1 [] h fun s0 h1 =>
 f60_L2 S K p0_ s4_ s5_ s6_ s7_ s0 (s6_.len : Int) (0) h1
def f60_b0 (S : SatT) (K : KT) (X0 : XT) (p0_ : Pt) (s4_ s5_ : Sl) (s6_ s7_ : Sl) (i25 i26 : Int) (h : H) : Prop :=
 bif (decide (i26 < i25)) then
 ixS s4_ 1 i26 fun p0 =>
 ldB p0 h fun b1 =>
 bif b1 then
 ixS s5_ 1 i26 fun p2 =>
 ldB p2 h fun b3 =>
 bif b3 then
 ixS s7_ 1 i26 fun p4 =>
 st1 p4 (.int .i64 (s6_.len : Int)) h fun h5 =>
 newS 1 1 [.int .i64 i26] h5 fun s6 h7 =>
 app s6_ s6 1 h7 fun s8 h9 =>
 X0 (f60_e0 p0_ s4_ s5_ s8 s7_ i25 (w64 (i26 + (1)))) h9
 else
 X0 (f60_e0 p0_ s4_ s5_ s6_ s7_ i25 (w64 (i26 + (1)))) h
 else
 X0 (f60_e0 p0_ s4_ s5_ s6_ s7_ i25 (w64 (i26 + (1)))) h
 else
 f60_C0 S K p0_ s4_ s5_ s6_ s7_ h
theorem f60_link0 (S : SatT) (K : KT) (X0 : XT) (p0_ : Pt) (s4_ s5_ : Sl) (s6_ s7_ : Sl) (i25 i26 : Int) (h : H) : f60_w0 S K X0 (f60_e0 p0_ s4_ s5_ s6_ s7_ i25 i26) h = f60_b0 S K X0 p0_ s4_ s5_ s6_ s7_ i25 i26 h := by kernel_rfl
theorem f60_rule0 (S : SatT) (K : KT) (p0_ : Pt) (s4_ s5_ s7_ : Sl) (i25 : Int) (I_ : Sl → Int → H → Prop) (m_ : Sl → Int → H → Nat)
  (hs : ∀ (X0 : XT) (s6_ : Sl) (i26 : Int) (h : H), I_ s6_ i26 h → (∀ (s6_' : Sl) (i26' : Int) (h' : H), I_ s6_' i26' h' → m_ s6_' i26' h' < m_ s6_ i26 h → X0 (f60_e0 p0_ s4_ s5_ s6_' s7_ i25 i26') h') → f60_b0 S K X0 p0_ s4_ s5_ s6_ s7_ i25 i26 h) (s6_ : Sl) (i26 : Int) {h : H} (h0 : I_ s6_ i26 h) : f60_L0 S K p0_ s4_ s5_ s6_ s7_ i25 i26 h :=
 loop_rule (σ := (Sl) × (Int)) (fun s_ => f60_e0 p0_ s4_ s5_ (s_.1) s7_ i25 (s_.2)) (fun s_ h => I_ (s_.1) (s_.2) h) (fun s_ h => m_ (s_.1) (s_.2) h)
  (fun X s_ h hi hx => (f60_link0 S K X p0_ s4_ s5_ (s_.1) s7_ i25 (s_.2) h).mpr (hs X (s_.1) (s_.2) h hi fun s6_' i26' h' hi' hm' => hx (s6_', i26') h' hi' hm')) (s6_, i26) h0
def f60_main (S : SatT) (K : KT) (x0 : Pt) (h : H) : Prop :=
 callS S i_f83 [.ptr x0, .int .i64 (1), .int .i64 (0)] h fun s1 h0 =>
 callS S i_f83 [.ptr x0, .int .i64 (0), .int .i64 (1)] h0 fun s3 h2 =>
 slotK 8 h2 fun h4 =>
 nilC (.ptr x0) (
 isPt x0 (
 ldI .i64 (Pt.add x0 3) h4 fun n5 =>
 newSat 0 1 [] h4 (h2.length + 0) fun s6 h7 =>
(cell h7 (Pt.add x0 3) = cell h4 (Pt.add x0 3)) ∧ (
 mkSat n5 [.int .i64 (0)] h7 (h2.length + 5) fun s8 h9 =>
 nilC (.ptr x0) (
 isPt x0 (
 ldI .i64 (Pt.add x0 3) h9 fun n10 =>
 f60_L0 S K x0 s1 s3 s6 s8 n10 (0) h9)))))
theorem f60_main_link (S : SatT) (K : KT) (x0 : Pt) (h : H) : cwp S tab f60_M [] (bodyOf Try.f62) (kFun tab Try.f62.results.toList K) (fr0 Try.f62 [.ptr x0]) h = f60_main S K x0 h := by kernel_rfl
theorem f60_call (x0 : Pt) (h : H) (K : KT) (hm : f60_main (Sat Try.prog) (fun v h' => K v h') x0 h) : callV (Sat Try.prog) i_f60 [.ptr x0] h K := by
 have := Sat.ex tok mixed f60_M Try.func62 (c := bodyOf Try.f62) (by kernel_rfl) (calls_of Try.func62 (c := bodyOf Try.f62) (by kernel_rfl) (by decide)) ((f60_main_link _ _ x0 h).mpr hm)
 exact this
def f61_M : Nat → List Nat := fun i => bif i == 4 then [0, 1, 5, 6, 7, 9] else bif i == 2 then [0, 1, 5, 6, 7, 8] else bif i == 0 then [0, 1] else []
def f61_e0 (s0_ : Sl) (i1 : Int) : Frame := [.sl s0_, .int .i64 i1, U, U, U, U, U, U, U, U, U, U, U, U, U, U, U, U, U, U, U, U, U, U, U, U, U, U, U, U, U, U, U, U, U, U, U, U, U, U, U, U, U, U, U, U, U, U, U, U, U, U, U, U, U, U, U, U, U, U, U, U, U, U, U, U, U, U, U, U, U, U, U, U, U, U, U]
def f61_w0 (S : SatT) (K : KT) : (XT) → XT := fun X fr h => cwp S tab f61_M (f61_M 0) (sub [1, 0, 0] (bodyOf Try.f63)) (kSeq (fun fr h => X (mask (f61_M 0) fr) h) (kBlk 0 (kFun tab (Try.f63).results.toList K))) fr h
def f61_L0 (S : SatT) (K : KT) (s0_ : Sl) (i1 : Int) (h : H) : Prop := loopK (f61_w0 S K) (f61_e0 s0_ i1) h
def f61_ks2 (S : SatT) (K : KT) (X0 : XT) : Kont := kSeq (cwp S tab f61_M (f61_M 1) (sub [1, 0, 0, 0, 1, 1] (bodyOf Try.f63)) (kBlk 1 (kSeq (fun fr h => X0 (mask (f61_M 0) fr) h) (kBlk 0 (kFun tab (Try.f63).results.toList K))))) (kBlk 1 (kSeq (fun fr h => X0 (mask (f61_M 0) fr) h) (kBlk 0 (kFun tab (Try.f63).results.toList K))))
def f61_e2 (s0_ : Sl) (i1 : Int) (s5_ s6_ s7_ : Sl) (i8 : Int) : Frame := [.sl s0_, .int .i64 i1, U, U, U, .sl s5_, .sl s6_, .sl s7_, .int .i64 i8, U, U, U, U, U, U, U, U, U, U, U, U, U, U, U, U, U, U, U, U, U, U, U, U, U, U, U, U, U, U, U, U, U, U, U, U, U, U, U, U, U, U, U, U, U, U, U, U, U, U, U, U, U, U, U, U, U, U, U, U, U, U, U, U, U, U, U, U]
def f61_w2 (S : SatT) (K : KT) (X0 : XT) : (XT) → XT := fun X fr h => cwp S tab f61_M (f61_M 2) (sub [1, 0, 0, 0, 1, 0, 1, 0, 0] (bodyOf Try.f63)) (kSeq (fun fr h => X (mask (f61_M 2) fr) h) (kBlk 2 (f61_ks2 S K X0))) fr h
def f61_L2 (S : SatT) (K : KT) (X0 : XT) (s0_ : Sl) (i1 : Int) (s5_ s6_ s7_ : Sl) (i8 : Int) (h : H) : Prop := loopK (f61_w2 S K X0) (f61_e2 s0_ i1 s5_ s6_ s7_ i8) h
def f61_ks8 (S : SatT) (K : KT) (X0 : XT) : Kont := kSeq (cwp S tab f61_M (f61_M 1) (sub [1, 0, 0, 0, 1, 1, 1] (bodyOf Try.f63)) (kBlk 1 (kSeq (fun fr h => X0 (mask (f61_M 0) fr) h) (kBlk 0 (kFun tab (Try.f63).results.toList K))))) (kBlk 1 (kSeq (fun fr h => X0 (mask (f61_M 0) fr) h) (kBlk 0 (kFun tab (Try.f63).results.toList K))))
def f61_e4 (s0_ : Sl) (i1 : Int) (s5_ s6_ s7_ : Sl) (i9 : Int) : Frame := [.sl s0_, .int .i64 i1, U, U, U, .sl s5_, .sl s6_, .sl s7_, U, .int .i64 i9, U, U, U, U, U, U, U, U, U, U, U, U, U, U, U, U, U, U, U, U, U, U, U, U, U, U, U, U, U, U, U, U, U, U, U, U, U, U, U, U, U, U, U, U, U, U, U, U, U, U, U, U, U, U, U, U, U, U, U, U, U, U, U, U, U, U, U]
def f61_w4 (S : SatT) (K : KT) (X0 : XT) : (XT) → XT := fun X fr h => cwp S tab f61_M (f61_M 4) (sub [1, 0, 0, 0, 1, 1, 0, 1, 0, 0] (bodyOf Try.f63)) (kSeq (fun fr h => X (mask (f61_M 4) fr) h) (kBlk 4 (f61_ks8 S K X0))) fr h
def f61_L4 (S : SatT) (K : KT) (X0 : XT) (s0_ : Sl) (i1 : Int) (s5_ s6_ s7_ : Sl) (i9 : Int) (h : H) : Prop := loopK (f61_w4 S K X0) (f61_e4 s0_ i1 s5_ s6_ s7_ i9) h
def f61_C4 (S : SatT) (K : KT) (X0 : XT) (s0_ : Sl) (i1 : Int) (s7_ : Sl) (h : H) : Prop :=
 bif ((s7_.len : Int) == (s0_.len : Int)) then
 K (.sl s7_) h
 else
 X0 (f61_e0 s7_ i1) h
def f61_b4 (S : SatT) (K : KT) (X0 X4 : XT) (s0_ : Sl) (i1 : Int) (s5_ s6_ s7_ : Sl) (i9 : Int) (h : H) : Prop :=
 bif (decide (i9 < (s0_.len : Int))) then
 ixS s0_ 1 i9 fun p0 =>
 ldS p0 h fun s1 =>
 ixS s1 1 (0) fun p2 =>
 ldI .i64 p2 h fun n3 =>
 ixS s6_ 1 n3 fun p4 =>
 ldB p4 h fun b5 =>
 bif b5 then
 ixS s0_ 1 i9 fun p6 =>
 ldS p6 h fun s7 =>
 ixS s7 1 (1) fun p8 =>
 ldI .i64 p8 h fun n9 =>
 ixS s5_ 1 n9 fun p10 =>
 ldB p10 h fun b11 =>
 bif b11 then
 ixS s0_ 1 i9 fun p12 =>
 ldS p12 h fun s13 =>
 newS 1 1 [.sl s13] h fun s14 h15 =>
 app s7_ s14 1 h15 fun s16 h17 =>
 X4 (f61_e4 s0_ i1 s5_ s6_ s16 (w64 (i9 + (1)))) h17
 else
 X4 (f61_e4 s0_ i1 s5_ s6_ s7_ (w64 (i9 + (1)))) h
 else
 X4 (f61_e4 s0_ i1 s5_ s6_ s7_ (w64 (i9 + (1)))) h
 else
 f61_C4 S K X0 s0_ i1 s7_ h
theorem f61_link4 (S : SatT) (K : KT) (X0 X4 : XT) (s0_ : Sl) (i1 : Int) (s5_ s6_ s7_ : Sl) (i9 : Int) (h : H) : f61_w4 S K X0 X4 (f61_e4 s0_ i1 s5_ s6_ s7_ i9) h = f61_b4 S K X0 X4 s0_ i1 s5_ s6_ s7_ i9 h := by kernel_rfl
theorem f61_rule4 (S : SatT) (K : KT) (X0 : XT) (s0_ : Sl) (i1 : Int) (s5_ s6_ : Sl) (I_ : Sl → Int → H → Prop) (m_ : Sl → Int → H → Nat)
  (hs : ∀ (X4 : XT) (s7_ : Sl) (i9 : Int) (h : H), I_ s7_ i9 h → (∀ (s7_' : Sl) (i9' : Int) (h' : H), I_ s7_' i9' h' → m_ s7_' i9' h' < m_ s7_ i9 h → X4 (f61_e4 s0_ i1 s5_ s6_ s7_' i9') h') → f61_b4 S K X0 X4 s0_ i1 s5_ s6_ s7_ i9 h) (s7_ : Sl) (i9 : Int) {h : H} (h0 : I_ s7_ i9 h) : f61_L4 S K X0 s0_ i1 s5_ s6_ s7_ i9 h :=
 loop_rule (σ := (Sl) × (Int)) (fun s_ => f61_e4 s0_ i1 s5_ s6_ (s_.1) (s_.2)) (fun s_ h => I_ (s_.1) (s_.2) h) (fun s_ h => m_ (s_.1) (s_.2) h)
  (fun X s_ h hi hx => (f61_link4 S K X0 X s0_ i1 s5_ s6_ (s_.1) (s_.2) h).mpr (hs X (s_.1) (s_.2) h hi fun s7_' i9' h' hi' hm' => hx (s7_', i9') h' hi' hm')) (s7_, i9) h0
def f61_C2 (S : SatT) (K : KT) (X0 : XT) (s0_ : Sl) (i1 : Int) (s5_ s6_ s7_ : Sl) (h : H) : Prop :=
 f61_L4 S K X0 s0_ i1 s5_ s6_ s7_ (0) h
def f61_b2 (S : SatT) (K : KT) (X0 X2 : XT) (s0_ : Sl) (i1 : Int) (s5_ s6_ s7_ : Sl) (i8 : Int) (h : H) : Prop :=
 bif (decide (i8 < (s0_.len : Int))) then
 ixS s0_ 1 i8 fun p0 =>
 ldS p0 h fun s1 =>
 ixS s1 1 (0) fun p2 =>
 ldI .i64 p2 h fun n3 =>
 ixS s5_ 1 n3 fun p4 =>
 st1 p4 (.bool true) h fun h5 =>
 ixS s0_ 1 i8 fun p6 =>
 ldS p6 h5 fun s7 =>
 ixS s7 1 (1) fun p8 =>
 ldI .i64 p8 h5 fun n9 =>
 ixS s6_ 1 n9 fun p10 =>
 st1 p10 (.bool true) h5 fun h11 =>
 X2 (f61_e2 s0_ i1 s5_ s6_ s7_ (w64 (i8 + (1)))) h11
 else
 f61_C2 S K X0 s0_ i1 s5_ s6_ s7_ h
theorem f61_link2 (S : SatT) (K : KT) (X0 X2 : XT) (s0_ : Sl) (i1 : Int) (s5_ s6_ s7_ : Sl) (i8 : Int) (h : H) : f61_w2 S K X0 X2 (f61_e2 s0_ i1 s5_ s6_ s7_ i8) h = f61_b2 S K X0 X2 s0_ i1 s5_ s6_ s7_ i8 h := by kernel_rfl
theorem f61_rule2 (S : SatT) (K : KT) (X0 : XT) (s0_ : Sl) (i1 : Int) (s5_ s6_ s7_ : Sl) (I_ : Int → H → Prop) (m_ : Int → H → Nat)
  (hs : ∀ (X2 : XT) (i8 : Int) (h : H), I_ i8 h → (∀ (i8' : Int) (h' : H), I_ i8' h' → m_ i8' h' < m_ i8 h → X2 (f61_e2 s0_ i1 s5_ s6_ s7_ i8') h') → f61_b2 S K X0 X2 s0_ i1 s5_ s6_ s7_ i8 h) (i8 : Int) {h : H} (h0 : I_ i8 h) : f61_L2 S K X0 s0_ i1 s5_ s6_ s7_ i8 h :=
 loop_rule (σ := (Int)) (fun s_ => f61_e2 s0_ i1 s5_ s6_ s7_ (s_)) (fun s_ h => I_ (s_) h) (fun s_ h => m_ (s_) h)
  (fun X s_ h hi hx => (f61_link2 S K X0 X s0_ i1 s5_ s6_ s7_ (s_) h).mpr (hs X (s_) h hi fun i8' h' hi' hm' => hx (i8') h' hi' hm')) (i8) h0
def f61_b0 (S : SatT) (K : KT) (X0 : XT) (s0_ : Sl) (i1 : Int) (h : H) : Prop :=
 slotK 8 h fun h0 =>
 mkSat i1 [.bool false] h0 (h.length + 1) fun s1 h2 =>
 mkSat i1 [.bool false] h2 (h.length + 3) fun s3 h4 =>
 newSat 0 1 [] h4 (h.length + 4) fun s5 h6 =>
 f61_L2 S K X0 s0_ i1 s1 s3 s5 (0) h6
theorem f61_link0 (S : SatT) (K : KT) (X0 : XT) (s0_ : Sl) (i1 : Int) (h : H) : f61_w0 S K X0 (f61_e0 s0_ i1) h = f61_b0 S K X0 s0_ i1 h := by kernel_rfl
theorem f61_rule0 (S : SatT) (K : KT) (i1 : Int) (I_ : Sl → H → Prop) (m_ : Sl → H → Nat)
  (hs : ∀ (X0 : XT) (s0_ : Sl) (h : H), I_ s0_ h → (∀ (s0_' : Sl) (h' : H), I_ s0_' h' → m_ s0_' h' < m_ s0_ h → X0 (f61_e0 s0_' i1) h') → f61_b0 S K X0 s0_ i1 h) (s0_ : Sl) {h : H} (h0 : I_ s0_ h) : f61_L0 S K s0_ i1 h :=
 loop_rule (σ := (Sl)) (fun s_ => f61_e0 (s_) i1) (fun s_ h => I_ (s_) h) (fun s_ h => m_ (s_) h)
  (fun X s_ h hi hx => (f61_link0 S K X (s_) i1 h).mpr (hs X (s_) h hi fun s0_' h' hi' hm' => hx (s0_') h' hi' hm')) (s0_) h0
def f61_main (S : SatT) (K : KT) (x0 : Sl) (x1 : Int) (h : H) : Prop :=
 f61_L0 S K x0 x1 h
theorem f61_main_link (S : SatT) (K : KT) (x0 : Sl) (x1 : Int) (h : H) : cwp S tab f61_M [] (bodyOf Try.f63) (kFun tab Try.f63.results.toList K) (fr0 Try.f63 [.sl x0, .int .i64 x1]) h = f61_main S K x0 x1 h := by kernel_rfl
theorem f61_call (x0 : Sl) (x1 : Int) (h : H) (K : Sl → H → Prop) (hm : f61_main (Sat Try.prog) (fun v h' => ∃ r, v = .sl r ∧ K r h') x0 x1 h) : callS (Sat Try.prog) i_f61 [.sl x0, .int .i64 x1] h K := by
 have := Sat.ex tok mixed f61_M Try.func63 (c := bodyOf Try.f63) (by kernel_rfl) (calls_of Try.func63 (c := bodyOf Try.f63) (by kernel_rfl) (by decide)) ((f61_main_link _ _ x0 x1 h).mpr hm)
 obtain ⟨v, h2, h3, r, rfl, h4⟩ := this; exact ⟨r, h2, h3, h4⟩
def f50_M : Nat → List Nat := fun i => bif i == 2 then [0, 3, 4, 5, 6, 7, 8] else bif i == 0 then [0, 3, 4, 5, 6] else []
def f50_ks2 (S : SatT) (K : KT) : Kont := kSeq (cwp S tab f50_M [] (sub [1, 1, 1] (bodyOf Try.f52)) (kFun tab (Try.f52).results.toList K)) (kFun tab (Try.f52).results.toList K)
def f50_e0 (s0_ s3_ : Sl) (s4_ s5_ : Sl) (i6 : Int) : Frame := [.sl s0_, U, U, .sl s3_, .sl s4_, .sl s5_, .int .i64 i6, U, U, U, U, U, U, U, U, U, U, U, U, U, U, U, U, U, U, U, U, U, U, U, U, U, U, U, U, U, U, U, U, U, U, U, U, U, U, U, U, U, U, U, U, U, U, U, U, U, U, U, U, U, U, U, U, U, U, U, U, U, U, U, U]
def f50_w0 (S : SatT) (K : KT) : (XT) → XT := fun X fr h => cwp S tab f50_M (f50_M 0) (sub [1, 1, 0, 1, 0, 0] (bodyOf Try.f52)) (kSeq (fun fr h => X (mask (f50_M 0) fr) h) (kBlk 0 (f50_ks2 S K))) fr h
def f50_L0 (S : SatT) (K : KT) (s0_ s3_ : Sl) (s4_ s5_ : Sl) (i6 : Int) (h : H) : Prop := loopK (f50_w0 S K) (f50_e0 s0_ s3_ s4_ s5_ i6) h
def f50_C1 (S : SatT) (K : KT) (X0 : XT) (s0_ s3_ : Sl) (s4_ s5_ : Sl) (i6 : Int) (h : H) : Prop :=
 X0 (f50_e0 s0_ s3_ s4_ s5_ (w64 (i6 + (1)))) h
def f50_ks6 (S : SatT) (K : KT) (X0 : XT) : Kont := kSeq (cwp S tab f50_M (f50_M 0) (sub [1, 1, 0, 1, 0, 0, 1, 1] (bodyOf Try.f52)) (kSeq (fun fr h => X0 (mask (f50_M 0) fr) h) (kBlk 0 (f50_ks2 S K)))) (kSeq (fun fr h => X0 (mask (f50_M 0) fr) h) (kBlk 0 (f50_ks2 S K)))
def f50_ks10 (S : SatT) (K : KT) (X0 : XT) : Kont := kSeq (cwp S tab f50_M (f50_M 1) (sub [1, 1, 0, 1, 0, 0, 1, 0, 0, 1, 1, 1] (bodyOf Try.f52)) (kBlk 1 (f50_ks6 S K X0))) (kBlk 1 (f50_ks6 S K X0))
def f50_e2 (s0_ s3_ : Sl) (s4_ s5_ : Sl) (i6 : Int) (s7_ : Sl) (i8 : Int) : Frame := [.sl s0_, U, U, .sl s3_, .sl s4_, .sl s5_, .int .i64 i6, .sl s7_, .int .i64 i8, U, U, U, U, U, U, U, U, U, U, U, U, U, U, U, U, U, U, U, U, U, U, U, U, U, U, U, U, U, U, U, U, U, U, U, U, U, U, U, U, U, U, U, U, U, U, U, U, U, U, U, U, U, U, U, U, U, U, U, U, U, U]
def f50_w2 (S : SatT) (K : KT) (X0 : XT) : (XT) → XT := fun X fr h => cwp S tab f50_M (f50_M 2) (sub [1, 1, 0, 1, 0, 0, 1, 0, 0, 1, 1, 0, 1, 0, 0] (bodyOf Try.f52)) (kSeq (fun fr h => X (mask (f50_M 2) fr) h) (kBlk 2 (f50_ks10 S K X0))) fr h
def f50_L2 (S : SatT) (K : KT) (X0 : XT) (s0_ s3_ : Sl) (s4_ s5_ : Sl) (i6 : Int) (s7_ : Sl) (i8 : Int) (h : H) : Prop := loopK (f50_w2 S K X0) (f50_e2 s0_ s3_ s4_ s5_ i6 s7_ i8) h
def f50_C2 (S : SatT) (K : KT) (X0 : XT) (s0_ s3_ : Sl) (s4_ s5_ : Sl) (i6 : Int) (s7_ : Sl) (h : H) : Prop :=
 newS 1 1 [.sl s7_] h fun s0 h1 =>
 app s5_ s0 1 h1 fun s2 h3 =>
 f50_C1 S K X0 s0_ s3_ s4_ s2 i6 h3
def f50_b2 (S : SatT) (K : KT) (X0 X2 : XT) (s0_ s3_ : Sl) (s4_ s5_ : Sl) (i6 : Int) (s7_ : Sl) (i8 : Int) (h : H) : Prop :=
 bif (decide (i8 < (s0_.len : Int))) then
 ixS s3_ 1 i6 fun p0 =>
 ldS p0 h fun s1 =>
 ixS s1 1 i8 fun p2 =>
 ldB p2 h fun b3 =>
 bif b3 then
 ixS s3_ 1 i8 fun p4 =>
 ldS p4 h fun s5 =>
 ixS s5 1 i6 fun p6 =>
 ldB p6 h fun b7 =>
 bif b7 then
 ixS s4_ 1 i8 fun p8 =>
 st1 p8 (.bool true) h fun h9 =>
 newS 1 1 [.int .i64 i8] h9 fun s10 h11 =>
 app s7_ s10 1 h11 fun s12 h13 =>
 X2 (f50_e2 s0_ s3_ s4_ s5_ i6 s12 (w64 (i8 + (1)))) h13
 else
 X2 (f50_e2 s0_ s3_ s4_ s5_ i6 s7_ (w64 (i8 + (1)))) h
 else
 X2 (f50_e2 s0_ s3_ s4_ s5_ i6 s7_ (w64 (i8 + (1)))) h
 else
 f50_C2 S K X0 s0_ s3_ s4_ s5_ i6 s7_ h
theorem f50_link2 (S : SatT) (K : KT) (X0 X2 : XT) (s0_ s3_ : Sl) (s4_ s5_ : Sl) (i6 : Int) (s7_ : Sl) (i8 : Int) (h : H) : f50_w2 S K X0 X2 (f50_e2 s0_ s3_ s4_ s5_ i6 s7_ i8) h = f50_b2 S K X0 X2 s0_ s3_ s4_ s5_ i6 s7_ i8 h := by kernel_rfl
theorem f50_rule2 (S : SatT) (K : KT) (X0 : XT) (s0_ s3_ : Sl) (s4_ s5_ : Sl) (i6 : Int) (I_ : Sl → Int → H → Prop) (m_ : Sl → Int → H → Nat)
  (hs : ∀ (X2 : XT) (s7_ : Sl) (i8 : Int) (h : H), I_ s7_ i8 h → (∀ (s7_' : Sl) (i8' : Int) (h' : H), I_ s7_' i8' h' → m_ s7_' i8' h' < m_ s7_ i8 h → X2 (f50_e2 s0_ s3_ s4_ s5_ i6 s7_' i8') h') → f50_b2 S K X0 X2 s0_ s3_ s4_ s5_ i6 s7_ i8 h) (s7_ : Sl) (i8 : Int) {h : H} (h0 : I_ s7_ i8 h) : f50_L2 S K X0 s0_ s3_ s4_ s5_ i6 s7_ i8 h :=
 loop_rule (σ := (Sl) × (Int)) (fun s_ => f50_e2 s0_ s3_ s4_ s5_ i6 (s_.1) (s_.2)) (fun s_ h => I_ (s_.1) (s_.2) h) (fun s_ h => m_ (s_.1) (s_.2) h)
  (fun X s_ h hi hx => (f50_link2 S K X0 X s0_ s3_ s4_ s5_ i6 (s_.1) (s_.2) h).mpr (hs X (s_.1) (s_.2) h hi fun s7_' i8' h' hi' hm' => hx (s7_', i8') h' hi' hm')) (s7_, i8) h0
def f50_C0 (S : SatT) (K : KT) (s5_ : Sl) (h : H) : Prop :=
 K (.sl s5_) h
def f50_b0 (S : SatT) (K : KT) (X0 : XT) (s0_ s3_ : Sl) (s4_ s5_ : Sl) (i6 : Int) (h : H) : Prop :=
 bif (decide (i6 < (s0_.len : Int))) then
 ixS s4_ 1 i6 fun p0 =>
 ldB p0 h fun b1 =>
 bif b1 then
 f50_C1 S K X0 s0_ s3_ s4_ s5_ i6 h
 else
 ixS s3_ 1 i6 fun p2 =>
 ldS p2 h fun s3 =>
 ixS s3 1 i6 fun p4 =>
 ldB p4 h fun b5 =>
 bif (!b5) then
 f50_C1 S K X0 s0_ s3_ s4_ s5_ i6 h
 else
 newS 0 1 [] h fun s6 h7 =>
 f50_L2 S K X0 s0_ s3_ s4_ s5_ i6 s6 i6 h7
 else
 f50_C0 S K s5_ h
theorem f50_link0 (S : SatT) (K : KT) (X0 : XT) (s0_ s3_ : Sl) (s4_ s5_ : Sl) (i6 : Int) (h : H) : f50_w0 S K X0 (f50_e0 s0_ s3_ s4_ s5_ i6) h = f50_b0 S K X0 s0_ s3_ s4_ s5_ i6 h := by kernel_rfl
theorem f50_rule0 (S : SatT) (K : KT) (s0_ s3_ s4_ : Sl) (I_ : Sl → Int → H → Prop) (m_ : Sl → Int → H → Nat)
  (hs : ∀ (X0 : XT) (s5_ : Sl) (i6 : Int) (h : H), I_ s5_ i6 h → (∀ (s5_' : Sl) (i6' : Int) (h' : H), I_ s5_' i6' h' → m_ s5_' i6' h' < m_ s5_ i6 h → X0 (f50_e0 s0_ s3_ s4_ s5_' i6') h') → f50_b0 S K X0 s0_ s3_ s4_ s5_ i6 h) (s5_ : Sl) (i6 : Int) {h : H} (h0 : I_ s5_ i6 h) : f50_L0 S K s0_ s3_ s4_ s5_ i6 h :=
 loop_rule (σ := (Sl) × (Int)) (fun s_ => f50_e0 s0_ s3_ s4_ (s_.1) (s_.2)) (fun s_ h => I_ (s_.1) (s_.2) h) (fun s_ h => m_ (s_.1) (s_.2) h)
  (fun X s_ h hi hx => (f50_link0 S K X s0_ s3_ s4_ (s_.1) (s_.2) h).mpr (hs X (s_.1) (s_.2) h hi fun s5_' i6' h' hi' hm' => hx (s5_', i6') h' hi' hm')) (s5_, i6) h0
def f50_main (S : SatT) (K : KT) (x0 : Sl) (h : H) : Prop :=
 slotK 9 h fun h0 =>
 callS S i_f72 [.sl x0] h0 fun s2 h1 =>
 mkSat (x0.len : Int) [.bool false] h1 (h.length + 4) fun s3 h4 =>
 newSat 0 1 [] h4 (h.length + 5) fun s5 h6 =>
 f50_L0 S K x0 s2 s3 s5 (0) h6
theorem f50_main_link (S : SatT) (K : KT) (x0 : Sl) (h : H) : cwp S tab f50_M [] (bodyOf Try.f52) (kFun tab Try.f52.results.toList K) (fr0 Try.f52 [.sl x0]) h = f50_main S K x0 h := by kernel_rfl
theorem f50_call (x0 : Sl) (h : H) (K : Sl → H → Prop) (hm : f50_main (Sat Try.prog) (fun v h' => ∃ r, v = .sl r ∧ K r h') x0 h) : callS (Sat Try.prog) i_f50 [.sl x0] h K := by
 have := Sat.ex tok mixed f50_M Try.func52 (c := bodyOf Try.f52) (by kernel_rfl) (calls_of Try.func52 (c := bodyOf Try.f52) (by kernel_rfl) (by decide)) ((f50_main_link _ _ x0 h).mpr hm)
 obtain ⟨v, h2, h3, r, rfl, h4⟩ := this; exact ⟨r, h2, h3, h4⟩
def f56_M : Nat → List Nat := fun i => bif i == 0 then [4, 5, 6, 7, 8] else []
def f56_ks6 (S : SatT) (K : KT) : Kont := kSeq (cwp S tab f56_M [] (sub [1, 1, 1, 1, 1] (bodyOf Try.f58)) (kFun tab (Try.f58).results.toList K)) (kFun tab (Try.f58).results.toList K)
def f56_e0 (s4_ s5_ s6_ : Sl) (i7 i8 : Int) : Frame := [U, U, U, U, .sl s4_, .sl s5_, .sl s6_, .int .i64 i7, .int .i64 i8, U, U, U, U, U, U, U, U, U, U, U, U, U, U, U, U, U, U, U, U, U, U, U, U, U, U, U, U, U, U, U, U, U, U, U, U, U, U, U, U, U, U, U, U, U, U, U, U, U, U, U, U, U, U, U, U, U, U, U, U, U, U, U, U, U, U, U, U, U, U, U, U, U, U, U, U, U, U, U, U, U, U, U, U, U]
def f56_w0 (S : SatT) (K : KT) : (XT) → XT := fun X fr h => cwp S tab f56_M (f56_M 0) (sub [1, 1, 1, 1, 0, 1, 0, 0] (bodyOf Try.f58)) (kSeq (fun fr h => X (mask (f56_M 0) fr) h) (kBlk 0 (f56_ks6 S K))) fr h
def f56_L0 (S : SatT) (K : KT) (s4_ s5_ s6_ : Sl) (i7 i8 : Int) (h : H) : Prop := loopK (f56_w0 S K) (f56_e0 s4_ s5_ s6_ i7 i8) h
def f56_C0 (S : SatT) (K : KT) (s6_ : Sl) (h : H) : Prop :=
 K (.sl s6_) h
def f56_b0 (S : SatT) (K : KT) (X0 : XT) (s4_ s5_ s6_ : Sl) (i7 i8 : Int) (h : H) : Prop :=
 bif (decide (i7 < (s4_.len : Int))) then
 bif (i8 == (s5_.len : Int)) then
 ixS s4_ 1 i7 fun p0 =>
 ldI .i64 p0 h fun n1 =>
 newS 1 1 [.int .i64 n1] h fun s2 h3 =>
 app s6_ s2 1 h3 fun s4 h5 =>
 X0 (f56_e0 s4_ s5_ s4 (w64 (i7 + (1))) i8) h5
 else
 bif (decide (i7 < (s4_.len : Int))) then
 ixS s4_ 1 i7 fun p6 =>
 ldI .i64 p6 h fun n7 =>
 ixS s5_ 1 i8 fun p8 =>
 ldI .i64 p8 h fun n9 =>
 bif (decide (n7 < n9)) then
 ixS s4_ 1 i7 fun p10 =>
 ldI .i64 p10 h fun n11 =>
 newS 1 1 [.int .i64 n11] h fun s12 h13 =>
 app s6_ s12 1 h13 fun s14 h15 =>
 X0 (f56_e0 s4_ s5_ s14 (w64 (i7 + (1))) i8) h15
 else
 bif (i7 == (s4_.len : Int)) then
 ixS s5_ 1 i8 fun p16 =>
 ldI .i64 p16 h fun n17 =>
 newS 1 1 [.int .i64 n17] h fun s18 h19 =>
 app s6_ s18 1 h19 fun s20 h21 =>
 X0 (f56_e0 s4_ s5_ s20 i7 (w64 (i8 + (1)))) h21
 else
 ixS s5_ 1 i8 fun p22 =>
 ldI .i64 p22 h fun n23 =>
 ixS s4_ 1 i7 fun p24 =>
 ldI .i64 p24 h fun n25 =>
 bif (decide (n23 < n25)) then
 ixS s5_ 1 i8 fun p26 =>
 ldI .i64 p26 h fun n27 =>
 newS 1 1 [.int .i64 n27] h fun s28 h29 =>
 app s6_ s28 1 h29 fun s30 h31 =>
 X0 (f56_e0 s4_ s5_ s30 i7 (w64 (i8 + (1)))) h31
 else
 X0 (f56_e0 s4_ s5_ s6_ (w64 (i7 + (1))) i8) h
 else
 bif (i7 == (s4_.len : Int)) then
 ixS s5_ 1 i8 fun p32 =>
 ldI .i64 p32 h fun n33 =>
 newS 1 1 [.int .i64 n33] h fun s34 h35 =>
 app s6_ s34 1 h35 fun s36 h37 =>
 X0 (f56_e0 s4_ s5_ s36 i7 (w64 (i8 + (1)))) h37
 else
 ixS s5_ 1 i8 fun p38 =>
 ldI .i64 p38 h fun n39 =>
 ixS s4_ 1 i7 fun p40 =>
 ldI .i64 p40 h fun n41 =>
 bif (decide (n39 < n41)) then
 ixS s5_ 1 i8 fun p42 =>
 ldI .i64 p42 h fun n43 =>
 newS 1 1 [.int .i64 n43] h fun s44 h45 =>
 app s6_ s44 1 h45 fun s46 h47 =>
 X0 (f56_e0 s4_ s5_ s46 i7 (w64 (i8 + (1)))) h47
 else
 X0 (f56_e0 s4_ s5_ s6_ (w64 (i7 + (1))) i8) h
 else
 bif (decide (i8 < (s5_.len : Int))) then
 bif (i8 == (s5_.len : Int)) then
 ixS s4_ 1 i7 fun p48 =>
 ldI .i64 p48 h fun n49 =>
 newS 1 1 [.int .i64 n49] h fun s50 h51 =>
 app s6_ s50 1 h51 fun s52 h53 =>
 X0 (f56_e0 s4_ s5_ s52 (w64 (i7 + (1))) i8) h53
 else
 bif (decide (i7 < (s4_.len : Int))) then
 ixS s4_ 1 i7 fun p54 =>
 ldI .i64 p54 h fun n55 =>
 ixS s5_ 1 i8 fun p56 =>
 ldI .i64 p56 h fun n57 =>
 bif (decide (n55 < n57)) then
 ixS s4_ 1 i7 fun p58 =>
 ldI .i64 p58 h fun n59 =>
 newS 1 1 [.int .i64 n59] h fun s60 h61 =>
 app s6_ s60 1 h61 fun s62 h63 =>
 X0 (f56_e0 s4_ s5_ s62 (w64 (i7 + (1))) i8) h63
 else
 bif (i7 == (s4_.len : Int)) then
 ixS s5_ 1 i8 fun p64 =>
 ldI .i64 p64 h fun n65 =>
 newS 1 1 [.int .i64 n65] h fun s66 h67 =>
 app s6_ s66 1 h67 fun s68 h69 =>
 X0 (f56_e0 s4_ s5_ s68 i7 (w64 (i8 + (1)))) h69
 else
 ixS s5_ 1 i8 fun p70 =>
 ldI .i64 p70 h fun n71 =>
 ixS s4_ 1 i7 fun p72 =>
 ldI .i64 p72 h fun n73 =>
 bif (decide (n71 < n73)) then
 ixS s5_ 1 i8 fun p74 =>
 ldI .i64 p74 h fun n75 =>
 newS 1 1 [.int .i64 n75] h fun s76 h77 =>
 app s6_ s76 1 h77 fun s78 h79 =>
 X0 (f56_e0 s4_ s5_ s78 i7 (w64 (i8 + (1)))) h79
 else
 X0 (f56_e0 s4_ s5_ s6_ (w64 (i7 + (1))) i8) h
 else
 bif (i7 == (s4_.len : Int)) then
 ixS s5_ 1 i8 fun p80 =>
 ldI .i64 p80 h fun n81 =>
 newS 1 1 [.int .i64 n81] h fun s82 h83 =>
 app s6_ s82 1 h83 fun s84 h85 =>
 X0 (f56_e0 s4_ s5_ s84 i7 (w64 (i8 + (1)))) h85
 else
 ixS s5_ 1 i8 fun p86 =>
 ldI .i64 p86 h fun n87 =>
 ixS s4_ 1 i7 fun p88 =>
 ldI .i64 p88 h fun n89 =>
 bif (decide (n87 < n89)) then
 ixS s5_ 1 i8 fun p90 =>
 ldI .i64 p90 h fun n91 =>
 newS 1 1 [.int .i64 n91] h fun s92 h93 =>
 app s6_ s92 1 h93 fun s94 h95 =>
 X0 (f56_e0 s4_ s5_ s94 i7 (w64 (i8 + (1)))) h95
 else
 X0 (f56_e0 s4_ s5_ s6_ (w64 (i7 + (1))) i8) h
 else
 f56_C0 S K s6_ h
theorem f56_link0 (S : SatT) (K : KT) (X0 : XT) (s4_ s5_ s6_ : Sl) (i7 i8 : Int) (h : H) : f56_w0 S K X0 (f56_e0 s4_ s5_ s6_ i7 i8) h = f56_b0 S K X0 s4_ s5_ s6_ i7 i8 h := by kernel_rfl
theorem f56_rule0 (S : SatT) (K : KT) (s4_ s5_ : Sl) (I_ : Sl → Int → Int → H → Prop) (m_ : Sl → Int → Int → H → Nat)
  (hs : ∀ (X0 : XT) (s6_ : Sl) (i7 i8 : Int) (h : H), I_ s6_ i7 i8 h → (∀ (s6_' : Sl) (i7' i8' : Int) (h' : H), I_ s6_' i7' i8' h' → m_ s6_' i7' i8' h' < m_ s6_ i7 i8 h → X0 (f56_e0 s4_ s5_ s6_' i7' i8') h') → f56_b0 S K X0 s4_ s5_ s6_ i7 i8 h) (s6_ : Sl) (i7 i8 : Int) {h : H} (h0 : I_ s6_ i7 i8 h) : f56_L0 S K s4_ s5_ s6_ i7 i8 h :=
 loop_rule (σ := (Sl) × (Int) × (Int)) (fun s_ => f56_e0 s4_ s5_ (s_.1) (s_.2.1) (s_.2.2)) (fun s_ h => I_ (s_.1) (s_.2.1) (s_.2.2) h) (fun s_ h => m_ (s_.1) (s_.2.1) (s_.2.2) h)
  (fun X s_ h hi hx => (f56_link0 S K X s4_ s5_ (s_.1) (s_.2.1) (s_.2.2) h).mpr (hs X (s_.1) (s_.2.1) (s_.2.2) h hi fun s6_' i7' i8' h' hi' hm' => hx (s6_', i7', i8') h' hi' hm')) (s6_, i7, i8) h0
def f56_main (S : SatT) (K : KT) (x0 : Sl) (h : H) : Prop :=
 bif (decide ((x0.len : Int) < (2))) then
 K (.sl x0) h
 else
 nz (2) (
 slotK 12 h fun h0 =>
 cut x0 1 (0) (w64 (Int.tdiv (x0.len : Int) (2))) h0 fun s1 =>
 callS S i_f56 [.sl s1] h0 fun s3 h2 =>
 cut x0 1 (w64 (Int.tdiv (x0.len : Int) (2))) (x0.len : Int) h2 fun s4 =>
 okS h0 x0 ∧ (
 callS S i_f56 [.sl s4] h2 fun s6 h5 =>
 newSat 0 1 [] h5 (h.length + 8) fun s7 h8 =>
 okS h5 x0 ∧ (
 okS h5 x0 ∧ (
 okS h8 x0 ∧ (
 okS h8 x0 ∧ (
 f56_L0 S K s3 s6 s7 (0) (0) h8))))))
theorem f56_main_link (S : SatT) (K : KT) (x0 : Sl) (h : H) : cwp S tab f56_M [] (bodyOf Try.f58) (kFun tab Try.f58.results.toList K) (fr0 Try.f58 [.sl x0]) h = f56_main S K x0 h := by kernel_rfl
theorem f56_call (x0 : Sl) (h : H) (K : Sl → H → Prop) (hm : f56_main (Sat Try.prog) (fun v h' => ∃ r, v = .sl r ∧ K r h') x0 h) : callS (Sat Try.prog) i_f56 [.sl x0] h K := by
 have := Sat.ex tok mixed f56_M Try.func58 (c := bodyOf Try.f58) (by kernel_rfl) (calls_of Try.func58 (c := bodyOf Try.f58) (by kernel_rfl) (by decide)) ((f56_main_link _ _ x0 h).mpr hm)
 obtain ⟨v, h2, h3, r, rfl, h4⟩ := this; exact ⟨r, h2, h3, h4⟩
def f94_M : Nat → List Nat := fun i => bif i == 0 then [1, 2, 4, 5, 6] else []
def f94_ks2 (S : SatT) (K : KT) : Kont := kSeq (cwp S tab f94_M [] (sub [1, 1, 1] (bodyOf Try.f96)) (kFun tab (Try.f96).results.toList K)) (kFun tab (Try.f96).results.toList K)
def f94_e0 (s1_ : Sl) (p2_ p4_ : Pt) (s5_ : Sl) (i6 : Int) : Frame := [U, .sl s1_, .ptr p2_, U, .ptr p4_, .sl s5_, .int .i64 i6, U, U, U, U, U, U, U, U, U, U, U, U, U, U, U, U, U, U, U, U, U, U, U, U, U, U, U, U, U, U, U, U, U, U, U, U, U, U, U, U, U, U]
def f94_w0 (S : SatT) (K : KT) : (XT) → XT := fun X fr h => cwp S tab f94_M (f94_M 0) (sub [1, 1, 0, 1, 0, 0] (bodyOf Try.f96)) (kSeq (fun fr h => X (mask (f94_M 0) fr) h) (kBlk 0 (f94_ks2 S K))) fr h
def f94_L0 (S : SatT) (K : KT) (s1_ : Sl) (p2_ p4_ : Pt) (s5_ : Sl) (i6 : Int) (h : H) : Prop := loopK (f94_w0 S K) (f94_e0 s1_ p2_ p4_ s5_ i6) h
def f94_C0 (S : SatT) (K : KT) (p2_ p4_ : Pt) (s5_ : Sl) (h : H) : Prop :=
 isPt p2_ (
 ldI .i64 (Pt.add p2_ 0) h fun n0 =>
 callA S i_f105 [.int .i64 n0, .sl s5_] h fun cs2 h1 =>
 stN p4_ 2 cs2 h1 fun h3 =>
 ldA p4_ 2 h3 fun cs4 =>
 K (.agg cs4) h3)
def f94_b0 (S : SatT) (K : KT) (X0 : XT) (s1_ : Sl) (p2_ p4_ : Pt) (s5_ : Sl) (i6 : Int) (h : H) : Prop :=
 isPt p2_ (
 ldS (Pt.add p2_ 1) h fun s0 =>
 bif (decide (i6 < (s0.len : Int))) then
 isPt p2_ (
 ldS (Pt.add p2_ 1) h fun s1 =>
 ixS s1 4 i6 fun p2 =>
 ldA p2 4 h fun cs3 =>
 newO [.int .i64 (0), .int .i64 (0), .int .i64 (0), .int .i64 (0)] h fun p4 h5 =>
 stN p4 4 cs3 h5 fun h6 =>
 ixA p4 4 1 (0) fun p7 =>
 ldI .i64 p7 h6 fun n8 =>
 ixS s1_ 1 n8 fun p9 =>
 ldI .i64 p9 h6 fun n10 =>
 ixA p4 4 1 (1) fun p11 =>
 ldI .i64 p11 h6 fun n12 =>
 ixS s1_ 1 n12 fun p13 =>
 ldI .i64 p13 h6 fun n14 =>
 ixA p4 4 1 (2) fun p15 =>
 ldI .i64 p15 h6 fun n16 =>
 ixS s1_ 1 n16 fun p17 =>
 ldI .i64 p17 h6 fun n18 =>
 ixA p4 4 1 (3) fun p19 =>
 ldI .i64 p19 h6 fun n20 =>
 ixS s1_ 1 n20 fun p21 =>
 ldI .i64 p21 h6 fun n22 =>
 lenA [.int .i64 n10, .int .i64 n14, .int .i64 n18, .int .i64 n22] 4 (
 newS 1 4 (spl [.int .i64 (0), .int .i64 (0), .int .i64 (0), .int .i64 (0)] 0 4 [.int .i64 n10, .int .i64 n14, .int .i64 n18, .int .i64 n22]) h6 fun s23 h24 =>
 app s5_ s23 4 h24 fun s25 h26 =>
 X0 (f94_e0 s1_ p2_ p4_ s25 (w64 (i6 + (1)))) h26))
 else
 f94_C0 S K p2_ p4_ s5_ h)
theorem f94_link0 (S : SatT) (K : KT) (X0 : XT) (s1_ : Sl) (p2_ p4_ : Pt) (s5_ : Sl) (i6 : Int) (h : H) : f94_w0 S K X0 (f94_e0 s1_ p2_ p4_ s5_ i6) h = f94_b0 S K X0 s1_ p2_ p4_ s5_ i6 h := by kernel_rfl
theorem f94_rule0 (S : SatT) (K : KT) (s1_ : Sl) (p2_ p4_ : Pt) (I_ : Sl → Int → H → Prop) (m_ : Sl → Int → H → Nat)
  (hs : ∀ (X0 : XT) (s5_ : Sl) (i6 : Int) (h : H), I_ s5_ i6 h → (∀ (s5_' : Sl) (i6' : Int) (h' : H), I_ s5_' i6' h' → m_ s5_' i6' h' < m_ s5_ i6 h → X0 (f94_e0 s1_ p2_ p4_ s5_' i6') h') → f94_b0 S K X0 s1_ p2_ p4_ s5_ i6 h) (s5_ : Sl) (i6 : Int) {h : H} (h0 : I_ s5_ i6 h) : f94_L0 S K s1_ p2_ p4_ s5_ i6 h :=
 loop_rule (σ := (Sl) × (Int)) (fun s_ => f94_e0 s1_ p2_ p4_ (s_.1) (s_.2)) (fun s_ h => I_ (s_.1) (s_.2) h) (fun s_ h => m_ (s_.1) (s_.2) h)
  (fun X s_ h hi hx => (f94_link0 S K X s1_ p2_ p4_ (s_.1) (s_.2) h).mpr (hs X (s_.1) (s_.2) h hi fun s5_' i6' h' hi' hm' => hx (s5_', i6') h' hi' hm')) (s5_, i6) h0
def f94_main (S : SatT) (K : KT) (x0 : List AVal) (x1 : Sl) (h : H) : Prop :=
 newK 2 x0 h fun p0 h1 =>
 newO [.int .i64 (0), .sl Sl.nil] h1 fun p2 h3 =>
 newS 0 4 [] h3 fun s4 h5 =>
 f94_L0 S K x1 p0 p2 s4 (0) h5
theorem f94_main_link (S : SatT) (K : KT) (x0 : List AVal) (x1 : Sl) (h : H) : cwp S tab f94_M [] (bodyOf Try.f96) (kFun tab Try.f96.results.toList K) (fr0 Try.f96 [.agg x0, .sl x1]) h = f94_main S K x0 x1 h := by kernel_rfl
theorem f94_call (x0 : List AVal) (x1 : Sl) (h : H) (K : List AVal → H → Prop) (hm : f94_main (Sat Try.prog) (fun v h' => ∃ r, v = .agg r ∧ K r h') x0 x1 h) : callA (Sat Try.prog) i_f94 [.agg x0, .sl x1] h K := by
 have := Sat.ex tok mixed f94_M Try.func96 (c := bodyOf Try.f96) (by kernel_rfl) (calls_of Try.func96 (c := bodyOf Try.f96) (by kernel_rfl) (by decide)) ((f94_main_link _ _ x0 x1 h).mpr hm)
 obtain ⟨v, h2, h3, r, rfl, h4⟩ := this; exact ⟨r, h2, h3, h4⟩
def f107_M : Nat → List Nat := fun i => bif i == 0 then [0, 1, 7, 8] else []
def f107_ks1 (S : SatT) (K : KT) : Kont := kSeq (cwp S tab f107_M [] (sub [1, 1] (bodyOf Try.f109)) (kFun tab (Try.f109).results.toList K)) (kFun tab (Try.f109).results.toList K)
def f107_e0 (s0_ : Sl) (f1_ : AVal) (i7 i8 : Int) : Frame := [.sl s0_, f1_, U, U, U, U, U, .int .i64 i7, .int .i64 i8, U, U, U, U, U, U, U, U, U, U]
def f107_w0 (S : SatT) (K : KT) : (XT) → XT := fun X fr h => cwp S tab f107_M (f107_M 0) (sub [1, 0, 1, 0, 0] (bodyOf Try.f109)) (kSeq (fun fr h => X (mask (f107_M 0) fr) h) (kBlk 0 (f107_ks1 S K))) fr h
def f107_L0 (S : SatT) (K : KT) (s0_ : Sl) (f1_ : AVal) (i7 i8 : Int) (h : H) : Prop := loopK (f107_w0 S K) (f107_e0 s0_ f1_ i7 i8) h
def f107_C0 (S : SatT) (K : KT) (h : H) : Prop :=
 K (.int .i64 (-1)) h
def f107_b0 (S : SatT) (K : KT) (X0 : XT) (s0_ : Sl) (f1_ : AVal) (i7 i8 : Int) (h : H) : Prop :=
 bif (decide (i8 < i7)) then
 ixS s0_ 1 i8 fun p0 =>
 ldI .i64 p0 h fun n1 =>
 viaF f1_ [.int .i64 n1] fun g2 ys3 =>
 callB S g2 ys3 h fun b5 h4 =>
 bif b5 then
 K (.int .i64 i8) h4
 else
 X0 (f107_e0 s0_ f1_ i7 (w64 (i8 + (1)))) h4
 else
 f107_C0 S K h
theorem f107_link0 (S : SatT) (K : KT) (X0 : XT) (s0_ : Sl) (f1_ : AVal) (i7 i8 : Int) (h : H) : f107_w0 S K X0 (f107_e0 s0_ f1_ i7 i8) h = f107_b0 S K X0 s0_ f1_ i7 i8 h := by kernel_rfl
theorem f107_rule0 (S : SatT) (K : KT) (s0_ : Sl) (f1_ : AVal) (i7 : Int) (I_ : Int → H → Prop) (m_ : Int → H → Nat)
  (hs : ∀ (X0 : XT) (i8 : Int) (h : H), I_ i8 h → (∀ (i8' : Int) (h' : H), I_ i8' h' → m_ i8' h' < m_ i8 h → X0 (f107_e0 s0_ f1_ i7 i8') h') → f107_b0 S K X0 s0_ f1_ i7 i8 h) (i8 : Int) {h : H} (h0 : I_ i8 h) : f107_L0 S K s0_ f1_ i7 i8 h :=
 loop_rule (σ := (Int)) (fun s_ => f107_e0 s0_ f1_ i7 (s_)) (fun s_ h => I_ (s_) h) (fun s_ h => m_ (s_) h)
  (fun X s_ h hi hx => (f107_link0 S K X s0_ f1_ i7 (s_) h).mpr (hs X (s_) h hi fun i8' h' hi' hm' => hx (i8') h' hi' hm')) (i8) h0
def f107_main (S : SatT) (K : KT) (x0 : Sl) (x1 : AVal) (h : H) : Prop :=
 f107_L0 S K x0 x1 (x0.len : Int) (0) h
theorem f107_main_link (S : SatT) (K : KT) (x0 : Sl) (x1 : AVal) (h : H) : cwp S tab f107_M [] (bodyOf Try.f109) (kFun tab Try.f109.results.toList K) (fr0 Try.f109 [.sl x0, x1]) h = f107_main S K x0 x1 h := by kernel_rfl
theorem f107_call (x0 : Sl) (x1 : AVal) (h : H) (K : Int → H → Prop) (hm : f107_main (Sat Try.prog) (fun v h' => ∃ r, v = .int .i64 r ∧ K r h') x0 x1 h) : callI (Sat Try.prog) .i64 i_f107 [.sl x0, x1] h K := by
 have := Sat.ex tok mixed f107_M Try.func109 (c := bodyOf Try.f109) (by kernel_rfl) (calls_of Try.func109 (c := bodyOf Try.f109) (by kernel_rfl) (by decide)) ((f107_main_link _ _ x0 x1 h).mpr hm)
 obtain ⟨v, h2, h3, r, rfl, h4⟩ := this; exact ⟨r, h2, h3, h4⟩
def f95_M : Nat → List Nat := fun i => bif i == 0 then [0, 1, 5, 6] else []
def f95_ks2 (S : SatT) (K : KT) : Kont := kSeq (cwp S tab f95_M [] (sub [1, 1, 1] (bodyOf Try.f97)) (kFun tab (Try.f97).results.toList K)) (kFun tab (Try.f97).results.toList K)
def f95_e0 (p0_ : Pt) (i1 : Int) (s5_ : Sl) (i6 : Int) : Frame := [.ptr p0_, .int .i64 i1, U, U, U, .sl s5_, .int .i64 i6, U, U, U, U, U, U, U, U, U, U, U, U, U, U, U, U, U, U, U, U, U, U, U]
def f95_w0 (S : SatT) (K : KT) : (XT) → XT := fun X fr h => cwp S tab f95_M (f95_M 0) (sub [1, 1, 0, 1, 0, 0] (bodyOf Try.f97)) (kSeq (fun fr h => X (mask (f95_M 0) fr) h) (kBlk 0 (f95_ks2 S K))) fr h
def f95_L0 (S : SatT) (K : KT) (p0_ : Pt) (i1 : Int) (s5_ : Sl) (i6 : Int) (h : H) : Prop := loopK (f95_w0 S K) (f95_e0 p0_ i1 s5_ i6) h
def f95_C0 (S : SatT) (K : KT) (s5_ : Sl) (h : H) : Prop :=
 K (.sl s5_) h
def f95_b0 (S : SatT) (K : KT) (X0 : XT) (p0_ : Pt) (i1 : Int) (s5_ : Sl) (i6 : Int) (h : H) : Prop :=
 bif (decide (i6 < i1)) then
 callI S .i64 i_f80 [.ptr p0_, .int .i64 (w64 (i6 + (1)))] h fun n1 h0 =>
 slotK 12 h0 fun h2 =>
 cut s5_ 1 (0) n1 h2 fun s3 =>
 callS S i_f78 [.sl s3] h2 fun s5 h4 =>
 cut s5_ 1 n1 (s5_.len : Int) h4 fun s6 =>
 okS h2 s5_ ∧ (
 newSat 1 1 [.int .i64 i6] h4 (h0.length + 5) fun s7 h8 =>
 okS h4 s5_ ∧ (
 okS h8 s5_ ∧ (
 okS h8 s5_ ∧ (
 app s5 s7 1 h8 fun s9 h10 =>
 okS h10 s5_ ∧ (
 app s9 s6 1 h10 fun s11 h12 =>
 X0 (f95_e0 p0_ i1 s11 (w64 (i6 + (1)))) h12)))))
 else
 f95_C0 S K s5_ h
theorem f95_link0 (S : SatT) (K : KT) (X0 : XT) (p0_ : Pt) (i1 : Int) (s5_ : Sl) (i6 : Int) (h : H) : f95_w0 S K X0 (f95_e0 p0_ i1 s5_ i6) h = f95_b0 S K X0 p0_ i1 s5_ i6 h := by kernel_rfl
theorem f95_rule0 (S : SatT) (K : KT) (p0_ : Pt) (i1 : Int) (I_ : Sl → Int → H → Prop) (m_ : Sl → Int → H → Nat)
  (hs : ∀ (X0 : XT) (s5_ : Sl) (i6 : Int) (h : H), I_ s5_ i6 h → (∀ (s5_' : Sl) (i6' : Int) (h' : H), I_ s5_' i6' h' → m_ s5_' i6' h' < m_ s5_ i6 h → X0 (f95_e0 p0_ i1 s5_' i6') h') → f95_b0 S K X0 p0_ i1 s5_ i6 h) (s5_ : Sl) (i6 : Int) {h : H} (h0 : I_ s5_ i6 h) : f95_L0 S K p0_ i1 s5_ i6 h :=
 loop_rule (σ := (Sl) × (Int)) (fun s_ => f95_e0 p0_ i1 (s_.1) (s_.2)) (fun s_ h => I_ (s_.1) (s_.2) h) (fun s_ h => m_ (s_.1) (s_.2) h)
  (fun X s_ h hi hx => (f95_link0 S K X p0_ i1 (s_.1) (s_.2) h).mpr (hs X (s_.1) (s_.2) h hi fun s5_' i6' h' hi' hm' => hx (s5_', i6') h' hi' hm')) (s5_, i6) h0
def f95_main (S : SatT) (K : KT) (x0 : Pt) (x1 : Int) (h : H) : Prop :=
 newS 0 1 [] h fun s0 h1 =>
 f95_L0 S K x0 x1 s0 (0) h1
theorem f95_main_link (S : SatT) (K : KT) (x0 : Pt) (x1 : Int) (h : H) : cwp S tab f95_M [] (bodyOf Try.f97) (kFun tab Try.f97.results.toList K) (fr0 Try.f97 [.ptr x0, .int .i64 x1]) h = f95_main S K x0 x1 h := by kernel_rfl
theorem f95_call (x0 : Pt) (x1 : Int) (h : H) (K : Sl → H → Prop) (hm : f95_main (Sat Try.prog) (fun v h' => ∃ r, v = .sl r ∧ K r h') x0 x1 h) : callS (Sat Try.prog) i_f95 [.ptr x0, .int .i64 x1] h K := by
 have := Sat.ex tok mixed f95_M Try.func97 (c := bodyOf Try.f97) (by kernel_rfl) (calls_of Try.func97 (c := bodyOf Try.f97) (by kernel_rfl) (by decide)) ((f95_main_link _ _ x0 x1 h).mpr hm)
 obtain ⟨v, h2, h3, r, rfl, h4⟩ := this; exact ⟨r, h2, h3, h4⟩
def f79_M : Nat → List Nat := fun i => bif i == 0 then [3, 4, 5] else []
def f79_ks2 (S : SatT) (K : KT) : Kont := kSeq (cwp S tab f79_M [] (sub [1, 1, 1] (bodyOf Try.f81)) (kFun tab (Try.f81).results.toList K)) (kFun tab (Try.f81).results.toList K)
def f79_e0 (i3 i4 i5 : Int) : Frame := [U, U, U, .int .i64 i3, .int .i64 i4, .int .i64 i5, U, U, U, U, U, U, U, U, U, U, U, U, U, U, U, U, U]
def f79_w0 (S : SatT) (K : KT) : (XT) → XT := fun X fr h => cwp S tab f79_M (f79_M 0) (sub [1, 1, 0, 1, 0, 0] (bodyOf Try.f81)) (kSeq (fun fr h => X (mask (f79_M 0) fr) h) (kBlk 0 (f79_ks2 S K))) fr h
def f79_L0 (S : SatT) (K : KT) (i3 i4 i5 : Int) (h : H) : Prop := loopK (f79_w0 S K) (f79_e0 i3 i4 i5) h
def f79_C0 (S : SatT) (K : KT) (i3 : Int) (h : H) : Prop :=
 K (.int .i64 i3) h
def f79_b0 (S : SatT) (K : KT) (X0 : XT) (i3 i4 i5 : Int) (h : H) : Prop :=
 bif (decide (i5 > (0))) then
 nz (2) (
 bif ((Int.tmod i5 (2)) == (1)) then
 nz (10007) (
 nz (10007) (
 nz (2) (
 X0 (f79_e0 (Int.tmod (w64 (i3 * i4)) (10007)) (Int.tmod (w64 (i4 * i4)) (10007)) (w64 (Int.tdiv i5 (2)))) h)))
 else
 nz (10007) (
 nz (2) (
 X0 (f79_e0 i3 (Int.tmod (w64 (i4 * i4)) (10007)) (w64 (Int.tdiv i5 (2)))) h)))
 else
 f79_C0 S K i3 h
theorem f79_link0 (S : SatT) (K : KT) (X0 : XT) (i3 i4 i5 : Int) (h : H) : f79_w0 S K X0 (f79_e0 i3 i4 i5) h = f79_b0 S K X0 i3 i4 i5 h := by kernel_rfl
theorem f79_rule0 (S : SatT) (K : KT) (I_ : Int → Int → Int → H → Prop) (m_ : Int → Int → Int → H → Nat)
  (hs : ∀ (X0 : XT) (i3 i4 i5 : Int) (h : H), I_ i3 i4 i5 h → (∀ (i3' i4' i5' : Int) (h' : H), I_ i3' i4' i5' h' → m_ i3' i4' i5' h' < m_ i3 i4 i5 h → X0 (f79_e0 i3' i4' i5') h') → f79_b0 S K X0 i3 i4 i5 h) (i3 i4 i5 : Int) {h : H} (h0 : I_ i3 i4 i5 h) : f79_L0 S K i3 i4 i5 h :=
 loop_rule (σ := (Int) × (Int) × (Int)) (fun s_ => f79_e0 (s_.1) (s_.2.1) (s_.2.2)) (fun s_ h => I_ (s_.1) (s_.2.1) (s_.2.2) h) (fun s_ h => m_ (s_.1) (s_.2.1) (s_.2.2) h)
  (fun X s_ h hi hx => (f79_link0 S K X (s_.1) (s_.2.1) (s_.2.2) h).mpr (hs X (s_.1) (s_.2.1) (s_.2.2) h hi fun i3' i4' i5' h' hi' hm' => hx (i3', i4', i5') h' hi' hm')) (i3, i4, i5) h0
def f79_main (S : SatT) (K : KT) (x0 : Int) (h : H) : Prop :=
 f79_L0 S K (1) x0 (10005) h
theorem f79_main_link (S : SatT) (K : KT) (x0 : Int) (h : H) : cwp S tab f79_M [] (bodyOf Try.f81) (kFun tab Try.f81.results.toList K) (fr0 Try.f81 [.int .i64 x0]) h = f79_main S K x0 h := by kernel_rfl
theorem f79_call (x0 : Int) (h : H) (K : Int → H → Prop) (hm : f79_main (Sat Try.prog) (fun v h' => ∃ r, v = .int .i64 r ∧ K r h') x0 h) : callI (Sat Try.prog) .i64 i_f79 [.int .i64 x0] h K := by
 have := Sat.ex tok mixed f79_M Try.func81 (c := bodyOf Try.f81) (by kernel_rfl) (calls_of Try.func81 (c := bodyOf Try.f81) (by kernel_rfl) (by decide)) ((f79_main_link _ _ x0 h).mpr hm)
 obtain ⟨v, h2, h3, r, rfl, h4⟩ := this; exact ⟨r, h2, h3, h4⟩
def f59_M : Nat → List Nat := fun i => bif i == 0 then [0, 3, 4] else []
def f59_ks2 (S : SatT) (K : KT) : Kont := kSeq (cwp S tab f59_M [] (sub [1, 1, 1] (bodyOf Try.f61)) (kFun tab (Try.f61).results.toList K)) (kFun tab (Try.f61).results.toList K)
def f59_e0 (s0_ : Sl) (p3_ : Pt) (i4 : Int) : Frame := [.sl s0_, U, U, .ptr p3_, .int .i64 i4, U, U, U, U, U, U, U, U, U, U, U, U, U, U, U, U, U, U, U, U, U, U, U, U, U, U, U, U, U, U, U, U, U]
def f59_w0 (S : SatT) (K : KT) : (XT) → XT := fun X fr h => cwp S tab f59_M (f59_M 0) (sub [1, 1, 0, 1, 0, 0] (bodyOf Try.f61)) (kSeq (fun fr h => X (mask (f59_M 0) fr) h) (kBlk 0 (f59_ks2 S K))) fr h
def f59_L0 (S : SatT) (K : KT) (s0_ : Sl) (p3_ : Pt) (i4 : Int) (h : H) : Prop := loopK (f59_w0 S K) (f59_e0 s0_ p3_ i4) h
def f59_C0 (S : SatT) (K : KT) (p3_ : Pt) (h : H) : Prop :=
 K (.ptr p3_) h
def f59_b0 (S : SatT) (K : KT) (X0 : XT) (s0_ : Sl) (p3_ : Pt) (i4 : Int) (h : H) : Prop :=
 bif (decide (i4 < (s0_.len : Int))) then
 bif (decide (i4 < (4096))) then
 nilC (.ptr p3_) (
 isPt p3_ (
 ldI .u64 (Pt.add p3_ 2) h fun n0 =>
 ixS s0_ 1 i4 fun p1 =>
 ldI .u8 p1 h fun n2 =>
 nilC (.ptr p3_) (
 isPt p3_ (
 st1 (Pt.add p3_ 2) (.int .u64 (IntKind.wrap .u64 ((IntKind.wrap .u64 ((IntKind.wrap .u64 (n0 * (1099511628211))) + (IntKind.wrap .u64 (n2)))) + (191)))) h fun h3 =>
 X0 (f59_e0 s0_ p3_ (w64 (i4 + (1)))) h3))))
 else
 f59_C0 S K p3_ h
 else
 f59_C0 S K p3_ h
theorem f59_link0 (S : SatT) (K : KT) (X0 : XT) (s0_ : Sl) (p3_ : Pt) (i4 : Int) (h : H) : f59_w0 S K X0 (f59_e0 s0_ p3_ i4) h = f59_b0 S K X0 s0_ p3_ i4 h := by kernel_rfl
theorem f59_rule0 (S : SatT) (K : KT) (s0_ : Sl) (p3_ : Pt) (I_ : Int → H → Prop) (m_ : Int → H → Nat)
  (hs : ∀ (X0 : XT) (i4 : Int) (h : H), I_ i4 h → (∀ (i4' : Int) (h' : H), I_ i4' h' → m_ i4' h' < m_ i4 h → X0 (f59_e0 s0_ p3_ i4') h') → f59_b0 S K X0 s0_ p3_ i4 h) (i4 : Int) {h : H} (h0 : I_ i4 h) : f59_L0 S K s0_ p3_ i4 h :=
 loop_rule (σ := (Int)) (fun s_ => f59_e0 s0_ p3_ (s_)) (fun s_ h => I_ (s_) h) (fun s_ h => m_ (s_) h)
  (fun X s_ h hi hx => (f59_link0 S K X s0_ p3_ (s_) h).mpr (hs X (s_) h hi fun i4' h' hi' hm' => hx (i4') h' hi' hm')) (i4) h0
def f59_main (S : SatT) (K : KT) (x0 : Sl) (h : H) : Prop :=
 newK 3 [.sl x0, .int .i64 (0), .int .u64 (IntKind.wrap .u64 ((13541) + (IntKind.wrap .u64 ((x0.len : Int)))))] h fun p0 h1 =>
 f59_L0 S K x0 p0 (0) h1
theorem f59_main_link (S : SatT) (K : KT) (x0 : Sl) (h : H) : cwp S tab f59_M [] (bodyOf Try.f61) (kFun tab Try.f61.results.toList K) (fr0 Try.f61 [.sl x0]) h = f59_main S K x0 h := by kernel_rfl
theorem f59_call (x0 : Sl) (h : H) (K : Pt → H → Prop) (hm : f59_main (Sat Try.prog) (fun v h' => ∃ r, v = .ptr r ∧ K r h') x0 h) : callP (Sat Try.prog) i_f59 [.sl x0] h K := by
 have := Sat.ex tok mixed f59_M Try.func61 (c := bodyOf Try.f61) (by kernel_rfl) (calls_of Try.func61 (c := bodyOf Try.f61) (by kernel_rfl) (by decide)) ((f59_main_link _ _ x0 h).mpr hm)
 obtain ⟨v, h2, h3, r, rfl, h4⟩ := this; exact ⟨r, h2, h3, h4⟩
def f85_M : Nat → List Nat := fun i => bif i == 0 then [0, 3, 5] else []
def f85_ks1 (S : SatT) (K : KT) : Kont := kSeq (cwp S tab f85_M [] (sub [1, 1] (bodyOf Try.f87)) (kFun tab (Try.f87).results.toList K)) (kFun tab (Try.f87).results.toList K)
def f85_e0 (i0 : Int) (p3_ : Pt) (i5 : Int) : Frame := [.int .i64 i0, U, U, .ptr p3_, U, .int .i64 i5, U, U, U, U, U, U, U, U, U, U, U]
def f85_w0 (S : SatT) (K : KT) : (XT) → XT := fun X fr h => cwp S tab f85_M (f85_M 0) (sub [1, 0, 1, 0, 0] (bodyOf Try.f87)) (kSeq (fun fr h => X (mask (f85_M 0) fr) h) (kBlk 0 (f85_ks1 S K))) fr h
def f85_L0 (S : SatT) (K : KT) (i0 : Int) (p3_ : Pt) (i5 : Int) (h : H) : Prop := loopK (f85_w0 S K) (f85_e0 i0 p3_ i5) h
def f85_C0 (S : SatT) (K : KT) (h : H) : Prop :=
 K (.bool true) h
def f85_b0 (S : SatT) (K : KT) (X0 : XT) (i0 : Int) (p3_ : Pt) (i5 : Int) (h : H) : Prop :=
 bif (decide (i5 < (4))) then
 ixA p3_ 4 1 i5 fun p0 =>
 ldI .i64 p0 h fun n1 =>
 callB S i_f41 [.int .i64 n1, .int .i64 (0), .int .i64 (w64 (i0 - (1)))] h fun b3 h2 =>
 bif (!b3) then
 K (.bool false) h2
 else
 X0 (f85_e0 i0 p3_ (w64 (i5 + (1)))) h2
 else
 f85_C0 S K h
theorem f85_link0 (S : SatT) (K : KT) (X0 : XT) (i0 : Int) (p3_ : Pt) (i5 : Int) (h : H) : f85_w0 S K X0 (f85_e0 i0 p3_ i5) h = f85_b0 S K X0 i0 p3_ i5 h := by kernel_rfl
theorem f85_rule0 (S : SatT) (K : KT) (i0 : Int) (p3_ : Pt) (I_ : Int → H → Prop) (m_ : Int → H → Nat)
  (hs : ∀ (X0 : XT) (i5 : Int) (h : H), I_ i5 h → (∀ (i5' : Int) (h' : H), I_ i5' h' → m_ i5' h' < m_ i5 h → X0 (f85_e0 i0 p3_ i5') h') → f85_b0 S K X0 i0 p3_ i5 h) (i5 : Int) {h : H} (h0 : I_ i5 h) : f85_L0 S K i0 p3_ i5 h :=
 loop_rule (σ := (Int)) (fun s_ => f85_e0 i0 p3_ (s_)) (fun s_ h => I_ (s_) h) (fun s_ h => m_ (s_) h)
  (fun X s_ h hi hx => (f85_link0 S K X i0 p3_ (s_) h).mpr (hs X (s_) h hi fun i5' h' hi' hm' => hx (i5') h' hi' hm')) (i5) h0
def f85_main (S : SatT) (K : KT) (x0 : Int) (x1 : List AVal) (h : H) : Prop :=
 newK 4 x1 h fun p0 h1 =>
 f85_L0 S K x0 p0 (0) h1
theorem f85_main_link (S : SatT) (K : KT) (x0 : Int) (x1 : List AVal) (h : H) : cwp S tab f85_M [] (bodyOf Try.f87) (kFun tab Try.f87.results.toList K) (fr0 Try.f87 [.int .i64 x0, .agg x1]) h = f85_main S K x0 x1 h := by kernel_rfl
theorem f85_call (x0 : Int) (x1 : List AVal) (h : H) (K : Bool → H → Prop) (hm : f85_main (Sat Try.prog) (fun v h' => ∃ r, v = .bool r ∧ K r h') x0 x1 h) : callB (Sat Try.prog) i_f85 [.int .i64 x0, .agg x1] h K := by
 have := Sat.ex tok mixed f85_M Try.func87 (c := bodyOf Try.f87) (by kernel_rfl) (calls_of Try.func87 (c := bodyOf Try.f87) (by kernel_rfl) (by decide)) ((f85_main_link _ _ x0 x1 h).mpr hm)
 obtain ⟨v, h2, h3, r, rfl, h4⟩ := this; exact ⟨r, h2, h3, h4⟩
def f7_M : Nat → List Nat := fun i => bif i == 0 then [0, 1, 5] else []
def f7_ks4 (S : SatT) (K : KT) : Kont := kSeq (cwp S tab f7_M [] (sub [1, 1, 1] (bodyOf Try.f9)) (kFun tab (Try.f9).results.toList K)) (kFun tab (Try.f9).results.toList K)
def f7_e0 (s0_ s1_ : Sl) (i5 : Int) : Frame := [.sl s0_, .sl s1_, U, U, U, .int .i64 i5, U, U, U, U, U, U, U, U, U, U, U, U, U, U, U, U, U, U, U, U, U]
def f7_w0 (S : SatT) (K : KT) : (XT) → XT := fun X fr h => cwp S tab f7_M (f7_M 0) (sub [1, 1, 0, 1, 0, 0] (bodyOf Try.f9)) (kSeq (fun fr h => X (mask (f7_M 0) fr) h) (kBlk 0 (f7_ks4 S K))) fr h
def f7_L0 (S : SatT) (K : KT) (s0_ s1_ : Sl) (i5 : Int) (h : H) : Prop := loopK (f7_w0 S K) (f7_e0 s0_ s1_ i5) h
def f7_C0 (S : SatT) (K : KT) (h : H) : Prop :=
 K (.bool true) h
def f7_b0 (S : SatT) (K : KT) (X0 : XT) (s0_ s1_ : Sl) (i5 : Int) (h : H) : Prop :=
 bif (decide (i5 < (s0_.len : Int))) then
 ixS s0_ 1 i5 fun p0 =>
 ldS p0 h fun s1 =>
 ixS s1_ 1 i5 fun p2 =>
 ldS p2 h fun s3 =>
 callB S i_f15 [.sl s1, .sl s3] h fun b5 h4 =>
 bif (!b5) then
 K (.bool false) h4
 else
 X0 (f7_e0 s0_ s1_ (w64 (i5 + (1)))) h4
 else
 f7_C0 S K h
theorem f7_link0 (S : SatT) (K : KT) (X0 : XT) (s0_ s1_ : Sl) (i5 : Int) (h : H) : f7_w0 S K X0 (f7_e0 s0_ s1_ i5) h = f7_b0 S K X0 s0_ s1_ i5 h := by kernel_rfl
theorem f7_rule0 (S : SatT) (K : KT) (s0_ s1_ : Sl) (I_ : Int → H → Prop) (m_ : Int → H → Nat)
  (hs : ∀ (X0 : XT) (i5 : Int) (h : H), I_ i5 h → (∀ (i5' : Int) (h' : H), I_ i5' h' → m_ i5' h' < m_ i5 h → X0 (f7_e0 s0_ s1_ i5') h') → f7_b0 S K X0 s0_ s1_ i5 h) (i5 : Int) {h : H} (h0 : I_ i5 h) : f7_L0 S K s0_ s1_ i5 h :=
 loop_rule (σ := (Int)) (fun s_ => f7_e0 s0_ s1_ (s_)) (fun s_ h => I_ (s_) h) (fun s_ h => m_ (s_) h)
  (fun X s_ h hi hx => (f7_link0 S K X s0_ s1_ (s_) h).mpr (hs X (s_) h hi fun i5' h' hi' hm' => hx (i5') h' hi' hm')) (i5) h0
def f7_main (S : SatT) (K : KT) (x0 x1 : Sl) (h : H) : Prop :=
 bif ((x0.len : Int) != (x1.len : Int)) then
 K (.bool false) h
 else
 f7_L0 S K x0 x1 (0) h
theorem f7_main_link (S : SatT) (K : KT) (x0 x1 : Sl) (h : H) : cwp S tab f7_M [] (bodyOf Try.f9) (kFun tab Try.f9.results.toList K) (fr0 Try.f9 [.sl x0, .sl x1]) h = f7_main S K x0 x1 h := by kernel_rfl
theorem f7_call (x0 x1 : Sl) (h : H) (K : Bool → H → Prop) (hm : f7_main (Sat Try.prog) (fun v h' => ∃ r, v = .bool r ∧ K r h') x0 x1 h) : callB (Sat Try.prog) i_f7 [.sl x0, .sl x1] h K := by
 have := Sat.ex tok mixed f7_M Try.func9 (c := bodyOf Try.f9) (by kernel_rfl) (calls_of Try.func9 (c := bodyOf Try.f9) (by kernel_rfl) (by decide)) ((f7_main_link _ _ x0 x1 h).mpr hm)
 obtain ⟨v, h2, h3, r, rfl, h4⟩ := this; exact ⟨r, h2, h3, h4⟩
def f74_M : Nat → List Nat := fun i => bif i == 0 then [0, 1] else []
def f74_ks1 (S : SatT) (K : KT) : Kont := kSeq (cwp S tab f74_M [] (sub [1, 1] (bodyOf Try.f76)) (kFun tab (Try.f76).results.toList K)) (kFun tab (Try.f76).results.toList K)
def f74_e0 (i0 i1 : Int) : Frame := [.int .i64 i0, .int .i64 i1, U, U, U, U, U, U, U, U, U, U, U, U]
def f74_w0 (S : SatT) (K : KT) : (XT) → XT := fun X fr h => cwp S tab f74_M (f74_M 0) (sub [1, 0, 0, 0] (bodyOf Try.f76)) (kSeq (fun fr h => X (mask (f74_M 0) fr) h) (kBlk 0 (f74_ks1 S K))) fr h
def f74_L0 (S : SatT) (K : KT) (i0 i1 : Int) (h : H) : Prop := loopK (f74_w0 S K) (f74_e0 i0 i1) h
def f74_C0 (S : SatT) (K : KT) (i0 : Int) (h : H) : Prop :=
 K (.int .i64 i0) h
def f74_b0 (S : SatT) (K : KT) (X0 : XT) (i0 i1 : Int) (h : H) : Prop :=
 bif (decide (i1 > (0))) then
 nz i1 (
 X0 (f74_e0 i1 (Int.tmod i0 i1)) h)
 else
 f74_C0 S K i0 h
theorem f74_link0 (S : SatT) (K : KT) (X0 : XT) (i0 i1 : Int) (h : H) : f74_w0 S K X0 (f74_e0 i0 i1) h = f74_b0 S K X0 i0 i1 h := by kernel_rfl
theorem f74_rule0 (S : SatT) (K : KT) (I_ : Int → Int → H → Prop) (m_ : Int → Int → H → Nat)
  (hs : ∀ (X0 : XT) (i0 i1 : Int) (h : H), I_ i0 i1 h → (∀ (i0' i1' : Int) (h' : H), I_ i0' i1' h' → m_ i0' i1' h' < m_ i0 i1 h → X0 (f74_e0 i0' i1') h') → f74_b0 S K X0 i0 i1 h) (i0 i1 : Int) {h : H} (h0 : I_ i0 i1 h) : f74_L0 S K i0 i1 h :=
 loop_rule (σ := (Int) × (Int)) (fun s_ => f74_e0 (s_.1) (s_.2)) (fun s_ h => I_ (s_.1) (s_.2) h) (fun s_ h => m_ (s_.1) (s_.2) h)
  (fun X s_ h hi hx => (f74_link0 S K X (s_.1) (s_.2) h).mpr (hs X (s_.1) (s_.2) h hi fun i0' i1' h' hi' hm' => hx (i0', i1') h' hi' hm')) (i0, i1) h0
def f74_main (S : SatT) (K : KT) (x0 x1 : Int) (h : H) : Prop :=
 f74_L0 S K x0 x1 h
theorem f74_main_link (S : SatT) (K : KT) (x0 x1 : Int) (h : H) : cwp S tab f74_M [] (bodyOf Try.f76) (kFun tab Try.f76.results.toList K) (fr0 Try.f76 [.int .i64 x0, .int .i64 x1]) h = f74_main S K x0 x1 h := by kernel_rfl
theorem f74_call (x0 x1 : Int) (h : H) (K : Int → H → Prop) (hm : f74_main (Sat Try.prog) (fun v h' => ∃ r, v = .int .i64 r ∧ K r h') x0 x1 h) : callI (Sat Try.prog) .i64 i_f74 [.int .i64 x0, .int .i64 x1] h K := by
 have := Sat.ex tok mixed f74_M Try.func76 (c := bodyOf Try.f76) (by kernel_rfl) (calls_of Try.func76 (c := bodyOf Try.f76) (by kernel_rfl) (by decide)) ((f74_main_link _ _ x0 x1 h).mpr hm)
 obtain ⟨v, h2, h3, r, rfl, h4⟩ := this; exact ⟨r, h2, h3, h4⟩
def f33_M : Nat → List Nat := fun i => []
def f33_main (S : SatT) (K : KT) (x0 : List AVal) (x1 : Int) (h : H) : Prop :=
 newK 2 x0 h fun p0 h1 =>
 ldA p0 2 h1 fun cs2 =>
 callB S i_f65 [.agg cs2] h1 fun b4 h3 =>
 bif (!b4) then
 K (.tuple [.sl Sl.nil, .int .i64 (1)]) h3
 else
 callB S i_f41 [.int .i64 x1, .int .i64 (1), .int .i64 (4)] h3 fun b6 h5 =>
 bif (!b6) then
 K (.tuple [.sl Sl.nil, .int .i64 (2)]) h5
 else
 ldA p0 2 h5 fun cs7 =>
 callI S .i64 i_f43 [.agg cs7, .int .i64 x1] h5 fun n9 h8 =>
 bif (decide (n9 > (700))) then
 K (.tuple [.sl Sl.nil, .int .i64 (3)]) h8
 else
 ldA p0 2 h8 fun cs10 =>
 callV S i_f66 [.agg cs10, .int .i64 x1] h8 fun v12 h11 =>
 viaT v12 fun vs13 =>
 exS vs13 0 fun s14 =>
 viaT v12 fun vs15 =>
 exB vs15 1 fun b16 =>
 bif (!b16) then
 K (.tuple [.sl Sl.nil, .int .i64 (3)]) h11
 else
 K (.tuple [.sl s14, .int .i64 (0)]) h11
theorem f33_main_link (S : SatT) (K : KT) (x0 : List AVal) (x1 : Int) (h : H) : cwp S tab f33_M [] (bodyOf Try.f35) (kFun tab Try.f35.results.toList K) (fr0 Try.f35 [.agg x0, .int .i64 x1]) h = f33_main S K x0 x1 h := by kernel_rfl
theorem f33_call (x0 : List AVal) (x1 : Int) (h : H) (K : KT) (hm : f33_main (Sat Try.prog) (fun v h' => K v h') x0 x1 h) : callV (Sat Try.prog) i_f33 [.agg x0, .int .i64 x1] h K := by
 have := Sat.ex tok mixed f33_M Try.func35 (c := bodyOf Try.f35) (by kernel_rfl) (calls_of Try.func35 (c := bodyOf Try.f35) (by kernel_rfl) (by decide)) ((f33_main_link _ _ x0 x1 h).mpr hm)
 exact this
def f21_M : Nat → List Nat := fun i => []
def f21_main (S : SatT) (K : KT) (x0 : List AVal) (x1 : Int) (h : H) : Prop :=
 newK 2 x0 h fun p0 h1 =>
 ldA p0 2 h1 fun cs2 =>
 callV S i_f29 [.agg cs2, .int .i64 x1] h1 fun v4 h3 =>
 viaT v4 fun vs5 =>
 exP vs5 0 fun p6 =>
 viaT v4 fun vs7 =>
 exS vs7 1 fun s8 =>
 viaT v4 fun vs9 =>
 exS vs9 2 fun s10 =>
 viaT v4 fun vs11 =>
 exI .i64 vs11 3 fun n12 =>
 bif (n12 != (0)) then
 K (.tuple [.int .i64 (0), .int .i64 n12]) h3
 else
 callI S .i64 i_f51 [.sl s10] h3 fun n14 h13 =>
 bif (n14 == (0)) then
 K (.tuple [.int .i64 (0), .int .i64 (5)]) h13
 else
 K (.tuple [.int .i64 n14, .int .i64 (0)]) h13
theorem f21_main_link (S : SatT) (K : KT) (x0 : List AVal) (x1 : Int) (h : H) : cwp S tab f21_M [] (bodyOf Try.f23) (kFun tab Try.f23.results.toList K) (fr0 Try.f23 [.agg x0, .int .i64 x1]) h = f21_main S K x0 x1 h := by kernel_rfl
theorem f21_call (x0 : List AVal) (x1 : Int) (h : H) (K : KT) (hm : f21_main (Sat Try.prog) (fun v h' => K v h') x0 x1 h) : callV (Sat Try.prog) i_f21 [.agg x0, .int .i64 x1] h K := by
 have := Sat.ex tok mixed f21_M Try.func23 (c := bodyOf Try.f23) (by kernel_rfl) (calls_of Try.func23 (c := bodyOf Try.f23) (by kernel_rfl) (by decide)) ((f21_main_link _ _ x0 x1 h).mpr hm)
 exact this
def f19_M : Nat → List Nat := fun i => []
def f19_main (S : SatT) (K : KT) (x0 : List AVal) (x1 : Int) (h : H) : Prop :=
 newK 2 x0 h fun p0 h1 =>
 ldA p0 2 h1 fun cs2 =>
 callV S i_f29 [.agg cs2, .int .i64 x1] h1 fun v4 h3 =>
 viaT v4 fun vs5 =>
 exP vs5 0 fun p6 =>
 viaT v4 fun vs7 =>
 exS vs7 1 fun s8 =>
 viaT v4 fun vs9 =>
 exS vs9 2 fun s10 =>
 viaT v4 fun vs11 =>
 exI .i64 vs11 3 fun n12 =>
 bif (n12 != (0)) then
 K (.tuple [.sl Sl.nil, .int .i64 n12]) h3
 else
 callS S i_f49 [.sl s10] h3 fun s14 h13 =>
 K (.tuple [.sl s14, .int .i64 (0)]) h13
theorem f19_main_link (S : SatT) (K : KT) (x0 : List AVal) (x1 : Int) (h : H) : cwp S tab f19_M [] (bodyOf Try.f21) (kFun tab Try.f21.results.toList K) (fr0 Try.f21 [.agg x0, .int .i64 x1]) h = f19_main S K x0 x1 h := by kernel_rfl
theorem f19_call (x0 : List AVal) (x1 : Int) (h : H) (K : KT) (hm : f19_main (Sat Try.prog) (fun v h' => K v h') x0 x1 h) : callV (Sat Try.prog) i_f19 [.agg x0, .int .i64 x1] h K := by
 have := Sat.ex tok mixed f19_M Try.func21 (c := bodyOf Try.f21) (by kernel_rfl) (calls_of Try.func21 (c := bodyOf Try.f21) (by kernel_rfl) (by decide)) ((f19_main_link _ _ x0 x1 h).mpr hm)
 exact this
def f20_M : Nat → List Nat := fun i => []
def f20_main (S : SatT) (K : KT) (x0 : List AVal) (x1 : Int) (h : H) : Prop :=
 newK 2 x0 h fun p0 h1 =>
 ldA p0 2 h1 fun cs2 =>
 callV S i_f30 [.agg cs2, .int .i64 x1] h1 fun v4 h3 =>
 viaT v4 fun vs5 =>
 exS vs5 0 fun s6 =>
 viaT v4 fun vs7 =>
 exS vs7 1 fun s8 =>
 viaT v4 fun vs9 =>
 exI .i64 vs9 2 fun n10 =>
 bif (n10 != (0)) then
 K (.tuple [.sl Sl.nil, .int .i64 n10]) h3
 else
 callS S i_f50 [.sl s8] h3 fun s12 h11 =>
 K (.tuple [.sl s12, .int .i64 (0)]) h11
theorem f20_main_link (S : SatT) (K : KT) (x0 : List AVal) (x1 : Int) (h : H) : cwp S tab f20_M [] (bodyOf Try.f22) (kFun tab Try.f22.results.toList K) (fr0 Try.f22 [.agg x0, .int .i64 x1]) h = f20_main S K x0 x1 h := by kernel_rfl
theorem f20_call (x0 : List AVal) (x1 : Int) (h : H) (K : KT) (hm : f20_main (Sat Try.prog) (fun v h' => K v h') x0 x1 h) : callV (Sat Try.prog) i_f20 [.agg x0, .int .i64 x1] h K := by
 have := Sat.ex tok mixed f20_M Try.func22 (c := bodyOf Try.f22) (by kernel_rfl) (calls_of Try.func22 (c := bodyOf Try.f22) (by kernel_rfl) (by decide)) ((f20_main_link _ _ x0 x1 h).mpr hm)
 exact this
def f35_M : Nat → List Nat := fun i => []
def f35_main (S : SatT) (K : KT) (x0 : List AVal) (x1 : AVal) (h : H) : Prop :=
 newK 2 x0 h fun p0 h1 =>
 ldA p0 2 h1 fun cs2 =>
 callB S i_f69 [.agg cs2] h1 fun b4 h3 =>
 bif (!b4) then
 K (.int .i64 (1)) h3
 else
 viaF x1 [] fun g5 ys6 =>
 callB S g5 ys6 h3 fun b8 h7 =>
 bif (!b8) then
 K (.int .i64 (2)) h7
 else
 K (.int .i64 (0)) h7
theorem f35_main_link (S : SatT) (K : KT) (x0 : List AVal) (x1 : AVal) (h : H) : cwp S tab f35_M [] (bodyOf Try.f37) (kFun tab Try.f37.results.toList K) (fr0 Try.f37 [.agg x0, x1]) h = f35_main S K x0 x1 h := by kernel_rfl
theorem f35_call (x0 : List AVal) (x1 : AVal) (h : H) (K : Int → H → Prop) (hm : f35_main (Sat Try.prog) (fun v h' => ∃ r, v = .int .i64 r ∧ K r h') x0 x1 h) : callI (Sat Try.prog) .i64 i_f35 [.agg x0, x1] h K := by
 have := Sat.ex tok mixed f35_M Try.func37 (c := bodyOf Try.f37) (by kernel_rfl) (calls_of Try.func37 (c := bodyOf Try.f37) (by kernel_rfl) (by decide)) ((f35_main_link _ _ x0 x1 h).mpr hm)
 obtain ⟨v, h2, h3, r, rfl, h4⟩ := this; exact ⟨r, h2, h3, h4⟩
def f105_M : Nat → List Nat := fun i => []
def f105_main (S : SatT) (K : KT) (x0 : Int) (x1 : Sl) (h : H) : Prop :=
 newO [.int .i64 (0), .sl Sl.nil] h fun p0 h1 =>
 callS S i_f109 [.sl x1] h1 fun s3 h2 =>
 stN p0 2 [.int .i64 x0, .sl s3] h2 fun h4 =>
 ldA p0 2 h4 fun cs5 =>
 K (.agg cs5) h4
theorem f105_main_link (S : SatT) (K : KT) (x0 : Int) (x1 : Sl) (h : H) : cwp S tab f105_M [] (bodyOf Try.f107) (kFun tab Try.f107.results.toList K) (fr0 Try.f107 [.int .i64 x0, .sl x1]) h = f105_main S K x0 x1 h := by kernel_rfl
theorem f105_call (x0 : Int) (x1 : Sl) (h : H) (K : List AVal → H → Prop) (hm : f105_main (Sat Try.prog) (fun v h' => ∃ r, v = .agg r ∧ K r h') x0 x1 h) : callA (Sat Try.prog) i_f105 [.int .i64 x0, .sl x1] h K := by
 have := Sat.ex tok mixed f105_M Try.func107 (c := bodyOf Try.f107) (by kernel_rfl) (calls_of Try.func107 (c := bodyOf Try.f107) (by kernel_rfl) (by decide)) ((f105_main_link _ _ x0 x1 h).mpr hm)
 obtain ⟨v, h2, h3, r, rfl, h4⟩ := this; exact ⟨r, h2, h3, h4⟩
def f81_M : Nat → List Nat := fun i => []
def f81_main (S : SatT) (K : KT) (x0 : Pt) (h : H) : Prop :=
 newO [.int .i64 (0), .sl Sl.nil] h fun p0 h1 =>
 callA S i_f91 [.ptr x0] h1 fun cs3 h2 =>
 callA S i_f90 [.ptr x0, .agg cs3] h2 fun cs5 h4 =>
 stN p0 2 cs5 h4 fun h6 =>
 ldA p0 2 h6 fun cs7 =>
 K (.agg cs7) h6
theorem f81_main_link (S : SatT) (K : KT) (x0 : Pt) (h : H) : cwp S tab f81_M [] (bodyOf Try.f83) (kFun tab Try.f83.results.toList K) (fr0 Try.f83 [.ptr x0]) h = f81_main S K x0 h := by kernel_rfl
theorem f81_call (x0 : Pt) (h : H) (K : List AVal → H → Prop) (hm : f81_main (Sat Try.prog) (fun v h' => ∃ r, v = .agg r ∧ K r h') x0 h) : callA (Sat Try.prog) i_f81 [.ptr x0] h K := by
 have := Sat.ex tok mixed f81_M Try.func83 (c := bodyOf Try.f83) (by kernel_rfl) (calls_of Try.func83 (c := bodyOf Try.f83) (by kernel_rfl) (by decide)) ((f81_main_link _ _ x0 h).mpr hm)
 obtain ⟨v, h2, h3, r, rfl, h4⟩ := this; exact ⟨r, h2, h3, h4⟩
def f89_M : Nat → List Nat := fun i => []
def f89_main (S : SatT) (K : KT) (x0 x1 : Int) (h : H) : Prop :=
 callV S i_f103 [.int .u64 x0, .int .u64 x1] h fun v1 h0 =>
 viaT v1 fun vs2 =>
 exI .u64 vs2 0 fun n3 =>
 viaT v1 fun vs4 =>
 exI .u64 vs4 1 fun n5 =>
 K (.tuple [.int .u64 n3, .int .u64 n5]) h0
theorem f89_main_link (S : SatT) (K : KT) (x0 x1 : Int) (h : H) : cwp S tab f89_M [] (bodyOf Try.f91) (kFun tab Try.f91.results.toList K) (fr0 Try.f91 [.int .u64 x0, .int .u64 x1]) h = f89_main S K x0 x1 h := by kernel_rfl
theorem f89_call (x0 x1 : Int) (h : H) (K : KT) (hm : f89_main (Sat Try.prog) (fun v h' => K v h') x0 x1 h) : callV (Sat Try.prog) i_f89 [.int .u64 x0, .int .u64 x1] h K := by
 have := Sat.ex tok mixed f89_M Try.func91 (c := bodyOf Try.f91) (by kernel_rfl) (calls_of Try.func91 (c := bodyOf Try.f91) (by kernel_rfl) (by decide)) ((f89_main_link _ _ x0 x1 h).mpr hm)
 exact this
def f53_M : Nat → List Nat := fun i => []
def f53_main (S : SatT) (K : KT) (x0 : Int) (h : H) : Prop :=
 nz (10007) (
 nz (10007) (
 K (.int .i64 (Int.tmod (w64 ((Int.tmod x0 (10007)) + (10007))) (10007))) h))
theorem f53_main_link (S : SatT) (K : KT) (x0 : Int) (h : H) : cwp S tab f53_M [] (bodyOf Try.f55) (kFun tab Try.f55.results.toList K) (fr0 Try.f55 [.int .i64 x0]) h = f53_main S K x0 h := by kernel_rfl
theorem f53_call (x0 : Int) (h : H) (K : Int → H → Prop) (hm : f53_main (Sat Try.prog) (fun v h' => ∃ r, v = .int .i64 r ∧ K r h') x0 h) : callI (Sat Try.prog) .i64 i_f53 [.int .i64 x0] h K := by
 have := Sat.ex tok mixed f53_M Try.func55 (c := bodyOf Try.f55) (by kernel_rfl) (calls_of Try.func55 (c := bodyOf Try.f55) (by kernel_rfl) (by decide)) ((f53_main_link _ _ x0 h).mpr hm)
 obtain ⟨v, h2, h3, r, rfl, h4⟩ := this; exact ⟨r, h2, h3, h4⟩
def f112_M : Nat → List Nat := fun i => []
def f112_main (S : SatT) (K : KT) (x0 : Int) (h : H) : Prop :=
 K (.bool (x0 != x0)) h
theorem f112_main_link (S : SatT) (K : KT) (x0 : Int) (h : H) : cwp S tab f112_M [] (bodyOf Try.f114) (kFun tab Try.f114.results.toList K) (fr0 Try.f114 [.int .i64 x0]) h = f112_main S K x0 h := by kernel_rfl
theorem f112_call (x0 : Int) (h : H) (K : Bool → H → Prop) (hm : f112_main (Sat Try.prog) (fun v h' => ∃ r, v = .bool r ∧ K r h') x0 h) : callB (Sat Try.prog) i_f112 [.int .i64 x0] h K := by
 have := Sat.ex tok mixed f112_M Try.func114 (c := bodyOf Try.f114) (by kernel_rfl) (calls_of Try.func114 (c := bodyOf Try.f114) (by kernel_rfl) (by decide)) ((f112_main_link _ _ x0 h).mpr hm)
 obtain ⟨v, h2, h3, r, rfl, h4⟩ := this; exact ⟨r, h2, h3, h4⟩
def f55_M : Nat → List Nat := fun i => bif i == 7 then [0, 3, 4, 5, 6, 9, 16, 21, 22, 23, 88, 89, 90] else bif i == 5 then [0, 3, 4, 5, 6, 9, 12, 13, 21, 22, 23, 71, 72, 73] else bif i == 2 then [0, 3, 4, 5, 6, 7, 9, 21, 22, 23, 29, 30, 31] else bif i == 0 then [0, 3, 4, 5, 6, 21, 22, 23] else []
def f55_ks2 (S : SatT) (K : KT) : Kont := kSeq (cwp S tab f55_M [] (sub [1, 1, 1] (bodyOf Try.f57)) (kFun tab (Try.f57).results.toList K)) (kFun tab (Try.f57).results.toList K)
def f55_e0 (s0_ s3_ s4_ : Sl) (i5 i6 : Int) (s21_ : Sl) (i22 i23 : Int) : Frame := [.sl s0_, U, U, .sl s3_, .sl s4_, .int .i64 i5, .int .i64 i6, U, U, U, U, U, U, U, U, U, U, U, U, U, U, .sl s21_, .int .i64 i22, .int .i64 i23, U, U, U, U, U, U, U, U, U, U, U, U, U, U, U, U, U, U, U, U, U, U, U, U, U, U, U, U, U, U, U, U, U, U, U, U, U, U, U, U, U, U, U, U, U, U, U, U, U, U, U, U, U, U, U, U, U, U, U, U, U, U, U, U, U, U, U, U, U, U, U, U, U, U, U, U, U, U, U, U, U, U, U, U, U, U, U, U, U, U, U, U, U, U, U, U, U, U, U, U, U]
def f55_w0 (S : SatT) (K : KT) : (XT) → XT := fun X fr h => cwp S tab f55_M (f55_M 0) (sub [1, 1, 0, 1, 0, 0] (bodyOf Try.f57)) (kSeq (fun fr h => X (mask (f55_M 0) fr) h) (kBlk 0 (f55_ks2 S K))) fr h
def f55_L0 (S : SatT) (K : KT) (s0_ s3_ s4_ : Sl) (i5 i6 : Int) (s21_ : Sl) (i22 i23 : Int) (h : H) : Prop := loopK (f55_w0 S K) (f55_e0 s0_ s3_ s4_ i5 i6 s21_ i22 i23) h
def f55_ks6 (S : SatT) (K : KT) (X0 : XT) : Kont := kSeq (cwp S tab f55_M (f55_M 0) (sub [1, 1, 0, 1, 0, 0, 1, 1, 1] (bodyOf Try.f57)) (kSeq (fun fr h => X0 (mask (f55_M 0) fr) h) (kBlk 0 (f55_ks2 S K)))) (kSeq (fun fr h => X0 (mask (f55_M 0) fr) h) (kBlk 0 (f55_ks2 S K)))
def f55_ks9 (S : SatT) (K : KT) (X0 : XT) : Kont := kSeq (cwp S tab f55_M (f55_M 1) (sub [1, 1, 0, 1, 0, 0, 1, 1, 0, 0, 1, 1, 1] (bodyOf Try.f57)) (kBlk 1 (f55_ks6 S K X0))) (kBlk 1 (f55_ks6 S K X0))
def f55_e2 (s0_ s3_ s4_ : Sl) (i5 i6 : Int) (i7 i9 : Int) (s21_ : Sl) (i22 i23 : Int) (s29_ : Sl) (i30 i31 : Int) : Frame := [.sl s0_, U, U, .sl s3_, .sl s4_, .int .i64 i5, .int .i64 i6, .int .i64 i7, U, .int .i64 i9, U, U, U, U, U, U, U, U, U, U, U, .sl s21_, .int .i64 i22, .int .i64 i23, U, U, U, U, U, .sl s29_, .int .i64 i30, .int .i64 i31, U, U, U, U, U, U, U, U, U, U, U, U, U, U, U, U, U, U, U, U, U, U, U, U, U, U, U, U, U, U, U, U, U, U, U, U, U, U, U, U, U, U, U, U, U, U, U, U, U, U, U, U, U, U, U, U, U, U, U, U, U, U, U, U, U, U, U, U, U, U, U, U, U, U, U, U, U, U, U, U, U, U, U, U, U, U, U, U, U, U, U, U, U]
def f55_w2 (S : SatT) (K : KT) (X0 : XT) : (XT) → XT := fun X fr h => cwp S tab f55_M (f55_M 2) (sub [1, 1, 0, 1, 0, 0, 1, 1, 0, 0, 1, 1, 0, 1, 0, 0] (bodyOf Try.f57)) (kSeq (fun fr h => X (mask (f55_M 2) fr) h) (kBlk 2 (f55_ks9 S K X0))) fr h
def f55_L2 (S : SatT) (K : KT) (X0 : XT) (s0_ s3_ s4_ : Sl) (i5 i6 : Int) (i7 i9 : Int) (s21_ : Sl) (i22 i23 : Int) (s29_ : Sl) (i30 i31 : Int) (h : H) : Prop := loopK (f55_w2 S K X0) (f55_e2 s0_ s3_ s4_ i5 i6 i7 i9 s21_ i22 i23 s29_ i30 i31) h
def f55_C1 (S : SatT) (K : KT) (X0 : XT) (s0_ s3_ s4_ : Sl) (i5 i6 : Int) (s21_ : Sl) (i22 i23 : Int) (h : H) : Prop :=
 X0 (f55_e0 s0_ s3_ s4_ i5 i6 s21_ i22 (w64 (i23 + (1)))) h
def f55_ks22 (S : SatT) (K : KT) (X0 : XT) : Kont := kSeq (cwp S tab f55_M (f55_M 1) (sub [1, 1, 0, 1, 0, 0, 1, 1, 0, 0, 1, 1, 1, 1, 1, 1, 1] (bodyOf Try.f57)) (kBlk 1 (f55_ks6 S K X0))) (kBlk 1 (f55_ks6 S K X0))
def f55_e5 (s0_ s3_ s4_ : Sl) (i5 i6 : Int) (i9 i12 : Int) (s13_ s21_ : Sl) (i22 i23 : Int) (s71_ : Sl) (i72 i73 : Int) : Frame := [.sl s0_, U, U, .sl s3_, .sl s4_, .int .i64 i5, .int .i64 i6, U, U, .int .i64 i9, U, U, .int .i64 i12, .sl s13_, U, U, U, U, U, U, U, .sl s21_, .int .i64 i22, .int .i64 i23, U, U, U, U, U, U, U, U, U, U, U, U, U, U, U, U, U, U, U, U, U, U, U, U, U, U, U, U, U, U, U, U, U, U, U, U, U, U, U, U, U, U, U, U, U, U, U, .sl s71_, .int .i64 i72, .int .i64 i73, U, U, U, U, U, U, U, U, U, U, U, U, U, U, U, U, U, U, U, U, U, U, U, U, U, U, U, U, U, U, U, U, U, U, U, U, U, U, U, U, U, U, U, U, U, U, U, U, U, U, U]
def f55_w5 (S : SatT) (K : KT) (X0 : XT) : (XT) → XT := fun X fr h => cwp S tab f55_M (f55_M 5) (sub [1, 1, 0, 1, 0, 0, 1, 1, 0, 0, 1, 1, 1, 1, 1, 1, 0, 1, 0, 0] (bodyOf Try.f57)) (kSeq (fun fr h => X (mask (f55_M 5) fr) h) (kBlk 5 (f55_ks22 S K X0))) fr h
def f55_L5 (S : SatT) (K : KT) (X0 : XT) (s0_ s3_ s4_ : Sl) (i5 i6 : Int) (i9 i12 : Int) (s13_ s21_ : Sl) (i22 i23 : Int) (s71_ : Sl) (i72 i73 : Int) (h : H) : Prop := loopK (f55_w5 S K X0) (f55_e5 s0_ s3_ s4_ i5 i6 i9 i12 s13_ s21_ i22 i23 s71_ i72 i73) h
def f55_ks29 (S : SatT) (K : KT) (X0 : XT) : Kont := kSeq (cwp S tab f55_M (f55_M 1) (sub [1, 1, 0, 1, 0, 0, 1, 1, 0, 0, 1, 1, 1, 1, 1, 1, 1, 1, 1] (bodyOf Try.f57)) (kBlk 1 (f55_ks6 S K X0))) (kBlk 1 (f55_ks6 S K X0))
def f55_e7 (s0_ s3_ s4_ : Sl) (i5 i6 i9 : Int) (s16_ s21_ : Sl) (i22 i23 : Int) (s88_ : Sl) (i89 i90 : Int) : Frame := [.sl s0_, U, U, .sl s3_, .sl s4_, .int .i64 i5, .int .i64 i6, U, U, .int .i64 i9, U, U, U, U, U, U, .sl s16_, U, U, U, U, .sl s21_, .int .i64 i22, .int .i64 i23, U, U, U, U, U, U, U, U, U, U, U, U, U, U, U, U, U, U, U, U, U, U, U, U, U, U, U, U, U, U, U, U, U, U, U, U, U, U, U, U, U, U, U, U, U, U, U, U, U, U, U, U, U, U, U, U, U, U, U, U, U, U, U, U, .sl s88_, .int .i64 i89, .int .i64 i90, U, U, U, U, U, U, U, U, U, U, U, U, U, U, U, U, U, U, U, U, U, U, U, U, U, U, U, U, U, U, U, U, U, U]
def f55_w7 (S : SatT) (K : KT) (X0 : XT) : (XT) → XT := fun X fr h => cwp S tab f55_M (f55_M 7) (sub [1, 1, 0, 1, 0, 0, 1, 1, 0, 0, 1, 1, 1, 1, 1, 1, 1, 1, 0, 1, 0, 0] (bodyOf Try.f57)) (kSeq (fun fr h => X (mask (f55_M 7) fr) h) (kBlk 7 (f55_ks29 S K X0))) fr h
def f55_L7 (S : SatT) (K : KT) (X0 : XT) (s0_ s3_ s4_ : Sl) (i5 i6 i9 : Int) (s16_ s21_ : Sl) (i22 i23 : Int) (s88_ : Sl) (i89 i90 : Int) (h : H) : Prop := loopK (f55_w7 S K X0) (f55_e7 s0_ s3_ s4_ i5 i6 i9 s16_ s21_ i22 i23 s88_ i89 i90) h
def f55_C7 (S : SatT) (K : KT) (X0 : XT) (s0_ s3_ s4_ : Sl) (i5 i6 i9 : Int) (s16_ s21_ : Sl) (i22 i23 : Int) (h : H) : Prop :=
 bif (decide ((s16_.len : Int) > (s3_.len : Int))) then
 f55_C1 S K X0 s0_ s16_ s3_ i9 (0) s21_ i22 i23 h
 else
 f55_C1 S K X0 s0_ s16_ s4_ i5 (w64 (i6 + (1))) s21_ i22 i23 h
def f55_b7 (S : SatT) (K : KT) (X0 X7 : XT) (s0_ s3_ s4_ : Sl) (i5 i6 i9 : Int) (s16_ s21_ : Sl) (i22 i23 : Int) (s88_ : Sl) (i89 i90 : Int) (h : H) : Prop :=
 bif (decide (i90 < i89)) then
 ixS s88_ 1 i90 fun p0 =>
 ldI .i64 p0 h fun n1 =>
 bif (i90 == (s16_.len : Int)) then
 newS 1 1 [.int .i64 (0)] h fun s2 h3 =>
 app s16_ s2 1 h3 fun s4 h5 =>
 ixS s4 1 i90 fun p6 =>
 ldI .i64 p6 h5 fun n7 =>
 callI S .i64 i_f53 [.int .i64 (w64 (n7 + n1))] h5 fun n9 h8 =>
 ixS s4 1 i90 fun p10 =>
 st1 p10 (.int .i64 n9) h8 fun h11 =>
 X7 (f55_e7 s0_ s3_ s4_ i5 i6 i9 s4 s21_ i22 i23 s88_ i89 (w64 (i90 + (1)))) h11
 else
 ixS s16_ 1 i90 fun p12 =>
 ldI .i64 p12 h fun n13 =>
 callI S .i64 i_f53 [.int .i64 (w64 (n13 + n1))] h fun n15 h14 =>
 ixS s16_ 1 i90 fun p16 =>
 st1 p16 (.int .i64 n15) h14 fun h17 =>
 X7 (f55_e7 s0_ s3_ s4_ i5 i6 i9 s16_ s21_ i22 i23 s88_ i89 (w64 (i90 + (1)))) h17
 else
 f55_C7 S K X0 s0_ s3_ s4_ i5 i6 i9 s16_ s21_ i22 i23 h
theorem f55_link7 (S : SatT) (K : KT) (X0 X7 : XT) (s0_ s3_ s4_ : Sl) (i5 i6 i9 : Int) (s16_ s21_ : Sl) (i22 i23 : Int) (s88_ : Sl) (i89 i90 : Int) (h : H) : f55_w7 S K X0 X7 (f55_e7 s0_ s3_ s4_ i5 i6 i9 s16_ s21_ i22 i23 s88_ i89 i90) h = f55_b7 S K X0 X7 s0_ s3_ s4_ i5 i6 i9 s16_ s21_ i22 i23 s88_ i89 i90 h := by kernel_rfl
theorem f55_rule7 (S : SatT) (K : KT) (X0 : XT) (s0_ s3_ s4_ : Sl) (i5 i6 i9 : Int) (s21_ : Sl) (i22 i23 : Int) (s88_ : Sl) (i89 : Int) (I_ : Sl → Int → H → Prop) (m_ : Sl → Int → H → Nat)
  (hs : ∀ (X7 : XT) (s16_ : Sl) (i90 : Int) (h : H), I_ s16_ i90 h → (∀ (s16_' : Sl) (i90' : Int) (h' : H), I_ s16_' i90' h' → m_ s16_' i90' h' < m_ s16_ i90 h → X7 (f55_e7 s0_ s3_ s4_ i5 i6 i9 s16_' s21_ i22 i23 s88_ i89 i90') h') → f55_b7 S K X0 X7 s0_ s3_ s4_ i5 i6 i9 s16_ s21_ i22 i23 s88_ i89 i90 h) (s16_ : Sl) (i90 : Int) {h : H} (h0 : I_ s16_ i90 h) : f55_L7 S K X0 s0_ s3_ s4_ i5 i6 i9 s16_ s21_ i22 i23 s88_ i89 i90 h :=
 loop_rule (σ := (Sl) × (Int)) (fun s_ => f55_e7 s0_ s3_ s4_ i5 i6 i9 (s_.1) s21_ i22 i23 s88_ i89 (s_.2)) (fun s_ h => I_ (s_.1) (s_.2) h) (fun s_ h => m_ (s_.1) (s_.2) h)
  (fun X s_ h hi hx => (f55_link7 S K X0 X s0_ s3_ s4_ i5 i6 i9 (s_.1) s21_ i22 i23 s88_ i89 (s_.2) h).mpr (hs X (s_.1) (s_.2) h hi fun s16_' i90' h' hi' hm' => hx (s16_', i90') h' hi' hm')) (s16_, i90) h0
def f55_C5 (S : SatT) (K : KT) (X0 : XT) (s0_ s3_ s4_ : Sl) (i5 i6 i9 : Int) (s13_ s21_ : Sl) (i22 i23 : Int) (h : H) : Prop :=
 callS S i_f77 [.sl s3_] h fun s1 h0 =>
 f55_L7 S K X0 s0_ s3_ s4_ i5 i6 i9 s1 s21_ i22 i23 s13_ (s13_.len : Int) (0) h0
def f55_b5 (S : SatT) (K : KT) (X0 X5 : XT) (s0_ s3_ s4_ : Sl) (i5 i6 : Int) (i9 i12 : Int) (s13_ s21_ : Sl) (i22 i23 : Int) (s71_ : Sl) (i72 i73 : Int) (h : H) : Prop :=
 bif (decide (i73 < i72)) then
 ixS s71_ 1 i73 fun p0 =>
 ldI .i64 p0 h fun n1 =>
 callI S .i64 i_f53 [.int .i64 (w64 ((w64 (0 - i12)) * n1))] h fun n3 h2 =>
 newS 1 1 [.int .i64 n3] h2 fun s4 h5 =>
 app s13_ s4 1 h5 fun s6 h7 =>
 X5 (f55_e5 s0_ s3_ s4_ i5 i6 i9 i12 s6 s21_ i22 i23 s71_ i72 (w64 (i73 + (1)))) h7
 else
 f55_C5 S K X0 s0_ s3_ s4_ i5 i6 i9 s13_ s21_ i22 i23 h
theorem f55_link5 (S : SatT) (K : KT) (X0 X5 : XT) (s0_ s3_ s4_ : Sl) (i5 i6 : Int) (i9 i12 : Int) (s13_ s21_ : Sl) (i22 i23 : Int) (s71_ : Sl) (i72 i73 : Int) (h : H) : f55_w5 S K X0 X5 (f55_e5 s0_ s3_ s4_ i5 i6 i9 i12 s13_ s21_ i22 i23 s71_ i72 i73) h = f55_b5 S K X0 X5 s0_ s3_ s4_ i5 i6 i9 i12 s13_ s21_ i22 i23 s71_ i72 i73 h := by kernel_rfl
theorem f55_rule5 (S : SatT) (K : KT) (X0 : XT) (s0_ s3_ s4_ : Sl) (i5 i6 : Int) (i9 i12 : Int) (s21_ : Sl) (i22 i23 : Int) (s71_ : Sl) (i72 : Int) (I_ : Sl → Int → H → Prop) (m_ : Sl → Int → H → Nat)
  (hs : ∀ (X5 : XT) (s13_ : Sl) (i73 : Int) (h : H), I_ s13_ i73 h → (∀ (s13_' : Sl) (i73' : Int) (h' : H), I_ s13_' i73' h' → m_ s13_' i73' h' < m_ s13_ i73 h → X5 (f55_e5 s0_ s3_ s4_ i5 i6 i9 i12 s13_' s21_ i22 i23 s71_ i72 i73') h') → f55_b5 S K X0 X5 s0_ s3_ s4_ i5 i6 i9 i12 s13_ s21_ i22 i23 s71_ i72 i73 h) (s13_ : Sl) (i73 : Int) {h : H} (h0 : I_ s13_ i73 h) : f55_L5 S K X0 s0_ s3_ s4_ i5 i6 i9 i12 s13_ s21_ i22 i23 s71_ i72 i73 h :=
 loop_rule (σ := (Sl) × (Int)) (fun s_ => f55_e5 s0_ s3_ s4_ i5 i6 i9 i12 (s_.1) s21_ i22 i23 s71_ i72 (s_.2)) (fun s_ h => I_ (s_.1) (s_.2) h) (fun s_ h => m_ (s_.1) (s_.2) h)
  (fun X s_ h hi hx => (f55_link5 S K X0 X s0_ s3_ s4_ i5 i6 i9 i12 (s_.1) s21_ i22 i23 s71_ i72 (s_.2) h).mpr (hs X (s_.1) (s_.2) h hi fun s13_' i73' h' hi' hm' => hx (s13_', i73') h' hi' hm')) (s13_, i73) h0
def f55_C2 (S : SatT) (K : KT) (X0 : XT) (s0_ s3_ s4_ : Sl) (i5 i6 : Int) (i7 i9 : Int) (s21_ : Sl) (i22 i23 : Int) (h : H) : Prop :=
 bif (i9 == (0)) then
 f55_C1 S K X0 s0_ s3_ s4_ i5 (w64 (i6 + (1))) s21_ i22 i23 h
 else
 bif ((s3_.len : Int) == (0)) then
 mkS (w64 (i7 + (1))) [.int .i64 (0)] h fun s0 h1 =>
 f55_C1 S K X0 s0_ s0 Sl.nil i9 (0) s21_ i22 i23 h1
 else
 callI S .i64 i_f76 [.int .i64 i5] h fun n3 h2 =>
 nz (10007) (
 mkS i6 [.int .i64 (0)] h2 fun s4 h5 =>
 newS 1 1 [.int .i64 (Int.tmod (w64 (i9 * n3)) (10007))] h5 fun s6 h7 =>
 app s4 s6 1 h7 fun s8 h9 =>
 f55_L5 S K X0 s0_ s3_ s4_ i5 i6 i9 (Int.tmod (w64 (i9 * n3)) (10007)) s8 s21_ i22 i23 s4_ (s4_.len : Int) (0) h9)
def f55_b2 (S : SatT) (K : KT) (X0 X2 : XT) (s0_ s3_ s4_ : Sl) (i5 i6 : Int) (i7 i9 : Int) (s21_ : Sl) (i22 i23 : Int) (s29_ : Sl) (i30 i31 : Int) (h : H) : Prop :=
 bif (decide (i31 < i30)) then
 ixS s29_ 1 i31 fun p0 =>
 ldI .i64 p0 h fun n1 =>
 callI S .i64 i_f75 [.sl s0_, .int .i64 (w64 ((w64 (i7 - i31)) - (1)))] h fun n3 h2 =>
 callI S .i64 i_f53 [.int .i64 (w64 (i9 - (w64 (n1 * n3))))] h2 fun n5 h4 =>
 X2 (f55_e2 s0_ s3_ s4_ i5 i6 i7 n5 s21_ i22 i23 s29_ i30 (w64 (i31 + (1)))) h4
 else
 f55_C2 S K X0 s0_ s3_ s4_ i5 i6 i7 i9 s21_ i22 i23 h
theorem f55_link2 (S : SatT) (K : KT) (X0 X2 : XT) (s0_ s3_ s4_ : Sl) (i5 i6 : Int) (i7 i9 : Int) (s21_ : Sl) (i22 i23 : Int) (s29_ : Sl) (i30 i31 : Int) (h : H) : f55_w2 S K X0 X2 (f55_e2 s0_ s3_ s4_ i5 i6 i7 i9 s21_ i22 i23 s29_ i30 i31) h = f55_b2 S K X0 X2 s0_ s3_ s4_ i5 i6 i7 i9 s21_ i22 i23 s29_ i30 i31 h := by kernel_rfl
theorem f55_rule2 (S : SatT) (K : KT) (X0 : XT) (s0_ s3_ s4_ : Sl) (i5 i6 i7 : Int) (s21_ : Sl) (i22 i23 : Int) (s29_ : Sl) (i30 : Int) (I_ : Int → Int → H → Prop) (m_ : Int → Int → H → Nat)
  (hs : ∀ (X2 : XT) (i9 i31 : Int) (h : H), I_ i9 i31 h → (∀ (i9' i31' : Int) (h' : H), I_ i9' i31' h' → m_ i9' i31' h' < m_ i9 i31 h → X2 (f55_e2 s0_ s3_ s4_ i5 i6 i7 i9' s21_ i22 i23 s29_ i30 i31') h') → f55_b2 S K X0 X2 s0_ s3_ s4_ i5 i6 i7 i9 s21_ i22 i23 s29_ i30 i31 h) (i9 i31 : Int) {h : H} (h0 : I_ i9 i31 h) : f55_L2 S K X0 s0_ s3_ s4_ i5 i6 i7 i9 s21_ i22 i23 s29_ i30 i31 h :=
 loop_rule (σ := (Int) × (Int)) (fun s_ => f55_e2 s0_ s3_ s4_ i5 i6 i7 (s_.1) s21_ i22 i23 s29_ i30 (s_.2)) (fun s_ h => I_ (s_.1) (s_.2) h) (fun s_ h => m_ (s_.1) (s_.2) h)
  (fun X s_ h hi hx => (f55_link2 S K X0 X s0_ s3_ s4_ i5 i6 i7 (s_.1) s21_ i22 i23 s29_ i30 (s_.2) h).mpr (hs X (s_.1) (s_.2) h hi fun i9' i31' h' hi' hm' => hx (i9', i31') h' hi' hm')) (i9, i31) h0
def f55_C0 (S : SatT) (K : KT) (s3_ : Sl) (h : H) : Prop :=
 K (.sl s3_) h
def f55_b0 (S : SatT) (K : KT) (X0 : XT) (s0_ s3_ s4_ : Sl) (i5 i6 : Int) (s21_ : Sl) (i22 i23 : Int) (h : H) : Prop :=
 bif (decide (i23 < i22)) then
 ixS s21_ 1 i23 fun p0 =>
 ldI .i64 p0 h fun n1 =>
 f55_L2 S K X0 s0_ s3_ s4_ i5 i6 i23 n1 s21_ i22 i23 s3_ (s3_.len : Int) (0) h
 else
 f55_C0 S K s3_ h
theorem f55_link0 (S : SatT) (K : KT) (X0 : XT) (s0_ s3_ s4_ : Sl) (i5 i6 : Int) (s21_ : Sl) (i22 i23 : Int) (h : H) : f55_w0 S K X0 (f55_e0 s0_ s3_ s4_ i5 i6 s21_ i22 i23) h = f55_b0 S K X0 s0_ s3_ s4_ i5 i6 s21_ i22 i23 h := by kernel_rfl
theorem f55_rule0 (S : SatT) (K : KT) (s0_ s21_ : Sl) (i22 : Int) (I_ : Sl → Sl → Int → Int → Int → H → Prop) (m_ : Sl → Sl → Int → Int → Int → H → Nat)
  (hs : ∀ (X0 : XT) (s3_ s4_ : Sl) (i5 i6 i23 : Int) (h : H), I_ s3_ s4_ i5 i6 i23 h → (∀ (s3_' s4_' : Sl) (i5' i6' i23' : Int) (h' : H), I_ s3_' s4_' i5' i6' i23' h' → m_ s3_' s4_' i5' i6' i23' h' < m_ s3_ s4_ i5 i6 i23 h → X0 (f55_e0 s0_ s3_' s4_' i5' i6' s21_ i22 i23') h') → f55_b0 S K X0 s0_ s3_ s4_ i5 i6 s21_ i22 i23 h) (s3_ s4_ : Sl) (i5 i6 i23 : Int) {h : H} (h0 : I_ s3_ s4_ i5 i6 i23 h) : f55_L0 S K s0_ s3_ s4_ i5 i6 s21_ i22 i23 h :=
 loop_rule (σ := (Sl) × (Sl) × (Int) × (Int) × (Int)) (fun s_ => f55_e0 s0_ (s_.1) (s_.2.1) (s_.2.2.1) (s_.2.2.2.1) s21_ i22 (s_.2.2.2.2)) (fun s_ h => I_ (s_.1) (s_.2.1) (s_.2.2.1) (s_.2.2.2.1) (s_.2.2.2.2) h) (fun s_ h => m_ (s_.1) (s_.2.1) (s_.2.2.1) (s_.2.2.2.1) (s_.2.2.2.2) h)
  (fun X s_ h hi hx => (f55_link0 S K X s0_ (s_.1) (s_.2.1) (s_.2.2.1) (s_.2.2.2.1) s21_ i22 (s_.2.2.2.2) h).mpr (hs X (s_.1) (s_.2.1) (s_.2.2.1) (s_.2.2.2.1) (s_.2.2.2.2) h hi fun s3_' s4_' i5' i6' i23' h' hi' hm' => hx (s3_', s4_', i5', i6', i23') h' hi' hm')) (s3_, s4_, i5, i6, i23) h0
def f55_main (S : SatT) (K : KT) (x0 : Sl) (h : H) : Prop :=
 newS 0 1 [] h fun s0 h1 =>
 newS 0 1 [] h1 fun s2 h3 =>
 f55_L0 S K x0 s0 s2 (0) (0) x0 (x0.len : Int) (0) h3
theorem f55_main_link (S : SatT) (K : KT) (x0 : Sl) (h : H) : cwp S tab f55_M [] (bodyOf Try.f57) (kFun tab Try.f57.results.toList K) (fr0 Try.f57 [.sl x0]) h = f55_main S K x0 h := by kernel_rfl
theorem f55_call (x0 : Sl) (h : H) (K : Sl → H → Prop) (hm : f55_main (Sat Try.prog) (fun v h' => ∃ r, v = .sl r ∧ K r h') x0 h) : callS (Sat Try.prog) i_f55 [.sl x0] h K := by
 have := Sat.ex tok mixed f55_M Try.func57 (c := bodyOf Try.f57) (by kernel_rfl) (calls_of Try.func57 (c := bodyOf Try.f57) (by kernel_rfl) (by decide)) ((f55_main_link _ _ x0 h).mpr hm)
 obtain ⟨v, h2, h3, r, rfl, h4⟩ := this; exact ⟨r, h2, h3, h4⟩
end Go.Proofs.Ytcoampecbpiecaa.Cl
