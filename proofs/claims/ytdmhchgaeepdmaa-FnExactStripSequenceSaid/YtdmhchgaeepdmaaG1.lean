/- Typed forms of functions of the program, and their links. Printed by program. No claim is stated here. -/
import Derived.Test.YtdmhchgaeepdmaaGTab
set_option linter.unusedVariables false
namespace Go.Proofs.Ytdmhchgaeepdmaa.Cl
open Go
/-! ### loop.example/g01354/spec.l06Shortest -/
def spec_l06Shortest_M : Nat → List Nat := fun i => bif i == 8 then [3, 7, 14, 15] else bif i == 6 then [0, 3, 4, 5, 6, 7, 8, 9, 11, 12, 13] else bif i == 4 then [0, 3, 4, 5, 6, 7, 8, 9, 11, 12] else bif i == 2 then [0, 3, 4, 5, 6, 7, 8, 9, 10] else bif i == 0 then [0, 3, 4, 5, 6, 7, 8] else []
def spec_l06Shortest_ks2 (S : SatT) (K : AVal → H → Prop) : Kont := kSeq (cwp S tab spec_l06Shortest_M [] (sub [1, 1, 1] (bodyOf Try.f76)) (kFun tab (Try.f76).results.toList K)) (kFun tab (Try.f76).results.toList K)
def spec_l06Shortest_e0 (s0_ : Sl) (s3_ : Sl) (s4_ : Sl) (i5_ : Int) (i6_ : Int) (i7_ : Int) (i8_ : Int) : Frame := [.sl s0_, U, U, .sl s3_, .sl s4_, .int .i64 i5_, .int .i64 i6_, .int .i64 i7_, .int .i64 i8_, U, U, U, U, U, U, U, U, U, U, U, U, U, U, U, U, U, U, U, U, U, U, U, U, U, U, U, U, U, U, U, U, U, U, U, U, U, U, U, U, U, U, U, U, U, U, U, U, U, U, U, U, U, U, U, U, U, U, U, U, U, U, U, U, U, U, U, U, U, U, U, U, U, U, U, U, U, U, U, U, U, U, U, U, U, U, U, U, U, U, U, U, U, U, U, U, U, U, U, U, U, U, U, U, U, U, U, U, U, U, U, U, U, U, U, U, U, U, U, U, U, U, U]
def spec_l06Shortest_w0 (S : SatT) (K : AVal → H → Prop) : (Frame → H → Prop) → Frame → H → Prop := fun X fr h => cwp S tab spec_l06Shortest_M (spec_l06Shortest_M 0) (sub [1, 1, 0, 1, 0, 0] (bodyOf Try.f76)) (kSeq (fun fr h => X (mask (spec_l06Shortest_M 0) fr) h) (kBlk 0 (spec_l06Shortest_ks2 S K))) fr h
def spec_l06Shortest_L0 (S : SatT) (K : AVal → H → Prop) (s0_ : Sl) (s3_ : Sl) (s4_ : Sl) (i5_ : Int) (i6_ : Int) (i7_ : Int) (i8_ : Int) (h : H) : Prop := loopK (spec_l06Shortest_w0 S K) (spec_l06Shortest_e0 s0_ s3_ s4_ i5_ i6_ i7_ i8_) h
def spec_l06Shortest_ks6 (S : SatT) (K : AVal → H → Prop) (X0 : Frame → H → Prop) : Kont := kSeq (cwp S tab spec_l06Shortest_M (spec_l06Shortest_M 0) (sub [1, 1, 0, 1, 0, 0, 1, 1] (bodyOf Try.f76)) (kSeq (fun fr h => X0 (mask (spec_l06Shortest_M 0) fr) h) (kBlk 0 (spec_l06Shortest_ks2 S K)))) (kSeq (fun fr h => X0 (mask (spec_l06Shortest_M 0) fr) h) (kBlk 0 (spec_l06Shortest_ks2 S K)))
def spec_l06Shortest_ks8 (S : SatT) (K : AVal → H → Prop) (X0 : Frame → H → Prop) : Kont := kSeq (cwp S tab spec_l06Shortest_M (spec_l06Shortest_M 1) (sub [1, 1, 0, 1, 0, 0, 1, 0, 0, 1, 1] (bodyOf Try.f76)) (kBlk 1 (spec_l06Shortest_ks6 S K X0))) (kBlk 1 (spec_l06Shortest_ks6 S K X0))
def spec_l06Shortest_e2 (s0_ : Sl) (s3_ : Sl) (s4_ : Sl) (i5_ : Int) (i6_ : Int) (i7_ : Int) (i8_ : Int) (i9_ : Int) (i10_ : Int) : Frame := [.sl s0_, U, U, .sl s3_, .sl s4_, .int .i64 i5_, .int .i64 i6_, .int .i64 i7_, .int .i64 i8_, .int .i64 i9_, .int .i64 i10_, U, U, U, U, U, U, U, U, U, U, U, U, U, U, U, U, U, U, U, U, U, U, U, U, U, U, U, U, U, U, U, U, U, U, U, U, U, U, U, U, U, U, U, U, U, U, U, U, U, U, U, U, U, U, U, U, U, U, U, U, U, U, U, U, U, U, U, U, U, U, U, U, U, U, U, U, U, U, U, U, U, U, U, U, U, U, U, U, U, U, U, U, U, U, U, U, U, U, U, U, U, U, U, U, U, U, U, U, U, U, U, U, U, U, U, U, U, U, U, U, U]
def spec_l06Shortest_w2 (S : SatT) (K : AVal → H → Prop) (X0 : Frame → H → Prop) : (Frame → H → Prop) → Frame → H → Prop := fun X fr h => cwp S tab spec_l06Shortest_M (spec_l06Shortest_M 2) (sub [1, 1, 0, 1, 0, 0, 1, 0, 0, 1, 0, 1, 0, 0] (bodyOf Try.f76)) (kSeq (fun fr h => X (mask (spec_l06Shortest_M 2) fr) h) (kBlk 2 (spec_l06Shortest_ks8 S K X0))) fr h
def spec_l06Shortest_L2 (S : SatT) (K : AVal → H → Prop) (X0 : Frame → H → Prop) (s0_ : Sl) (s3_ : Sl) (s4_ : Sl) (i5_ : Int) (i6_ : Int) (i7_ : Int) (i8_ : Int) (i9_ : Int) (i10_ : Int) (h : H) : Prop := loopK (spec_l06Shortest_w2 S K X0) (spec_l06Shortest_e2 s0_ s3_ s4_ i5_ i6_ i7_ i8_ i9_ i10_) h
def spec_l06Shortest_C1 (S : SatT) (K : AVal → H → Prop) (X0 : Frame → H → Prop) (s0_ : Sl) (s3_ : Sl) (s4_ : Sl) (i5_ : Int) (i6_ : Int) (i7_ : Int) (i8_ : Int) (h : H) : Prop :=
 X0 (spec_l06Shortest_e0 s0_ s3_ s4_ i5_ i6_ i7_ (w64 (i8_ + (1)))) h
def spec_l06Shortest_ks17 (S : SatT) (K : AVal → H → Prop) (X0 : Frame → H → Prop) : Kont := kSeq (cwp S tab spec_l06Shortest_M (spec_l06Shortest_M 1) (sub [1, 1, 0, 1, 0, 0, 1, 0, 0, 1, 1, 1, 1, 1] (bodyOf Try.f76)) (kBlk 1 (spec_l06Shortest_ks6 S K X0))) (kBlk 1 (spec_l06Shortest_ks6 S K X0))
def spec_l06Shortest_e4 (s0_ : Sl) (s3_ : Sl) (s4_ : Sl) (i5_ : Int) (i6_ : Int) (i7_ : Int) (i8_ : Int) (i9_ : Int) (s11_ : Sl) (i12_ : Int) : Frame := [.sl s0_, U, U, .sl s3_, .sl s4_, .int .i64 i5_, .int .i64 i6_, .int .i64 i7_, .int .i64 i8_, .int .i64 i9_, U, .sl s11_, .int .i64 i12_, U, U, U, U, U, U, U, U, U, U, U, U, U, U, U, U, U, U, U, U, U, U, U, U, U, U, U, U, U, U, U, U, U, U, U, U, U, U, U, U, U, U, U, U, U, U, U, U, U, U, U, U, U, U, U, U, U, U, U, U, U, U, U, U, U, U, U, U, U, U, U, U, U, U, U, U, U, U, U, U, U, U, U, U, U, U, U, U, U, U, U, U, U, U, U, U, U, U, U, U, U, U, U, U, U, U, U, U, U, U, U, U, U, U, U, U, U, U, U]
def spec_l06Shortest_w4 (S : SatT) (K : AVal → H → Prop) (X0 : Frame → H → Prop) : (Frame → H → Prop) → Frame → H → Prop := fun X fr h => cwp S tab spec_l06Shortest_M (spec_l06Shortest_M 4) (sub [1, 1, 0, 1, 0, 0, 1, 0, 0, 1, 1, 1, 1, 0, 0, 0] (bodyOf Try.f76)) (kSeq (fun fr h => X (mask (spec_l06Shortest_M 4) fr) h) (kBlk 4 (spec_l06Shortest_ks17 S K X0))) fr h
def spec_l06Shortest_L4 (S : SatT) (K : AVal → H → Prop) (X0 : Frame → H → Prop) (s0_ : Sl) (s3_ : Sl) (s4_ : Sl) (i5_ : Int) (i6_ : Int) (i7_ : Int) (i8_ : Int) (i9_ : Int) (s11_ : Sl) (i12_ : Int) (h : H) : Prop := loopK (spec_l06Shortest_w4 S K X0) (spec_l06Shortest_e4 s0_ s3_ s4_ i5_ i6_ i7_ i8_ i9_ s11_ i12_) h
def spec_l06Shortest_ks20 (S : SatT) (K : AVal → H → Prop) (X0 : Frame → H → Prop) : Kont := kSeq (cwp S tab spec_l06Shortest_M (spec_l06Shortest_M 1) (sub [1, 1, 0, 1, 0, 0, 1, 0, 0, 1, 1, 1, 1, 1, 1] (bodyOf Try.f76)) (kBlk 1 (spec_l06Shortest_ks6 S K X0))) (kBlk 1 (spec_l06Shortest_ks6 S K X0))
def spec_l06Shortest_e6 (s0_ : Sl) (s3_ : Sl) (s4_ : Sl) (i5_ : Int) (i6_ : Int) (i7_ : Int) (i8_ : Int) (i9_ : Int) (s11_ : Sl) (i12_ : Int) (i13_ : Int) : Frame := [.sl s0_, U, U, .sl s3_, .sl s4_, .int .i64 i5_, .int .i64 i6_, .int .i64 i7_, .int .i64 i8_, .int .i64 i9_, U, .sl s11_, .int .i64 i12_, .int .i64 i13_, U, U, U, U, U, U, U, U, U, U, U, U, U, U, U, U, U, U, U, U, U, U, U, U, U, U, U, U, U, U, U, U, U, U, U, U, U, U, U, U, U, U, U, U, U, U, U, U, U, U, U, U, U, U, U, U, U, U, U, U, U, U, U, U, U, U, U, U, U, U, U, U, U, U, U, U, U, U, U, U, U, U, U, U, U, U, U, U, U, U, U, U, U, U, U, U, U, U, U, U, U, U, U, U, U, U, U, U, U, U, U, U, U, U, U, U, U, U]
def spec_l06Shortest_w6 (S : SatT) (K : AVal → H → Prop) (X0 : Frame → H → Prop) : (Frame → H → Prop) → Frame → H → Prop := fun X fr h => cwp S tab spec_l06Shortest_M (spec_l06Shortest_M 6) (sub [1, 1, 0, 1, 0, 0, 1, 0, 0, 1, 1, 1, 1, 1, 0, 1, 0, 0] (bodyOf Try.f76)) (kSeq (fun fr h => X (mask (spec_l06Shortest_M 6) fr) h) (kBlk 6 (spec_l06Shortest_ks20 S K X0))) fr h
def spec_l06Shortest_L6 (S : SatT) (K : AVal → H → Prop) (X0 : Frame → H → Prop) (s0_ : Sl) (s3_ : Sl) (s4_ : Sl) (i5_ : Int) (i6_ : Int) (i7_ : Int) (i8_ : Int) (i9_ : Int) (s11_ : Sl) (i12_ : Int) (i13_ : Int) (h : H) : Prop := loopK (spec_l06Shortest_w6 S K X0) (spec_l06Shortest_e6 s0_ s3_ s4_ i5_ i6_ i7_ i8_ i9_ s11_ i12_ i13_) h
def spec_l06Shortest_C6 (S : SatT) (K : AVal → H → Prop) (X0 : Frame → H → Prop) (s0_ : Sl) (s3_ : Sl) (s4_ : Sl) (i5_ : Int) (i6_ : Int) (i7_ : Int) (i8_ : Int) (i9_ : Int) (s11_ : Sl) (h : H) : Prop :=
 bif (decide ((w64 ((2) * i7_)) ≤ i8_)) then
 spec_l06Shortest_C1 S K X0 s0_ s3_ s11_ (1) i9_ (w64 ((w64 (i8_ + (1))) - i7_)) i8_ h
 else
 spec_l06Shortest_C1 S K X0 s0_ s3_ s4_ (w64 (i5_ + (1))) i6_ i7_ i8_ h
def spec_l06Shortest_b6 (S : SatT) (K : AVal → H → Prop) (X0 : Frame → H → Prop) (X6 : Frame → H → Prop) (s0_ : Sl) (s3_ : Sl) (s4_ : Sl) (i5_ : Int) (i6_ : Int) (i7_ : Int) (i8_ : Int) (i9_ : Int) (s11_ : Sl) (i12_ : Int) (i13_ : Int) (h : H) : Prop :=
 bif (decide (i13_ < (s4_.len : Int))) then
 ixS s3_ 1 (w64 (i13_ + i5_)) fun p0 =>
 ldI .i64 p0 h fun n1 =>
 ixS s4_ 1 i13_ fun p2 =>
 ldI .i64 p2 h fun n3 =>
 nz (10007) (
 ixS s3_ 1 (w64 (i13_ + i5_)) fun p4 =>
 st1 p4 (.int .i64 (Int.tmod (w64 (n1 + (w64 ((w64 ((10007) - i12_)) * n3)))) (10007))) h fun h5 =>
 X6 (spec_l06Shortest_e6 s0_ s3_ s4_ i5_ i6_ i7_ i8_ i9_ s11_ i12_ (w64 (i13_ + (1)))) h5)
 else
 spec_l06Shortest_C6 S K X0 s0_ s3_ s4_ i5_ i6_ i7_ i8_ i9_ s11_ h
theorem spec_l06Shortest_link6 (S : SatT) (K : AVal → H → Prop) (X0 : Frame → H → Prop) (X6 : Frame → H → Prop) (s0_ : Sl) (s3_ : Sl) (s4_ : Sl) (i5_ : Int) (i6_ : Int) (i7_ : Int) (i8_ : Int) (i9_ : Int) (s11_ : Sl) (i12_ : Int) (i13_ : Int) (h : H) : spec_l06Shortest_w6 S K X0 X6 (spec_l06Shortest_e6 s0_ s3_ s4_ i5_ i6_ i7_ i8_ i9_ s11_ i12_ i13_) h = spec_l06Shortest_b6 S K X0 X6 s0_ s3_ s4_ i5_ i6_ i7_ i8_ i9_ s11_ i12_ i13_ h := by kernel_rfl
theorem spec_l06Shortest_rule6 (S : SatT) (K : AVal → H → Prop) (X0 : Frame → H → Prop) (s0_ : Sl) (s3_ : Sl) (s4_ : Sl) (i5_ : Int) (i6_ : Int) (i7_ : Int) (i8_ : Int) (i9_ : Int) (s11_ : Sl) (i12_ : Int) (I_ : Int → H → Prop) (m_ : Int → H → Nat)
    (hs : ∀ (X6 : Frame → H → Prop) (i13_ : Int) (h : H), I_ i13_ h → (∀ (i13_' : Int) (h' : H), I_ i13_' h' → m_ i13_' h' < m_ i13_ h → X6 (spec_l06Shortest_e6 s0_ s3_ s4_ i5_ i6_ i7_ i8_ i9_ s11_ i12_ i13_') h') → spec_l06Shortest_b6 S K X0 X6 s0_ s3_ s4_ i5_ i6_ i7_ i8_ i9_ s11_ i12_ i13_ h) (i13_ : Int) {h : H} (h0 : I_ i13_ h) : spec_l06Shortest_L6 S K X0 s0_ s3_ s4_ i5_ i6_ i7_ i8_ i9_ s11_ i12_ i13_ h :=
  loop_rule (σ := (Int)) (fun s_ => spec_l06Shortest_e6 s0_ s3_ s4_ i5_ i6_ i7_ i8_ i9_ s11_ i12_ (s_)) (fun s_ h => I_ (s_) h) (fun s_ h => m_ (s_) h)
    (fun X s_ h hi hx => (spec_l06Shortest_link6 S K X0 X s0_ s3_ s4_ i5_ i6_ i7_ i8_ i9_ s11_ i12_ (s_) h).mpr (hs X (s_) h hi fun i13_' h' hi' hm' => hx (i13_') h' hi' hm')) (i13_) h0
theorem spec_l06Shortest_unroll6 (S : SatT) (K : AVal → H → Prop) (X0 : Frame → H → Prop) (s0_ : Sl) (s3_ : Sl) (s4_ : Sl) (i5_ : Int) (i6_ : Int) (i7_ : Int) (i8_ : Int) (i9_ : Int) (s11_ : Sl) (i12_ : Int) (i13_ : Int) (h : H) (hb : spec_l06Shortest_b6 S K X0 (fun fr h => loopK (spec_l06Shortest_w6 S K X0) fr h) s0_ s3_ s4_ i5_ i6_ i7_ i8_ i9_ s11_ i12_ i13_ h) : spec_l06Shortest_L6 S K X0 s0_ s3_ s4_ i5_ i6_ i7_ i8_ i9_ s11_ i12_ i13_ h := loop_unroll ((spec_l06Shortest_link6 S K X0 _ s0_ s3_ s4_ i5_ i6_ i7_ i8_ i9_ s11_ i12_ i13_ h).mpr hb)
def spec_l06Shortest_C4 (S : SatT) (K : AVal → H → Prop) (X0 : Frame → H → Prop) (s0_ : Sl) (s3_ : Sl) (s4_ : Sl) (i5_ : Int) (i6_ : Int) (i7_ : Int) (i8_ : Int) (i9_ : Int) (s11_ : Sl) (i12_ : Int) (h : H) : Prop :=
 spec_l06Shortest_L6 S K X0 s0_ s3_ s4_ i5_ i6_ i7_ i8_ i9_ s11_ i12_ (0) h
def spec_l06Shortest_b4 (S : SatT) (K : AVal → H → Prop) (X0 : Frame → H → Prop) (X4 : Frame → H → Prop) (s0_ : Sl) (s3_ : Sl) (s4_ : Sl) (i5_ : Int) (i6_ : Int) (i7_ : Int) (i8_ : Int) (i9_ : Int) (s11_ : Sl) (i12_ : Int) (h : H) : Prop :=
 bif (decide ((s3_.len : Int) < (w64 ((s4_.len : Int) + i5_)))) then
 newS 1 1 [.int .i64 (0)] h fun s0 h1 =>
 app s3_ s0 1 h1 fun s2 h3 =>
 X4 (spec_l06Shortest_e4 s0_ s2 s4_ i5_ i6_ i7_ i8_ i9_ s11_ i12_) h3
 else
 spec_l06Shortest_C4 S K X0 s0_ s3_ s4_ i5_ i6_ i7_ i8_ i9_ s11_ i12_ h
theorem spec_l06Shortest_link4 (S : SatT) (K : AVal → H → Prop) (X0 : Frame → H → Prop) (X4 : Frame → H → Prop) (s0_ : Sl) (s3_ : Sl) (s4_ : Sl) (i5_ : Int) (i6_ : Int) (i7_ : Int) (i8_ : Int) (i9_ : Int) (s11_ : Sl) (i12_ : Int) (h : H) : spec_l06Shortest_w4 S K X0 X4 (spec_l06Shortest_e4 s0_ s3_ s4_ i5_ i6_ i7_ i8_ i9_ s11_ i12_) h = spec_l06Shortest_b4 S K X0 X4 s0_ s3_ s4_ i5_ i6_ i7_ i8_ i9_ s11_ i12_ h := by kernel_rfl
theorem spec_l06Shortest_rule4 (S : SatT) (K : AVal → H → Prop) (X0 : Frame → H → Prop) (s0_ : Sl) (s4_ : Sl) (i5_ : Int) (i6_ : Int) (i7_ : Int) (i8_ : Int) (i9_ : Int) (s11_ : Sl) (i12_ : Int) (I_ : Sl → H → Prop) (m_ : Sl → H → Nat)
    (hs : ∀ (X4 : Frame → H → Prop) (s3_ : Sl) (h : H), I_ s3_ h → (∀ (s3_' : Sl) (h' : H), I_ s3_' h' → m_ s3_' h' < m_ s3_ h → X4 (spec_l06Shortest_e4 s0_ s3_' s4_ i5_ i6_ i7_ i8_ i9_ s11_ i12_) h') → spec_l06Shortest_b4 S K X0 X4 s0_ s3_ s4_ i5_ i6_ i7_ i8_ i9_ s11_ i12_ h) (s3_ : Sl) {h : H} (h0 : I_ s3_ h) : spec_l06Shortest_L4 S K X0 s0_ s3_ s4_ i5_ i6_ i7_ i8_ i9_ s11_ i12_ h :=
  loop_rule (σ := (Sl)) (fun s_ => spec_l06Shortest_e4 s0_ (s_) s4_ i5_ i6_ i7_ i8_ i9_ s11_ i12_) (fun s_ h => I_ (s_) h) (fun s_ h => m_ (s_) h)
    (fun X s_ h hi hx => (spec_l06Shortest_link4 S K X0 X s0_ (s_) s4_ i5_ i6_ i7_ i8_ i9_ s11_ i12_ h).mpr (hs X (s_) h hi fun s3_' h' hi' hm' => hx (s3_') h' hi' hm')) (s3_) h0
theorem spec_l06Shortest_unroll4 (S : SatT) (K : AVal → H → Prop) (X0 : Frame → H → Prop) (s0_ : Sl) (s3_ : Sl) (s4_ : Sl) (i5_ : Int) (i6_ : Int) (i7_ : Int) (i8_ : Int) (i9_ : Int) (s11_ : Sl) (i12_ : Int) (h : H) (hb : spec_l06Shortest_b4 S K X0 (fun fr h => loopK (spec_l06Shortest_w4 S K X0) fr h) s0_ s3_ s4_ i5_ i6_ i7_ i8_ i9_ s11_ i12_ h) : spec_l06Shortest_L4 S K X0 s0_ s3_ s4_ i5_ i6_ i7_ i8_ i9_ s11_ i12_ h := loop_unroll ((spec_l06Shortest_link4 S K X0 _ s0_ s3_ s4_ i5_ i6_ i7_ i8_ i9_ s11_ i12_ h).mpr hb)
def spec_l06Shortest_C2 (S : SatT) (K : AVal → H → Prop) (X0 : Frame → H → Prop) (s0_ : Sl) (s3_ : Sl) (s4_ : Sl) (i5_ : Int) (i6_ : Int) (i7_ : Int) (i8_ : Int) (i9_ : Int) (h : H) : Prop :=
 bif (i9_ == (0)) then
 spec_l06Shortest_C1 S K X0 s0_ s3_ s4_ (w64 (i5_ + (1))) i6_ i7_ i8_ h
 else
 callS S i_spec_l01Own [.sl s3_] h fun s1 h0 =>
 callI S .i64 i_spec_l06Inverse [.int .i64 i6_] h0 fun n3 h2 =>
 nz (10007) (
 spec_l06Shortest_L4 S K X0 s0_ s3_ s4_ i5_ i6_ i7_ i8_ i9_ s1 (Int.tmod (w64 (i9_ * n3)) (10007)) h2)
def spec_l06Shortest_b2 (S : SatT) (K : AVal → H → Prop) (X0 : Frame → H → Prop) (X2 : Frame → H → Prop) (s0_ : Sl) (s3_ : Sl) (s4_ : Sl) (i5_ : Int) (i6_ : Int) (i7_ : Int) (i8_ : Int) (i9_ : Int) (i10_ : Int) (h : H) : Prop :=
 bif (decide (i10_ ≤ i7_)) then
 bif (decide (i10_ < (s3_.len : Int))) then
 ixS s3_ 1 i10_ fun p0 =>
 ldI .i64 p0 h fun n1 =>
 ixS s0_ 1 (w64 (i8_ - i10_)) fun p2 =>
 ldI .i64 p2 h fun n3 =>
 nz (10007) (
 X2 (spec_l06Shortest_e2 s0_ s3_ s4_ i5_ i6_ i7_ i8_ (Int.tmod (w64 (i9_ + (w64 (n1 * n3)))) (10007)) (w64 (i10_ + (1)))) h)
 else
 spec_l06Shortest_C2 S K X0 s0_ s3_ s4_ i5_ i6_ i7_ i8_ i9_ h
 else
 spec_l06Shortest_C2 S K X0 s0_ s3_ s4_ i5_ i6_ i7_ i8_ i9_ h
theorem spec_l06Shortest_link2 (S : SatT) (K : AVal → H → Prop) (X0 : Frame → H → Prop) (X2 : Frame → H → Prop) (s0_ : Sl) (s3_ : Sl) (s4_ : Sl) (i5_ : Int) (i6_ : Int) (i7_ : Int) (i8_ : Int) (i9_ : Int) (i10_ : Int) (h : H) : spec_l06Shortest_w2 S K X0 X2 (spec_l06Shortest_e2 s0_ s3_ s4_ i5_ i6_ i7_ i8_ i9_ i10_) h = spec_l06Shortest_b2 S K X0 X2 s0_ s3_ s4_ i5_ i6_ i7_ i8_ i9_ i10_ h := by kernel_rfl
theorem spec_l06Shortest_rule2 (S : SatT) (K : AVal → H → Prop) (X0 : Frame → H → Prop) (s0_ : Sl) (s3_ : Sl) (s4_ : Sl) (i5_ : Int) (i6_ : Int) (i7_ : Int) (i8_ : Int) (I_ : Int → Int → H → Prop) (m_ : Int → Int → H → Nat)
    (hs : ∀ (X2 : Frame → H → Prop) (i9_ : Int) (i10_ : Int) (h : H), I_ i9_ i10_ h → (∀ (i9_' : Int) (i10_' : Int) (h' : H), I_ i9_' i10_' h' → m_ i9_' i10_' h' < m_ i9_ i10_ h → X2 (spec_l06Shortest_e2 s0_ s3_ s4_ i5_ i6_ i7_ i8_ i9_' i10_') h') → spec_l06Shortest_b2 S K X0 X2 s0_ s3_ s4_ i5_ i6_ i7_ i8_ i9_ i10_ h) (i9_ : Int) (i10_ : Int) {h : H} (h0 : I_ i9_ i10_ h) : spec_l06Shortest_L2 S K X0 s0_ s3_ s4_ i5_ i6_ i7_ i8_ i9_ i10_ h :=
  loop_rule (σ := (Int) × (Int)) (fun s_ => spec_l06Shortest_e2 s0_ s3_ s4_ i5_ i6_ i7_ i8_ (s_.1) (s_.2)) (fun s_ h => I_ (s_.1) (s_.2) h) (fun s_ h => m_ (s_.1) (s_.2) h)
    (fun X s_ h hi hx => (spec_l06Shortest_link2 S K X0 X s0_ s3_ s4_ i5_ i6_ i7_ i8_ (s_.1) (s_.2) h).mpr (hs X (s_.1) (s_.2) h hi fun i9_' i10_' h' hi' hm' => hx (i9_', i10_') h' hi' hm')) (i9_, i10_) h0
theorem spec_l06Shortest_unroll2 (S : SatT) (K : AVal → H → Prop) (X0 : Frame → H → Prop) (s0_ : Sl) (s3_ : Sl) (s4_ : Sl) (i5_ : Int) (i6_ : Int) (i7_ : Int) (i8_ : Int) (i9_ : Int) (i10_ : Int) (h : H) (hb : spec_l06Shortest_b2 S K X0 (fun fr h => loopK (spec_l06Shortest_w2 S K X0) fr h) s0_ s3_ s4_ i5_ i6_ i7_ i8_ i9_ i10_ h) : spec_l06Shortest_L2 S K X0 s0_ s3_ s4_ i5_ i6_ i7_ i8_ i9_ i10_ h := loop_unroll ((spec_l06Shortest_link2 S K X0 _ s0_ s3_ s4_ i5_ i6_ i7_ i8_ i9_ i10_ h).mpr hb)
def spec_l06Shortest_ks30 (S : SatT) (K : AVal → H → Prop) : Kont := kSeq (cwp S tab spec_l06Shortest_M [] (sub [1, 1, 1, 1, 1] (bodyOf Try.f76)) (kFun tab (Try.f76).results.toList K)) (kFun tab (Try.f76).results.toList K)
def spec_l06Shortest_e8 (s3_ : Sl) (i7_ : Int) (s14_ : Sl) (i15_ : Int) : Frame := [U, U, U, .sl s3_, U, U, U, .int .i64 i7_, U, U, U, U, U, U, .sl s14_, .int .i64 i15_, U, U, U, U, U, U, U, U, U, U, U, U, U, U, U, U, U, U, U, U, U, U, U, U, U, U, U, U, U, U, U, U, U, U, U, U, U, U, U, U, U, U, U, U, U, U, U, U, U, U, U, U, U, U, U, U, U, U, U, U, U, U, U, U, U, U, U, U, U, U, U, U, U, U, U, U, U, U, U, U, U, U, U, U, U, U, U, U, U, U, U, U, U, U, U, U, U, U, U, U, U, U, U, U, U, U, U, U, U, U, U, U, U, U, U, U]
def spec_l06Shortest_w8 (S : SatT) (K : AVal → H → Prop) : (Frame → H → Prop) → Frame → H → Prop := fun X fr h => cwp S tab spec_l06Shortest_M (spec_l06Shortest_M 8) (sub [1, 1, 1, 1, 0, 1, 0, 0] (bodyOf Try.f76)) (kSeq (fun fr h => X (mask (spec_l06Shortest_M 8) fr) h) (kBlk 8 (spec_l06Shortest_ks30 S K))) fr h
def spec_l06Shortest_L8 (S : SatT) (K : AVal → H → Prop) (s3_ : Sl) (i7_ : Int) (s14_ : Sl) (i15_ : Int) (h : H) : Prop := loopK (spec_l06Shortest_w8 S K) (spec_l06Shortest_e8 s3_ i7_ s14_ i15_) h
def spec_l06Shortest_C8 (S : SatT) (K : AVal → H → Prop) (s14_ : Sl) (h : H) : Prop :=
 K (.sl s14_) h
def spec_l06Shortest_b8 (S : SatT) (K : AVal → H → Prop) (X8 : Frame → H → Prop) (s3_ : Sl) (i7_ : Int) (s14_ : Sl) (i15_ : Int) (h : H) : Prop :=
 bif (decide (i15_ ≤ i7_)) then
 bif (decide (i15_ < (s3_.len : Int))) then
 ixS s3_ 1 i15_ fun p0 =>
 ldI .i64 p0 h fun n1 =>
 nz (10007) (
 ixS s14_ 1 (w64 (i15_ - (1))) fun p2 =>
 st1 p2 (.int .i64 (Int.tmod (w64 ((10007) - n1)) (10007))) h fun h3 =>
 X8 (spec_l06Shortest_e8 s3_ i7_ s14_ (w64 (i15_ + (1)))) h3)
 else
 spec_l06Shortest_C8 S K s14_ h
 else
 spec_l06Shortest_C8 S K s14_ h
theorem spec_l06Shortest_link8 (S : SatT) (K : AVal → H → Prop) (X8 : Frame → H → Prop) (s3_ : Sl) (i7_ : Int) (s14_ : Sl) (i15_ : Int) (h : H) : spec_l06Shortest_w8 S K X8 (spec_l06Shortest_e8 s3_ i7_ s14_ i15_) h = spec_l06Shortest_b8 S K X8 s3_ i7_ s14_ i15_ h := by kernel_rfl
theorem spec_l06Shortest_rule8 (S : SatT) (K : AVal → H → Prop) (s3_ : Sl) (i7_ : Int) (s14_ : Sl) (I_ : Int → H → Prop) (m_ : Int → H → Nat)
    (hs : ∀ (X8 : Frame → H → Prop) (i15_ : Int) (h : H), I_ i15_ h → (∀ (i15_' : Int) (h' : H), I_ i15_' h' → m_ i15_' h' < m_ i15_ h → X8 (spec_l06Shortest_e8 s3_ i7_ s14_ i15_') h') → spec_l06Shortest_b8 S K X8 s3_ i7_ s14_ i15_ h) (i15_ : Int) {h : H} (h0 : I_ i15_ h) : spec_l06Shortest_L8 S K s3_ i7_ s14_ i15_ h :=
  loop_rule (σ := (Int)) (fun s_ => spec_l06Shortest_e8 s3_ i7_ s14_ (s_)) (fun s_ h => I_ (s_) h) (fun s_ h => m_ (s_) h)
    (fun X s_ h hi hx => (spec_l06Shortest_link8 S K X s3_ i7_ s14_ (s_) h).mpr (hs X (s_) h hi fun i15_' h' hi' hm' => hx (i15_') h' hi' hm')) (i15_) h0
theorem spec_l06Shortest_unroll8 (S : SatT) (K : AVal → H → Prop) (s3_ : Sl) (i7_ : Int) (s14_ : Sl) (i15_ : Int) (h : H) (hb : spec_l06Shortest_b8 S K (fun fr h => loopK (spec_l06Shortest_w8 S K) fr h) s3_ i7_ s14_ i15_ h) : spec_l06Shortest_L8 S K s3_ i7_ s14_ i15_ h := loop_unroll ((spec_l06Shortest_link8 S K _ s3_ i7_ s14_ i15_ h).mpr hb)
def spec_l06Shortest_C0 (S : SatT) (K : AVal → H → Prop) (s3_ : Sl) (i7_ : Int) (h : H) : Prop :=
 mkS i7_ [.int .i64 (0)] h fun s0 h1 =>
 spec_l06Shortest_L8 S K s3_ i7_ s0 (1) h1
def spec_l06Shortest_b0 (S : SatT) (K : AVal → H → Prop) (X0 : Frame → H → Prop) (s0_ : Sl) (s3_ : Sl) (s4_ : Sl) (i5_ : Int) (i6_ : Int) (i7_ : Int) (i8_ : Int) (h : H) : Prop :=
 bif (decide (i8_ < (s0_.len : Int))) then
 spec_l06Shortest_L2 S K X0 s0_ s3_ s4_ i5_ i6_ i7_ i8_ (0) (0) h
 else
 spec_l06Shortest_C0 S K s3_ i7_ h
theorem spec_l06Shortest_link0 (S : SatT) (K : AVal → H → Prop) (X0 : Frame → H → Prop) (s0_ : Sl) (s3_ : Sl) (s4_ : Sl) (i5_ : Int) (i6_ : Int) (i7_ : Int) (i8_ : Int) (h : H) : spec_l06Shortest_w0 S K X0 (spec_l06Shortest_e0 s0_ s3_ s4_ i5_ i6_ i7_ i8_) h = spec_l06Shortest_b0 S K X0 s0_ s3_ s4_ i5_ i6_ i7_ i8_ h := by kernel_rfl
theorem spec_l06Shortest_rule0 (S : SatT) (K : AVal → H → Prop) (s0_ : Sl) (I_ : Sl → Sl → Int → Int → Int → Int → H → Prop) (m_ : Sl → Sl → Int → Int → Int → Int → H → Nat)
    (hs : ∀ (X0 : Frame → H → Prop) (s3_ : Sl) (s4_ : Sl) (i5_ : Int) (i6_ : Int) (i7_ : Int) (i8_ : Int) (h : H), I_ s3_ s4_ i5_ i6_ i7_ i8_ h → (∀ (s3_' : Sl) (s4_' : Sl) (i5_' : Int) (i6_' : Int) (i7_' : Int) (i8_' : Int) (h' : H), I_ s3_' s4_' i5_' i6_' i7_' i8_' h' → m_ s3_' s4_' i5_' i6_' i7_' i8_' h' < m_ s3_ s4_ i5_ i6_ i7_ i8_ h → X0 (spec_l06Shortest_e0 s0_ s3_' s4_' i5_' i6_' i7_' i8_') h') → spec_l06Shortest_b0 S K X0 s0_ s3_ s4_ i5_ i6_ i7_ i8_ h) (s3_ : Sl) (s4_ : Sl) (i5_ : Int) (i6_ : Int) (i7_ : Int) (i8_ : Int) {h : H} (h0 : I_ s3_ s4_ i5_ i6_ i7_ i8_ h) : spec_l06Shortest_L0 S K s0_ s3_ s4_ i5_ i6_ i7_ i8_ h :=
  loop_rule (σ := (Sl) × (Sl) × (Int) × (Int) × (Int) × (Int)) (fun s_ => spec_l06Shortest_e0 s0_ (s_.1) (s_.2.1) (s_.2.2.1) (s_.2.2.2.1) (s_.2.2.2.2.1) (s_.2.2.2.2.2)) (fun s_ h => I_ (s_.1) (s_.2.1) (s_.2.2.1) (s_.2.2.2.1) (s_.2.2.2.2.1) (s_.2.2.2.2.2) h) (fun s_ h => m_ (s_.1) (s_.2.1) (s_.2.2.1) (s_.2.2.2.1) (s_.2.2.2.2.1) (s_.2.2.2.2.2) h)
    (fun X s_ h hi hx => (spec_l06Shortest_link0 S K X s0_ (s_.1) (s_.2.1) (s_.2.2.1) (s_.2.2.2.1) (s_.2.2.2.2.1) (s_.2.2.2.2.2) h).mpr (hs X (s_.1) (s_.2.1) (s_.2.2.1) (s_.2.2.2.1) (s_.2.2.2.2.1) (s_.2.2.2.2.2) h hi fun s3_' s4_' i5_' i6_' i7_' i8_' h' hi' hm' => hx (s3_', s4_', i5_', i6_', i7_', i8_') h' hi' hm')) (s3_, s4_, i5_, i6_, i7_, i8_) h0
theorem spec_l06Shortest_unroll0 (S : SatT) (K : AVal → H → Prop) (s0_ : Sl) (s3_ : Sl) (s4_ : Sl) (i5_ : Int) (i6_ : Int) (i7_ : Int) (i8_ : Int) (h : H) (hb : spec_l06Shortest_b0 S K (fun fr h => loopK (spec_l06Shortest_w0 S K) fr h) s0_ s3_ s4_ i5_ i6_ i7_ i8_ h) : spec_l06Shortest_L0 S K s0_ s3_ s4_ i5_ i6_ i7_ i8_ h := loop_unroll ((spec_l06Shortest_link0 S K _ s0_ s3_ s4_ i5_ i6_ i7_ i8_ h).mpr hb)
def spec_l06Shortest_main (S : SatT) (K : AVal → H → Prop) (x0 : Sl) (h : H) : Prop :=
 newS 1 1 [.int .i64 (1)] h fun s0 h1 =>
 newS 1 1 [.int .i64 (1)] h1 fun s2 h3 =>
 spec_l06Shortest_L0 S K x0 s0 s2 (1) (1) (0) (0) h3
theorem spec_l06Shortest_main_link (S : SatT) (K : AVal → H → Prop) (x0 : Sl) (h : H) : cwp S tab spec_l06Shortest_M [] (bodyOf Try.f76) (kFun tab Try.f76.results.toList K) (fr0 Try.f76 [.sl x0]) h = spec_l06Shortest_main S K x0 h := by kernel_rfl
theorem spec_l06Shortest_call (x0 : Sl) (h : H) (K : Sl → H → Prop) (hm : spec_l06Shortest_main (Sat Try.prog) (fun v h' => ∃ r, v = .sl r ∧ K r h') x0 h) : callS (Sat Try.prog) i_spec_l06Shortest [.sl x0] h K := by
  have := Sat.ex tok mixed spec_l06Shortest_M Try.func76 (c := bodyOf Try.f76) (by kernel_rfl) (calls_of Try.func76 (c := bodyOf Try.f76) (by kernel_rfl) (by decide)) ((spec_l06Shortest_main_link _ _ x0 h).mpr hm)
  obtain ⟨v, h2, h3, r, rfl, h4⟩ := this; exact ⟨r, h2, h3, h4⟩

/-! ### loop.example/g01354/spec.l06Period -/
def spec_l06Period_M : Nat → List Nat := fun i => bif i == 8 then [0, 5, 10, 11, 12] else bif i == 6 then [0, 5, 10, 11] else bif i == 4 then [0, 5, 6, 8, 9] else bif i == 2 then [0, 5, 6] else bif i == 0 then [0, 5, 6, 7] else []
def spec_l06Period_ks7 (S : SatT) (K : AVal → H → Prop) : Kont := kSeq (cwp S tab spec_l06Period_M [] (sub [1, 1, 1, 1, 1] (bodyOf Try.f82)) (kFun tab (Try.f82).results.toList K)) (kFun tab (Try.f82).results.toList K)
def spec_l06Period_e0 (s0_ : Sl) (s5_ : Sl) (s6_ : Sl) (i7_ : Int) : Frame := [.sl s0_, U, U, U, U, .sl s5_, .sl s6_, .int .i64 i7_, U, U, U, U, U, U, U, U, U, U, U, U, U, U, U, U, U, U, U, U, U, U, U, U, U, U, U, U, U, U, U, U, U, U, U, U, U, U, U, U, U, U, U, U, U, U, U, U, U, U, U, U, U, U, U, U, U, U, U, U, U, U, U, U, U, U, U, U, U, U, U, U, U, U, U, U, U, U, U, U, U, U, U, U, U, U, U, U, U, U, U, U, U, U, U, U, U, U, U, U, U, U, U, U, U, U, U, U, U, U, U]
def spec_l06Period_w0 (S : SatT) (K : AVal → H → Prop) : (Frame → H → Prop) → Frame → H → Prop := fun X fr h => cwp S tab spec_l06Period_M (spec_l06Period_M 0) (sub [1, 1, 1, 1, 0, 1, 0, 0] (bodyOf Try.f82)) (kSeq (fun fr h => X (mask (spec_l06Period_M 0) fr) h) (kBlk 0 (spec_l06Period_ks7 S K))) fr h
def spec_l06Period_L0 (S : SatT) (K : AVal → H → Prop) (s0_ : Sl) (s5_ : Sl) (s6_ : Sl) (i7_ : Int) (h : H) : Prop := loopK (spec_l06Period_w0 S K) (spec_l06Period_e0 s0_ s5_ s6_ i7_) h
def spec_l06Period_ks12 (S : SatT) (K : AVal → H → Prop) : Kont := kSeq (cwp S tab spec_l06Period_M [] (sub [1, 1, 1, 1, 1, 1] (bodyOf Try.f82)) (kFun tab (Try.f82).results.toList K)) (kFun tab (Try.f82).results.toList K)
def spec_l06Period_e2 (s0_ : Sl) (s5_ : Sl) (s6_ : Sl) : Frame := [.sl s0_, U, U, U, U, .sl s5_, .sl s6_, U, U, U, U, U, U, U, U, U, U, U, U, U, U, U, U, U, U, U, U, U, U, U, U, U, U, U, U, U, U, U, U, U, U, U, U, U, U, U, U, U, U, U, U, U, U, U, U, U, U, U, U, U, U, U, U, U, U, U, U, U, U, U, U, U, U, U, U, U, U, U, U, U, U, U, U, U, U, U, U, U, U, U, U, U, U, U, U, U, U, U, U, U, U, U, U, U, U, U, U, U, U, U, U, U, U, U, U, U, U, U, U]
def spec_l06Period_w2 (S : SatT) (K : AVal → H → Prop) : (Frame → H → Prop) → Frame → H → Prop := fun X fr h => cwp S tab spec_l06Period_M (spec_l06Period_M 2) (sub [1, 1, 1, 1, 1, 0, 0, 0] (bodyOf Try.f82)) (kSeq (fun fr h => X (mask (spec_l06Period_M 2) fr) h) (kBlk 2 (spec_l06Period_ks12 S K))) fr h
def spec_l06Period_L2 (S : SatT) (K : AVal → H → Prop) (s0_ : Sl) (s5_ : Sl) (s6_ : Sl) (h : H) : Prop := loopK (spec_l06Period_w2 S K) (spec_l06Period_e2 s0_ s5_ s6_) h
def spec_l06Period_e4 (s0_ : Sl) (s5_ : Sl) (s6_ : Sl) (i8_ : Int) (i9_ : Int) : Frame := [.sl s0_, U, U, U, U, .sl s5_, .sl s6_, U, .int .i64 i8_, .int .i64 i9_, U, U, U, U, U, U, U, U, U, U, U, U, U, U, U, U, U, U, U, U, U, U, U, U, U, U, U, U, U, U, U, U, U, U, U, U, U, U, U, U, U, U, U, U, U, U, U, U, U, U, U, U, U, U, U, U, U, U, U, U, U, U, U, U, U, U, U, U, U, U, U, U, U, U, U, U, U, U, U, U, U, U, U, U, U, U, U, U, U, U, U, U, U, U, U, U, U, U, U, U, U, U, U, U, U, U, U, U, U]
def spec_l06Period_w4 (S : SatT) (K : AVal → H → Prop) (X2 : Frame → H → Prop) : (Frame → H → Prop) → Frame → H → Prop := fun X fr h => cwp S tab spec_l06Period_M (spec_l06Period_M 4) (sub [1, 1, 1, 1, 1, 0, 0, 0, 1, 0, 1, 1, 1, 0, 0] (bodyOf Try.f82)) (kSeq (fun fr h => X (mask (spec_l06Period_M 4) fr) h) (kBlk 4 (kBlk 3 (kSeq (fun fr h => X2 (mask (spec_l06Period_M 2) fr) h) (kBlk 2 (spec_l06Period_ks12 S K)))))) fr h
def spec_l06Period_L4 (S : SatT) (K : AVal → H → Prop) (X2 : Frame → H → Prop) (s0_ : Sl) (s5_ : Sl) (s6_ : Sl) (i8_ : Int) (i9_ : Int) (h : H) : Prop := loopK (spec_l06Period_w4 S K X2) (spec_l06Period_e4 s0_ s5_ s6_ i8_ i9_) h
def spec_l06Period_C4 (S : SatT) (K : AVal → H → Prop) (X2 : Frame → H → Prop) (s0_ : Sl) (s5_ : Sl) (s6_ : Sl) (h : H) : Prop :=
 X2 (spec_l06Period_e2 s0_ s5_ s6_) h
def spec_l06Period_b4 (S : SatT) (K : AVal → H → Prop) (X2 : Frame → H → Prop) (X4 : Frame → H → Prop) (s0_ : Sl) (s5_ : Sl) (s6_ : Sl) (i8_ : Int) (i9_ : Int) (h : H) : Prop :=
 bif (decide (i9_ < (s0_.len : Int))) then
 ixS s0_ 1 i8_ fun p0 =>
 ldS p0 h fun s1 =>
 ixS s1 1 i9_ fun p2 =>
 ldI .i64 p2 h fun n3 =>
 bif (decide (n3 > (0))) then
 ixS s5_ 1 i9_ fun p4 =>
 ldI .i64 p4 h fun n5 =>
 bif (decide (n5 < (0))) then
 ixS s5_ 1 i8_ fun p6 =>
 ldI .i64 p6 h fun n7 =>
 ixS s5_ 1 i9_ fun p8 =>
 st1 p8 (.int .i64 (w64 (n7 + (1)))) h fun h9 =>
 newS 1 1 [.int .i64 i9_] h9 fun s10 h11 =>
 app s6_ s10 1 h11 fun s12 h13 =>
 X4 (spec_l06Period_e4 s0_ s5_ s12 i8_ (w64 (i9_ + (1)))) h13
 else
 X4 (spec_l06Period_e4 s0_ s5_ s6_ i8_ (w64 (i9_ + (1)))) h
 else
 X4 (spec_l06Period_e4 s0_ s5_ s6_ i8_ (w64 (i9_ + (1)))) h
 else
 spec_l06Period_C4 S K X2 s0_ s5_ s6_ h
theorem spec_l06Period_link4 (S : SatT) (K : AVal → H → Prop) (X2 : Frame → H → Prop) (X4 : Frame → H → Prop) (s0_ : Sl) (s5_ : Sl) (s6_ : Sl) (i8_ : Int) (i9_ : Int) (h : H) : spec_l06Period_w4 S K X2 X4 (spec_l06Period_e4 s0_ s5_ s6_ i8_ i9_) h = spec_l06Period_b4 S K X2 X4 s0_ s5_ s6_ i8_ i9_ h := by kernel_rfl
theorem spec_l06Period_rule4 (S : SatT) (K : AVal → H → Prop) (X2 : Frame → H → Prop) (s0_ : Sl) (s5_ : Sl) (i8_ : Int) (I_ : Sl → Int → H → Prop) (m_ : Sl → Int → H → Nat)
    (hs : ∀ (X4 : Frame → H → Prop) (s6_ : Sl) (i9_ : Int) (h : H), I_ s6_ i9_ h → (∀ (s6_' : Sl) (i9_' : Int) (h' : H), I_ s6_' i9_' h' → m_ s6_' i9_' h' < m_ s6_ i9_ h → X4 (spec_l06Period_e4 s0_ s5_ s6_' i8_ i9_') h') → spec_l06Period_b4 S K X2 X4 s0_ s5_ s6_ i8_ i9_ h) (s6_ : Sl) (i9_ : Int) {h : H} (h0 : I_ s6_ i9_ h) : spec_l06Period_L4 S K X2 s0_ s5_ s6_ i8_ i9_ h :=
  loop_rule (σ := (Sl) × (Int)) (fun s_ => spec_l06Period_e4 s0_ s5_ (s_.1) i8_ (s_.2)) (fun s_ h => I_ (s_.1) (s_.2) h) (fun s_ h => m_ (s_.1) (s_.2) h)
    (fun X s_ h hi hx => (spec_l06Period_link4 S K X2 X s0_ s5_ (s_.1) i8_ (s_.2) h).mpr (hs X (s_.1) (s_.2) h hi fun s6_' i9_' h' hi' hm' => hx (s6_', i9_') h' hi' hm')) (s6_, i9_) h0
theorem spec_l06Period_unroll4 (S : SatT) (K : AVal → H → Prop) (X2 : Frame → H → Prop) (s0_ : Sl) (s5_ : Sl) (s6_ : Sl) (i8_ : Int) (i9_ : Int) (h : H) (hb : spec_l06Period_b4 S K X2 (fun fr h => loopK (spec_l06Period_w4 S K X2) fr h) s0_ s5_ s6_ i8_ i9_ h) : spec_l06Period_L4 S K X2 s0_ s5_ s6_ i8_ i9_ h := loop_unroll ((spec_l06Period_link4 S K X2 _ s0_ s5_ s6_ i8_ i9_ h).mpr hb)
def spec_l06Period_ks24 (S : SatT) (K : AVal → H → Prop) : Kont := kSeq (cwp S tab spec_l06Period_M [] (sub [1, 1, 1, 1, 1, 1, 1, 1] (bodyOf Try.f82)) (kFun tab (Try.f82).results.toList K)) (kFun tab (Try.f82).results.toList K)
def spec_l06Period_e6 (s0_ : Sl) (s5_ : Sl) (i10_ : Int) (i11_ : Int) : Frame := [.sl s0_, U, U, U, U, .sl s5_, U, U, U, U, .int .i64 i10_, .int .i64 i11_, U, U, U, U, U, U, U, U, U, U, U, U, U, U, U, U, U, U, U, U, U, U, U, U, U, U, U, U, U, U, U, U, U, U, U, U, U, U, U, U, U, U, U, U, U, U, U, U, U, U, U, U, U, U, U, U, U, U, U, U, U, U, U, U, U, U, U, U, U, U, U, U, U, U, U, U, U, U, U, U, U, U, U, U, U, U, U, U, U, U, U, U, U, U, U, U, U, U, U, U, U, U, U, U, U, U, U]
def spec_l06Period_w6 (S : SatT) (K : AVal → H → Prop) : (Frame → H → Prop) → Frame → H → Prop := fun X fr h => cwp S tab spec_l06Period_M (spec_l06Period_M 6) (sub [1, 1, 1, 1, 1, 1, 1, 0, 1, 0, 0] (bodyOf Try.f82)) (kSeq (fun fr h => X (mask (spec_l06Period_M 6) fr) h) (kBlk 6 (spec_l06Period_ks24 S K))) fr h
def spec_l06Period_L6 (S : SatT) (K : AVal → H → Prop) (s0_ : Sl) (s5_ : Sl) (i10_ : Int) (i11_ : Int) (h : H) : Prop := loopK (spec_l06Period_w6 S K) (spec_l06Period_e6 s0_ s5_ i10_ i11_) h
def spec_l06Period_ks28 (S : SatT) (K : AVal → H → Prop) (X6 : Frame → H → Prop) : Kont := kSeq (cwp S tab spec_l06Period_M (spec_l06Period_M 6) (sub [1, 1, 1, 1, 1, 1, 1, 0, 1, 0, 0, 1, 1] (bodyOf Try.f82)) (kSeq (fun fr h => X6 (mask (spec_l06Period_M 6) fr) h) (kBlk 6 (spec_l06Period_ks24 S K)))) (kSeq (fun fr h => X6 (mask (spec_l06Period_M 6) fr) h) (kBlk 6 (spec_l06Period_ks24 S K)))
def spec_l06Period_e8 (s0_ : Sl) (s5_ : Sl) (i10_ : Int) (i11_ : Int) (i12_ : Int) : Frame := [.sl s0_, U, U, U, U, .sl s5_, U, U, U, U, .int .i64 i10_, .int .i64 i11_, .int .i64 i12_, U, U, U, U, U, U, U, U, U, U, U, U, U, U, U, U, U, U, U, U, U, U, U, U, U, U, U, U, U, U, U, U, U, U, U, U, U, U, U, U, U, U, U, U, U, U, U, U, U, U, U, U, U, U, U, U, U, U, U, U, U, U, U, U, U, U, U, U, U, U, U, U, U, U, U, U, U, U, U, U, U, U, U, U, U, U, U, U, U, U, U, U, U, U, U, U, U, U, U, U, U, U, U, U, U, U]
def spec_l06Period_w8 (S : SatT) (K : AVal → H → Prop) (X6 : Frame → H → Prop) : (Frame → H → Prop) → Frame → H → Prop := fun X fr h => cwp S tab spec_l06Period_M (spec_l06Period_M 8) (sub [1, 1, 1, 1, 1, 1, 1, 0, 1, 0, 0, 1, 0, 0, 1, 0, 0] (bodyOf Try.f82)) (kSeq (fun fr h => X (mask (spec_l06Period_M 8) fr) h) (kBlk 8 (kBlk 7 (spec_l06Period_ks28 S K X6)))) fr h
def spec_l06Period_L8 (S : SatT) (K : AVal → H → Prop) (X6 : Frame → H → Prop) (s0_ : Sl) (s5_ : Sl) (i10_ : Int) (i11_ : Int) (i12_ : Int) (h : H) : Prop := loopK (spec_l06Period_w8 S K X6) (spec_l06Period_e8 s0_ s5_ i10_ i11_ i12_) h
def spec_l06Period_C7 (S : SatT) (K : AVal → H → Prop) (X6 : Frame → H → Prop) (s0_ : Sl) (s5_ : Sl) (i10_ : Int) (i11_ : Int) (h : H) : Prop :=
 X6 (spec_l06Period_e6 s0_ s5_ i10_ (w64 (i11_ + (1)))) h
def spec_l06Period_C8 (S : SatT) (K : AVal → H → Prop) (X6 : Frame → H → Prop) (s0_ : Sl) (s5_ : Sl) (i10_ : Int) (i11_ : Int) (h : H) : Prop :=
 spec_l06Period_C7 S K X6 s0_ s5_ i10_ i11_ h
def spec_l06Period_b8 (S : SatT) (K : AVal → H → Prop) (X6 : Frame → H → Prop) (X8 : Frame → H → Prop) (s0_ : Sl) (s5_ : Sl) (i10_ : Int) (i11_ : Int) (i12_ : Int) (h : H) : Prop :=
 bif (decide (i12_ < (s0_.len : Int))) then
 ixS s0_ 1 i11_ fun p0 =>
 ldS p0 h fun s1 =>
 ixS s1 1 i12_ fun p2 =>
 ldI .i64 p2 h fun n3 =>
 bif (decide (n3 > (0))) then
 ixS s5_ 1 i11_ fun p4 =>
 ldI .i64 p4 h fun n5 =>
 ixS s5_ 1 i12_ fun p6 =>
 ldI .i64 p6 h fun n7 =>
 callI S .i64 i_spec_l06Gcd [.int .i64 i10_, .int .i64 (mxI (w64 ((w64 (n5 + (1))) - n7)) (w64 (0 - (w64 ((w64 (n5 + (1))) - n7)))))] h fun n9 h8 =>
 X8 (spec_l06Period_e8 s0_ s5_ n9 i11_ (w64 (i12_ + (1)))) h8
 else
 X8 (spec_l06Period_e8 s0_ s5_ i10_ i11_ (w64 (i12_ + (1)))) h
 else
 spec_l06Period_C8 S K X6 s0_ s5_ i10_ i11_ h
theorem spec_l06Period_link8 (S : SatT) (K : AVal → H → Prop) (X6 : Frame → H → Prop) (X8 : Frame → H → Prop) (s0_ : Sl) (s5_ : Sl) (i10_ : Int) (i11_ : Int) (i12_ : Int) (h : H) : spec_l06Period_w8 S K X6 X8 (spec_l06Period_e8 s0_ s5_ i10_ i11_ i12_) h = spec_l06Period_b8 S K X6 X8 s0_ s5_ i10_ i11_ i12_ h := by kernel_rfl
theorem spec_l06Period_rule8 (S : SatT) (K : AVal → H → Prop) (X6 : Frame → H → Prop) (s0_ : Sl) (s5_ : Sl) (i11_ : Int) (I_ : Int → Int → H → Prop) (m_ : Int → Int → H → Nat)
    (hs : ∀ (X8 : Frame → H → Prop) (i10_ : Int) (i12_ : Int) (h : H), I_ i10_ i12_ h → (∀ (i10_' : Int) (i12_' : Int) (h' : H), I_ i10_' i12_' h' → m_ i10_' i12_' h' < m_ i10_ i12_ h → X8 (spec_l06Period_e8 s0_ s5_ i10_' i11_ i12_') h') → spec_l06Period_b8 S K X6 X8 s0_ s5_ i10_ i11_ i12_ h) (i10_ : Int) (i12_ : Int) {h : H} (h0 : I_ i10_ i12_ h) : spec_l06Period_L8 S K X6 s0_ s5_ i10_ i11_ i12_ h :=
  loop_rule (σ := (Int) × (Int)) (fun s_ => spec_l06Period_e8 s0_ s5_ (s_.1) i11_ (s_.2)) (fun s_ h => I_ (s_.1) (s_.2) h) (fun s_ h => m_ (s_.1) (s_.2) h)
    (fun X s_ h hi hx => (spec_l06Period_link8 S K X6 X s0_ s5_ (s_.1) i11_ (s_.2) h).mpr (hs X (s_.1) (s_.2) h hi fun i10_' i12_' h' hi' hm' => hx (i10_', i12_') h' hi' hm')) (i10_, i12_) h0
theorem spec_l06Period_unroll8 (S : SatT) (K : AVal → H → Prop) (X6 : Frame → H → Prop) (s0_ : Sl) (s5_ : Sl) (i10_ : Int) (i11_ : Int) (i12_ : Int) (h : H) (hb : spec_l06Period_b8 S K X6 (fun fr h => loopK (spec_l06Period_w8 S K X6) fr h) s0_ s5_ i10_ i11_ i12_ h) : spec_l06Period_L8 S K X6 s0_ s5_ i10_ i11_ i12_ h := loop_unroll ((spec_l06Period_link8 S K X6 _ s0_ s5_ i10_ i11_ i12_ h).mpr hb)
def spec_l06Period_C6 (S : SatT) (K : AVal → H → Prop) (i10_ : Int) (h : H) : Prop :=
 K (.tuple [.int .i64 i10_, .bool true]) h
def spec_l06Period_b6 (S : SatT) (K : AVal → H → Prop) (X6 : Frame → H → Prop) (s0_ : Sl) (s5_ : Sl) (i10_ : Int) (i11_ : Int) (h : H) : Prop :=
 bif (decide (i11_ < (s0_.len : Int))) then
 spec_l06Period_L8 S K X6 s0_ s5_ i10_ i11_ (0) h
 else
 spec_l06Period_C6 S K i10_ h
theorem spec_l06Period_link6 (S : SatT) (K : AVal → H → Prop) (X6 : Frame → H → Prop) (s0_ : Sl) (s5_ : Sl) (i10_ : Int) (i11_ : Int) (h : H) : spec_l06Period_w6 S K X6 (spec_l06Period_e6 s0_ s5_ i10_ i11_) h = spec_l06Period_b6 S K X6 s0_ s5_ i10_ i11_ h := by kernel_rfl
theorem spec_l06Period_rule6 (S : SatT) (K : AVal → H → Prop) (s0_ : Sl) (s5_ : Sl) (I_ : Int → Int → H → Prop) (m_ : Int → Int → H → Nat)
    (hs : ∀ (X6 : Frame → H → Prop) (i10_ : Int) (i11_ : Int) (h : H), I_ i10_ i11_ h → (∀ (i10_' : Int) (i11_' : Int) (h' : H), I_ i10_' i11_' h' → m_ i10_' i11_' h' < m_ i10_ i11_ h → X6 (spec_l06Period_e6 s0_ s5_ i10_' i11_') h') → spec_l06Period_b6 S K X6 s0_ s5_ i10_ i11_ h) (i10_ : Int) (i11_ : Int) {h : H} (h0 : I_ i10_ i11_ h) : spec_l06Period_L6 S K s0_ s5_ i10_ i11_ h :=
  loop_rule (σ := (Int) × (Int)) (fun s_ => spec_l06Period_e6 s0_ s5_ (s_.1) (s_.2)) (fun s_ h => I_ (s_.1) (s_.2) h) (fun s_ h => m_ (s_.1) (s_.2) h)
    (fun X s_ h hi hx => (spec_l06Period_link6 S K X s0_ s5_ (s_.1) (s_.2) h).mpr (hs X (s_.1) (s_.2) h hi fun i10_' i11_' h' hi' hm' => hx (i10_', i11_') h' hi' hm')) (i10_, i11_) h0
theorem spec_l06Period_unroll6 (S : SatT) (K : AVal → H → Prop) (s0_ : Sl) (s5_ : Sl) (i10_ : Int) (i11_ : Int) (h : H) (hb : spec_l06Period_b6 S K (fun fr h => loopK (spec_l06Period_w6 S K) fr h) s0_ s5_ i10_ i11_ h) : spec_l06Period_L6 S K s0_ s5_ i10_ i11_ h := loop_unroll ((spec_l06Period_link6 S K _ s0_ s5_ i10_ i11_ h).mpr hb)
def spec_l06Period_C2 (S : SatT) (K : AVal → H → Prop) (s0_ : Sl) (s5_ : Sl) (h : H) : Prop :=
 spec_l06Period_L6 S K s0_ s5_ (0) (0) h
def spec_l06Period_b2 (S : SatT) (K : AVal → H → Prop) (X2 : Frame → H → Prop) (s0_ : Sl) (s5_ : Sl) (s6_ : Sl) (h : H) : Prop :=
 bif (decide ((s6_.len : Int) > (0))) then
 ixS s6_ 1 (0) fun p0 =>
 ldI .i64 p0 h fun n1 =>
 cut s6_ 1 (1) (s6_.len : Int) h fun s2 =>
 spec_l06Period_L4 S K X2 s0_ s5_ s2 n1 (0) h
 else
 spec_l06Period_C2 S K s0_ s5_ h
theorem spec_l06Period_link2 (S : SatT) (K : AVal → H → Prop) (X2 : Frame → H → Prop) (s0_ : Sl) (s5_ : Sl) (s6_ : Sl) (h : H) : spec_l06Period_w2 S K X2 (spec_l06Period_e2 s0_ s5_ s6_) h = spec_l06Period_b2 S K X2 s0_ s5_ s6_ h := by kernel_rfl
theorem spec_l06Period_rule2 (S : SatT) (K : AVal → H → Prop) (s0_ : Sl) (s5_ : Sl) (I_ : Sl → H → Prop) (m_ : Sl → H → Nat)
    (hs : ∀ (X2 : Frame → H → Prop) (s6_ : Sl) (h : H), I_ s6_ h → (∀ (s6_' : Sl) (h' : H), I_ s6_' h' → m_ s6_' h' < m_ s6_ h → X2 (spec_l06Period_e2 s0_ s5_ s6_') h') → spec_l06Period_b2 S K X2 s0_ s5_ s6_ h) (s6_ : Sl) {h : H} (h0 : I_ s6_ h) : spec_l06Period_L2 S K s0_ s5_ s6_ h :=
  loop_rule (σ := (Sl)) (fun s_ => spec_l06Period_e2 s0_ s5_ (s_)) (fun s_ h => I_ (s_) h) (fun s_ h => m_ (s_) h)
    (fun X s_ h hi hx => (spec_l06Period_link2 S K X s0_ s5_ (s_) h).mpr (hs X (s_) h hi fun s6_' h' hi' hm' => hx (s6_') h' hi' hm')) (s6_) h0
theorem spec_l06Period_unroll2 (S : SatT) (K : AVal → H → Prop) (s0_ : Sl) (s5_ : Sl) (s6_ : Sl) (h : H) (hb : spec_l06Period_b2 S K (fun fr h => loopK (spec_l06Period_w2 S K) fr h) s0_ s5_ s6_ h) : spec_l06Period_L2 S K s0_ s5_ s6_ h := loop_unroll ((spec_l06Period_link2 S K _ s0_ s5_ s6_ h).mpr hb)
def spec_l06Period_C0 (S : SatT) (K : AVal → H → Prop) (s0_ : Sl) (s5_ : Sl) (s6_ : Sl) (h : H) : Prop :=
 spec_l06Period_L2 S K s0_ s5_ s6_ h
def spec_l06Period_b0 (S : SatT) (K : AVal → H → Prop) (X0 : Frame → H → Prop) (s0_ : Sl) (s5_ : Sl) (s6_ : Sl) (i7_ : Int) (h : H) : Prop :=
 bif (decide (i7_ < (s5_.len : Int))) then
 ixS s5_ 1 i7_ fun p0 =>
 st1 p0 (.int .i64 (-1)) h fun h1 =>
 X0 (spec_l06Period_e0 s0_ s5_ s6_ (w64 (i7_ + (1)))) h1
 else
 spec_l06Period_C0 S K s0_ s5_ s6_ h
theorem spec_l06Period_link0 (S : SatT) (K : AVal → H → Prop) (X0 : Frame → H → Prop) (s0_ : Sl) (s5_ : Sl) (s6_ : Sl) (i7_ : Int) (h : H) : spec_l06Period_w0 S K X0 (spec_l06Period_e0 s0_ s5_ s6_ i7_) h = spec_l06Period_b0 S K X0 s0_ s5_ s6_ i7_ h := by kernel_rfl
theorem spec_l06Period_rule0 (S : SatT) (K : AVal → H → Prop) (s0_ : Sl) (s5_ : Sl) (s6_ : Sl) (I_ : Int → H → Prop) (m_ : Int → H → Nat)
    (hs : ∀ (X0 : Frame → H → Prop) (i7_ : Int) (h : H), I_ i7_ h → (∀ (i7_' : Int) (h' : H), I_ i7_' h' → m_ i7_' h' < m_ i7_ h → X0 (spec_l06Period_e0 s0_ s5_ s6_ i7_') h') → spec_l06Period_b0 S K X0 s0_ s5_ s6_ i7_ h) (i7_ : Int) {h : H} (h0 : I_ i7_ h) : spec_l06Period_L0 S K s0_ s5_ s6_ i7_ h :=
  loop_rule (σ := (Int)) (fun s_ => spec_l06Period_e0 s0_ s5_ s6_ (s_)) (fun s_ h => I_ (s_) h) (fun s_ h => m_ (s_) h)
    (fun X s_ h hi hx => (spec_l06Period_link0 S K X s0_ s5_ s6_ (s_) h).mpr (hs X (s_) h hi fun i7_' h' hi' hm' => hx (i7_') h' hi' hm')) (i7_) h0
theorem spec_l06Period_unroll0 (S : SatT) (K : AVal → H → Prop) (s0_ : Sl) (s5_ : Sl) (s6_ : Sl) (i7_ : Int) (h : H) (hb : spec_l06Period_b0 S K (fun fr h => loopK (spec_l06Period_w0 S K) fr h) s0_ s5_ s6_ i7_ h) : spec_l06Period_L0 S K s0_ s5_ s6_ i7_ h := loop_unroll ((spec_l06Period_link0 S K _ s0_ s5_ s6_ i7_ h).mpr hb)
def spec_l06Period_main (S : SatT) (K : AVal → H → Prop) (x0 : Sl) (h : H) : Prop :=
 callS S i_spec_l06Parts [.sl x0] h fun s1 h0 =>
 bif ((s1.len : Int) != (1)) then
 K (.tuple [.int .i64 (0), .bool false]) h0
 else
 ixS s1 1 (0) fun p2 =>
 ldS p2 h0 fun s3 =>
 bif ((s3.len : Int) != (x0.len : Int)) then
 K (.tuple [.int .i64 (0), .bool false]) h0
 else
 mkS (x0.len : Int) [.int .i64 (0)] h0 fun s4 h5 =>
 newS 1 1 [.int .i64 (0)] h5 fun s6 h7 =>
 spec_l06Period_L0 S K x0 s4 s6 (1) h7
theorem spec_l06Period_main_link (S : SatT) (K : AVal → H → Prop) (x0 : Sl) (h : H) : cwp S tab spec_l06Period_M [] (bodyOf Try.f82) (kFun tab Try.f82.results.toList K) (fr0 Try.f82 [.sl x0]) h = spec_l06Period_main S K x0 h := by kernel_rfl
theorem spec_l06Period_call (x0 : Sl) (h : H) (K : AVal → H → Prop) (hm : spec_l06Period_main (Sat Try.prog) (fun v h' => K v h') x0 h) : callV (Sat Try.prog) i_spec_l06Period [.sl x0] h K := by
  have := Sat.ex tok mixed spec_l06Period_M Try.func82 (c := bodyOf Try.f82) (by kernel_rfl) (calls_of Try.func82 (c := bodyOf Try.f82) (by kernel_rfl) (by decide)) ((spec_l06Period_main_link _ _ x0 h).mpr hm)
  exact this

/-! ### (loop.example/g01354/impl.Set).ways -/
def impl_Set_ways_M : Nat → List Nat := fun i => bif i == 4 then [1, 2, 5, 7, 8, 13, 14, 23, 24, 30, 31, 32] else bif i == 2 then [1, 2, 5, 7, 13, 14, 23, 24] else bif i == 0 then [1, 2, 5, 13, 14] else []
def impl_Set_ways_ks2 (S : SatT) (K : AVal → H → Prop) : Kont := kSeq (cwp S tab impl_Set_ways_M [] (sub [1, 1, 1] (bodyOf Try.f87)) (kFun tab (Try.f87).results.toList K)) (kFun tab (Try.f87).results.toList K)
def impl_Set_ways_e0 (i1_ : Int) (p2_ : Pt) (s5_ : Sl) (i13_ : Int) (i14_ : Int) : Frame := [U, .int .i64 i1_, .ptr p2_, U, U, .sl s5_, U, U, U, U, U, U, U, .int .i64 i13_, .int .i64 i14_, U, U, U, U, U, U, U, U, U, U, U, U, U, U, U, U, U, U, U, U, U, U, U, U, U, U, U, U, U, U, U, U, U, U, U, U, U, U, U, U, U, U, U, U, U, U]
def impl_Set_ways_w0 (S : SatT) (K : AVal → H → Prop) : (Frame → H → Prop) → Frame → H → Prop := fun X fr h => cwp S tab impl_Set_ways_M (impl_Set_ways_M 0) (sub [1, 1, 0, 1, 0, 0] (bodyOf Try.f87)) (kSeq (fun fr h => X (mask (impl_Set_ways_M 0) fr) h) (kBlk 0 (impl_Set_ways_ks2 S K))) fr h
def impl_Set_ways_L0 (S : SatT) (K : AVal → H → Prop) (i1_ : Int) (p2_ : Pt) (s5_ : Sl) (i13_ : Int) (i14_ : Int) (h : H) : Prop := loopK (impl_Set_ways_w0 S K) (impl_Set_ways_e0 i1_ p2_ s5_ i13_ i14_) h
def impl_Set_ways_ks6 (S : SatT) (K : AVal → H → Prop) (X0 : Frame → H → Prop) : Kont := kSeq (cwp S tab impl_Set_ways_M (impl_Set_ways_M 0) (sub [1, 1, 0, 1, 0, 0, 1, 1, 1] (bodyOf Try.f87)) (kSeq (fun fr h => X0 (mask (impl_Set_ways_M 0) fr) h) (kBlk 0 (impl_Set_ways_ks2 S K)))) (kSeq (fun fr h => X0 (mask (impl_Set_ways_M 0) fr) h) (kBlk 0 (impl_Set_ways_ks2 S K)))
def impl_Set_ways_ks10 (S : SatT) (K : AVal → H → Prop) (X0 : Frame → H → Prop) : Kont := kSeq (cwp S tab impl_Set_ways_M (impl_Set_ways_M 1) (sub [1, 1, 0, 1, 0, 0, 1, 1, 0, 0, 1, 1, 1, 1] (bodyOf Try.f87)) (kBlk 1 (impl_Set_ways_ks6 S K X0))) (kBlk 1 (impl_Set_ways_ks6 S K X0))
def impl_Set_ways_e2 (i1_ : Int) (p2_ : Pt) (s5_ : Sl) (s7_ : Sl) (i13_ : Int) (i14_ : Int) (i23_ : Int) (i24_ : Int) : Frame := [U, .int .i64 i1_, .ptr p2_, U, U, .sl s5_, U, .sl s7_, U, U, U, U, U, .int .i64 i13_, .int .i64 i14_, U, U, U, U, U, U, U, U, .int .i64 i23_, .int .i64 i24_, U, U, U, U, U, U, U, U, U, U, U, U, U, U, U, U, U, U, U, U, U, U, U, U, U, U, U, U, U, U, U, U, U, U, U, U]
def impl_Set_ways_w2 (S : SatT) (K : AVal → H → Prop) (X0 : Frame → H → Prop) : (Frame → H → Prop) → Frame → H → Prop := fun X fr h => cwp S tab impl_Set_ways_M (impl_Set_ways_M 2) (sub [1, 1, 0, 1, 0, 0, 1, 1, 0, 0, 1, 1, 1, 0, 1, 0, 0] (bodyOf Try.f87)) (kSeq (fun fr h => X (mask (impl_Set_ways_M 2) fr) h) (kBlk 2 (impl_Set_ways_ks10 S K X0))) fr h
def impl_Set_ways_L2 (S : SatT) (K : AVal → H → Prop) (X0 : Frame → H → Prop) (i1_ : Int) (p2_ : Pt) (s5_ : Sl) (s7_ : Sl) (i13_ : Int) (i14_ : Int) (i23_ : Int) (i24_ : Int) (h : H) : Prop := loopK (impl_Set_ways_w2 S K X0) (impl_Set_ways_e2 i1_ p2_ s5_ s7_ i13_ i14_ i23_ i24_) h
def impl_Set_ways_ks14 (S : SatT) (K : AVal → H → Prop) (X0 : Frame → H → Prop) (X2 : Frame → H → Prop) : Kont := kSeq (cwp S tab impl_Set_ways_M (impl_Set_ways_M 2) (sub [1, 1, 0, 1, 0, 0, 1, 1, 0, 0, 1, 1, 1, 0, 1, 0, 0, 1, 1, 1] (bodyOf Try.f87)) (kSeq (fun fr h => X2 (mask (impl_Set_ways_M 2) fr) h) (kBlk 2 (impl_Set_ways_ks10 S K X0)))) (kSeq (fun fr h => X2 (mask (impl_Set_ways_M 2) fr) h) (kBlk 2 (impl_Set_ways_ks10 S K X0)))
def impl_Set_ways_ks16 (S : SatT) (K : AVal → H → Prop) (X0 : Frame → H → Prop) (X2 : Frame → H → Prop) : Kont := kSeq (cwp S tab impl_Set_ways_M (impl_Set_ways_M 3) (sub [1, 1, 0, 1, 0, 0, 1, 1, 0, 0, 1, 1, 1, 0, 1, 0, 0, 1, 1, 0, 0, 1, 1] (bodyOf Try.f87)) (kBlk 3 (impl_Set_ways_ks14 S K X0 X2))) (kBlk 3 (impl_Set_ways_ks14 S K X0 X2))
def impl_Set_ways_e4 (i1_ : Int) (p2_ : Pt) (s5_ : Sl) (s7_ : Sl) (s8_ : Sl) (i13_ : Int) (i14_ : Int) (i23_ : Int) (i24_ : Int) (s30_ : Sl) (i31_ : Int) (i32_ : Int) : Frame := [U, .int .i64 i1_, .ptr p2_, U, U, .sl s5_, U, .sl s7_, .sl s8_, U, U, U, U, .int .i64 i13_, .int .i64 i14_, U, U, U, U, U, U, U, U, .int .i64 i23_, .int .i64 i24_, U, U, U, U, U, .sl s30_, .int .i64 i31_, .int .i64 i32_, U, U, U, U, U, U, U, U, U, U, U, U, U, U, U, U, U, U, U, U, U, U, U, U, U, U, U, U]
def impl_Set_ways_w4 (S : SatT) (K : AVal → H → Prop) (X0 : Frame → H → Prop) (X2 : Frame → H → Prop) : (Frame → H → Prop) → Frame → H → Prop := fun X fr h => cwp S tab impl_Set_ways_M (impl_Set_ways_M 4) (sub [1, 1, 0, 1, 0, 0, 1, 1, 0, 0, 1, 1, 1, 0, 1, 0, 0, 1, 1, 0, 0, 1, 0, 1, 0, 0] (bodyOf Try.f87)) (kSeq (fun fr h => X (mask (impl_Set_ways_M 4) fr) h) (kBlk 4 (impl_Set_ways_ks16 S K X0 X2))) fr h
def impl_Set_ways_L4 (S : SatT) (K : AVal → H → Prop) (X0 : Frame → H → Prop) (X2 : Frame → H → Prop) (i1_ : Int) (p2_ : Pt) (s5_ : Sl) (s7_ : Sl) (s8_ : Sl) (i13_ : Int) (i14_ : Int) (i23_ : Int) (i24_ : Int) (s30_ : Sl) (i31_ : Int) (i32_ : Int) (h : H) : Prop := loopK (impl_Set_ways_w4 S K X0 X2) (impl_Set_ways_e4 i1_ p2_ s5_ s7_ s8_ i13_ i14_ i23_ i24_ s30_ i31_ i32_) h
def impl_Set_ways_C3 (S : SatT) (K : AVal → H → Prop) (X0 : Frame → H → Prop) (X2 : Frame → H → Prop) (i1_ : Int) (p2_ : Pt) (s5_ : Sl) (s7_ : Sl) (i13_ : Int) (i14_ : Int) (i23_ : Int) (i24_ : Int) (h : H) : Prop :=
 X2 (impl_Set_ways_e2 i1_ p2_ s5_ s7_ i13_ i14_ i23_ (w64 (i24_ + (1)))) h
def impl_Set_ways_C4 (S : SatT) (K : AVal → H → Prop) (X0 : Frame → H → Prop) (X2 : Frame → H → Prop) (i1_ : Int) (p2_ : Pt) (s5_ : Sl) (s8_ : Sl) (i13_ : Int) (i14_ : Int) (i23_ : Int) (i24_ : Int) (h : H) : Prop :=
 impl_Set_ways_C3 S K X0 X2 i1_ p2_ s5_ s8_ i13_ i14_ i23_ i24_ h
def impl_Set_ways_b4 (S : SatT) (K : AVal → H → Prop) (X0 : Frame → H → Prop) (X2 : Frame → H → Prop) (X4 : Frame → H → Prop) (i1_ : Int) (p2_ : Pt) (s5_ : Sl) (s7_ : Sl) (s8_ : Sl) (i13_ : Int) (i14_ : Int) (i23_ : Int) (i24_ : Int) (s30_ : Sl) (i31_ : Int) (i32_ : Int) (h : H) : Prop :=
 bif (decide (i32_ < i31_)) then
 ixS s30_ 4 i32_ fun p0 =>
 ldA p0 4 h fun cs1 =>
 newO [.int .i64 (0), .int .i64 (0), .int .i64 (0), .int .i64 (0)] h fun p2 h3 =>
 stN p2 4 cs1 h3 fun h4 =>
 ixA p2 4 1 (2) fun p5 =>
 ldI .i64 p5 h4 fun n6 =>
 ixA p2 4 1 (2) fun p7 =>
 ldI .i64 p7 h4 fun n8 =>
 ixS s8_ 1 n8 fun p9 =>
 ldI .i64 p9 h4 fun n10 =>
 ixA p2 4 1 (0) fun p11 =>
 ldI .i64 p11 h4 fun n12 =>
 ixS s7_ 1 n12 fun p13 =>
 ldI .i64 p13 h4 fun n14 =>
 ixS s8_ 1 n6 fun p15 =>
 st1 p15 (.int .i64 (mnI (1000000000000001) (w64 (n10 + n14)))) h4 fun h16 =>
 X4 (impl_Set_ways_e4 i1_ p2_ s5_ s7_ s8_ i13_ i14_ i23_ i24_ s30_ i31_ (w64 (i32_ + (1)))) h16
 else
 impl_Set_ways_C4 S K X0 X2 i1_ p2_ s5_ s8_ i13_ i14_ i23_ i24_ h
theorem impl_Set_ways_link4 (S : SatT) (K : AVal → H → Prop) (X0 : Frame → H → Prop) (X2 : Frame → H → Prop) (X4 : Frame → H → Prop) (i1_ : Int) (p2_ : Pt) (s5_ : Sl) (s7_ : Sl) (s8_ : Sl) (i13_ : Int) (i14_ : Int) (i23_ : Int) (i24_ : Int) (s30_ : Sl) (i31_ : Int) (i32_ : Int) (h : H) : impl_Set_ways_w4 S K X0 X2 X4 (impl_Set_ways_e4 i1_ p2_ s5_ s7_ s8_ i13_ i14_ i23_ i24_ s30_ i31_ i32_) h = impl_Set_ways_b4 S K X0 X2 X4 i1_ p2_ s5_ s7_ s8_ i13_ i14_ i23_ i24_ s30_ i31_ i32_ h := by kernel_rfl
theorem impl_Set_ways_rule4 (S : SatT) (K : AVal → H → Prop) (X0 : Frame → H → Prop) (X2 : Frame → H → Prop) (i1_ : Int) (p2_ : Pt) (s5_ : Sl) (s7_ : Sl) (s8_ : Sl) (i13_ : Int) (i14_ : Int) (i23_ : Int) (i24_ : Int) (s30_ : Sl) (i31_ : Int) (I_ : Int → H → Prop) (m_ : Int → H → Nat)
    (hs : ∀ (X4 : Frame → H → Prop) (i32_ : Int) (h : H), I_ i32_ h → (∀ (i32_' : Int) (h' : H), I_ i32_' h' → m_ i32_' h' < m_ i32_ h → X4 (impl_Set_ways_e4 i1_ p2_ s5_ s7_ s8_ i13_ i14_ i23_ i24_ s30_ i31_ i32_') h') → impl_Set_ways_b4 S K X0 X2 X4 i1_ p2_ s5_ s7_ s8_ i13_ i14_ i23_ i24_ s30_ i31_ i32_ h) (i32_ : Int) {h : H} (h0 : I_ i32_ h) : impl_Set_ways_L4 S K X0 X2 i1_ p2_ s5_ s7_ s8_ i13_ i14_ i23_ i24_ s30_ i31_ i32_ h :=
  loop_rule (σ := (Int)) (fun s_ => impl_Set_ways_e4 i1_ p2_ s5_ s7_ s8_ i13_ i14_ i23_ i24_ s30_ i31_ (s_)) (fun s_ h => I_ (s_) h) (fun s_ h => m_ (s_) h)
    (fun X s_ h hi hx => (impl_Set_ways_link4 S K X0 X2 X i1_ p2_ s5_ s7_ s8_ i13_ i14_ i23_ i24_ s30_ i31_ (s_) h).mpr (hs X (s_) h hi fun i32_' h' hi' hm' => hx (i32_') h' hi' hm')) (i32_) h0
theorem impl_Set_ways_unroll4 (S : SatT) (K : AVal → H → Prop) (X0 : Frame → H → Prop) (X2 : Frame → H → Prop) (i1_ : Int) (p2_ : Pt) (s5_ : Sl) (s7_ : Sl) (s8_ : Sl) (i13_ : Int) (i14_ : Int) (i23_ : Int) (i24_ : Int) (s30_ : Sl) (i31_ : Int) (i32_ : Int) (h : H) (hb : impl_Set_ways_b4 S K X0 X2 (fun fr h => loopK (impl_Set_ways_w4 S K X0 X2) fr h) i1_ p2_ s5_ s7_ s8_ i13_ i14_ i23_ i24_ s30_ i31_ i32_ h) : impl_Set_ways_L4 S K X0 X2 i1_ p2_ s5_ s7_ s8_ i13_ i14_ i23_ i24_ s30_ i31_ i32_ h := loop_unroll ((impl_Set_ways_link4 S K X0 X2 _ i1_ p2_ s5_ s7_ s8_ i13_ i14_ i23_ i24_ s30_ i31_ i32_ h).mpr hb)
def impl_Set_ways_C1 (S : SatT) (K : AVal → H → Prop) (X0 : Frame → H → Prop) (i1_ : Int) (p2_ : Pt) (s5_ : Sl) (i13_ : Int) (i14_ : Int) (h : H) : Prop :=
 X0 (impl_Set_ways_e0 i1_ p2_ s5_ i13_ (w64 (i14_ + (1)))) h
def impl_Set_ways_C2 (S : SatT) (K : AVal → H → Prop) (X0 : Frame → H → Prop) (i1_ : Int) (p2_ : Pt) (s5_ : Sl) (s7_ : Sl) (i13_ : Int) (i14_ : Int) (h : H) : Prop :=
 newS 1 1 [.sl s7_] h fun s0 h1 =>
 app s5_ s0 1 h1 fun s2 h3 =>
 impl_Set_ways_C1 S K X0 i1_ p2_ s2 i13_ i14_ h3
def impl_Set_ways_b2 (S : SatT) (K : AVal → H → Prop) (X0 : Frame → H → Prop) (X2 : Frame → H → Prop) (i1_ : Int) (p2_ : Pt) (s5_ : Sl) (s7_ : Sl) (i13_ : Int) (i14_ : Int) (i23_ : Int) (i24_ : Int) (h : H) : Prop :=
 bif (decide (i24_ < i23_)) then
 isPt p2_ (
 ldI .i64 (Pt.add p2_ 0) h fun n0 =>
 mkS n0 [.int .i64 (0)] h fun s1 h2 =>
 isPt p2_ (
 ldS (Pt.add p2_ 1) h2 fun s3 =>
 impl_Set_ways_L4 S K X0 X2 i1_ p2_ s5_ s7_ s1 i13_ i14_ i23_ i24_ s3 (s3.len : Int) (0) h2))
 else
 impl_Set_ways_C2 S K X0 i1_ p2_ s5_ s7_ i13_ i14_ h
theorem impl_Set_ways_link2 (S : SatT) (K : AVal → H → Prop) (X0 : Frame → H → Prop) (X2 : Frame → H → Prop) (i1_ : Int) (p2_ : Pt) (s5_ : Sl) (s7_ : Sl) (i13_ : Int) (i14_ : Int) (i23_ : Int) (i24_ : Int) (h : H) : impl_Set_ways_w2 S K X0 X2 (impl_Set_ways_e2 i1_ p2_ s5_ s7_ i13_ i14_ i23_ i24_) h = impl_Set_ways_b2 S K X0 X2 i1_ p2_ s5_ s7_ i13_ i14_ i23_ i24_ h := by kernel_rfl
theorem impl_Set_ways_rule2 (S : SatT) (K : AVal → H → Prop) (X0 : Frame → H → Prop) (i1_ : Int) (p2_ : Pt) (s5_ : Sl) (i13_ : Int) (i14_ : Int) (i23_ : Int) (I_ : Sl → Int → H → Prop) (m_ : Sl → Int → H → Nat)
    (hs : ∀ (X2 : Frame → H → Prop) (s7_ : Sl) (i24_ : Int) (h : H), I_ s7_ i24_ h → (∀ (s7_' : Sl) (i24_' : Int) (h' : H), I_ s7_' i24_' h' → m_ s7_' i24_' h' < m_ s7_ i24_ h → X2 (impl_Set_ways_e2 i1_ p2_ s5_ s7_' i13_ i14_ i23_ i24_') h') → impl_Set_ways_b2 S K X0 X2 i1_ p2_ s5_ s7_ i13_ i14_ i23_ i24_ h) (s7_ : Sl) (i24_ : Int) {h : H} (h0 : I_ s7_ i24_ h) : impl_Set_ways_L2 S K X0 i1_ p2_ s5_ s7_ i13_ i14_ i23_ i24_ h :=
  loop_rule (σ := (Sl) × (Int)) (fun s_ => impl_Set_ways_e2 i1_ p2_ s5_ (s_.1) i13_ i14_ i23_ (s_.2)) (fun s_ h => I_ (s_.1) (s_.2) h) (fun s_ h => m_ (s_.1) (s_.2) h)
    (fun X s_ h hi hx => (impl_Set_ways_link2 S K X0 X i1_ p2_ s5_ (s_.1) i13_ i14_ i23_ (s_.2) h).mpr (hs X (s_.1) (s_.2) h hi fun s7_' i24_' h' hi' hm' => hx (s7_', i24_') h' hi' hm')) (s7_, i24_) h0
theorem impl_Set_ways_unroll2 (S : SatT) (K : AVal → H → Prop) (X0 : Frame → H → Prop) (i1_ : Int) (p2_ : Pt) (s5_ : Sl) (s7_ : Sl) (i13_ : Int) (i14_ : Int) (i23_ : Int) (i24_ : Int) (h : H) (hb : impl_Set_ways_b2 S K X0 (fun fr h => loopK (impl_Set_ways_w2 S K X0) fr h) i1_ p2_ s5_ s7_ i13_ i14_ i23_ i24_ h) : impl_Set_ways_L2 S K X0 i1_ p2_ s5_ s7_ i13_ i14_ i23_ i24_ h := loop_unroll ((impl_Set_ways_link2 S K X0 _ i1_ p2_ s5_ s7_ i13_ i14_ i23_ i24_ h).mpr hb)
def impl_Set_ways_C0 (S : SatT) (K : AVal → H → Prop) (s5_ : Sl) (h : H) : Prop :=
 K (.sl s5_) h
def impl_Set_ways_b0 (S : SatT) (K : AVal → H → Prop) (X0 : Frame → H → Prop) (i1_ : Int) (p2_ : Pt) (s5_ : Sl) (i13_ : Int) (i14_ : Int) (h : H) : Prop :=
 bif (decide (i14_ < i13_)) then
 isPt p2_ (
 ldI .i64 (Pt.add p2_ 0) h fun n0 =>
 mkS n0 [.int .i64 (0)] h fun s1 h2 =>
 ixS s1 1 i14_ fun p3 =>
 st1 p3 (.int .i64 (1)) h2 fun h4 =>
 impl_Set_ways_L2 S K X0 i1_ p2_ s5_ s1 i13_ i14_ i1_ (0) h4)
 else
 impl_Set_ways_C0 S K s5_ h
theorem impl_Set_ways_link0 (S : SatT) (K : AVal → H → Prop) (X0 : Frame → H → Prop) (i1_ : Int) (p2_ : Pt) (s5_ : Sl) (i13_ : Int) (i14_ : Int) (h : H) : impl_Set_ways_w0 S K X0 (impl_Set_ways_e0 i1_ p2_ s5_ i13_ i14_) h = impl_Set_ways_b0 S K X0 i1_ p2_ s5_ i13_ i14_ h := by kernel_rfl
theorem impl_Set_ways_rule0 (S : SatT) (K : AVal → H → Prop) (i1_ : Int) (p2_ : Pt) (i13_ : Int) (I_ : Sl → Int → H → Prop) (m_ : Sl → Int → H → Nat)
    (hs : ∀ (X0 : Frame → H → Prop) (s5_ : Sl) (i14_ : Int) (h : H), I_ s5_ i14_ h → (∀ (s5_' : Sl) (i14_' : Int) (h' : H), I_ s5_' i14_' h' → m_ s5_' i14_' h' < m_ s5_ i14_ h → X0 (impl_Set_ways_e0 i1_ p2_ s5_' i13_ i14_') h') → impl_Set_ways_b0 S K X0 i1_ p2_ s5_ i13_ i14_ h) (s5_ : Sl) (i14_ : Int) {h : H} (h0 : I_ s5_ i14_ h) : impl_Set_ways_L0 S K i1_ p2_ s5_ i13_ i14_ h :=
  loop_rule (σ := (Sl) × (Int)) (fun s_ => impl_Set_ways_e0 i1_ p2_ (s_.1) i13_ (s_.2)) (fun s_ h => I_ (s_.1) (s_.2) h) (fun s_ h => m_ (s_.1) (s_.2) h)
    (fun X s_ h hi hx => (impl_Set_ways_link0 S K X i1_ p2_ (s_.1) i13_ (s_.2) h).mpr (hs X (s_.1) (s_.2) h hi fun s5_' i14_' h' hi' hm' => hx (s5_', i14_') h' hi' hm')) (s5_, i14_) h0
theorem impl_Set_ways_unroll0 (S : SatT) (K : AVal → H → Prop) (i1_ : Int) (p2_ : Pt) (s5_ : Sl) (i13_ : Int) (i14_ : Int) (h : H) (hb : impl_Set_ways_b0 S K (fun fr h => loopK (impl_Set_ways_w0 S K) fr h) i1_ p2_ s5_ i13_ i14_ h) : impl_Set_ways_L0 S K i1_ p2_ s5_ i13_ i14_ h := loop_unroll ((impl_Set_ways_link0 S K _ i1_ p2_ s5_ i13_ i14_ h).mpr hb)
def impl_Set_ways_main (S : SatT) (K : AVal → H → Prop) (x0 : List AVal) (x1 : Int) (h : H) : Prop :=
 newK 2 x0 h fun p0 h1 =>
 newS 0 1 [] h1 fun s2 h3 =>
 isPt p0 (
 ldI .i64 (Pt.add p0 0) h3 fun n4 =>
 impl_Set_ways_L0 S K x1 p0 s2 n4 (0) h3)
theorem impl_Set_ways_main_link (S : SatT) (K : AVal → H → Prop) (x0 : List AVal) (x1 : Int) (h : H) : cwp S tab impl_Set_ways_M [] (bodyOf Try.f87) (kFun tab Try.f87.results.toList K) (fr0 Try.f87 [.agg x0, .int .i64 x1]) h = impl_Set_ways_main S K x0 x1 h := by kernel_rfl
theorem impl_Set_ways_call (x0 : List AVal) (x1 : Int) (h : H) (K : Sl → H → Prop) (hm : impl_Set_ways_main (Sat Try.prog) (fun v h' => ∃ r, v = .sl r ∧ K r h') x0 x1 h) : callS (Sat Try.prog) i_impl_Set_ways [.agg x0, .int .i64 x1] h K := by
  have := Sat.ex tok mixed impl_Set_ways_M Try.func87 (c := bodyOf Try.f87) (by kernel_rfl) (calls_of Try.func87 (c := bodyOf Try.f87) (by kernel_rfl) (by decide)) ((impl_Set_ways_main_link _ _ x0 x1 h).mpr hm)
  obtain ⟨v, h2, h3, r, rfl, h4⟩ := this; exact ⟨r, h2, h3, h4⟩

/-! ### loop.example/g01354/spec.l06Keep -/
def spec_l06Keep_M : Nat → List Nat := fun i => bif i == 4 then [0, 1, 5, 6, 7, 9] else bif i == 2 then [0, 1, 5, 6, 7, 8] else bif i == 0 then [0, 1] else []
def spec_l06Keep_e0 (s0_ : Sl) (i1_ : Int) : Frame := [.sl s0_, .int .i64 i1_, U, U, U, U, U, U, U, U, U, U, U, U, U, U, U, U, U, U, U, U, U, U, U, U, U, U, U, U, U, U, U, U, U, U, U, U, U, U, U, U, U, U, U, U, U, U, U, U, U, U, U, U, U, U, U, U, U, U, U, U, U, U, U, U, U, U, U, U, U, U, U, U, U, U, U]
def spec_l06Keep_w0 (S : SatT) (K : AVal → H → Prop) : (Frame → H → Prop) → Frame → H → Prop := fun X fr h => cwp S tab spec_l06Keep_M (spec_l06Keep_M 0) (sub [1, 0, 0] (bodyOf Try.f100)) (kSeq (fun fr h => X (mask (spec_l06Keep_M 0) fr) h) (kBlk 0 (kFun tab (Try.f100).results.toList K))) fr h
def spec_l06Keep_L0 (S : SatT) (K : AVal → H → Prop) (s0_ : Sl) (i1_ : Int) (h : H) : Prop := loopK (spec_l06Keep_w0 S K) (spec_l06Keep_e0 s0_ i1_) h
def spec_l06Keep_ks2 (S : SatT) (K : AVal → H → Prop) (X0 : Frame → H → Prop) : Kont := kSeq (cwp S tab spec_l06Keep_M (spec_l06Keep_M 1) (sub [1, 0, 0, 0, 1, 1] (bodyOf Try.f100)) (kBlk 1 (kSeq (fun fr h => X0 (mask (spec_l06Keep_M 0) fr) h) (kBlk 0 (kFun tab (Try.f100).results.toList K))))) (kBlk 1 (kSeq (fun fr h => X0 (mask (spec_l06Keep_M 0) fr) h) (kBlk 0 (kFun tab (Try.f100).results.toList K))))
def spec_l06Keep_e2 (s0_ : Sl) (i1_ : Int) (s5_ : Sl) (s6_ : Sl) (s7_ : Sl) (i8_ : Int) : Frame := [.sl s0_, .int .i64 i1_, U, U, U, .sl s5_, .sl s6_, .sl s7_, .int .i64 i8_, U, U, U, U, U, U, U, U, U, U, U, U, U, U, U, U, U, U, U, U, U, U, U, U, U, U, U, U, U, U, U, U, U, U, U, U, U, U, U, U, U, U, U, U, U, U, U, U, U, U, U, U, U, U, U, U, U, U, U, U, U, U, U, U, U, U, U, U]
def spec_l06Keep_w2 (S : SatT) (K : AVal → H → Prop) (X0 : Frame → H → Prop) : (Frame → H → Prop) → Frame → H → Prop := fun X fr h => cwp S tab spec_l06Keep_M (spec_l06Keep_M 2) (sub [1, 0, 0, 0, 1, 0, 1, 0, 0] (bodyOf Try.f100)) (kSeq (fun fr h => X (mask (spec_l06Keep_M 2) fr) h) (kBlk 2 (spec_l06Keep_ks2 S K X0))) fr h
def spec_l06Keep_L2 (S : SatT) (K : AVal → H → Prop) (X0 : Frame → H → Prop) (s0_ : Sl) (i1_ : Int) (s5_ : Sl) (s6_ : Sl) (s7_ : Sl) (i8_ : Int) (h : H) : Prop := loopK (spec_l06Keep_w2 S K X0) (spec_l06Keep_e2 s0_ i1_ s5_ s6_ s7_ i8_) h
def spec_l06Keep_ks8 (S : SatT) (K : AVal → H → Prop) (X0 : Frame → H → Prop) : Kont := kSeq (cwp S tab spec_l06Keep_M (spec_l06Keep_M 1) (sub [1, 0, 0, 0, 1, 1, 1] (bodyOf Try.f100)) (kBlk 1 (kSeq (fun fr h => X0 (mask (spec_l06Keep_M 0) fr) h) (kBlk 0 (kFun tab (Try.f100).results.toList K))))) (kBlk 1 (kSeq (fun fr h => X0 (mask (spec_l06Keep_M 0) fr) h) (kBlk 0 (kFun tab (Try.f100).results.toList K))))
def spec_l06Keep_e4 (s0_ : Sl) (i1_ : Int) (s5_ : Sl) (s6_ : Sl) (s7_ : Sl) (i9_ : Int) : Frame := [.sl s0_, .int .i64 i1_, U, U, U, .sl s5_, .sl s6_, .sl s7_, U, .int .i64 i9_, U, U, U, U, U, U, U, U, U, U, U, U, U, U, U, U, U, U, U, U, U, U, U, U, U, U, U, U, U, U, U, U, U, U, U, U, U, U, U, U, U, U, U, U, U, U, U, U, U, U, U, U, U, U, U, U, U, U, U, U, U, U, U, U, U, U, U]
def spec_l06Keep_w4 (S : SatT) (K : AVal → H → Prop) (X0 : Frame → H → Prop) : (Frame → H → Prop) → Frame → H → Prop := fun X fr h => cwp S tab spec_l06Keep_M (spec_l06Keep_M 4) (sub [1, 0, 0, 0, 1, 1, 0, 1, 0, 0] (bodyOf Try.f100)) (kSeq (fun fr h => X (mask (spec_l06Keep_M 4) fr) h) (kBlk 4 (spec_l06Keep_ks8 S K X0))) fr h
def spec_l06Keep_L4 (S : SatT) (K : AVal → H → Prop) (X0 : Frame → H → Prop) (s0_ : Sl) (i1_ : Int) (s5_ : Sl) (s6_ : Sl) (s7_ : Sl) (i9_ : Int) (h : H) : Prop := loopK (spec_l06Keep_w4 S K X0) (spec_l06Keep_e4 s0_ i1_ s5_ s6_ s7_ i9_) h
def spec_l06Keep_C4 (S : SatT) (K : AVal → H → Prop) (X0 : Frame → H → Prop) (s0_ : Sl) (i1_ : Int) (s7_ : Sl) (h : H) : Prop :=
 bif ((s7_.len : Int) == (s0_.len : Int)) then
 K (.sl s7_) h
 else
 X0 (spec_l06Keep_e0 s7_ i1_) h
def spec_l06Keep_b4 (S : SatT) (K : AVal → H → Prop) (X0 : Frame → H → Prop) (X4 : Frame → H → Prop) (s0_ : Sl) (i1_ : Int) (s5_ : Sl) (s6_ : Sl) (s7_ : Sl) (i9_ : Int) (h : H) : Prop :=
 bif (decide (i9_ < (s0_.len : Int))) then
 ixS s0_ 1 i9_ fun p0 =>
 ldS p0 h fun s1 =>
 ixS s1 1 (0) fun p2 =>
 ldI .i64 p2 h fun n3 =>
 ixS s6_ 1 n3 fun p4 =>
 ldB p4 h fun b5 =>
 bif b5 then
 ixS s0_ 1 i9_ fun p6 =>
 ldS p6 h fun s7 =>
 ixS s7 1 (1) fun p8 =>
 ldI .i64 p8 h fun n9 =>
 ixS s5_ 1 n9 fun p10 =>
 ldB p10 h fun b11 =>
 bif b11 then
 ixS s0_ 1 i9_ fun p12 =>
 ldS p12 h fun s13 =>
 newS 1 1 [.sl s13] h fun s14 h15 =>
 app s7_ s14 1 h15 fun s16 h17 =>
 X4 (spec_l06Keep_e4 s0_ i1_ s5_ s6_ s16 (w64 (i9_ + (1)))) h17
 else
 X4 (spec_l06Keep_e4 s0_ i1_ s5_ s6_ s7_ (w64 (i9_ + (1)))) h
 else
 X4 (spec_l06Keep_e4 s0_ i1_ s5_ s6_ s7_ (w64 (i9_ + (1)))) h
 else
 spec_l06Keep_C4 S K X0 s0_ i1_ s7_ h
theorem spec_l06Keep_link4 (S : SatT) (K : AVal → H → Prop) (X0 : Frame → H → Prop) (X4 : Frame → H → Prop) (s0_ : Sl) (i1_ : Int) (s5_ : Sl) (s6_ : Sl) (s7_ : Sl) (i9_ : Int) (h : H) : spec_l06Keep_w4 S K X0 X4 (spec_l06Keep_e4 s0_ i1_ s5_ s6_ s7_ i9_) h = spec_l06Keep_b4 S K X0 X4 s0_ i1_ s5_ s6_ s7_ i9_ h := by kernel_rfl
theorem spec_l06Keep_rule4 (S : SatT) (K : AVal → H → Prop) (X0 : Frame → H → Prop) (s0_ : Sl) (i1_ : Int) (s5_ : Sl) (s6_ : Sl) (I_ : Sl → Int → H → Prop) (m_ : Sl → Int → H → Nat)
    (hs : ∀ (X4 : Frame → H → Prop) (s7_ : Sl) (i9_ : Int) (h : H), I_ s7_ i9_ h → (∀ (s7_' : Sl) (i9_' : Int) (h' : H), I_ s7_' i9_' h' → m_ s7_' i9_' h' < m_ s7_ i9_ h → X4 (spec_l06Keep_e4 s0_ i1_ s5_ s6_ s7_' i9_') h') → spec_l06Keep_b4 S K X0 X4 s0_ i1_ s5_ s6_ s7_ i9_ h) (s7_ : Sl) (i9_ : Int) {h : H} (h0 : I_ s7_ i9_ h) : spec_l06Keep_L4 S K X0 s0_ i1_ s5_ s6_ s7_ i9_ h :=
  loop_rule (σ := (Sl) × (Int)) (fun s_ => spec_l06Keep_e4 s0_ i1_ s5_ s6_ (s_.1) (s_.2)) (fun s_ h => I_ (s_.1) (s_.2) h) (fun s_ h => m_ (s_.1) (s_.2) h)
    (fun X s_ h hi hx => (spec_l06Keep_link4 S K X0 X s0_ i1_ s5_ s6_ (s_.1) (s_.2) h).mpr (hs X (s_.1) (s_.2) h hi fun s7_' i9_' h' hi' hm' => hx (s7_', i9_') h' hi' hm')) (s7_, i9_) h0
theorem spec_l06Keep_unroll4 (S : SatT) (K : AVal → H → Prop) (X0 : Frame → H → Prop) (s0_ : Sl) (i1_ : Int) (s5_ : Sl) (s6_ : Sl) (s7_ : Sl) (i9_ : Int) (h : H) (hb : spec_l06Keep_b4 S K X0 (fun fr h => loopK (spec_l06Keep_w4 S K X0) fr h) s0_ i1_ s5_ s6_ s7_ i9_ h) : spec_l06Keep_L4 S K X0 s0_ i1_ s5_ s6_ s7_ i9_ h := loop_unroll ((spec_l06Keep_link4 S K X0 _ s0_ i1_ s5_ s6_ s7_ i9_ h).mpr hb)
def spec_l06Keep_C2 (S : SatT) (K : AVal → H → Prop) (X0 : Frame → H → Prop) (s0_ : Sl) (i1_ : Int) (s5_ : Sl) (s6_ : Sl) (s7_ : Sl) (h : H) : Prop :=
 spec_l06Keep_L4 S K X0 s0_ i1_ s5_ s6_ s7_ (0) h
def spec_l06Keep_b2 (S : SatT) (K : AVal → H → Prop) (X0 : Frame → H → Prop) (X2 : Frame → H → Prop) (s0_ : Sl) (i1_ : Int) (s5_ : Sl) (s6_ : Sl) (s7_ : Sl) (i8_ : Int) (h : H) : Prop :=
 bif (decide (i8_ < (s0_.len : Int))) then
 ixS s0_ 1 i8_ fun p0 =>
 ldS p0 h fun s1 =>
 ixS s1 1 (0) fun p2 =>
 ldI .i64 p2 h fun n3 =>
 ixS s5_ 1 n3 fun p4 =>
 st1 p4 (.bool true) h fun h5 =>
 ixS s0_ 1 i8_ fun p6 =>
 ldS p6 h5 fun s7 =>
 ixS s7 1 (1) fun p8 =>
 ldI .i64 p8 h5 fun n9 =>
 ixS s6_ 1 n9 fun p10 =>
 st1 p10 (.bool true) h5 fun h11 =>
 X2 (spec_l06Keep_e2 s0_ i1_ s5_ s6_ s7_ (w64 (i8_ + (1)))) h11
 else
 spec_l06Keep_C2 S K X0 s0_ i1_ s5_ s6_ s7_ h
theorem spec_l06Keep_link2 (S : SatT) (K : AVal → H → Prop) (X0 : Frame → H → Prop) (X2 : Frame → H → Prop) (s0_ : Sl) (i1_ : Int) (s5_ : Sl) (s6_ : Sl) (s7_ : Sl) (i8_ : Int) (h : H) : spec_l06Keep_w2 S K X0 X2 (spec_l06Keep_e2 s0_ i1_ s5_ s6_ s7_ i8_) h = spec_l06Keep_b2 S K X0 X2 s0_ i1_ s5_ s6_ s7_ i8_ h := by kernel_rfl
theorem spec_l06Keep_rule2 (S : SatT) (K : AVal → H → Prop) (X0 : Frame → H → Prop) (s0_ : Sl) (i1_ : Int) (s5_ : Sl) (s6_ : Sl) (s7_ : Sl) (I_ : Int → H → Prop) (m_ : Int → H → Nat)
    (hs : ∀ (X2 : Frame → H → Prop) (i8_ : Int) (h : H), I_ i8_ h → (∀ (i8_' : Int) (h' : H), I_ i8_' h' → m_ i8_' h' < m_ i8_ h → X2 (spec_l06Keep_e2 s0_ i1_ s5_ s6_ s7_ i8_') h') → spec_l06Keep_b2 S K X0 X2 s0_ i1_ s5_ s6_ s7_ i8_ h) (i8_ : Int) {h : H} (h0 : I_ i8_ h) : spec_l06Keep_L2 S K X0 s0_ i1_ s5_ s6_ s7_ i8_ h :=
  loop_rule (σ := (Int)) (fun s_ => spec_l06Keep_e2 s0_ i1_ s5_ s6_ s7_ (s_)) (fun s_ h => I_ (s_) h) (fun s_ h => m_ (s_) h)
    (fun X s_ h hi hx => (spec_l06Keep_link2 S K X0 X s0_ i1_ s5_ s6_ s7_ (s_) h).mpr (hs X (s_) h hi fun i8_' h' hi' hm' => hx (i8_') h' hi' hm')) (i8_) h0
theorem spec_l06Keep_unroll2 (S : SatT) (K : AVal → H → Prop) (X0 : Frame → H → Prop) (s0_ : Sl) (i1_ : Int) (s5_ : Sl) (s6_ : Sl) (s7_ : Sl) (i8_ : Int) (h : H) (hb : spec_l06Keep_b2 S K X0 (fun fr h => loopK (spec_l06Keep_w2 S K X0) fr h) s0_ i1_ s5_ s6_ s7_ i8_ h) : spec_l06Keep_L2 S K X0 s0_ i1_ s5_ s6_ s7_ i8_ h := loop_unroll ((spec_l06Keep_link2 S K X0 _ s0_ i1_ s5_ s6_ s7_ i8_ h).mpr hb)
def spec_l06Keep_b0 (S : SatT) (K : AVal → H → Prop) (X0 : Frame → H → Prop) (s0_ : Sl) (i1_ : Int) (h : H) : Prop :=
 slotK 8 h fun h0 =>
 mkSat i1_ [.bool false] h0 (h.length + 1) fun s1 h2 =>
 mkSat i1_ [.bool false] h2 (h.length + 3) fun s3 h4 =>
 newSat 0 1 [] h4 (h.length + 4) fun s5 h6 =>
 spec_l06Keep_L2 S K X0 s0_ i1_ s1 s3 s5 (0) h6
theorem spec_l06Keep_link0 (S : SatT) (K : AVal → H → Prop) (X0 : Frame → H → Prop) (s0_ : Sl) (i1_ : Int) (h : H) : spec_l06Keep_w0 S K X0 (spec_l06Keep_e0 s0_ i1_) h = spec_l06Keep_b0 S K X0 s0_ i1_ h := by kernel_rfl
theorem spec_l06Keep_rule0 (S : SatT) (K : AVal → H → Prop) (i1_ : Int) (I_ : Sl → H → Prop) (m_ : Sl → H → Nat)
    (hs : ∀ (X0 : Frame → H → Prop) (s0_ : Sl) (h : H), I_ s0_ h → (∀ (s0_' : Sl) (h' : H), I_ s0_' h' → m_ s0_' h' < m_ s0_ h → X0 (spec_l06Keep_e0 s0_' i1_) h') → spec_l06Keep_b0 S K X0 s0_ i1_ h) (s0_ : Sl) {h : H} (h0 : I_ s0_ h) : spec_l06Keep_L0 S K s0_ i1_ h :=
  loop_rule (σ := (Sl)) (fun s_ => spec_l06Keep_e0 (s_) i1_) (fun s_ h => I_ (s_) h) (fun s_ h => m_ (s_) h)
    (fun X s_ h hi hx => (spec_l06Keep_link0 S K X (s_) i1_ h).mpr (hs X (s_) h hi fun s0_' h' hi' hm' => hx (s0_') h' hi' hm')) (s0_) h0
theorem spec_l06Keep_unroll0 (S : SatT) (K : AVal → H → Prop) (s0_ : Sl) (i1_ : Int) (h : H) (hb : spec_l06Keep_b0 S K (fun fr h => loopK (spec_l06Keep_w0 S K) fr h) s0_ i1_ h) : spec_l06Keep_L0 S K s0_ i1_ h := loop_unroll ((spec_l06Keep_link0 S K _ s0_ i1_ h).mpr hb)
def spec_l06Keep_main (S : SatT) (K : AVal → H → Prop) (x0 : Sl) (x1 : Int) (h : H) : Prop :=
 spec_l06Keep_L0 S K x0 x1 h
theorem spec_l06Keep_main_link (S : SatT) (K : AVal → H → Prop) (x0 : Sl) (x1 : Int) (h : H) : cwp S tab spec_l06Keep_M [] (bodyOf Try.f100) (kFun tab Try.f100.results.toList K) (fr0 Try.f100 [.sl x0, .int .i64 x1]) h = spec_l06Keep_main S K x0 x1 h := by kernel_rfl
theorem spec_l06Keep_call (x0 : Sl) (x1 : Int) (h : H) (K : Sl → H → Prop) (hm : spec_l06Keep_main (Sat Try.prog) (fun v h' => ∃ r, v = .sl r ∧ K r h') x0 x1 h) : callS (Sat Try.prog) i_spec_l06Keep [.sl x0, .int .i64 x1] h K := by
  have := Sat.ex tok mixed spec_l06Keep_M Try.func100 (c := bodyOf Try.f100) (by kernel_rfl) (calls_of Try.func100 (c := bodyOf Try.f100) (by kernel_rfl) (by decide)) ((spec_l06Keep_main_link _ _ x0 x1 h).mpr hm)
  obtain ⟨v, h2, h3, r, rfl, h4⟩ := this; exact ⟨r, h2, h3, h4⟩

/-! ### loop.example/g01354/impl.strongParts -/
def impl_strongParts_M : Nat → List Nat := fun i => bif i == 2 then [3, 4, 5, 6, 12, 13, 18, 19] else bif i == 0 then [3, 4, 12, 13] else []
def impl_strongParts_ks2 (S : SatT) (K : AVal → H → Prop) : Kont := kSeq (cwp S tab impl_strongParts_M [] (sub [1, 1, 1] (bodyOf Try.f81)) (kFun tab (Try.f81).results.toList K)) (kFun tab (Try.f81).results.toList K)
def impl_strongParts_e0 (s3_ : Sl) (s4_ : Sl) (i12_ : Int) (i13_ : Int) : Frame := [U, U, U, .sl s3_, .sl s4_, U, U, U, U, U, U, U, .int .i64 i12_, .int .i64 i13_, U, U, U, U, U, U, U, U, U, U, U, U, U, U, U, U, U, U, U, U, U, U, U, U, U, U, U, U, U, U, U, U, U, U, U, U, U, U, U, U, U, U, U, U, U]
def impl_strongParts_w0 (S : SatT) (K : AVal → H → Prop) : (Frame → H → Prop) → Frame → H → Prop := fun X fr h => cwp S tab impl_strongParts_M (impl_strongParts_M 0) (sub [1, 1, 0, 1, 0, 0] (bodyOf Try.f81)) (kSeq (fun fr h => X (mask (impl_strongParts_M 0) fr) h) (kBlk 0 (impl_strongParts_ks2 S K))) fr h
def impl_strongParts_L0 (S : SatT) (K : AVal → H → Prop) (s3_ : Sl) (s4_ : Sl) (i12_ : Int) (i13_ : Int) (h : H) : Prop := loopK (impl_strongParts_w0 S K) (impl_strongParts_e0 s3_ s4_ i12_ i13_) h
def impl_strongParts_ks6 (S : SatT) (K : AVal → H → Prop) (X0 : Frame → H → Prop) : Kont := kSeq (cwp S tab impl_strongParts_M (impl_strongParts_M 0) (sub [1, 1, 0, 1, 0, 0, 1, 1, 1] (bodyOf Try.f81)) (kSeq (fun fr h => X0 (mask (impl_strongParts_M 0) fr) h) (kBlk 0 (impl_strongParts_ks2 S K)))) (kSeq (fun fr h => X0 (mask (impl_strongParts_M 0) fr) h) (kBlk 0 (impl_strongParts_ks2 S K)))
def impl_strongParts_ks9 (S : SatT) (K : AVal → H → Prop) (X0 : Frame → H → Prop) : Kont := kSeq (cwp S tab impl_strongParts_M (impl_strongParts_M 1) (sub [1, 1, 0, 1, 0, 0, 1, 1, 0, 0, 1, 1, 1] (bodyOf Try.f81)) (kBlk 1 (impl_strongParts_ks6 S K X0))) (kBlk 1 (impl_strongParts_ks6 S K X0))
def impl_strongParts_e2 (s3_ : Sl) (s4_ : Sl) (i5_ : Int) (s6_ : Sl) (i12_ : Int) (i13_ : Int) (i18_ : Int) (i19_ : Int) : Frame := [U, U, U, .sl s3_, .sl s4_, .int .i64 i5_, .sl s6_, U, U, U, U, U, .int .i64 i12_, .int .i64 i13_, U, U, U, U, .int .i64 i18_, .int .i64 i19_, U, U, U, U, U, U, U, U, U, U, U, U, U, U, U, U, U, U, U, U, U, U, U, U, U, U, U, U, U, U, U, U, U, U, U, U, U, U, U]
def impl_strongParts_w2 (S : SatT) (K : AVal → H → Prop) (X0 : Frame → H → Prop) : (Frame → H → Prop) → Frame → H → Prop := fun X fr h => cwp S tab impl_strongParts_M (impl_strongParts_M 2) (sub [1, 1, 0, 1, 0, 0, 1, 1, 0, 0, 1, 1, 0, 1, 0, 0] (bodyOf Try.f81)) (kSeq (fun fr h => X (mask (impl_strongParts_M 2) fr) h) (kBlk 2 (impl_strongParts_ks9 S K X0))) fr h
def impl_strongParts_L2 (S : SatT) (K : AVal → H → Prop) (X0 : Frame → H → Prop) (s3_ : Sl) (s4_ : Sl) (i5_ : Int) (s6_ : Sl) (i12_ : Int) (i13_ : Int) (i18_ : Int) (i19_ : Int) (h : H) : Prop := loopK (impl_strongParts_w2 S K X0) (impl_strongParts_e2 s3_ s4_ i5_ s6_ i12_ i13_ i18_ i19_) h
def impl_strongParts_C1 (S : SatT) (K : AVal → H → Prop) (X0 : Frame → H → Prop) (s3_ : Sl) (s4_ : Sl) (i12_ : Int) (i13_ : Int) (h : H) : Prop :=
 X0 (impl_strongParts_e0 s3_ s4_ i12_ (w64 (i13_ + (1)))) h
def impl_strongParts_C2 (S : SatT) (K : AVal → H → Prop) (X0 : Frame → H → Prop) (s3_ : Sl) (s4_ : Sl) (i5_ : Int) (s6_ : Sl) (i12_ : Int) (i13_ : Int) (h : H) : Prop :=
 bif (decide ((s6_.len : Int) > (0))) then
 ixS s6_ 1 (0) fun p0 =>
 ldI .i64 p0 h fun n1 =>
 bif (n1 == i5_) then
 newS 1 1 [.sl s6_] h fun s2 h3 =>
 app s3_ s2 1 h3 fun s4 h5 =>
 impl_strongParts_C1 S K X0 s4 s4_ i12_ i13_ h5
 else
 impl_strongParts_C1 S K X0 s3_ s4_ i12_ i13_ h
 else
 impl_strongParts_C1 S K X0 s3_ s4_ i12_ i13_ h
def impl_strongParts_b2 (S : SatT) (K : AVal → H → Prop) (X0 : Frame → H → Prop) (X2 : Frame → H → Prop) (s3_ : Sl) (s4_ : Sl) (i5_ : Int) (s6_ : Sl) (i12_ : Int) (i13_ : Int) (i18_ : Int) (i19_ : Int) (h : H) : Prop :=
 bif (decide (i19_ < i18_)) then
 ixS s4_ 1 i5_ fun p0 =>
 ldS p0 h fun s1 =>
 ixS s1 1 i19_ fun p2 =>
 ldB p2 h fun b3 =>
 bif b3 then
 ixS s4_ 1 i19_ fun p4 =>
 ldS p4 h fun s5 =>
 ixS s5 1 i5_ fun p6 =>
 ldB p6 h fun b7 =>
 bif b7 then
 newS 1 1 [.int .i64 i19_] h fun s8 h9 =>
 app s6_ s8 1 h9 fun s10 h11 =>
 X2 (impl_strongParts_e2 s3_ s4_ i5_ s10 i12_ i13_ i18_ (w64 (i19_ + (1)))) h11
 else
 X2 (impl_strongParts_e2 s3_ s4_ i5_ s6_ i12_ i13_ i18_ (w64 (i19_ + (1)))) h
 else
 X2 (impl_strongParts_e2 s3_ s4_ i5_ s6_ i12_ i13_ i18_ (w64 (i19_ + (1)))) h
 else
 impl_strongParts_C2 S K X0 s3_ s4_ i5_ s6_ i12_ i13_ h
theorem impl_strongParts_link2 (S : SatT) (K : AVal → H → Prop) (X0 : Frame → H → Prop) (X2 : Frame → H → Prop) (s3_ : Sl) (s4_ : Sl) (i5_ : Int) (s6_ : Sl) (i12_ : Int) (i13_ : Int) (i18_ : Int) (i19_ : Int) (h : H) : impl_strongParts_w2 S K X0 X2 (impl_strongParts_e2 s3_ s4_ i5_ s6_ i12_ i13_ i18_ i19_) h = impl_strongParts_b2 S K X0 X2 s3_ s4_ i5_ s6_ i12_ i13_ i18_ i19_ h := by kernel_rfl
theorem impl_strongParts_rule2 (S : SatT) (K : AVal → H → Prop) (X0 : Frame → H → Prop) (s3_ : Sl) (s4_ : Sl) (i5_ : Int) (i12_ : Int) (i13_ : Int) (i18_ : Int) (I_ : Sl → Int → H → Prop) (m_ : Sl → Int → H → Nat)
    (hs : ∀ (X2 : Frame → H → Prop) (s6_ : Sl) (i19_ : Int) (h : H), I_ s6_ i19_ h → (∀ (s6_' : Sl) (i19_' : Int) (h' : H), I_ s6_' i19_' h' → m_ s6_' i19_' h' < m_ s6_ i19_ h → X2 (impl_strongParts_e2 s3_ s4_ i5_ s6_' i12_ i13_ i18_ i19_') h') → impl_strongParts_b2 S K X0 X2 s3_ s4_ i5_ s6_ i12_ i13_ i18_ i19_ h) (s6_ : Sl) (i19_ : Int) {h : H} (h0 : I_ s6_ i19_ h) : impl_strongParts_L2 S K X0 s3_ s4_ i5_ s6_ i12_ i13_ i18_ i19_ h :=
  loop_rule (σ := (Sl) × (Int)) (fun s_ => impl_strongParts_e2 s3_ s4_ i5_ (s_.1) i12_ i13_ i18_ (s_.2)) (fun s_ h => I_ (s_.1) (s_.2) h) (fun s_ h => m_ (s_.1) (s_.2) h)
    (fun X s_ h hi hx => (impl_strongParts_link2 S K X0 X s3_ s4_ i5_ (s_.1) i12_ i13_ i18_ (s_.2) h).mpr (hs X (s_.1) (s_.2) h hi fun s6_' i19_' h' hi' hm' => hx (s6_', i19_') h' hi' hm')) (s6_, i19_) h0
theorem impl_strongParts_unroll2 (S : SatT) (K : AVal → H → Prop) (X0 : Frame → H → Prop) (s3_ : Sl) (s4_ : Sl) (i5_ : Int) (s6_ : Sl) (i12_ : Int) (i13_ : Int) (i18_ : Int) (i19_ : Int) (h : H) (hb : impl_strongParts_b2 S K X0 (fun fr h => loopK (impl_strongParts_w2 S K X0) fr h) s3_ s4_ i5_ s6_ i12_ i13_ i18_ i19_ h) : impl_strongParts_L2 S K X0 s3_ s4_ i5_ s6_ i12_ i13_ i18_ i19_ h := loop_unroll ((impl_strongParts_link2 S K X0 _ s3_ s4_ i5_ s6_ i12_ i13_ i18_ i19_ h).mpr hb)
def impl_strongParts_C0 (S : SatT) (K : AVal → H → Prop) (s3_ : Sl) (h : H) : Prop :=
 K (.sl s3_) h
def impl_strongParts_b0 (S : SatT) (K : AVal → H → Prop) (X0 : Frame → H → Prop) (s3_ : Sl) (s4_ : Sl) (i12_ : Int) (i13_ : Int) (h : H) : Prop :=
 bif (decide (i13_ < i12_)) then
 newS 0 1 [] h fun s0 h1 =>
 impl_strongParts_L2 S K X0 s3_ s4_ i13_ s0 i12_ i13_ (s4_.len : Int) (0) h1
 else
 impl_strongParts_C0 S K s3_ h
theorem impl_strongParts_link0 (S : SatT) (K : AVal → H → Prop) (X0 : Frame → H → Prop) (s3_ : Sl) (s4_ : Sl) (i12_ : Int) (i13_ : Int) (h : H) : impl_strongParts_w0 S K X0 (impl_strongParts_e0 s3_ s4_ i12_ i13_) h = impl_strongParts_b0 S K X0 s3_ s4_ i12_ i13_ h := by kernel_rfl
theorem impl_strongParts_rule0 (S : SatT) (K : AVal → H → Prop) (s4_ : Sl) (i12_ : Int) (I_ : Sl → Int → H → Prop) (m_ : Sl → Int → H → Nat)
    (hs : ∀ (X0 : Frame → H → Prop) (s3_ : Sl) (i13_ : Int) (h : H), I_ s3_ i13_ h → (∀ (s3_' : Sl) (i13_' : Int) (h' : H), I_ s3_' i13_' h' → m_ s3_' i13_' h' < m_ s3_ i13_ h → X0 (impl_strongParts_e0 s3_' s4_ i12_ i13_') h') → impl_strongParts_b0 S K X0 s3_ s4_ i12_ i13_ h) (s3_ : Sl) (i13_ : Int) {h : H} (h0 : I_ s3_ i13_ h) : impl_strongParts_L0 S K s3_ s4_ i12_ i13_ h :=
  loop_rule (σ := (Sl) × (Int)) (fun s_ => impl_strongParts_e0 (s_.1) s4_ i12_ (s_.2)) (fun s_ h => I_ (s_.1) (s_.2) h) (fun s_ h => m_ (s_.1) (s_.2) h)
    (fun X s_ h hi hx => (impl_strongParts_link0 S K X (s_.1) s4_ i12_ (s_.2) h).mpr (hs X (s_.1) (s_.2) h hi fun s3_' i13_' h' hi' hm' => hx (s3_', i13_') h' hi' hm')) (s3_, i13_) h0
theorem impl_strongParts_unroll0 (S : SatT) (K : AVal → H → Prop) (s3_ : Sl) (s4_ : Sl) (i12_ : Int) (i13_ : Int) (h : H) (hb : impl_strongParts_b0 S K (fun fr h => loopK (impl_strongParts_w0 S K) fr h) s3_ s4_ i12_ i13_ h) : impl_strongParts_L0 S K s3_ s4_ i12_ i13_ h := loop_unroll ((impl_strongParts_link0 S K _ s3_ s4_ i12_ i13_ h).mpr hb)
def impl_strongParts_main (S : SatT) (K : AVal → H → Prop) (x0 : Sl) (h : H) : Prop :=
 newS 0 1 [] h fun s0 h1 =>
 callS S i_impl_reach [.sl x0] h1 fun s3 h2 =>
 impl_strongParts_L0 S K s0 s3 (s3.len : Int) (0) h2
theorem impl_strongParts_main_link (S : SatT) (K : AVal → H → Prop) (x0 : Sl) (h : H) : cwp S tab impl_strongParts_M [] (bodyOf Try.f81) (kFun tab Try.f81.results.toList K) (fr0 Try.f81 [.sl x0]) h = impl_strongParts_main S K x0 h := by kernel_rfl
theorem impl_strongParts_call (x0 : Sl) (h : H) (K : Sl → H → Prop) (hm : impl_strongParts_main (Sat Try.prog) (fun v h' => ∃ r, v = .sl r ∧ K r h') x0 h) : callS (Sat Try.prog) i_impl_strongParts [.sl x0] h K := by
  have := Sat.ex tok mixed impl_strongParts_M Try.func81 (c := bodyOf Try.f81) (by kernel_rfl) (calls_of Try.func81 (c := bodyOf Try.f81) (by kernel_rfl) (by decide)) ((impl_strongParts_main_link _ _ x0 h).mpr hm)
  obtain ⟨v, h2, h3, r, rfl, h4⟩ := this; exact ⟨r, h2, h3, h4⟩

/-! ### loop.example/g01354/spec.l06Parts -/
def spec_l06Parts_M : Nat → List Nat := fun i => bif i == 2 then [0, 3, 4, 5, 6, 7, 8] else bif i == 0 then [0, 3, 4, 5, 6] else []
def spec_l06Parts_ks2 (S : SatT) (K : AVal → H → Prop) : Kont := kSeq (cwp S tab spec_l06Parts_M [] (sub [1, 1, 1] (bodyOf Try.f80)) (kFun tab (Try.f80).results.toList K)) (kFun tab (Try.f80).results.toList K)
def spec_l06Parts_e0 (s0_ : Sl) (s3_ : Sl) (s4_ : Sl) (s5_ : Sl) (i6_ : Int) : Frame := [.sl s0_, U, U, .sl s3_, .sl s4_, .sl s5_, .int .i64 i6_, U, U, U, U, U, U, U, U, U, U, U, U, U, U, U, U, U, U, U, U, U, U, U, U, U, U, U, U, U, U, U, U, U, U, U, U, U, U, U, U, U, U, U, U, U, U, U, U, U, U, U, U, U, U, U, U, U, U, U, U, U, U, U, U]
def spec_l06Parts_w0 (S : SatT) (K : AVal → H → Prop) : (Frame → H → Prop) → Frame → H → Prop := fun X fr h => cwp S tab spec_l06Parts_M (spec_l06Parts_M 0) (sub [1, 1, 0, 1, 0, 0] (bodyOf Try.f80)) (kSeq (fun fr h => X (mask (spec_l06Parts_M 0) fr) h) (kBlk 0 (spec_l06Parts_ks2 S K))) fr h
def spec_l06Parts_L0 (S : SatT) (K : AVal → H → Prop) (s0_ : Sl) (s3_ : Sl) (s4_ : Sl) (s5_ : Sl) (i6_ : Int) (h : H) : Prop := loopK (spec_l06Parts_w0 S K) (spec_l06Parts_e0 s0_ s3_ s4_ s5_ i6_) h
def spec_l06Parts_C1 (S : SatT) (K : AVal → H → Prop) (X0 : Frame → H → Prop) (s0_ : Sl) (s3_ : Sl) (s4_ : Sl) (s5_ : Sl) (i6_ : Int) (h : H) : Prop :=
 X0 (spec_l06Parts_e0 s0_ s3_ s4_ s5_ (w64 (i6_ + (1)))) h
def spec_l06Parts_ks6 (S : SatT) (K : AVal → H → Prop) (X0 : Frame → H → Prop) : Kont := kSeq (cwp S tab spec_l06Parts_M (spec_l06Parts_M 0) (sub [1, 1, 0, 1, 0, 0, 1, 1] (bodyOf Try.f80)) (kSeq (fun fr h => X0 (mask (spec_l06Parts_M 0) fr) h) (kBlk 0 (spec_l06Parts_ks2 S K)))) (kSeq (fun fr h => X0 (mask (spec_l06Parts_M 0) fr) h) (kBlk 0 (spec_l06Parts_ks2 S K)))
def spec_l06Parts_ks10 (S : SatT) (K : AVal → H → Prop) (X0 : Frame → H → Prop) : Kont := kSeq (cwp S tab spec_l06Parts_M (spec_l06Parts_M 1) (sub [1, 1, 0, 1, 0, 0, 1, 0, 0, 1, 1, 1] (bodyOf Try.f80)) (kBlk 1 (spec_l06Parts_ks6 S K X0))) (kBlk 1 (spec_l06Parts_ks6 S K X0))
def spec_l06Parts_e2 (s0_ : Sl) (s3_ : Sl) (s4_ : Sl) (s5_ : Sl) (i6_ : Int) (s7_ : Sl) (i8_ : Int) : Frame := [.sl s0_, U, U, .sl s3_, .sl s4_, .sl s5_, .int .i64 i6_, .sl s7_, .int .i64 i8_, U, U, U, U, U, U, U, U, U, U, U, U, U, U, U, U, U, U, U, U, U, U, U, U, U, U, U, U, U, U, U, U, U, U, U, U, U, U, U, U, U, U, U, U, U, U, U, U, U, U, U, U, U, U, U, U, U, U, U, U, U, U]
def spec_l06Parts_w2 (S : SatT) (K : AVal → H → Prop) (X0 : Frame → H → Prop) : (Frame → H → Prop) → Frame → H → Prop := fun X fr h => cwp S tab spec_l06Parts_M (spec_l06Parts_M 2) (sub [1, 1, 0, 1, 0, 0, 1, 0, 0, 1, 1, 0, 1, 0, 0] (bodyOf Try.f80)) (kSeq (fun fr h => X (mask (spec_l06Parts_M 2) fr) h) (kBlk 2 (spec_l06Parts_ks10 S K X0))) fr h
def spec_l06Parts_L2 (S : SatT) (K : AVal → H → Prop) (X0 : Frame → H → Prop) (s0_ : Sl) (s3_ : Sl) (s4_ : Sl) (s5_ : Sl) (i6_ : Int) (s7_ : Sl) (i8_ : Int) (h : H) : Prop := loopK (spec_l06Parts_w2 S K X0) (spec_l06Parts_e2 s0_ s3_ s4_ s5_ i6_ s7_ i8_) h
def spec_l06Parts_C2 (S : SatT) (K : AVal → H → Prop) (X0 : Frame → H → Prop) (s0_ : Sl) (s3_ : Sl) (s4_ : Sl) (s5_ : Sl) (i6_ : Int) (s7_ : Sl) (h : H) : Prop :=
 newS 1 1 [.sl s7_] h fun s0 h1 =>
 app s5_ s0 1 h1 fun s2 h3 =>
 spec_l06Parts_C1 S K X0 s0_ s3_ s4_ s2 i6_ h3
def spec_l06Parts_b2 (S : SatT) (K : AVal → H → Prop) (X0 : Frame → H → Prop) (X2 : Frame → H → Prop) (s0_ : Sl) (s3_ : Sl) (s4_ : Sl) (s5_ : Sl) (i6_ : Int) (s7_ : Sl) (i8_ : Int) (h : H) : Prop :=
 bif (decide (i8_ < (s0_.len : Int))) then
 ixS s3_ 1 i6_ fun p0 =>
 ldS p0 h fun s1 =>
 ixS s1 1 i8_ fun p2 =>
 ldB p2 h fun b3 =>
 bif b3 then
 ixS s3_ 1 i8_ fun p4 =>
 ldS p4 h fun s5 =>
 ixS s5 1 i6_ fun p6 =>
 ldB p6 h fun b7 =>
 bif b7 then
 ixS s4_ 1 i8_ fun p8 =>
 st1 p8 (.bool true) h fun h9 =>
 newS 1 1 [.int .i64 i8_] h9 fun s10 h11 =>
 app s7_ s10 1 h11 fun s12 h13 =>
 X2 (spec_l06Parts_e2 s0_ s3_ s4_ s5_ i6_ s12 (w64 (i8_ + (1)))) h13
 else
 X2 (spec_l06Parts_e2 s0_ s3_ s4_ s5_ i6_ s7_ (w64 (i8_ + (1)))) h
 else
 X2 (spec_l06Parts_e2 s0_ s3_ s4_ s5_ i6_ s7_ (w64 (i8_ + (1)))) h
 else
 spec_l06Parts_C2 S K X0 s0_ s3_ s4_ s5_ i6_ s7_ h
theorem spec_l06Parts_link2 (S : SatT) (K : AVal → H → Prop) (X0 : Frame → H → Prop) (X2 : Frame → H → Prop) (s0_ : Sl) (s3_ : Sl) (s4_ : Sl) (s5_ : Sl) (i6_ : Int) (s7_ : Sl) (i8_ : Int) (h : H) : spec_l06Parts_w2 S K X0 X2 (spec_l06Parts_e2 s0_ s3_ s4_ s5_ i6_ s7_ i8_) h = spec_l06Parts_b2 S K X0 X2 s0_ s3_ s4_ s5_ i6_ s7_ i8_ h := by kernel_rfl
theorem spec_l06Parts_rule2 (S : SatT) (K : AVal → H → Prop) (X0 : Frame → H → Prop) (s0_ : Sl) (s3_ : Sl) (s4_ : Sl) (s5_ : Sl) (i6_ : Int) (I_ : Sl → Int → H → Prop) (m_ : Sl → Int → H → Nat)
    (hs : ∀ (X2 : Frame → H → Prop) (s7_ : Sl) (i8_ : Int) (h : H), I_ s7_ i8_ h → (∀ (s7_' : Sl) (i8_' : Int) (h' : H), I_ s7_' i8_' h' → m_ s7_' i8_' h' < m_ s7_ i8_ h → X2 (spec_l06Parts_e2 s0_ s3_ s4_ s5_ i6_ s7_' i8_') h') → spec_l06Parts_b2 S K X0 X2 s0_ s3_ s4_ s5_ i6_ s7_ i8_ h) (s7_ : Sl) (i8_ : Int) {h : H} (h0 : I_ s7_ i8_ h) : spec_l06Parts_L2 S K X0 s0_ s3_ s4_ s5_ i6_ s7_ i8_ h :=
  loop_rule (σ := (Sl) × (Int)) (fun s_ => spec_l06Parts_e2 s0_ s3_ s4_ s5_ i6_ (s_.1) (s_.2)) (fun s_ h => I_ (s_.1) (s_.2) h) (fun s_ h => m_ (s_.1) (s_.2) h)
    (fun X s_ h hi hx => (spec_l06Parts_link2 S K X0 X s0_ s3_ s4_ s5_ i6_ (s_.1) (s_.2) h).mpr (hs X (s_.1) (s_.2) h hi fun s7_' i8_' h' hi' hm' => hx (s7_', i8_') h' hi' hm')) (s7_, i8_) h0
theorem spec_l06Parts_unroll2 (S : SatT) (K : AVal → H → Prop) (X0 : Frame → H → Prop) (s0_ : Sl) (s3_ : Sl) (s4_ : Sl) (s5_ : Sl) (i6_ : Int) (s7_ : Sl) (i8_ : Int) (h : H) (hb : spec_l06Parts_b2 S K X0 (fun fr h => loopK (spec_l06Parts_w2 S K X0) fr h) s0_ s3_ s4_ s5_ i6_ s7_ i8_ h) : spec_l06Parts_L2 S K X0 s0_ s3_ s4_ s5_ i6_ s7_ i8_ h := loop_unroll ((spec_l06Parts_link2 S K X0 _ s0_ s3_ s4_ s5_ i6_ s7_ i8_ h).mpr hb)
def spec_l06Parts_C0 (S : SatT) (K : AVal → H → Prop) (s5_ : Sl) (h : H) : Prop :=
 K (.sl s5_) h
def spec_l06Parts_b0 (S : SatT) (K : AVal → H → Prop) (X0 : Frame → H → Prop) (s0_ : Sl) (s3_ : Sl) (s4_ : Sl) (s5_ : Sl) (i6_ : Int) (h : H) : Prop :=
 bif (decide (i6_ < (s0_.len : Int))) then
 ixS s4_ 1 i6_ fun p0 =>
 ldB p0 h fun b1 =>
 bif b1 then
 spec_l06Parts_C1 S K X0 s0_ s3_ s4_ s5_ i6_ h
 else
 ixS s3_ 1 i6_ fun p2 =>
 ldS p2 h fun s3 =>
 ixS s3 1 i6_ fun p4 =>
 ldB p4 h fun b5 =>
 bif (!b5) then
 spec_l06Parts_C1 S K X0 s0_ s3_ s4_ s5_ i6_ h
 else
 newS 0 1 [] h fun s6 h7 =>
 spec_l06Parts_L2 S K X0 s0_ s3_ s4_ s5_ i6_ s6 i6_ h7
 else
 spec_l06Parts_C0 S K s5_ h
theorem spec_l06Parts_link0 (S : SatT) (K : AVal → H → Prop) (X0 : Frame → H → Prop) (s0_ : Sl) (s3_ : Sl) (s4_ : Sl) (s5_ : Sl) (i6_ : Int) (h : H) : spec_l06Parts_w0 S K X0 (spec_l06Parts_e0 s0_ s3_ s4_ s5_ i6_) h = spec_l06Parts_b0 S K X0 s0_ s3_ s4_ s5_ i6_ h := by kernel_rfl
theorem spec_l06Parts_rule0 (S : SatT) (K : AVal → H → Prop) (s0_ : Sl) (s3_ : Sl) (s4_ : Sl) (I_ : Sl → Int → H → Prop) (m_ : Sl → Int → H → Nat)
    (hs : ∀ (X0 : Frame → H → Prop) (s5_ : Sl) (i6_ : Int) (h : H), I_ s5_ i6_ h → (∀ (s5_' : Sl) (i6_' : Int) (h' : H), I_ s5_' i6_' h' → m_ s5_' i6_' h' < m_ s5_ i6_ h → X0 (spec_l06Parts_e0 s0_ s3_ s4_ s5_' i6_') h') → spec_l06Parts_b0 S K X0 s0_ s3_ s4_ s5_ i6_ h) (s5_ : Sl) (i6_ : Int) {h : H} (h0 : I_ s5_ i6_ h) : spec_l06Parts_L0 S K s0_ s3_ s4_ s5_ i6_ h :=
  loop_rule (σ := (Sl) × (Int)) (fun s_ => spec_l06Parts_e0 s0_ s3_ s4_ (s_.1) (s_.2)) (fun s_ h => I_ (s_.1) (s_.2) h) (fun s_ h => m_ (s_.1) (s_.2) h)
    (fun X s_ h hi hx => (spec_l06Parts_link0 S K X s0_ s3_ s4_ (s_.1) (s_.2) h).mpr (hs X (s_.1) (s_.2) h hi fun s5_' i6_' h' hi' hm' => hx (s5_', i6_') h' hi' hm')) (s5_, i6_) h0
theorem spec_l06Parts_unroll0 (S : SatT) (K : AVal → H → Prop) (s0_ : Sl) (s3_ : Sl) (s4_ : Sl) (s5_ : Sl) (i6_ : Int) (h : H) (hb : spec_l06Parts_b0 S K (fun fr h => loopK (spec_l06Parts_w0 S K) fr h) s0_ s3_ s4_ s5_ i6_ h) : spec_l06Parts_L0 S K s0_ s3_ s4_ s5_ i6_ h := loop_unroll ((spec_l06Parts_link0 S K _ s0_ s3_ s4_ s5_ i6_ h).mpr hb)
def spec_l06Parts_main (S : SatT) (K : AVal → H → Prop) (x0 : Sl) (h : H) : Prop :=
 slotK 9 h fun h0 =>
 callS S i_spec_l06Reach [.sl x0] h0 fun s2 h1 =>
 mkSat (x0.len : Int) [.bool false] h1 (h.length + 4) fun s3 h4 =>
 newSat 0 1 [] h4 (h.length + 5) fun s5 h6 =>
 spec_l06Parts_L0 S K x0 s2 s3 s5 (0) h6
theorem spec_l06Parts_main_link (S : SatT) (K : AVal → H → Prop) (x0 : Sl) (h : H) : cwp S tab spec_l06Parts_M [] (bodyOf Try.f80) (kFun tab Try.f80.results.toList K) (fr0 Try.f80 [.sl x0]) h = spec_l06Parts_main S K x0 h := by kernel_rfl
theorem spec_l06Parts_call (x0 : Sl) (h : H) (K : Sl → H → Prop) (hm : spec_l06Parts_main (Sat Try.prog) (fun v h' => ∃ r, v = .sl r ∧ K r h') x0 h) : callS (Sat Try.prog) i_spec_l06Parts [.sl x0] h K := by
  have := Sat.ex tok mixed spec_l06Parts_M Try.func80 (c := bodyOf Try.f80) (by kernel_rfl) (calls_of Try.func80 (c := bodyOf Try.f80) (by kernel_rfl) (by decide)) ((spec_l06Parts_main_link _ _ x0 h).mpr hm)
  obtain ⟨v, h2, h3, r, rfl, h4⟩ := this; exact ⟨r, h2, h3, h4⟩

/-! ### loop.example/g01354/laws.markTileS -/
def laws_markTileS_M : Nat → List Nat := fun i => bif i == 2 then [0, 1, 5, 6] else bif i == 0 then [0, 1, 5] else []
def laws_markTileS_ks1 (S : SatT) (K : AVal → H → Prop) : Kont := kSeq (cwp S tab laws_markTileS_M [] (sub [1, 1] (bodyOf Try.f60)) (kFun tab (Try.f60).results.toList K)) (kFun tab (Try.f60).results.toList K)
def laws_markTileS_e0 (s0_ : Sl) (i1_ : Int) (i5_ : Int) : Frame := [.sl s0_, .int .i64 i1_, U, U, U, .int .i64 i5_, U, U, U, U, U, U, U, U, U, U, U, U, U, U, U, U, U, U, U, U]
def laws_markTileS_w0 (S : SatT) (K : AVal → H → Prop) : (Frame → H → Prop) → Frame → H → Prop := fun X fr h => cwp S tab laws_markTileS_M (laws_markTileS_M 0) (sub [1, 0, 1, 0, 0] (bodyOf Try.f60)) (kSeq (fun fr h => X (mask (laws_markTileS_M 0) fr) h) (kBlk 0 (laws_markTileS_ks1 S K))) fr h
def laws_markTileS_L0 (S : SatT) (K : AVal → H → Prop) (s0_ : Sl) (i1_ : Int) (i5_ : Int) (h : H) : Prop := loopK (laws_markTileS_w0 S K) (laws_markTileS_e0 s0_ i1_ i5_) h
def laws_markTileS_ks5 (S : SatT) (K : AVal → H → Prop) (X0 : Frame → H → Prop) : Kont := kSeq (cwp S tab laws_markTileS_M (laws_markTileS_M 0) (sub [1, 0, 1, 0, 0, 1, 1] (bodyOf Try.f60)) (kSeq (fun fr h => X0 (mask (laws_markTileS_M 0) fr) h) (kBlk 0 (laws_markTileS_ks1 S K)))) (kSeq (fun fr h => X0 (mask (laws_markTileS_M 0) fr) h) (kBlk 0 (laws_markTileS_ks1 S K)))
def laws_markTileS_e2 (s0_ : Sl) (i1_ : Int) (i5_ : Int) (i6_ : Int) : Frame := [.sl s0_, .int .i64 i1_, U, U, U, .int .i64 i5_, .int .i64 i6_, U, U, U, U, U, U, U, U, U, U, U, U, U, U, U, U, U, U, U]
def laws_markTileS_w2 (S : SatT) (K : AVal → H → Prop) (X0 : Frame → H → Prop) : (Frame → H → Prop) → Frame → H → Prop := fun X fr h => cwp S tab laws_markTileS_M (laws_markTileS_M 2) (sub [1, 0, 1, 0, 0, 1, 0, 0, 1, 0, 0] (bodyOf Try.f60)) (kSeq (fun fr h => X (mask (laws_markTileS_M 2) fr) h) (kBlk 2 (kBlk 1 (laws_markTileS_ks5 S K X0)))) fr h
def laws_markTileS_L2 (S : SatT) (K : AVal → H → Prop) (X0 : Frame → H → Prop) (s0_ : Sl) (i1_ : Int) (i5_ : Int) (i6_ : Int) (h : H) : Prop := loopK (laws_markTileS_w2 S K X0) (laws_markTileS_e2 s0_ i1_ i5_ i6_) h
def laws_markTileS_C1 (S : SatT) (K : AVal → H → Prop) (X0 : Frame → H → Prop) (s0_ : Sl) (i1_ : Int) (i5_ : Int) (h : H) : Prop :=
 X0 (laws_markTileS_e0 s0_ i1_ (w64 (i5_ + (1)))) h
def laws_markTileS_C2 (S : SatT) (K : AVal → H → Prop) (X0 : Frame → H → Prop) (s0_ : Sl) (i1_ : Int) (i5_ : Int) (h : H) : Prop :=
 laws_markTileS_C1 S K X0 s0_ i1_ i5_ h
def laws_markTileS_b2 (S : SatT) (K : AVal → H → Prop) (X0 : Frame → H → Prop) (X2 : Frame → H → Prop) (s0_ : Sl) (i1_ : Int) (i5_ : Int) (i6_ : Int) (h : H) : Prop :=
 bif (decide (i6_ < (4))) then
 ixS s0_ 4 i5_ fun p0 =>
 ixA p0 4 1 i6_ fun p1 =>
 st1 p1 (.int .i64 i1_) h fun h2 =>
 X2 (laws_markTileS_e2 s0_ (w64 (i1_ + (1))) i5_ (w64 (i6_ + (1)))) h2
 else
 laws_markTileS_C2 S K X0 s0_ i1_ i5_ h
theorem laws_markTileS_link2 (S : SatT) (K : AVal → H → Prop) (X0 : Frame → H → Prop) (X2 : Frame → H → Prop) (s0_ : Sl) (i1_ : Int) (i5_ : Int) (i6_ : Int) (h : H) : laws_markTileS_w2 S K X0 X2 (laws_markTileS_e2 s0_ i1_ i5_ i6_) h = laws_markTileS_b2 S K X0 X2 s0_ i1_ i5_ i6_ h := by kernel_rfl
theorem laws_markTileS_rule2 (S : SatT) (K : AVal → H → Prop) (X0 : Frame → H → Prop) (s0_ : Sl) (i5_ : Int) (I_ : Int → Int → H → Prop) (m_ : Int → Int → H → Nat)
    (hs : ∀ (X2 : Frame → H → Prop) (i1_ : Int) (i6_ : Int) (h : H), I_ i1_ i6_ h → (∀ (i1_' : Int) (i6_' : Int) (h' : H), I_ i1_' i6_' h' → m_ i1_' i6_' h' < m_ i1_ i6_ h → X2 (laws_markTileS_e2 s0_ i1_' i5_ i6_') h') → laws_markTileS_b2 S K X0 X2 s0_ i1_ i5_ i6_ h) (i1_ : Int) (i6_ : Int) {h : H} (h0 : I_ i1_ i6_ h) : laws_markTileS_L2 S K X0 s0_ i1_ i5_ i6_ h :=
  loop_rule (σ := (Int) × (Int)) (fun s_ => laws_markTileS_e2 s0_ (s_.1) i5_ (s_.2)) (fun s_ h => I_ (s_.1) (s_.2) h) (fun s_ h => m_ (s_.1) (s_.2) h)
    (fun X s_ h hi hx => (laws_markTileS_link2 S K X0 X s0_ (s_.1) i5_ (s_.2) h).mpr (hs X (s_.1) (s_.2) h hi fun i1_' i6_' h' hi' hm' => hx (i1_', i6_') h' hi' hm')) (i1_, i6_) h0
theorem laws_markTileS_unroll2 (S : SatT) (K : AVal → H → Prop) (X0 : Frame → H → Prop) (s0_ : Sl) (i1_ : Int) (i5_ : Int) (i6_ : Int) (h : H) (hb : laws_markTileS_b2 S K X0 (fun fr h => loopK (laws_markTileS_w2 S K X0) fr h) s0_ i1_ i5_ i6_ h) : laws_markTileS_L2 S K X0 s0_ i1_ i5_ i6_ h := loop_unroll ((laws_markTileS_link2 S K X0 _ s0_ i1_ i5_ i6_ h).mpr hb)
def laws_markTileS_C0 (S : SatT) (K : AVal → H → Prop) (i1_ : Int) (h : H) : Prop :=
 K (.int .i64 i1_) h
def laws_markTileS_b0 (S : SatT) (K : AVal → H → Prop) (X0 : Frame → H → Prop) (s0_ : Sl) (i1_ : Int) (i5_ : Int) (h : H) : Prop :=
 bif (decide (i5_ < (s0_.len : Int))) then
 laws_markTileS_L2 S K X0 s0_ i1_ i5_ (0) h
 else
 laws_markTileS_C0 S K i1_ h
theorem laws_markTileS_link0 (S : SatT) (K : AVal → H → Prop) (X0 : Frame → H → Prop) (s0_ : Sl) (i1_ : Int) (i5_ : Int) (h : H) : laws_markTileS_w0 S K X0 (laws_markTileS_e0 s0_ i1_ i5_) h = laws_markTileS_b0 S K X0 s0_ i1_ i5_ h := by kernel_rfl
theorem laws_markTileS_rule0 (S : SatT) (K : AVal → H → Prop) (s0_ : Sl) (I_ : Int → Int → H → Prop) (m_ : Int → Int → H → Nat)
    (hs : ∀ (X0 : Frame → H → Prop) (i1_ : Int) (i5_ : Int) (h : H), I_ i1_ i5_ h → (∀ (i1_' : Int) (i5_' : Int) (h' : H), I_ i1_' i5_' h' → m_ i1_' i5_' h' < m_ i1_ i5_ h → X0 (laws_markTileS_e0 s0_ i1_' i5_') h') → laws_markTileS_b0 S K X0 s0_ i1_ i5_ h) (i1_ : Int) (i5_ : Int) {h : H} (h0 : I_ i1_ i5_ h) : laws_markTileS_L0 S K s0_ i1_ i5_ h :=
  loop_rule (σ := (Int) × (Int)) (fun s_ => laws_markTileS_e0 s0_ (s_.1) (s_.2)) (fun s_ h => I_ (s_.1) (s_.2) h) (fun s_ h => m_ (s_.1) (s_.2) h)
    (fun X s_ h hi hx => (laws_markTileS_link0 S K X s0_ (s_.1) (s_.2) h).mpr (hs X (s_.1) (s_.2) h hi fun i1_' i5_' h' hi' hm' => hx (i1_', i5_') h' hi' hm')) (i1_, i5_) h0
theorem laws_markTileS_unroll0 (S : SatT) (K : AVal → H → Prop) (s0_ : Sl) (i1_ : Int) (i5_ : Int) (h : H) (hb : laws_markTileS_b0 S K (fun fr h => loopK (laws_markTileS_w0 S K) fr h) s0_ i1_ i5_ h) : laws_markTileS_L0 S K s0_ i1_ i5_ h := loop_unroll ((laws_markTileS_link0 S K _ s0_ i1_ i5_ h).mpr hb)
def laws_markTileS_main (S : SatT) (K : AVal → H → Prop) (x0 : Sl) (x1 : Int) (h : H) : Prop :=
 laws_markTileS_L0 S K x0 x1 (0) h
theorem laws_markTileS_main_link (S : SatT) (K : AVal → H → Prop) (x0 : Sl) (x1 : Int) (h : H) : cwp S tab laws_markTileS_M [] (bodyOf Try.f60) (kFun tab Try.f60.results.toList K) (fr0 Try.f60 [.sl x0, .int .i64 x1]) h = laws_markTileS_main S K x0 x1 h := by kernel_rfl
theorem laws_markTileS_call (x0 : Sl) (x1 : Int) (h : H) (K : Int → H → Prop) (hm : laws_markTileS_main (Sat Try.prog) (fun v h' => ∃ r, v = .int .i64 r ∧ K r h') x0 x1 h) : callI (Sat Try.prog) .i64 i_laws_markTileS [.sl x0, .int .i64 x1] h K := by
  have := Sat.ex tok mixed laws_markTileS_M Try.func60 (c := bodyOf Try.f60) (by kernel_rfl) (calls_of Try.func60 (c := bodyOf Try.f60) (by kernel_rfl) (by decide)) ((laws_markTileS_main_link _ _ x0 x1 h).mpr hm)
  obtain ⟨v, h2, h3, r, rfl, h4⟩ := this; exact ⟨r, h2, h3, h4⟩

/-! ### loop.example/g01354/spec.l01Renamed -/
def spec_l01Renamed_M : Nat → List Nat := fun i => bif i == 0 then [1, 2, 4, 5, 6] else []
def spec_l01Renamed_ks2 (S : SatT) (K : AVal → H → Prop) : Kont := kSeq (cwp S tab spec_l01Renamed_M [] (sub [1, 1, 1] (bodyOf Try.f134)) (kFun tab (Try.f134).results.toList K)) (kFun tab (Try.f134).results.toList K)
def spec_l01Renamed_e0 (s1_ : Sl) (p2_ : Pt) (p4_ : Pt) (s5_ : Sl) (i6_ : Int) : Frame := [U, .sl s1_, .ptr p2_, U, .ptr p4_, .sl s5_, .int .i64 i6_, U, U, U, U, U, U, U, U, U, U, U, U, U, U, U, U, U, U, U, U, U, U, U, U, U, U, U, U, U, U, U, U, U, U, U, U, U, U, U, U, U, U]
def spec_l01Renamed_w0 (S : SatT) (K : AVal → H → Prop) : (Frame → H → Prop) → Frame → H → Prop := fun X fr h => cwp S tab spec_l01Renamed_M (spec_l01Renamed_M 0) (sub [1, 1, 0, 1, 0, 0] (bodyOf Try.f134)) (kSeq (fun fr h => X (mask (spec_l01Renamed_M 0) fr) h) (kBlk 0 (spec_l01Renamed_ks2 S K))) fr h
def spec_l01Renamed_L0 (S : SatT) (K : AVal → H → Prop) (s1_ : Sl) (p2_ : Pt) (p4_ : Pt) (s5_ : Sl) (i6_ : Int) (h : H) : Prop := loopK (spec_l01Renamed_w0 S K) (spec_l01Renamed_e0 s1_ p2_ p4_ s5_ i6_) h
def spec_l01Renamed_C0 (S : SatT) (K : AVal → H → Prop) (p2_ : Pt) (p4_ : Pt) (s5_ : Sl) (h : H) : Prop :=
 isPt p2_ (
 ldI .i64 (Pt.add p2_ 0) h fun n0 =>
 callA S i_spec_l01Made [.int .i64 n0, .sl s5_] h fun cs2 h1 =>
 stN p4_ 2 cs2 h1 fun h3 =>
 ldA p4_ 2 h3 fun cs4 =>
 K (.agg cs4) h3)
def spec_l01Renamed_b0 (S : SatT) (K : AVal → H → Prop) (X0 : Frame → H → Prop) (s1_ : Sl) (p2_ : Pt) (p4_ : Pt) (s5_ : Sl) (i6_ : Int) (h : H) : Prop :=
 isPt p2_ (
 ldS (Pt.add p2_ 1) h fun s0 =>
 bif (decide (i6_ < (s0.len : Int))) then
 isPt p2_ (
 ldS (Pt.add p2_ 1) h fun s1 =>
 ixS s1 4 i6_ fun p2 =>
 ldA p2 4 h fun cs3 =>
 newO [.int .i64 (0), .int .i64 (0), .int .i64 (0), .int .i64 (0)] h fun p4 h5 =>
 stN p4 4 cs3 h5 fun h6 =>
 ixA p4 4 1 (0) fun p7 =>
 ldI .i64 p7 h6 fun n8 =>
 ixS s1_ 1 n8 fun p9 =>
 ldI .i64 p9 h6 fun n10 =>
 ixA p4 4 1 (1) fun p11 =>
 ldI .i64 p11 h6 fun n12 =>
 ixS s1_ 1 n12 fun p13 =>
 ldI .i64 p13 h6 fun n14 =>
 ixA p4 4 1 (2) fun p15 =>
 ldI .i64 p15 h6 fun n16 =>
 ixS s1_ 1 n16 fun p17 =>
 ldI .i64 p17 h6 fun n18 =>
 ixA p4 4 1 (3) fun p19 =>
 ldI .i64 p19 h6 fun n20 =>
 ixS s1_ 1 n20 fun p21 =>
 ldI .i64 p21 h6 fun n22 =>
 lenA [.int .i64 n10, .int .i64 n14, .int .i64 n18, .int .i64 n22] 4 (
 newS 1 4 (spl [.int .i64 (0), .int .i64 (0), .int .i64 (0), .int .i64 (0)] 0 4 [.int .i64 n10, .int .i64 n14, .int .i64 n18, .int .i64 n22]) h6 fun s23 h24 =>
 app s5_ s23 4 h24 fun s25 h26 =>
 X0 (spec_l01Renamed_e0 s1_ p2_ p4_ s25 (w64 (i6_ + (1)))) h26))
 else
 spec_l01Renamed_C0 S K p2_ p4_ s5_ h)
theorem spec_l01Renamed_link0 (S : SatT) (K : AVal → H → Prop) (X0 : Frame → H → Prop) (s1_ : Sl) (p2_ : Pt) (p4_ : Pt) (s5_ : Sl) (i6_ : Int) (h : H) : spec_l01Renamed_w0 S K X0 (spec_l01Renamed_e0 s1_ p2_ p4_ s5_ i6_) h = spec_l01Renamed_b0 S K X0 s1_ p2_ p4_ s5_ i6_ h := by kernel_rfl
theorem spec_l01Renamed_rule0 (S : SatT) (K : AVal → H → Prop) (s1_ : Sl) (p2_ : Pt) (p4_ : Pt) (I_ : Sl → Int → H → Prop) (m_ : Sl → Int → H → Nat)
    (hs : ∀ (X0 : Frame → H → Prop) (s5_ : Sl) (i6_ : Int) (h : H), I_ s5_ i6_ h → (∀ (s5_' : Sl) (i6_' : Int) (h' : H), I_ s5_' i6_' h' → m_ s5_' i6_' h' < m_ s5_ i6_ h → X0 (spec_l01Renamed_e0 s1_ p2_ p4_ s5_' i6_') h') → spec_l01Renamed_b0 S K X0 s1_ p2_ p4_ s5_ i6_ h) (s5_ : Sl) (i6_ : Int) {h : H} (h0 : I_ s5_ i6_ h) : spec_l01Renamed_L0 S K s1_ p2_ p4_ s5_ i6_ h :=
  loop_rule (σ := (Sl) × (Int)) (fun s_ => spec_l01Renamed_e0 s1_ p2_ p4_ (s_.1) (s_.2)) (fun s_ h => I_ (s_.1) (s_.2) h) (fun s_ h => m_ (s_.1) (s_.2) h)
    (fun X s_ h hi hx => (spec_l01Renamed_link0 S K X s1_ p2_ p4_ (s_.1) (s_.2) h).mpr (hs X (s_.1) (s_.2) h hi fun s5_' i6_' h' hi' hm' => hx (s5_', i6_') h' hi' hm')) (s5_, i6_) h0
theorem spec_l01Renamed_unroll0 (S : SatT) (K : AVal → H → Prop) (s1_ : Sl) (p2_ : Pt) (p4_ : Pt) (s5_ : Sl) (i6_ : Int) (h : H) (hb : spec_l01Renamed_b0 S K (fun fr h => loopK (spec_l01Renamed_w0 S K) fr h) s1_ p2_ p4_ s5_ i6_ h) : spec_l01Renamed_L0 S K s1_ p2_ p4_ s5_ i6_ h := loop_unroll ((spec_l01Renamed_link0 S K _ s1_ p2_ p4_ s5_ i6_ h).mpr hb)
def spec_l01Renamed_main (S : SatT) (K : AVal → H → Prop) (x0 : List AVal) (x1 : Sl) (h : H) : Prop :=
 newK 2 x0 h fun p0 h1 =>
 newO [.int .i64 (0), .sl Sl.nil] h1 fun p2 h3 =>
 newS 0 4 [] h3 fun s4 h5 =>
 spec_l01Renamed_L0 S K x1 p0 p2 s4 (0) h5
theorem spec_l01Renamed_main_link (S : SatT) (K : AVal → H → Prop) (x0 : List AVal) (x1 : Sl) (h : H) : cwp S tab spec_l01Renamed_M [] (bodyOf Try.f134) (kFun tab Try.f134.results.toList K) (fr0 Try.f134 [.agg x0, .sl x1]) h = spec_l01Renamed_main S K x0 x1 h := by kernel_rfl
theorem spec_l01Renamed_call (x0 : List AVal) (x1 : Sl) (h : H) (K : List AVal → H → Prop) (hm : spec_l01Renamed_main (Sat Try.prog) (fun v h' => ∃ r, v = .agg r ∧ K r h') x0 x1 h) : callA (Sat Try.prog) i_spec_l01Renamed [.agg x0, .sl x1] h K := by
  have := Sat.ex tok mixed spec_l01Renamed_M Try.func134 (c := bodyOf Try.f134) (by kernel_rfl) (calls_of Try.func134 (c := bodyOf Try.f134) (by kernel_rfl) (by decide)) ((spec_l01Renamed_main_link _ _ x0 x1 h).mpr hm)
  obtain ⟨v, h2, h3, r, rfl, h4⟩ := this; exact ⟨r, h2, h3, h4⟩

/-! ### slices.Repeat[[]bool,bool] -/
def slices_Repeat_s_bool_bool__M : Nat → List Nat := fun i => bif i == 0 then [7, 8] else []
def slices_Repeat_s_bool_bool__ks8 (S : SatT) (K : AVal → H → Prop) : Kont := kSeq (cwp S tab slices_Repeat_s_bool_bool__M [] (sub [1, 1, 1, 1, 1, 1, 1] (bodyOf Try.f98)) (kFun tab (Try.f98).results.toList K)) (kFun tab (Try.f98).results.toList K)
def slices_Repeat_s_bool_bool__e0 (s7_ : Sl) (i8_ : Int) : Frame := [U, U, U, U, U, U, U, .sl s7_, .int .i64 i8_, U, U, U, U, U, U, U, U, U, U, U, U, U, U, U, U, U, U, U, U, U, U, U, U, U, U, U, U, U, U, U, U, U, U, U, U, U, U, U]
def slices_Repeat_s_bool_bool__w0 (S : SatT) (K : AVal → H → Prop) : (Frame → H → Prop) → Frame → H → Prop := fun X fr h => cwp S tab slices_Repeat_s_bool_bool__M (slices_Repeat_s_bool_bool__M 0) (sub [1, 1, 1, 1, 1, 1, 0, 0, 0] (bodyOf Try.f98)) (kSeq (fun fr h => X (mask (slices_Repeat_s_bool_bool__M 0) fr) h) (kBlk 0 (slices_Repeat_s_bool_bool__ks8 S K))) fr h
def slices_Repeat_s_bool_bool__L0 (S : SatT) (K : AVal → H → Prop) (s7_ : Sl) (i8_ : Int) (h : H) : Prop := loopK (slices_Repeat_s_bool_bool__w0 S K) (slices_Repeat_s_bool_bool__e0 s7_ i8_) h
def slices_Repeat_s_bool_bool__C0 (S : SatT) (K : AVal → H → Prop) (s7_ : Sl) (h : H) : Prop :=
 K (.sl s7_) h
def slices_Repeat_s_bool_bool__b0 (S : SatT) (K : AVal → H → Prop) (X0 : Frame → H → Prop) (s7_ : Sl) (i8_ : Int) (h : H) : Prop :=
 bif (decide (i8_ < (s7_.len : Int))) then
 cut s7_ 1 i8_ (s7_.len : Int) h fun s0 =>
 cut s7_ 1 (0) i8_ h fun s1 =>
 copyS s0 s1 1 h fun n2 h3 =>
 X0 (slices_Repeat_s_bool_bool__e0 s7_ (w64 (i8_ + n2))) h3
 else
 slices_Repeat_s_bool_bool__C0 S K s7_ h
theorem slices_Repeat_s_bool_bool__link0 (S : SatT) (K : AVal → H → Prop) (X0 : Frame → H → Prop) (s7_ : Sl) (i8_ : Int) (h : H) : slices_Repeat_s_bool_bool__w0 S K X0 (slices_Repeat_s_bool_bool__e0 s7_ i8_) h = slices_Repeat_s_bool_bool__b0 S K X0 s7_ i8_ h := by kernel_rfl
theorem slices_Repeat_s_bool_bool__rule0 (S : SatT) (K : AVal → H → Prop) (s7_ : Sl) (I_ : Int → H → Prop) (m_ : Int → H → Nat)
    (hs : ∀ (X0 : Frame → H → Prop) (i8_ : Int) (h : H), I_ i8_ h → (∀ (i8_' : Int) (h' : H), I_ i8_' h' → m_ i8_' h' < m_ i8_ h → X0 (slices_Repeat_s_bool_bool__e0 s7_ i8_') h') → slices_Repeat_s_bool_bool__b0 S K X0 s7_ i8_ h) (i8_ : Int) {h : H} (h0 : I_ i8_ h) : slices_Repeat_s_bool_bool__L0 S K s7_ i8_ h :=
  loop_rule (σ := (Int)) (fun s_ => slices_Repeat_s_bool_bool__e0 s7_ (s_)) (fun s_ h => I_ (s_) h) (fun s_ h => m_ (s_) h)
    (fun X s_ h hi hx => (slices_Repeat_s_bool_bool__link0 S K X s7_ (s_) h).mpr (hs X (s_) h hi fun i8_' h' hi' hm' => hx (i8_') h' hi' hm')) (i8_) h0
theorem slices_Repeat_s_bool_bool__unroll0 (S : SatT) (K : AVal → H → Prop) (s7_ : Sl) (i8_ : Int) (h : H) (hb : slices_Repeat_s_bool_bool__b0 S K (fun fr h => loopK (slices_Repeat_s_bool_bool__w0 S K) fr h) s7_ i8_ h) : slices_Repeat_s_bool_bool__L0 S K s7_ i8_ h := loop_unroll ((slices_Repeat_s_bool_bool__link0 S K _ s7_ i8_ h).mpr hb)
def slices_Repeat_s_bool_bool__main (S : SatT) (K : AVal → H → Prop) (x0 : Sl) (x1 : Int) (h : H) : Prop :=
 bif (decide (x1 < (0))) then
 False
 else
 callV S i_math_bits_Mul [.int .u64 (IntKind.wrap .u64 ((x0.len : Int))), .int .u64 (IntKind.wrap .u64 (x1))] h fun v1 h0 =>
 viaT v1 fun vs2 =>
 exI .u64 vs2 0 fun n3 =>
 viaT v1 fun vs4 =>
 exI .u64 vs4 1 fun n5 =>
 bif (decide (n3 > (0))) then
 False
 else
 bif (decide (n5 > (9223372036854775807))) then
 False
 else
 mkS (w64 (n5)) [.bool false] h0 fun s6 h7 =>
 copyS s6 x0 1 h7 fun n8 h9 =>
 slices_Repeat_s_bool_bool__L0 S K s6 n8 h9
theorem slices_Repeat_s_bool_bool__main_link (S : SatT) (K : AVal → H → Prop) (x0 : Sl) (x1 : Int) (h : H) : cwp S tab slices_Repeat_s_bool_bool__M [] (bodyOf Try.f98) (kFun tab Try.f98.results.toList K) (fr0 Try.f98 [.sl x0, .int .i64 x1]) h = slices_Repeat_s_bool_bool__main S K x0 x1 h := by kernel_rfl
theorem slices_Repeat_s_bool_bool__call (x0 : Sl) (x1 : Int) (h : H) (K : Sl → H → Prop) (hm : slices_Repeat_s_bool_bool__main (Sat Try.prog) (fun v h' => ∃ r, v = .sl r ∧ K r h') x0 x1 h) : callS (Sat Try.prog) i_slices_Repeat_s_bool_bool_ [.sl x0, .int .i64 x1] h K := by
  have := Sat.ex tok mixed slices_Repeat_s_bool_bool__M Try.func98 (c := bodyOf Try.f98) (by kernel_rfl) (calls_of Try.func98 (c := bodyOf Try.f98) (by kernel_rfl) (by decide)) ((slices_Repeat_s_bool_bool__main_link _ _ x0 x1 h).mpr hm)
  obtain ⟨v, h2, h3, r, rfl, h4⟩ := this; exact ⟨r, h2, h3, h4⟩

/-! ### loop.example/g01354/spec.l01DrawOrder -/
def spec_l01DrawOrder_M : Nat → List Nat := fun i => bif i == 0 then [0, 1, 5, 6] else []
def spec_l01DrawOrder_ks2 (S : SatT) (K : AVal → H → Prop) : Kont := kSeq (cwp S tab spec_l01DrawOrder_M [] (sub [1, 1, 1] (bodyOf Try.f135)) (kFun tab (Try.f135).results.toList K)) (kFun tab (Try.f135).results.toList K)
def spec_l01DrawOrder_e0 (p0_ : Pt) (i1_ : Int) (s5_ : Sl) (i6_ : Int) : Frame := [.ptr p0_, .int .i64 i1_, U, U, U, .sl s5_, .int .i64 i6_, U, U, U, U, U, U, U, U, U, U, U, U, U, U, U, U, U, U, U, U, U, U, U]
def spec_l01DrawOrder_w0 (S : SatT) (K : AVal → H → Prop) : (Frame → H → Prop) → Frame → H → Prop := fun X fr h => cwp S tab spec_l01DrawOrder_M (spec_l01DrawOrder_M 0) (sub [1, 1, 0, 1, 0, 0] (bodyOf Try.f135)) (kSeq (fun fr h => X (mask (spec_l01DrawOrder_M 0) fr) h) (kBlk 0 (spec_l01DrawOrder_ks2 S K))) fr h
def spec_l01DrawOrder_L0 (S : SatT) (K : AVal → H → Prop) (p0_ : Pt) (i1_ : Int) (s5_ : Sl) (i6_ : Int) (h : H) : Prop := loopK (spec_l01DrawOrder_w0 S K) (spec_l01DrawOrder_e0 p0_ i1_ s5_ i6_) h
def spec_l01DrawOrder_C0 (S : SatT) (K : AVal → H → Prop) (s5_ : Sl) (h : H) : Prop :=
 K (.sl s5_) h
def spec_l01DrawOrder_b0 (S : SatT) (K : AVal → H → Prop) (X0 : Frame → H → Prop) (p0_ : Pt) (i1_ : Int) (s5_ : Sl) (i6_ : Int) (h : H) : Prop :=
 bif (decide (i6_ < i1_)) then
 callI S .i64 i_spec_l01Next [.ptr p0_, .int .i64 (w64 (i6_ + (1)))] h fun n1 h0 =>
 slotK 12 h0 fun h2 =>
 cut s5_ 1 (0) n1 h2 fun s3 =>
 callS S i_spec_l01Own [.sl s3] h2 fun s5 h4 =>
 cut s5_ 1 n1 (s5_.len : Int) h4 fun s6 =>
 okS h2 s5_ ∧ (
 newSat 1 1 [.int .i64 i6_] h4 (h0.length + 5) fun s7 h8 =>
 okS h4 s5_ ∧ (
 okS h8 s5_ ∧ (
 okS h8 s5_ ∧ (
 app s5 s7 1 h8 fun s9 h10 =>
 okS h10 s5_ ∧ (
 app s9 s6 1 h10 fun s11 h12 =>
 X0 (spec_l01DrawOrder_e0 p0_ i1_ s11 (w64 (i6_ + (1)))) h12)))))
 else
 spec_l01DrawOrder_C0 S K s5_ h
theorem spec_l01DrawOrder_link0 (S : SatT) (K : AVal → H → Prop) (X0 : Frame → H → Prop) (p0_ : Pt) (i1_ : Int) (s5_ : Sl) (i6_ : Int) (h : H) : spec_l01DrawOrder_w0 S K X0 (spec_l01DrawOrder_e0 p0_ i1_ s5_ i6_) h = spec_l01DrawOrder_b0 S K X0 p0_ i1_ s5_ i6_ h := by kernel_rfl
theorem spec_l01DrawOrder_rule0 (S : SatT) (K : AVal → H → Prop) (p0_ : Pt) (i1_ : Int) (I_ : Sl → Int → H → Prop) (m_ : Sl → Int → H → Nat)
    (hs : ∀ (X0 : Frame → H → Prop) (s5_ : Sl) (i6_ : Int) (h : H), I_ s5_ i6_ h → (∀ (s5_' : Sl) (i6_' : Int) (h' : H), I_ s5_' i6_' h' → m_ s5_' i6_' h' < m_ s5_ i6_ h → X0 (spec_l01DrawOrder_e0 p0_ i1_ s5_' i6_') h') → spec_l01DrawOrder_b0 S K X0 p0_ i1_ s5_ i6_ h) (s5_ : Sl) (i6_ : Int) {h : H} (h0 : I_ s5_ i6_ h) : spec_l01DrawOrder_L0 S K p0_ i1_ s5_ i6_ h :=
  loop_rule (σ := (Sl) × (Int)) (fun s_ => spec_l01DrawOrder_e0 p0_ i1_ (s_.1) (s_.2)) (fun s_ h => I_ (s_.1) (s_.2) h) (fun s_ h => m_ (s_.1) (s_.2) h)
    (fun X s_ h hi hx => (spec_l01DrawOrder_link0 S K X p0_ i1_ (s_.1) (s_.2) h).mpr (hs X (s_.1) (s_.2) h hi fun s5_' i6_' h' hi' hm' => hx (s5_', i6_') h' hi' hm')) (s5_, i6_) h0
theorem spec_l01DrawOrder_unroll0 (S : SatT) (K : AVal → H → Prop) (p0_ : Pt) (i1_ : Int) (s5_ : Sl) (i6_ : Int) (h : H) (hb : spec_l01DrawOrder_b0 S K (fun fr h => loopK (spec_l01DrawOrder_w0 S K) fr h) p0_ i1_ s5_ i6_ h) : spec_l01DrawOrder_L0 S K p0_ i1_ s5_ i6_ h := loop_unroll ((spec_l01DrawOrder_link0 S K _ p0_ i1_ s5_ i6_ h).mpr hb)
def spec_l01DrawOrder_main (S : SatT) (K : AVal → H → Prop) (x0 : Pt) (x1 : Int) (h : H) : Prop :=
 newS 0 1 [] h fun s0 h1 =>
 spec_l01DrawOrder_L0 S K x0 x1 s0 (0) h1
theorem spec_l01DrawOrder_main_link (S : SatT) (K : AVal → H → Prop) (x0 : Pt) (x1 : Int) (h : H) : cwp S tab spec_l01DrawOrder_M [] (bodyOf Try.f135) (kFun tab Try.f135.results.toList K) (fr0 Try.f135 [.ptr x0, .int .i64 x1]) h = spec_l01DrawOrder_main S K x0 x1 h := by kernel_rfl
theorem spec_l01DrawOrder_call (x0 : Pt) (x1 : Int) (h : H) (K : Sl → H → Prop) (hm : spec_l01DrawOrder_main (Sat Try.prog) (fun v h' => ∃ r, v = .sl r ∧ K r h') x0 x1 h) : callS (Sat Try.prog) i_spec_l01DrawOrder [.ptr x0, .int .i64 x1] h K := by
  have := Sat.ex tok mixed spec_l01DrawOrder_M Try.func135 (c := bodyOf Try.f135) (by kernel_rfl) (calls_of Try.func135 (c := bodyOf Try.f135) (by kernel_rfl) (by decide)) ((spec_l01DrawOrder_main_link _ _ x0 x1 h).mpr hm)
  obtain ⟨v, h2, h3, r, rfl, h4⟩ := this; exact ⟨r, h2, h3, h4⟩

/-! ### loop.example/g01354/spec.LastingTiles -/
def spec_LastingTiles_M : Nat → List Nat := fun i => bif i == 0 then [4, 5, 6] else []
def spec_LastingTiles_ks5 (S : SatT) (K : AVal → H → Prop) : Kont := kSeq (cwp S tab spec_LastingTiles_M [] (sub [1, 1, 1, 1] (bodyOf Try.f19)) (kFun tab (Try.f19).results.toList K)) (kFun tab (Try.f19).results.toList K)
def spec_LastingTiles_e0 (s4_ : Sl) (s5_ : Sl) (i6_ : Int) : Frame := [U, U, U, U, .sl s4_, .sl s5_, .int .i64 i6_, U, U, U, U, U, U, U, U, U, U, U, U, U, U, U, U, U, U, U, U, U]
def spec_LastingTiles_w0 (S : SatT) (K : AVal → H → Prop) : (Frame → H → Prop) → Frame → H → Prop := fun X fr h => cwp S tab spec_LastingTiles_M (spec_LastingTiles_M 0) (sub [1, 1, 1, 0, 1, 0, 0] (bodyOf Try.f19)) (kSeq (fun fr h => X (mask (spec_LastingTiles_M 0) fr) h) (kBlk 0 (spec_LastingTiles_ks5 S K))) fr h
def spec_LastingTiles_L0 (S : SatT) (K : AVal → H → Prop) (s4_ : Sl) (s5_ : Sl) (i6_ : Int) (h : H) : Prop := loopK (spec_LastingTiles_w0 S K) (spec_LastingTiles_e0 s4_ s5_ i6_) h
def spec_LastingTiles_C0 (S : SatT) (K : AVal → H → Prop) (s5_ : Sl) (h : H) : Prop :=
 K (.tuple [.sl s5_, .int .i64 (0)]) h
def spec_LastingTiles_b0 (S : SatT) (K : AVal → H → Prop) (X0 : Frame → H → Prop) (s4_ : Sl) (s5_ : Sl) (i6_ : Int) (h : H) : Prop :=
 bif (decide (i6_ < (s4_.len : Int))) then
 ixS s4_ 1 i6_ fun p0 =>
 ldB p0 h fun b1 =>
 bif b1 then
 newS 1 1 [.int .i64 i6_] h fun s2 h3 =>
 app s5_ s2 1 h3 fun s4 h5 =>
 X0 (spec_LastingTiles_e0 s4_ s4 (w64 (i6_ + (1)))) h5
 else
 X0 (spec_LastingTiles_e0 s4_ s5_ (w64 (i6_ + (1)))) h
 else
 spec_LastingTiles_C0 S K s5_ h
theorem spec_LastingTiles_link0 (S : SatT) (K : AVal → H → Prop) (X0 : Frame → H → Prop) (s4_ : Sl) (s5_ : Sl) (i6_ : Int) (h : H) : spec_LastingTiles_w0 S K X0 (spec_LastingTiles_e0 s4_ s5_ i6_) h = spec_LastingTiles_b0 S K X0 s4_ s5_ i6_ h := by kernel_rfl
theorem spec_LastingTiles_rule0 (S : SatT) (K : AVal → H → Prop) (s4_ : Sl) (I_ : Sl → Int → H → Prop) (m_ : Sl → Int → H → Nat)
    (hs : ∀ (X0 : Frame → H → Prop) (s5_ : Sl) (i6_ : Int) (h : H), I_ s5_ i6_ h → (∀ (s5_' : Sl) (i6_' : Int) (h' : H), I_ s5_' i6_' h' → m_ s5_' i6_' h' < m_ s5_ i6_ h → X0 (spec_LastingTiles_e0 s4_ s5_' i6_') h') → spec_LastingTiles_b0 S K X0 s4_ s5_ i6_ h) (s5_ : Sl) (i6_ : Int) {h : H} (h0 : I_ s5_ i6_ h) : spec_LastingTiles_L0 S K s4_ s5_ i6_ h :=
  loop_rule (σ := (Sl) × (Int)) (fun s_ => spec_LastingTiles_e0 s4_ (s_.1) (s_.2)) (fun s_ h => I_ (s_.1) (s_.2) h) (fun s_ h => m_ (s_.1) (s_.2) h)
    (fun X s_ h hi hx => (spec_LastingTiles_link0 S K X s4_ (s_.1) (s_.2) h).mpr (hs X (s_.1) (s_.2) h hi fun s5_' i6_' h' hi' hm' => hx (s5_', i6_') h' hi' hm')) (s5_, i6_) h0
theorem spec_LastingTiles_unroll0 (S : SatT) (K : AVal → H → Prop) (s4_ : Sl) (s5_ : Sl) (i6_ : Int) (h : H) (hb : spec_LastingTiles_b0 S K (fun fr h => loopK (spec_LastingTiles_w0 S K) fr h) s4_ s5_ i6_ h) : spec_LastingTiles_L0 S K s4_ s5_ i6_ h := loop_unroll ((spec_LastingTiles_link0 S K _ s4_ s5_ i6_ h).mpr hb)
def spec_LastingTiles_main (S : SatT) (K : AVal → H → Prop) (x0 : List AVal) (h : H) : Prop :=
 newK 2 x0 h fun p0 h1 =>
 ldA p0 2 h1 fun cs2 =>
 callB S i_spec_l01Is [.agg cs2] h1 fun b4 h3 =>
 bif (!b4) then
 K (.tuple [.sl Sl.nil, .int .i64 (1)]) h3
 else
 ldA p0 2 h3 fun cs5 =>
 callS S i_spec_l02Lasting [.agg cs5] h3 fun s7 h6 =>
 newS 0 1 [] h6 fun s8 h9 =>
 spec_LastingTiles_L0 S K s7 s8 (0) h9
theorem spec_LastingTiles_main_link (S : SatT) (K : AVal → H → Prop) (x0 : List AVal) (h : H) : cwp S tab spec_LastingTiles_M [] (bodyOf Try.f19) (kFun tab Try.f19.results.toList K) (fr0 Try.f19 [.agg x0]) h = spec_LastingTiles_main S K x0 h := by kernel_rfl
theorem spec_LastingTiles_call (x0 : List AVal) (h : H) (K : AVal → H → Prop) (hm : spec_LastingTiles_main (Sat Try.prog) (fun v h' => K v h') x0 h) : callV (Sat Try.prog) i_spec_LastingTiles [.agg x0] h K := by
  have := Sat.ex tok mixed spec_LastingTiles_M Try.func19 (c := bodyOf Try.f19) (by kernel_rfl) (calls_of Try.func19 (c := bodyOf Try.f19) (by kernel_rfl) (by decide)) ((spec_LastingTiles_main_link _ _ x0 h).mpr hm)
  exact this

/-! ### loop.example/g01354/impl.inverse -/
def impl_inverse_M : Nat → List Nat := fun i => bif i == 0 then [0, 3, 4] else []
def impl_inverse_ks2 (S : SatT) (K : AVal → H → Prop) : Kont := kSeq (cwp S tab impl_inverse_M [] (sub [1, 1, 1] (bodyOf Try.f106)) (kFun tab (Try.f106).results.toList K)) (kFun tab (Try.f106).results.toList K)
def impl_inverse_e0 (i0_ : Int) (i3_ : Int) (i4_ : Int) : Frame := [.int .i64 i0_, U, U, .int .i64 i3_, .int .i64 i4_, U, U, U, U, U, U, U, U, U, U, U, U, U, U, U, U]
def impl_inverse_w0 (S : SatT) (K : AVal → H → Prop) : (Frame → H → Prop) → Frame → H → Prop := fun X fr h => cwp S tab impl_inverse_M (impl_inverse_M 0) (sub [1, 1, 0, 1, 0, 0] (bodyOf Try.f106)) (kSeq (fun fr h => X (mask (impl_inverse_M 0) fr) h) (kBlk 0 (impl_inverse_ks2 S K))) fr h
def impl_inverse_L0 (S : SatT) (K : AVal → H → Prop) (i0_ : Int) (i3_ : Int) (i4_ : Int) (h : H) : Prop := loopK (impl_inverse_w0 S K) (impl_inverse_e0 i0_ i3_ i4_) h
def impl_inverse_C0 (S : SatT) (K : AVal → H → Prop) (i3_ : Int) (h : H) : Prop :=
 K (.int .i64 i3_) h
def impl_inverse_b0 (S : SatT) (K : AVal → H → Prop) (X0 : Frame → H → Prop) (i0_ : Int) (i3_ : Int) (i4_ : Int) (h : H) : Prop :=
 bif (decide (i4_ > (0))) then
 nz (2) (
 bif ((Int.tmod i4_ (2)) == (1)) then
 nz (10007) (
 nz (10007) (
 nz (2) (
 X0 (impl_inverse_e0 (Int.tmod (w64 (i0_ * i0_)) (10007)) (Int.tmod (w64 (i3_ * i0_)) (10007)) (w64 (Int.tdiv i4_ (2)))) h)))
 else
 nz (10007) (
 nz (2) (
 X0 (impl_inverse_e0 (Int.tmod (w64 (i0_ * i0_)) (10007)) i3_ (w64 (Int.tdiv i4_ (2)))) h)))
 else
 impl_inverse_C0 S K i3_ h
theorem impl_inverse_link0 (S : SatT) (K : AVal → H → Prop) (X0 : Frame → H → Prop) (i0_ : Int) (i3_ : Int) (i4_ : Int) (h : H) : impl_inverse_w0 S K X0 (impl_inverse_e0 i0_ i3_ i4_) h = impl_inverse_b0 S K X0 i0_ i3_ i4_ h := by kernel_rfl
theorem impl_inverse_rule0 (S : SatT) (K : AVal → H → Prop) (I_ : Int → Int → Int → H → Prop) (m_ : Int → Int → Int → H → Nat)
    (hs : ∀ (X0 : Frame → H → Prop) (i0_ : Int) (i3_ : Int) (i4_ : Int) (h : H), I_ i0_ i3_ i4_ h → (∀ (i0_' : Int) (i3_' : Int) (i4_' : Int) (h' : H), I_ i0_' i3_' i4_' h' → m_ i0_' i3_' i4_' h' < m_ i0_ i3_ i4_ h → X0 (impl_inverse_e0 i0_' i3_' i4_') h') → impl_inverse_b0 S K X0 i0_ i3_ i4_ h) (i0_ : Int) (i3_ : Int) (i4_ : Int) {h : H} (h0 : I_ i0_ i3_ i4_ h) : impl_inverse_L0 S K i0_ i3_ i4_ h :=
  loop_rule (σ := (Int) × (Int) × (Int)) (fun s_ => impl_inverse_e0 (s_.1) (s_.2.1) (s_.2.2)) (fun s_ h => I_ (s_.1) (s_.2.1) (s_.2.2) h) (fun s_ h => m_ (s_.1) (s_.2.1) (s_.2.2) h)
    (fun X s_ h hi hx => (impl_inverse_link0 S K X (s_.1) (s_.2.1) (s_.2.2) h).mpr (hs X (s_.1) (s_.2.1) (s_.2.2) h hi fun i0_' i3_' i4_' h' hi' hm' => hx (i0_', i3_', i4_') h' hi' hm')) (i0_, i3_, i4_) h0
theorem impl_inverse_unroll0 (S : SatT) (K : AVal → H → Prop) (i0_ : Int) (i3_ : Int) (i4_ : Int) (h : H) (hb : impl_inverse_b0 S K (fun fr h => loopK (impl_inverse_w0 S K) fr h) i0_ i3_ i4_ h) : impl_inverse_L0 S K i0_ i3_ i4_ h := loop_unroll ((impl_inverse_link0 S K _ i0_ i3_ i4_ h).mpr hb)
def impl_inverse_main (S : SatT) (K : AVal → H → Prop) (x0 : Int) (h : H) : Prop :=
 impl_inverse_L0 S K x0 (1) (10005) h
theorem impl_inverse_main_link (S : SatT) (K : AVal → H → Prop) (x0 : Int) (h : H) : cwp S tab impl_inverse_M [] (bodyOf Try.f106) (kFun tab Try.f106.results.toList K) (fr0 Try.f106 [.int .i64 x0]) h = impl_inverse_main S K x0 h := by kernel_rfl
theorem impl_inverse_call (x0 : Int) (h : H) (K : Int → H → Prop) (hm : impl_inverse_main (Sat Try.prog) (fun v h' => ∃ r, v = .int .i64 r ∧ K r h') x0 h) : callI (Sat Try.prog) .i64 i_impl_inverse [.int .i64 x0] h K := by
  have := Sat.ex tok mixed impl_inverse_M Try.func106 (c := bodyOf Try.f106) (by kernel_rfl) (calls_of Try.func106 (c := bodyOf Try.f106) (by kernel_rfl) (by decide)) ((impl_inverse_main_link _ _ x0 h).mpr hm)
  obtain ⟨v, h2, h3, r, rfl, h4⟩ := this; exact ⟨r, h2, h3, h4⟩

/-! ### loop.example/g01354/laws.toTile -/
def laws_toTile_M : Nat → List Nat := fun i => bif i == 0 then [1, 2, 3, 4] else []
def laws_toTile_ks2 (S : SatT) (K : AVal → H → Prop) : Kont := kSeq (cwp S tab laws_toTile_M [] (sub [1, 1, 1] (bodyOf Try.f90)) (kFun tab (Try.f90).results.toList K)) (kFun tab (Try.f90).results.toList K)
def laws_toTile_e0 (p1_ : Pt) (p2_ : Pt) (p3_ : Pt) (i4_ : Int) : Frame := [U, .ptr p1_, .ptr p2_, .ptr p3_, .int .i64 i4_, U, U, U, U, U, U, U, U, U, U]
def laws_toTile_w0 (S : SatT) (K : AVal → H → Prop) : (Frame → H → Prop) → Frame → H → Prop := fun X fr h => cwp S tab laws_toTile_M (laws_toTile_M 0) (sub [1, 1, 0, 1, 0, 0] (bodyOf Try.f90)) (kSeq (fun fr h => X (mask (laws_toTile_M 0) fr) h) (kBlk 0 (laws_toTile_ks2 S K))) fr h
def laws_toTile_L0 (S : SatT) (K : AVal → H → Prop) (p1_ : Pt) (p2_ : Pt) (p3_ : Pt) (i4_ : Int) (h : H) : Prop := loopK (laws_toTile_w0 S K) (laws_toTile_e0 p1_ p2_ p3_ i4_) h
def laws_toTile_C0 (S : SatT) (K : AVal → H → Prop) (p2_ : Pt) (p3_ : Pt) (h : H) : Prop :=
 ldA p3_ 4 h fun cs0 =>
 stN p2_ 4 cs0 h fun h1 =>
 ldA p2_ 4 h1 fun cs2 =>
 K (.agg cs2) h1
def laws_toTile_b0 (S : SatT) (K : AVal → H → Prop) (X0 : Frame → H → Prop) (p1_ : Pt) (p2_ : Pt) (p3_ : Pt) (i4_ : Int) (h : H) : Prop :=
 bif (decide (i4_ < (4))) then
 ixA p1_ 4 1 i4_ fun p0 =>
 ldI .i64 p0 h fun n1 =>
 ixA p3_ 4 1 i4_ fun p2 =>
 st1 p2 (.int .i64 n1) h fun h3 =>
 X0 (laws_toTile_e0 p1_ p2_ p3_ (w64 (i4_ + (1)))) h3
 else
 laws_toTile_C0 S K p2_ p3_ h
theorem laws_toTile_link0 (S : SatT) (K : AVal → H → Prop) (X0 : Frame → H → Prop) (p1_ : Pt) (p2_ : Pt) (p3_ : Pt) (i4_ : Int) (h : H) : laws_toTile_w0 S K X0 (laws_toTile_e0 p1_ p2_ p3_ i4_) h = laws_toTile_b0 S K X0 p1_ p2_ p3_ i4_ h := by kernel_rfl
theorem laws_toTile_rule0 (S : SatT) (K : AVal → H → Prop) (p1_ : Pt) (p2_ : Pt) (p3_ : Pt) (I_ : Int → H → Prop) (m_ : Int → H → Nat)
    (hs : ∀ (X0 : Frame → H → Prop) (i4_ : Int) (h : H), I_ i4_ h → (∀ (i4_' : Int) (h' : H), I_ i4_' h' → m_ i4_' h' < m_ i4_ h → X0 (laws_toTile_e0 p1_ p2_ p3_ i4_') h') → laws_toTile_b0 S K X0 p1_ p2_ p3_ i4_ h) (i4_ : Int) {h : H} (h0 : I_ i4_ h) : laws_toTile_L0 S K p1_ p2_ p3_ i4_ h :=
  loop_rule (σ := (Int)) (fun s_ => laws_toTile_e0 p1_ p2_ p3_ (s_)) (fun s_ h => I_ (s_) h) (fun s_ h => m_ (s_) h)
    (fun X s_ h hi hx => (laws_toTile_link0 S K X p1_ p2_ p3_ (s_) h).mpr (hs X (s_) h hi fun i4_' h' hi' hm' => hx (i4_') h' hi' hm')) (i4_) h0
theorem laws_toTile_unroll0 (S : SatT) (K : AVal → H → Prop) (p1_ : Pt) (p2_ : Pt) (p3_ : Pt) (i4_ : Int) (h : H) (hb : laws_toTile_b0 S K (fun fr h => loopK (laws_toTile_w0 S K) fr h) p1_ p2_ p3_ i4_ h) : laws_toTile_L0 S K p1_ p2_ p3_ i4_ h := loop_unroll ((laws_toTile_link0 S K _ p1_ p2_ p3_ i4_ h).mpr hb)
def laws_toTile_main (S : SatT) (K : AVal → H → Prop) (x0 : List AVal) (h : H) : Prop :=
 newK 4 x0 h fun p0 h1 =>
 newO [.int .i64 (0), .int .i64 (0), .int .i64 (0), .int .i64 (0)] h1 fun p2 h3 =>
 newO [.int .i64 (0), .int .i64 (0), .int .i64 (0), .int .i64 (0)] h3 fun p4 h5 =>
 laws_toTile_L0 S K p0 p2 p4 (0) h5
theorem laws_toTile_main_link (S : SatT) (K : AVal → H → Prop) (x0 : List AVal) (h : H) : cwp S tab laws_toTile_M [] (bodyOf Try.f90) (kFun tab Try.f90.results.toList K) (fr0 Try.f90 [.agg x0]) h = laws_toTile_main S K x0 h := by kernel_rfl
theorem laws_toTile_call (x0 : List AVal) (h : H) (K : List AVal → H → Prop) (hm : laws_toTile_main (Sat Try.prog) (fun v h' => ∃ r, v = .agg r ∧ K r h') x0 h) : callA (Sat Try.prog) i_laws_toTile [.agg x0] h K := by
  have := Sat.ex tok mixed laws_toTile_M Try.func90 (c := bodyOf Try.f90) (by kernel_rfl) (calls_of Try.func90 (c := bodyOf Try.f90) (by kernel_rfl) (by decide)) ((laws_toTile_main_link _ _ x0 h).mpr hm)
  obtain ⟨v, h2, h3, r, rfl, h4⟩ := this; exact ⟨r, h2, h3, h4⟩

/-! ### loop.example/g01354/laws.markInt64S -/
def laws_markInt64S_M : Nat → List Nat := fun i => bif i == 0 then [0, 1, 5] else []
def laws_markInt64S_ks1 (S : SatT) (K : AVal → H → Prop) : Kont := kSeq (cwp S tab laws_markInt64S_M [] (sub [1, 1] (bodyOf Try.f23)) (kFun tab (Try.f23).results.toList K)) (kFun tab (Try.f23).results.toList K)
def laws_markInt64S_e0 (s0_ : Sl) (i1_ : Int) (i5_ : Int) : Frame := [.sl s0_, .int .i64 i1_, U, U, U, .int .i64 i5_, U, U, U, U, U, U, U, U, U, U, U, U, U]
def laws_markInt64S_w0 (S : SatT) (K : AVal → H → Prop) : (Frame → H → Prop) → Frame → H → Prop := fun X fr h => cwp S tab laws_markInt64S_M (laws_markInt64S_M 0) (sub [1, 0, 1, 0, 0] (bodyOf Try.f23)) (kSeq (fun fr h => X (mask (laws_markInt64S_M 0) fr) h) (kBlk 0 (laws_markInt64S_ks1 S K))) fr h
def laws_markInt64S_L0 (S : SatT) (K : AVal → H → Prop) (s0_ : Sl) (i1_ : Int) (i5_ : Int) (h : H) : Prop := loopK (laws_markInt64S_w0 S K) (laws_markInt64S_e0 s0_ i1_ i5_) h
def laws_markInt64S_C0 (S : SatT) (K : AVal → H → Prop) (i1_ : Int) (h : H) : Prop :=
 K (.int .i64 i1_) h
def laws_markInt64S_b0 (S : SatT) (K : AVal → H → Prop) (X0 : Frame → H → Prop) (s0_ : Sl) (i1_ : Int) (i5_ : Int) (h : H) : Prop :=
 bif (decide (i5_ < (s0_.len : Int))) then
 ixS s0_ 1 i5_ fun p0 =>
 st1 p0 (.int .i64 i1_) h fun h1 =>
 X0 (laws_markInt64S_e0 s0_ (w64 (i1_ + (1))) (w64 (i5_ + (1)))) h1
 else
 laws_markInt64S_C0 S K i1_ h
theorem laws_markInt64S_link0 (S : SatT) (K : AVal → H → Prop) (X0 : Frame → H → Prop) (s0_ : Sl) (i1_ : Int) (i5_ : Int) (h : H) : laws_markInt64S_w0 S K X0 (laws_markInt64S_e0 s0_ i1_ i5_) h = laws_markInt64S_b0 S K X0 s0_ i1_ i5_ h := by kernel_rfl
theorem laws_markInt64S_rule0 (S : SatT) (K : AVal → H → Prop) (s0_ : Sl) (I_ : Int → Int → H → Prop) (m_ : Int → Int → H → Nat)
    (hs : ∀ (X0 : Frame → H → Prop) (i1_ : Int) (i5_ : Int) (h : H), I_ i1_ i5_ h → (∀ (i1_' : Int) (i5_' : Int) (h' : H), I_ i1_' i5_' h' → m_ i1_' i5_' h' < m_ i1_ i5_ h → X0 (laws_markInt64S_e0 s0_ i1_' i5_') h') → laws_markInt64S_b0 S K X0 s0_ i1_ i5_ h) (i1_ : Int) (i5_ : Int) {h : H} (h0 : I_ i1_ i5_ h) : laws_markInt64S_L0 S K s0_ i1_ i5_ h :=
  loop_rule (σ := (Int) × (Int)) (fun s_ => laws_markInt64S_e0 s0_ (s_.1) (s_.2)) (fun s_ h => I_ (s_.1) (s_.2) h) (fun s_ h => m_ (s_.1) (s_.2) h)
    (fun X s_ h hi hx => (laws_markInt64S_link0 S K X s0_ (s_.1) (s_.2) h).mpr (hs X (s_.1) (s_.2) h hi fun i1_' i5_' h' hi' hm' => hx (i1_', i5_') h' hi' hm')) (i1_, i5_) h0
theorem laws_markInt64S_unroll0 (S : SatT) (K : AVal → H → Prop) (s0_ : Sl) (i1_ : Int) (i5_ : Int) (h : H) (hb : laws_markInt64S_b0 S K (fun fr h => loopK (laws_markInt64S_w0 S K) fr h) s0_ i1_ i5_ h) : laws_markInt64S_L0 S K s0_ i1_ i5_ h := loop_unroll ((laws_markInt64S_link0 S K _ s0_ i1_ i5_ h).mpr hb)
def laws_markInt64S_main (S : SatT) (K : AVal → H → Prop) (x0 : Sl) (x1 : Int) (h : H) : Prop :=
 laws_markInt64S_L0 S K x0 x1 (0) h
theorem laws_markInt64S_main_link (S : SatT) (K : AVal → H → Prop) (x0 : Sl) (x1 : Int) (h : H) : cwp S tab laws_markInt64S_M [] (bodyOf Try.f23) (kFun tab Try.f23.results.toList K) (fr0 Try.f23 [.sl x0, .int .i64 x1]) h = laws_markInt64S_main S K x0 x1 h := by kernel_rfl
theorem laws_markInt64S_call (x0 : Sl) (x1 : Int) (h : H) (K : Int → H → Prop) (hm : laws_markInt64S_main (Sat Try.prog) (fun v h' => ∃ r, v = .int .i64 r ∧ K r h') x0 x1 h) : callI (Sat Try.prog) .i64 i_laws_markInt64S [.sl x0, .int .i64 x1] h K := by
  have := Sat.ex tok mixed laws_markInt64S_M Try.func23 (c := bodyOf Try.f23) (by kernel_rfl) (calls_of Try.func23 (c := bodyOf Try.f23) (by kernel_rfl) (by decide)) ((laws_markInt64S_main_link _ _ x0 x1 h).mpr hm)
  obtain ⟨v, h2, h3, r, rfl, h4⟩ := this; exact ⟨r, h2, h3, h4⟩

/-! ### loop.example/g01354/laws.likeInts -/
def laws_likeInts_M : Nat → List Nat := fun i => bif i == 0 then [0, 1, 5] else []
def laws_likeInts_ks4 (S : SatT) (K : AVal → H → Prop) : Kont := kSeq (cwp S tab laws_likeInts_M [] (sub [1, 1, 1] (bodyOf Try.f46)) (kFun tab (Try.f46).results.toList K)) (kFun tab (Try.f46).results.toList K)
def laws_likeInts_e0 (s0_ : Sl) (s1_ : Sl) (i5_ : Int) : Frame := [.sl s0_, .sl s1_, U, U, U, .int .i64 i5_, U, U, U, U, U, U, U, U, U, U, U, U, U, U, U, U, U, U, U, U]
def laws_likeInts_w0 (S : SatT) (K : AVal → H → Prop) : (Frame → H → Prop) → Frame → H → Prop := fun X fr h => cwp S tab laws_likeInts_M (laws_likeInts_M 0) (sub [1, 1, 0, 1, 0, 0] (bodyOf Try.f46)) (kSeq (fun fr h => X (mask (laws_likeInts_M 0) fr) h) (kBlk 0 (laws_likeInts_ks4 S K))) fr h
def laws_likeInts_L0 (S : SatT) (K : AVal → H → Prop) (s0_ : Sl) (s1_ : Sl) (i5_ : Int) (h : H) : Prop := loopK (laws_likeInts_w0 S K) (laws_likeInts_e0 s0_ s1_ i5_) h
def laws_likeInts_C0 (S : SatT) (K : AVal → H → Prop) (h : H) : Prop :=
 K (.bool true) h
def laws_likeInts_b0 (S : SatT) (K : AVal → H → Prop) (X0 : Frame → H → Prop) (s0_ : Sl) (s1_ : Sl) (i5_ : Int) (h : H) : Prop :=
 bif (decide (i5_ < (s0_.len : Int))) then
 ixS s0_ 1 i5_ fun p0 =>
 ldI .i64 p0 h fun n1 =>
 ixS s1_ 1 i5_ fun p2 =>
 ldI .i64 p2 h fun n3 =>
 bif (n1 != n3) then
 K (.bool false) h
 else
 X0 (laws_likeInts_e0 s0_ s1_ (w64 (i5_ + (1)))) h
 else
 laws_likeInts_C0 S K h
theorem laws_likeInts_link0 (S : SatT) (K : AVal → H → Prop) (X0 : Frame → H → Prop) (s0_ : Sl) (s1_ : Sl) (i5_ : Int) (h : H) : laws_likeInts_w0 S K X0 (laws_likeInts_e0 s0_ s1_ i5_) h = laws_likeInts_b0 S K X0 s0_ s1_ i5_ h := by kernel_rfl
theorem laws_likeInts_rule0 (S : SatT) (K : AVal → H → Prop) (s0_ : Sl) (s1_ : Sl) (I_ : Int → H → Prop) (m_ : Int → H → Nat)
    (hs : ∀ (X0 : Frame → H → Prop) (i5_ : Int) (h : H), I_ i5_ h → (∀ (i5_' : Int) (h' : H), I_ i5_' h' → m_ i5_' h' < m_ i5_ h → X0 (laws_likeInts_e0 s0_ s1_ i5_') h') → laws_likeInts_b0 S K X0 s0_ s1_ i5_ h) (i5_ : Int) {h : H} (h0 : I_ i5_ h) : laws_likeInts_L0 S K s0_ s1_ i5_ h :=
  loop_rule (σ := (Int)) (fun s_ => laws_likeInts_e0 s0_ s1_ (s_)) (fun s_ h => I_ (s_) h) (fun s_ h => m_ (s_) h)
    (fun X s_ h hi hx => (laws_likeInts_link0 S K X s0_ s1_ (s_) h).mpr (hs X (s_) h hi fun i5_' h' hi' hm' => hx (i5_') h' hi' hm')) (i5_) h0
theorem laws_likeInts_unroll0 (S : SatT) (K : AVal → H → Prop) (s0_ : Sl) (s1_ : Sl) (i5_ : Int) (h : H) (hb : laws_likeInts_b0 S K (fun fr h => loopK (laws_likeInts_w0 S K) fr h) s0_ s1_ i5_ h) : laws_likeInts_L0 S K s0_ s1_ i5_ h := loop_unroll ((laws_likeInts_link0 S K _ s0_ s1_ i5_ h).mpr hb)
def laws_likeInts_main (S : SatT) (K : AVal → H → Prop) (x0 : Sl) (x1 : Sl) (h : H) : Prop :=
 bif ((x0.len : Int) != (x1.len : Int)) then
 K (.bool false) h
 else
 laws_likeInts_L0 S K x0 x1 (0) h
theorem laws_likeInts_main_link (S : SatT) (K : AVal → H → Prop) (x0 : Sl) (x1 : Sl) (h : H) : cwp S tab laws_likeInts_M [] (bodyOf Try.f46) (kFun tab Try.f46.results.toList K) (fr0 Try.f46 [.sl x0, .sl x1]) h = laws_likeInts_main S K x0 x1 h := by kernel_rfl
theorem laws_likeInts_call (x0 : Sl) (x1 : Sl) (h : H) (K : Bool → H → Prop) (hm : laws_likeInts_main (Sat Try.prog) (fun v h' => ∃ r, v = .bool r ∧ K r h') x0 x1 h) : callB (Sat Try.prog) i_laws_likeInts [.sl x0, .sl x1] h K := by
  have := Sat.ex tok mixed laws_likeInts_M Try.func46 (c := bodyOf Try.f46) (by kernel_rfl) (calls_of Try.func46 (c := bodyOf Try.f46) (by kernel_rfl) (by decide)) ((laws_likeInts_main_link _ _ x0 x1 h).mpr hm)
  obtain ⟨v, h2, h3, r, rfl, h4⟩ := this; exact ⟨r, h2, h3, h4⟩

/-! ### loop.example/g01354/laws.toTileS -/
def laws_toTileS_M : Nat → List Nat := fun i => bif i == 0 then [0, 3, 4] else []
def laws_toTileS_ks2 (S : SatT) (K : AVal → H → Prop) : Kont := kSeq (cwp S tab laws_toTileS_M [] (sub [1, 1, 1] (bodyOf Try.f53)) (kFun tab (Try.f53).results.toList K)) (kFun tab (Try.f53).results.toList K)
def laws_toTileS_e0 (s0_ : Sl) (s3_ : Sl) (i4_ : Int) : Frame := [.sl s0_, U, U, .sl s3_, .int .i64 i4_, U, U, U, U, U, U, U, U, U, U, U, U, U, U, U, U, U, U]
def laws_toTileS_w0 (S : SatT) (K : AVal → H → Prop) : (Frame → H → Prop) → Frame → H → Prop := fun X fr h => cwp S tab laws_toTileS_M (laws_toTileS_M 0) (sub [1, 1, 0, 1, 0, 0] (bodyOf Try.f53)) (kSeq (fun fr h => X (mask (laws_toTileS_M 0) fr) h) (kBlk 0 (laws_toTileS_ks2 S K))) fr h
def laws_toTileS_L0 (S : SatT) (K : AVal → H → Prop) (s0_ : Sl) (s3_ : Sl) (i4_ : Int) (h : H) : Prop := loopK (laws_toTileS_w0 S K) (laws_toTileS_e0 s0_ s3_ i4_) h
def laws_toTileS_C0 (S : SatT) (K : AVal → H → Prop) (s3_ : Sl) (h : H) : Prop :=
 K (.sl s3_) h
def laws_toTileS_b0 (S : SatT) (K : AVal → H → Prop) (X0 : Frame → H → Prop) (s0_ : Sl) (s3_ : Sl) (i4_ : Int) (h : H) : Prop :=
 bif (decide (i4_ < (s0_.len : Int))) then
 ixS s0_ 4 i4_ fun p0 =>
 ldA p0 4 h fun cs1 =>
 callA S i_laws_toTile [.agg cs1] h fun cs3 h2 =>
 ixS s3_ 4 i4_ fun p4 =>
 stN p4 4 cs3 h2 fun h5 =>
 X0 (laws_toTileS_e0 s0_ s3_ (w64 (i4_ + (1)))) h5
 else
 laws_toTileS_C0 S K s3_ h
theorem laws_toTileS_link0 (S : SatT) (K : AVal → H → Prop) (X0 : Frame → H → Prop) (s0_ : Sl) (s3_ : Sl) (i4_ : Int) (h : H) : laws_toTileS_w0 S K X0 (laws_toTileS_e0 s0_ s3_ i4_) h = laws_toTileS_b0 S K X0 s0_ s3_ i4_ h := by kernel_rfl
theorem laws_toTileS_rule0 (S : SatT) (K : AVal → H → Prop) (s0_ : Sl) (s3_ : Sl) (I_ : Int → H → Prop) (m_ : Int → H → Nat)
    (hs : ∀ (X0 : Frame → H → Prop) (i4_ : Int) (h : H), I_ i4_ h → (∀ (i4_' : Int) (h' : H), I_ i4_' h' → m_ i4_' h' < m_ i4_ h → X0 (laws_toTileS_e0 s0_ s3_ i4_') h') → laws_toTileS_b0 S K X0 s0_ s3_ i4_ h) (i4_ : Int) {h : H} (h0 : I_ i4_ h) : laws_toTileS_L0 S K s0_ s3_ i4_ h :=
  loop_rule (σ := (Int)) (fun s_ => laws_toTileS_e0 s0_ s3_ (s_)) (fun s_ h => I_ (s_) h) (fun s_ h => m_ (s_) h)
    (fun X s_ h hi hx => (laws_toTileS_link0 S K X s0_ s3_ (s_) h).mpr (hs X (s_) h hi fun i4_' h' hi' hm' => hx (i4_') h' hi' hm')) (i4_) h0
theorem laws_toTileS_unroll0 (S : SatT) (K : AVal → H → Prop) (s0_ : Sl) (s3_ : Sl) (i4_ : Int) (h : H) (hb : laws_toTileS_b0 S K (fun fr h => loopK (laws_toTileS_w0 S K) fr h) s0_ s3_ i4_ h) : laws_toTileS_L0 S K s0_ s3_ i4_ h := loop_unroll ((laws_toTileS_link0 S K _ s0_ s3_ i4_ h).mpr hb)
def laws_toTileS_main (S : SatT) (K : AVal → H → Prop) (x0 : Sl) (h : H) : Prop :=
 mkS (x0.len : Int) [.int .i64 (0), .int .i64 (0), .int .i64 (0), .int .i64 (0)] h fun s0 h1 =>
 laws_toTileS_L0 S K x0 s0 (0) h1
theorem laws_toTileS_main_link (S : SatT) (K : AVal → H → Prop) (x0 : Sl) (h : H) : cwp S tab laws_toTileS_M [] (bodyOf Try.f53) (kFun tab Try.f53.results.toList K) (fr0 Try.f53 [.sl x0]) h = laws_toTileS_main S K x0 h := by kernel_rfl
theorem laws_toTileS_call (x0 : Sl) (h : H) (K : Sl → H → Prop) (hm : laws_toTileS_main (Sat Try.prog) (fun v h' => ∃ r, v = .sl r ∧ K r h') x0 h) : callS (Sat Try.prog) i_laws_toTileS [.sl x0] h K := by
  have := Sat.ex tok mixed laws_toTileS_M Try.func53 (c := bodyOf Try.f53) (by kernel_rfl) (calls_of Try.func53 (c := bodyOf Try.f53) (by kernel_rfl) (by decide)) ((laws_toTileS_main_link _ _ x0 h).mpr hm)
  obtain ⟨v, h2, h3, r, rfl, h4⟩ := this; exact ⟨r, h2, h3, h4⟩

/-! ### loop.example/g01354/laws.FnExactRecurrenceOf -/
def laws_FnExactRecurrenceOf_M : Nat → List Nat := fun i => []
def laws_FnExactRecurrenceOf_main (S : SatT) (K : AVal → H → Prop) (x0 : List AVal) (x1 : Int) (h : H) : Prop :=
 newK 2 x0 h fun p0 h1 =>
 ldA p0 2 h1 fun cs2 =>
 callI S .i64 i_laws_szSet [.agg cs2, .int .i64 (1048576)] h1 fun n4 h3 =>
 bif (decide (n4 < (0))) then
 K (.bool true) h3
 else
 ldA p0 2 h3 fun cs5 =>
 callA S i_laws_toSet [.agg cs5] h3 fun cs7 h6 =>
 callV S i_spec_RecurrenceOf [.agg cs7, .int .i64 x1] h6 fun v9 h8 =>
 viaT v9 fun vs10 =>
 exS vs10 0 fun s11 =>
 viaT v9 fun vs12 =>
 exI .i64 vs12 1 fun n13 =>
 ldA p0 2 h8 fun cs14 =>
 callA S i_laws_toSet [.agg cs14] h8 fun cs16 h15 =>
 newO [.int .i64 (0), .sl Sl.nil] h15 fun p17 h18 =>
 stN p17 2 cs16 h18 fun h19 =>
 ldA p17 2 h19 fun cs20 =>
 callV S i_impl_RecurrenceOf [.agg cs20, .int .i64 x1] h19 fun v22 h21 =>
 viaT v22 fun vs23 =>
 exS vs23 0 fun s24 =>
 viaT v22 fun vs25 =>
 exI .i64 vs25 1 fun n26 =>
 callB S i_laws_eqInt64S [.sl s24, .sl s11] h21 fun b28 h27 =>
 bif (!b28) then
 K (.bool false) h27
 else
 bif (n26 != n13) then
 K (.bool false) h27
 else
 ldA p17 2 h27 fun cs29 =>
 ldA p0 2 h27 fun cs30 =>
 callA S i_laws_toSet [.agg cs30] h27 fun cs32 h31 =>
(range h31 p17.o p17.n p17.off 2 = range h27 p17.o p17.n p17.off 2) ∧ (
 callB S i_laws_eqSet [.agg cs29, .agg cs32] h31 fun b34 h33 =>
 bif (!b34) then
 K (.bool false) h33
 else
 ldA p17 2 h33 fun cs35 =>
 callI S .i64 i_laws_markSet [.agg cs35, .int .i64 (1)] h33 fun n37 h36 =>
 bif (decide (n37 < (0))) then
 K (.bool false) h36
 else
 callB S i_laws_eqInt64S [.sl s24, .sl s11] h36 fun b39 h38 =>
 bif (!b39) then
 K (.bool false) h38
 else
 bif (n26 != n13) then
 K (.bool false) h38
 else
 callI S .i64 i_laws_markInt64S [.sl s24, .int .i64 (1)] h38 fun n41 h40 =>
 callI S .i64 i_laws_heldInt64S [.sl s24, .int .i64 (1)] h40 fun n43 h42 =>
 bif (decide (n43 < (0))) then
 K (.bool false) h42
 else
 bif (n43 != n41) then
 K (.bool false) h42
 else
 ldA p0 2 h42 fun cs44 =>
 callA S i_laws_toSet [.agg cs44] h42 fun cs46 h45 =>
 callV S i_impl_RecurrenceOf [.agg cs46, .int .i64 x1] h45 fun v48 h47 =>
 viaT v48 fun vs49 =>
 exS vs49 0 fun s50 =>
 viaT v48 fun vs51 =>
 exI .i64 vs51 1 fun n52 =>
 callB S i_laws_eqInt64S [.sl s50, .sl s11] h47 fun b54 h53 =>
 bif (!b54) then
 K (.bool false) h53
 else
 bif (n52 != n13) then
 K (.bool false) h53
 else
 callI S .i64 i_laws_heldInt64S [.sl s24, .int .i64 (1)] h53 fun n56 h55 =>
 bif (decide (n56 < (0))) then
 K (.bool false) h55
 else
 bif (n56 != n41) then
 K (.bool false) h55
 else
 K (.bool true) h55)
theorem laws_FnExactRecurrenceOf_main_link (S : SatT) (K : AVal → H → Prop) (x0 : List AVal) (x1 : Int) (h : H) : cwp S tab laws_FnExactRecurrenceOf_M [] (bodyOf Try.f8) (kFun tab Try.f8.results.toList K) (fr0 Try.f8 [.agg x0, .int .i64 x1]) h = laws_FnExactRecurrenceOf_main S K x0 x1 h := by kernel_rfl
theorem laws_FnExactRecurrenceOf_call (x0 : List AVal) (x1 : Int) (h : H) (K : Bool → H → Prop) (hm : laws_FnExactRecurrenceOf_main (Sat Try.prog) (fun v h' => ∃ r, v = .bool r ∧ K r h') x0 x1 h) : callB (Sat Try.prog) i_laws_FnExactRecurrenceOf [.agg x0, .int .i64 x1] h K := by
  have := Sat.ex tok mixed laws_FnExactRecurrenceOf_M Try.func8 (c := bodyOf Try.f8) (by kernel_rfl) (calls_of Try.func8 (c := bodyOf Try.f8) (by kernel_rfl) (by decide)) ((laws_FnExactRecurrenceOf_main_link _ _ x0 x1 h).mpr hm)
  obtain ⟨v, h2, h3, r, rfl, h4⟩ := this; exact ⟨r, h2, h3, h4⟩

/-! ### loop.example/g01354/laws.FnExactColumnWords -/
def laws_FnExactColumnWords_M : Nat → List Nat := fun i => []
def laws_FnExactColumnWords_main (S : SatT) (K : AVal → H → Prop) (x0 : List AVal) (x1 : Int) (h : H) : Prop :=
 newK 2 x0 h fun p0 h1 =>
 ldA p0 2 h1 fun cs2 =>
 callI S .i64 i_laws_szSet [.agg cs2, .int .i64 (1048576)] h1 fun n4 h3 =>
 bif (decide (n4 < (0))) then
 K (.bool true) h3
 else
 ldA p0 2 h3 fun cs5 =>
 callA S i_laws_toSet [.agg cs5] h3 fun cs7 h6 =>
 callV S i_spec_ColumnWords [.agg cs7, .int .i64 x1] h6 fun v9 h8 =>
 viaT v9 fun vs10 =>
 exS vs10 0 fun s11 =>
 viaT v9 fun vs12 =>
 exI .i64 vs12 1 fun n13 =>
 ldA p0 2 h8 fun cs14 =>
 callA S i_laws_toSet [.agg cs14] h8 fun cs16 h15 =>
 newO [.int .i64 (0), .sl Sl.nil] h15 fun p17 h18 =>
 stN p17 2 cs16 h18 fun h19 =>
 ldA p17 2 h19 fun cs20 =>
 callV S i_impl_ColumnWords [.agg cs20, .int .i64 x1] h19 fun v22 h21 =>
 viaT v22 fun vs23 =>
 exS vs23 0 fun s24 =>
 viaT v22 fun vs25 =>
 exI .i64 vs25 1 fun n26 =>
 callB S i_laws_eqInt64SS [.sl s24, .sl s11] h21 fun b28 h27 =>
 bif (!b28) then
 K (.bool false) h27
 else
 bif (n26 != n13) then
 K (.bool false) h27
 else
 ldA p17 2 h27 fun cs29 =>
 ldA p0 2 h27 fun cs30 =>
 callA S i_laws_toSet [.agg cs30] h27 fun cs32 h31 =>
(range h31 p17.o p17.n p17.off 2 = range h27 p17.o p17.n p17.off 2) ∧ (
 callB S i_laws_eqSet [.agg cs29, .agg cs32] h31 fun b34 h33 =>
 bif (!b34) then
 K (.bool false) h33
 else
 ldA p17 2 h33 fun cs35 =>
 callI S .i64 i_laws_markSet [.agg cs35, .int .i64 (1)] h33 fun n37 h36 =>
 bif (decide (n37 < (0))) then
 K (.bool false) h36
 else
 callB S i_laws_eqInt64SS [.sl s24, .sl s11] h36 fun b39 h38 =>
 bif (!b39) then
 K (.bool false) h38
 else
 bif (n26 != n13) then
 K (.bool false) h38
 else
 callI S .i64 i_laws_markInt64SS [.sl s24, .int .i64 (1)] h38 fun n41 h40 =>
 callI S .i64 i_laws_heldInt64SS [.sl s24, .int .i64 (1)] h40 fun n43 h42 =>
 bif (decide (n43 < (0))) then
 K (.bool false) h42
 else
 bif (n43 != n41) then
 K (.bool false) h42
 else
 ldA p0 2 h42 fun cs44 =>
 callA S i_laws_toSet [.agg cs44] h42 fun cs46 h45 =>
 callV S i_impl_ColumnWords [.agg cs46, .int .i64 x1] h45 fun v48 h47 =>
 viaT v48 fun vs49 =>
 exS vs49 0 fun s50 =>
 viaT v48 fun vs51 =>
 exI .i64 vs51 1 fun n52 =>
 callB S i_laws_eqInt64SS [.sl s50, .sl s11] h47 fun b54 h53 =>
 bif (!b54) then
 K (.bool false) h53
 else
 bif (n52 != n13) then
 K (.bool false) h53
 else
 callI S .i64 i_laws_heldInt64SS [.sl s24, .int .i64 (1)] h53 fun n56 h55 =>
 bif (decide (n56 < (0))) then
 K (.bool false) h55
 else
 bif (n56 != n41) then
 K (.bool false) h55
 else
 K (.bool true) h55)
theorem laws_FnExactColumnWords_main_link (S : SatT) (K : AVal → H → Prop) (x0 : List AVal) (x1 : Int) (h : H) : cwp S tab laws_FnExactColumnWords_M [] (bodyOf Try.f7) (kFun tab Try.f7.results.toList K) (fr0 Try.f7 [.agg x0, .int .i64 x1]) h = laws_FnExactColumnWords_main S K x0 x1 h := by kernel_rfl
theorem laws_FnExactColumnWords_call (x0 : List AVal) (x1 : Int) (h : H) (K : Bool → H → Prop) (hm : laws_FnExactColumnWords_main (Sat Try.prog) (fun v h' => ∃ r, v = .bool r ∧ K r h') x0 x1 h) : callB (Sat Try.prog) i_laws_FnExactColumnWords [.agg x0, .int .i64 x1] h K := by
  have := Sat.ex tok mixed laws_FnExactColumnWords_M Try.func7 (c := bodyOf Try.f7) (by kernel_rfl) (calls_of Try.func7 (c := bodyOf Try.f7) (by kernel_rfl) (by decide)) ((laws_FnExactColumnWords_main_link _ _ x0 x1 h).mpr hm)
  obtain ⟨v, h2, h3, r, rfl, h4⟩ := this; exact ⟨r, h2, h3, h4⟩

/-! ### loop.example/g01354/spec.l06Gcd -/
def spec_l06Gcd_M : Nat → List Nat := fun i => bif i == 0 then [0, 1] else []
def spec_l06Gcd_ks1 (S : SatT) (K : AVal → H → Prop) : Kont := kSeq (cwp S tab spec_l06Gcd_M [] (sub [1, 1] (bodyOf Try.f110)) (kFun tab (Try.f110).results.toList K)) (kFun tab (Try.f110).results.toList K)
def spec_l06Gcd_e0 (i0_ : Int) (i1_ : Int) : Frame := [.int .i64 i0_, .int .i64 i1_, U, U, U, U, U, U, U, U, U, U, U, U]
def spec_l06Gcd_w0 (S : SatT) (K : AVal → H → Prop) : (Frame → H → Prop) → Frame → H → Prop := fun X fr h => cwp S tab spec_l06Gcd_M (spec_l06Gcd_M 0) (sub [1, 0, 0, 0] (bodyOf Try.f110)) (kSeq (fun fr h => X (mask (spec_l06Gcd_M 0) fr) h) (kBlk 0 (spec_l06Gcd_ks1 S K))) fr h
def spec_l06Gcd_L0 (S : SatT) (K : AVal → H → Prop) (i0_ : Int) (i1_ : Int) (h : H) : Prop := loopK (spec_l06Gcd_w0 S K) (spec_l06Gcd_e0 i0_ i1_) h
def spec_l06Gcd_C0 (S : SatT) (K : AVal → H → Prop) (i0_ : Int) (h : H) : Prop :=
 K (.int .i64 i0_) h
def spec_l06Gcd_b0 (S : SatT) (K : AVal → H → Prop) (X0 : Frame → H → Prop) (i0_ : Int) (i1_ : Int) (h : H) : Prop :=
 bif (decide (i1_ > (0))) then
 nz i1_ (
 X0 (spec_l06Gcd_e0 i1_ (Int.tmod i0_ i1_)) h)
 else
 spec_l06Gcd_C0 S K i0_ h
theorem spec_l06Gcd_link0 (S : SatT) (K : AVal → H → Prop) (X0 : Frame → H → Prop) (i0_ : Int) (i1_ : Int) (h : H) : spec_l06Gcd_w0 S K X0 (spec_l06Gcd_e0 i0_ i1_) h = spec_l06Gcd_b0 S K X0 i0_ i1_ h := by kernel_rfl
theorem spec_l06Gcd_rule0 (S : SatT) (K : AVal → H → Prop) (I_ : Int → Int → H → Prop) (m_ : Int → Int → H → Nat)
    (hs : ∀ (X0 : Frame → H → Prop) (i0_ : Int) (i1_ : Int) (h : H), I_ i0_ i1_ h → (∀ (i0_' : Int) (i1_' : Int) (h' : H), I_ i0_' i1_' h' → m_ i0_' i1_' h' < m_ i0_ i1_ h → X0 (spec_l06Gcd_e0 i0_' i1_') h') → spec_l06Gcd_b0 S K X0 i0_ i1_ h) (i0_ : Int) (i1_ : Int) {h : H} (h0 : I_ i0_ i1_ h) : spec_l06Gcd_L0 S K i0_ i1_ h :=
  loop_rule (σ := (Int) × (Int)) (fun s_ => spec_l06Gcd_e0 (s_.1) (s_.2)) (fun s_ h => I_ (s_.1) (s_.2) h) (fun s_ h => m_ (s_.1) (s_.2) h)
    (fun X s_ h hi hx => (spec_l06Gcd_link0 S K X (s_.1) (s_.2) h).mpr (hs X (s_.1) (s_.2) h hi fun i0_' i1_' h' hi' hm' => hx (i0_', i1_') h' hi' hm')) (i0_, i1_) h0
theorem spec_l06Gcd_unroll0 (S : SatT) (K : AVal → H → Prop) (i0_ : Int) (i1_ : Int) (h : H) (hb : spec_l06Gcd_b0 S K (fun fr h => loopK (spec_l06Gcd_w0 S K) fr h) i0_ i1_ h) : spec_l06Gcd_L0 S K i0_ i1_ h := loop_unroll ((spec_l06Gcd_link0 S K _ i0_ i1_ h).mpr hb)
def spec_l06Gcd_main (S : SatT) (K : AVal → H → Prop) (x0 : Int) (x1 : Int) (h : H) : Prop :=
 spec_l06Gcd_L0 S K x0 x1 h
theorem spec_l06Gcd_main_link (S : SatT) (K : AVal → H → Prop) (x0 : Int) (x1 : Int) (h : H) : cwp S tab spec_l06Gcd_M [] (bodyOf Try.f110) (kFun tab Try.f110.results.toList K) (fr0 Try.f110 [.int .i64 x0, .int .i64 x1]) h = spec_l06Gcd_main S K x0 x1 h := by kernel_rfl
theorem spec_l06Gcd_call (x0 : Int) (x1 : Int) (h : H) (K : Int → H → Prop) (hm : spec_l06Gcd_main (Sat Try.prog) (fun v h' => ∃ r, v = .int .i64 r ∧ K r h') x0 x1 h) : callI (Sat Try.prog) .i64 i_spec_l06Gcd [.int .i64 x0, .int .i64 x1] h K := by
  have := Sat.ex tok mixed spec_l06Gcd_M Try.func110 (c := bodyOf Try.f110) (by kernel_rfl) (calls_of Try.func110 (c := bodyOf Try.f110) (by kernel_rfl) (by decide)) ((spec_l06Gcd_main_link _ _ x0 x1 h).mpr hm)
  obtain ⟨v, h2, h3, r, rfl, h4⟩ := this; exact ⟨r, h2, h3, h4⟩

/-! ### loop.example/g01354/laws.FnExactCountColumns -/
def laws_FnExactCountColumns_M : Nat → List Nat := fun i => []
def laws_FnExactCountColumns_main (S : SatT) (K : AVal → H → Prop) (x0 : List AVal) (x1 : Int) (h : H) : Prop :=
 newK 2 x0 h fun p0 h1 =>
 ldA p0 2 h1 fun cs2 =>
 callI S .i64 i_laws_szSet [.agg cs2, .int .i64 (1048576)] h1 fun n4 h3 =>
 bif (decide (n4 < (0))) then
 K (.bool true) h3
 else
 ldA p0 2 h3 fun cs5 =>
 callA S i_laws_toSet [.agg cs5] h3 fun cs7 h6 =>
 callV S i_spec_CountColumns [.agg cs7, .int .i64 x1] h6 fun v9 h8 =>
 viaT v9 fun vs10 =>
 exI .i64 vs10 0 fun n11 =>
 viaT v9 fun vs12 =>
 exI .i64 vs12 1 fun n13 =>
 ldA p0 2 h8 fun cs14 =>
 callA S i_laws_toSet [.agg cs14] h8 fun cs16 h15 =>
 newO [.int .i64 (0), .sl Sl.nil] h15 fun p17 h18 =>
 stN p17 2 cs16 h18 fun h19 =>
 ldA p17 2 h19 fun cs20 =>
 callV S i_impl_CountColumns [.agg cs20, .int .i64 x1] h19 fun v22 h21 =>
 viaT v22 fun vs23 =>
 exI .i64 vs23 0 fun n24 =>
 viaT v22 fun vs25 =>
 exI .i64 vs25 1 fun n26 =>
 bif (n24 != n11) then
 K (.bool false) h21
 else
 bif (n26 != n13) then
 K (.bool false) h21
 else
 ldA p17 2 h21 fun cs27 =>
 ldA p0 2 h21 fun cs28 =>
 callA S i_laws_toSet [.agg cs28] h21 fun cs30 h29 =>
(range h29 p17.o p17.n p17.off 2 = range h21 p17.o p17.n p17.off 2) ∧ (
 callB S i_laws_eqSet [.agg cs27, .agg cs30] h29 fun b32 h31 =>
 bif (!b32) then
 K (.bool false) h31
 else
 K (.bool true) h31)
theorem laws_FnExactCountColumns_main_link (S : SatT) (K : AVal → H → Prop) (x0 : List AVal) (x1 : Int) (h : H) : cwp S tab laws_FnExactCountColumns_M [] (bodyOf Try.f3) (kFun tab Try.f3.results.toList K) (fr0 Try.f3 [.agg x0, .int .i64 x1]) h = laws_FnExactCountColumns_main S K x0 x1 h := by kernel_rfl
theorem laws_FnExactCountColumns_call (x0 : List AVal) (x1 : Int) (h : H) (K : Bool → H → Prop) (hm : laws_FnExactCountColumns_main (Sat Try.prog) (fun v h' => ∃ r, v = .bool r ∧ K r h') x0 x1 h) : callB (Sat Try.prog) i_laws_FnExactCountColumns [.agg x0, .int .i64 x1] h K := by
  have := Sat.ex tok mixed laws_FnExactCountColumns_M Try.func3 (c := bodyOf Try.f3) (by kernel_rfl) (calls_of Try.func3 (c := bodyOf Try.f3) (by kernel_rfl) (by decide)) ((laws_FnExactCountColumns_main_link _ _ x0 x1 h).mpr hm)
  obtain ⟨v, h2, h3, r, rfl, h4⟩ := this; exact ⟨r, h2, h3, h4⟩

/-! ### loop.example/g01354/spec.l06With -/
def spec_l06With_M : Nat → List Nat := fun i => []
def spec_l06With_main (S : SatT) (K : AVal → H → Prop) (x0 : Sl) (h : H) : Prop :=
 newO [.int .i64 (0), .sl Sl.nil] h fun p0 h1 =>
 callP S i_spec_l01From [.sl x0] h1 fun p3 h2 =>
 callV S i_spec_l06Draw [.ptr p3] h2 fun v5 h4 =>
 viaT v5 fun vs6 =>
 exA vs6 0 fun cs7 =>
 viaT v5 fun vs8 =>
 exI .i64 vs8 1 fun n9 =>
 newO [.int .i64 (0), .sl Sl.nil] h4 fun p10 h11 =>
 stN p10 2 cs7 h11 fun h12 =>
 ldA p10 2 h12 fun cs13 =>
 callI S .i64 i_spec_l01Near [.ptr p3, .int .i64 (30)] h12 fun n15 h14 =>
(range h14 p10.o p10.n p10.off 2 = range h12 p10.o p10.n p10.off 2) ∧ (
 newS 7 1 [.int .i64 (1), .int .i64 (2), .int .i64 (3), .int .i64 (4), .int .i64 (6), .int .i64 (10), .int .i64 n15] h14 fun s16 h17 =>
(range h17 p10.o p10.n p10.off 2 = range h12 p10.o p10.n p10.off 2) ∧ (
 callI S .i64 i_spec_l01Pick [.ptr p3, .sl s16] h17 fun n19 h18 =>
(range h18 p10.o p10.n p10.off 2 = range h12 p10.o p10.n p10.off 2) ∧ (
 stN p0 2 cs13 h18 fun h20 =>
 ldA p0 2 h20 fun cs21 =>
 K (.tuple [.agg cs21, .int .i64 n9, .int .i64 n19]) h20)))
theorem spec_l06With_main_link (S : SatT) (K : AVal → H → Prop) (x0 : Sl) (h : H) : cwp S tab spec_l06With_M [] (bodyOf Try.f85) (kFun tab Try.f85.results.toList K) (fr0 Try.f85 [.sl x0]) h = spec_l06With_main S K x0 h := by kernel_rfl
theorem spec_l06With_call (x0 : Sl) (h : H) (K : AVal → H → Prop) (hm : spec_l06With_main (Sat Try.prog) (fun v h' => K v h') x0 h) : callV (Sat Try.prog) i_spec_l06With [.sl x0] h K := by
  have := Sat.ex tok mixed spec_l06With_M Try.func85 (c := bodyOf Try.f85) (by kernel_rfl) (calls_of Try.func85 (c := bodyOf Try.f85) (by kernel_rfl) (by decide)) ((spec_l06With_main_link _ _ x0 h).mpr hm)
  exact this

/-! ### loop.example/g01354/spec.l06Draw -/
def spec_l06Draw_M : Nat → List Nat := fun i => []
def spec_l06Draw_main (S : SatT) (K : AVal → H → Prop) (x0 : Pt) (h : H) : Prop :=
 newO [.int .i64 (0), .sl Sl.nil] h fun p0 h1 =>
 callI S .i64 i_spec_l01Next [.ptr x0, .int .i64 (6)] h1 fun n3 h2 =>
 bif (n3 == (0)) then
 callA S i_spec_l01Spoil [.ptr x0] h2 fun cs5 h4 =>
 callI S .i64 i_spec_l01Next [.ptr x0, .int .i64 (6)] h4 fun n7 h6 =>
 newS 4 1 [.int .i64 (1), .int .i64 (1), .int .i64 (2), .int .i64 n7] h6 fun s8 h9 =>
 callI S .i64 i_spec_l01Pick [.ptr x0, .sl s8] h9 fun n11 h10 =>
 stN p0 2 cs5 h10 fun h12 =>
 ldA p0 2 h12 fun cs13 =>
 K (.tuple [.agg cs13, .int .i64 n11]) h12
 else
 callA S i_spec_l01Small [.ptr x0] h2 fun cs15 h14 =>
 newS 5 1 [.int .i64 (1), .int .i64 (2), .int .i64 (2), .int .i64 (3), .int .i64 (4)] h14 fun s16 h17 =>
 callI S .i64 i_spec_l01Pick [.ptr x0, .sl s16] h17 fun n19 h18 =>
 stN p0 2 cs15 h18 fun h20 =>
 ldA p0 2 h20 fun cs21 =>
 K (.tuple [.agg cs21, .int .i64 n19]) h20
theorem spec_l06Draw_main_link (S : SatT) (K : AVal → H → Prop) (x0 : Pt) (h : H) : cwp S tab spec_l06Draw_M [] (bodyOf Try.f112) (kFun tab Try.f112.results.toList K) (fr0 Try.f112 [.ptr x0]) h = spec_l06Draw_main S K x0 h := by kernel_rfl
theorem spec_l06Draw_call (x0 : Pt) (h : H) (K : AVal → H → Prop) (hm : spec_l06Draw_main (Sat Try.prog) (fun v h' => K v h') x0 h) : callV (Sat Try.prog) i_spec_l06Draw [.ptr x0] h K := by
  have := Sat.ex tok mixed spec_l06Draw_M Try.func112 (c := bodyOf Try.f112) (by kernel_rfl) (calls_of Try.func112 (c := bodyOf Try.f112) (by kernel_rfl) (by decide)) ((spec_l06Draw_main_link _ _ x0 h).mpr hm)
  exact this

/-! ### loop.example/g01354/spec.IsMixing -/
def spec_IsMixing_M : Nat → List Nat := fun i => []
def spec_IsMixing_main (S : SatT) (K : AVal → H → Prop) (x0 : List AVal) (x1 : Int) (h : H) : Prop :=
 newK 2 x0 h fun p0 h1 =>
 ldA p0 2 h1 fun cs2 =>
 callV S i_spec_l06Lasting [.agg cs2, .int .i64 x1] h1 fun v4 h3 =>
 viaT v4 fun vs5 =>
 exS vs5 0 fun s6 =>
 viaT v4 fun vs7 =>
 exS vs7 1 fun s8 =>
 viaT v4 fun vs9 =>
 exI .i64 vs9 2 fun n10 =>
 bif (n10 != (0)) then
 K (.tuple [.bool false, .int .i64 n10]) h3
 else
 callV S i_spec_l06Period [.sl s8] h3 fun v12 h11 =>
 viaT v12 fun vs13 =>
 exI .i64 vs13 0 fun n14 =>
 viaT v12 fun vs15 =>
 exB vs15 1 fun b16 =>
 bif b16 then
 K (.tuple [.bool (n14 == (1)), .int .i64 (0)]) h11
 else
 K (.tuple [.bool false, .int .i64 (0)]) h11
theorem spec_IsMixing_main_link (S : SatT) (K : AVal → H → Prop) (x0 : List AVal) (x1 : Int) (h : H) : cwp S tab spec_IsMixing_M [] (bodyOf Try.f38) (kFun tab Try.f38.results.toList K) (fr0 Try.f38 [.agg x0, .int .i64 x1]) h = spec_IsMixing_main S K x0 x1 h := by kernel_rfl
theorem spec_IsMixing_call (x0 : List AVal) (x1 : Int) (h : H) (K : AVal → H → Prop) (hm : spec_IsMixing_main (Sat Try.prog) (fun v h' => K v h') x0 x1 h) : callV (Sat Try.prog) i_spec_IsMixing [.agg x0, .int .i64 x1] h K := by
  have := Sat.ex tok mixed spec_IsMixing_M Try.func38 (c := bodyOf Try.f38) (by kernel_rfl) (calls_of Try.func38 (c := bodyOf Try.f38) (by kernel_rfl) (by decide)) ((spec_IsMixing_main_link _ _ x0 x1 h).mpr hm)
  exact this

/-! ### loop.example/g01354/spec.l01Near -/
def spec_l01Near_M : Nat → List Nat := fun i => []
def spec_l01Near_main (S : SatT) (K : AVal → H → Prop) (x0 : Pt) (x1 : Int) (h : H) : Prop :=
 callI S .i64 i_spec_l01Next [.ptr x0, .int .i64 (14)] h fun n1 h0 =>
 bif (n1 == (0)) then
 newS 4 1 [.int .i64 (-1), .int .i64 (w64 (x1 + (1))), .int .i64 (1099511627776), .int .i64 (-4611686018427387904)] h0 fun s2 h3 =>
 callI S .i64 i_spec_l01Pick [.ptr x0, .sl s2] h3 fun n5 h4 =>
 K (.int .i64 n5) h4
 else
 callI S .i64 i_spec_l01Next [.ptr x0, .int .i64 (w64 (x1 + (1)))] h0 fun n7 h6 =>
 K (.int .i64 n7) h6
theorem spec_l01Near_main_link (S : SatT) (K : AVal → H → Prop) (x0 : Pt) (x1 : Int) (h : H) : cwp S tab spec_l01Near_M [] (bodyOf Try.f115) (kFun tab Try.f115.results.toList K) (fr0 Try.f115 [.ptr x0, .int .i64 x1]) h = spec_l01Near_main S K x0 x1 h := by kernel_rfl
theorem spec_l01Near_call (x0 : Pt) (x1 : Int) (h : H) (K : Int → H → Prop) (hm : spec_l01Near_main (Sat Try.prog) (fun v h' => ∃ r, v = .int .i64 r ∧ K r h') x0 x1 h) : callI (Sat Try.prog) .i64 i_spec_l01Near [.ptr x0, .int .i64 x1] h K := by
  have := Sat.ex tok mixed spec_l01Near_M Try.func115 (c := bodyOf Try.f115) (by kernel_rfl) (calls_of Try.func115 (c := bodyOf Try.f115) (by kernel_rfl) (by decide)) ((spec_l01Near_main_link _ _ x0 x1 h).mpr hm)
  obtain ⟨v, h2, h3, r, rfl, h4⟩ := this; exact ⟨r, h2, h3, h4⟩

/-! ### loop.example/g01354/spec.StrongParts -/
def spec_StrongParts_M : Nat → List Nat := fun i => []
def spec_StrongParts_main (S : SatT) (K : AVal → H → Prop) (x0 : List AVal) (x1 : Int) (h : H) : Prop :=
 newK 2 x0 h fun p0 h1 =>
 ldA p0 2 h1 fun cs2 =>
 callV S i_spec_l06Lasting [.agg cs2, .int .i64 x1] h1 fun v4 h3 =>
 viaT v4 fun vs5 =>
 exS vs5 0 fun s6 =>
 viaT v4 fun vs7 =>
 exS vs7 1 fun s8 =>
 viaT v4 fun vs9 =>
 exI .i64 vs9 2 fun n10 =>
 bif (n10 != (0)) then
 K (.tuple [.sl Sl.nil, .int .i64 n10]) h3
 else
 callS S i_spec_l06Parts [.sl s8] h3 fun s12 h11 =>
 K (.tuple [.sl s12, .int .i64 (0)]) h11
theorem spec_StrongParts_main_link (S : SatT) (K : AVal → H → Prop) (x0 : List AVal) (x1 : Int) (h : H) : cwp S tab spec_StrongParts_M [] (bodyOf Try.f36) (kFun tab Try.f36.results.toList K) (fr0 Try.f36 [.agg x0, .int .i64 x1]) h = spec_StrongParts_main S K x0 x1 h := by kernel_rfl
theorem spec_StrongParts_call (x0 : List AVal) (x1 : Int) (h : H) (K : AVal → H → Prop) (hm : spec_StrongParts_main (Sat Try.prog) (fun v h' => K v h') x0 x1 h) : callV (Sat Try.prog) i_spec_StrongParts [.agg x0, .int .i64 x1] h K := by
  have := Sat.ex tok mixed spec_StrongParts_M Try.func36 (c := bodyOf Try.f36) (by kernel_rfl) (calls_of Try.func36 (c := bodyOf Try.f36) (by kernel_rfl) (by decide)) ((spec_StrongParts_main_link _ _ x0 x1 h).mpr hm)
  exact this

/-! ### loop.example/g01354/impl.StripSequence$1 -/
def impl_StripSequence_1_M : Nat → List Nat := fun i => []
def impl_StripSequence_1_main (S : SatT) (K : AVal → H → Prop) (x0 : Pt) (x1 : Pt) (h : H) : Prop :=
 ldI .i64 x0 h fun n0 =>
 callB S i_impl_within [.int .i64 n0, .int .i64 (1), .int .i64 (4)] h fun b2 h1 =>
 bif b2 then
 ldI .i64 x1 h1 fun n3 =>
 callB S i_impl_within [.int .i64 n3, .int .i64 (1), .int .i64 (30)] h1 fun b5 h4 =>
 K (.bool b5) h4
 else
 K (.bool false) h1
theorem impl_StripSequence_1_main_link (S : SatT) (K : AVal → H → Prop) (x0 : Pt) (x1 : Pt) (h : H) : cwp S tab impl_StripSequence_1_M [] (bodyOf Try.f67) (kFun tab Try.f67.results.toList K) (fr0 Try.f67 [.ptr x0, .ptr x1]) h = impl_StripSequence_1_main S K x0 x1 h := by kernel_rfl
theorem impl_StripSequence_1_call (x0 : Pt) (x1 : Pt) (h : H) (K : Bool → H → Prop) (hm : impl_StripSequence_1_main (Sat Try.prog) (fun v h' => ∃ r, v = .bool r ∧ K r h') x0 x1 h) : callB (Sat Try.prog) i_impl_StripSequence_1 [.ptr x0, .ptr x1] h K := by
  have := Sat.ex tok mixed impl_StripSequence_1_M Try.func67 (c := bodyOf Try.f67) (by kernel_rfl) (calls_of Try.func67 (c := bodyOf Try.f67) (by kernel_rfl) (by decide)) ((impl_StripSequence_1_main_link _ _ x0 x1 h).mpr hm)
  obtain ⟨v, h2, h3, r, rfl, h4⟩ := this; exact ⟨r, h2, h3, h4⟩

/-! ### loop.example/g01354/spec.ColumnTable -/
def spec_ColumnTable_M : Nat → List Nat := fun i => []
def spec_ColumnTable_main (S : SatT) (K : AVal → H → Prop) (x0 : List AVal) (x1 : Int) (h : H) : Prop :=
 newK 2 x0 h fun p0 h1 =>
 ldA p0 2 h1 fun cs2 =>
 callV S i_spec_l06Lasting [.agg cs2, .int .i64 x1] h1 fun v4 h3 =>
 viaT v4 fun vs5 =>
 exS vs5 0 fun s6 =>
 viaT v4 fun vs7 =>
 exS vs7 1 fun s8 =>
 viaT v4 fun vs9 =>
 exI .i64 vs9 2 fun n10 =>
 bif (n10 != (0)) then
 K (.tuple [.sl Sl.nil, .int .i64 n10]) h3
 else
 K (.tuple [.sl s8, .int .i64 (0)]) h3
theorem spec_ColumnTable_main_link (S : SatT) (K : AVal → H → Prop) (x0 : List AVal) (x1 : Int) (h : H) : cwp S tab spec_ColumnTable_M [] (bodyOf Try.f27) (kFun tab Try.f27.results.toList K) (fr0 Try.f27 [.agg x0, .int .i64 x1]) h = spec_ColumnTable_main S K x0 x1 h := by kernel_rfl
theorem spec_ColumnTable_call (x0 : List AVal) (x1 : Int) (h : H) (K : AVal → H → Prop) (hm : spec_ColumnTable_main (Sat Try.prog) (fun v h' => K v h') x0 x1 h) : callV (Sat Try.prog) i_spec_ColumnTable [.agg x0, .int .i64 x1] h K := by
  have := Sat.ex tok mixed spec_ColumnTable_M Try.func27 (c := bodyOf Try.f27) (by kernel_rfl) (calls_of Try.func27 (c := bodyOf Try.f27) (by kernel_rfl) (by decide)) ((spec_ColumnTable_main_link _ _ x0 x1 h).mpr hm)
  exact this

/-! ### loop.example/g01354/impl.isTile -/
def impl_isTile_M : Nat → List Nat := fun i => []
def impl_isTile_main (S : SatT) (K : AVal → H → Prop) (x0 : List AVal) (x1 : Int) (h : H) : Prop :=
 newK 4 x0 h fun p0 h1 =>
 newO [.int .i64 x1] h1 fun p2 h3 =>
 cutA p0 4 1 (0) ((4 : Nat) : Int) fun s4 =>
 callB S i_slices_ContainsFunc_s_int64_int64_ [.sl s4, .func 118 [.ptr p2]] h3 fun b6 h5 =>
 K (.bool (!b6)) h5
theorem impl_isTile_main_link (S : SatT) (K : AVal → H → Prop) (x0 : List AVal) (x1 : Int) (h : H) : cwp S tab impl_isTile_M [] (bodyOf Try.f96) (kFun tab Try.f96.results.toList K) (fr0 Try.f96 [.agg x0, .int .i64 x1]) h = impl_isTile_main S K x0 x1 h := by kernel_rfl
theorem impl_isTile_call (x0 : List AVal) (x1 : Int) (h : H) (K : Bool → H → Prop) (hm : impl_isTile_main (Sat Try.prog) (fun v h' => ∃ r, v = .bool r ∧ K r h') x0 x1 h) : callB (Sat Try.prog) i_impl_isTile [.agg x0, .int .i64 x1] h K := by
  have := Sat.ex tok mixed impl_isTile_M Try.func96 (c := bodyOf Try.f96) (by kernel_rfl) (calls_of Try.func96 (c := bodyOf Try.f96) (by kernel_rfl) (by decide)) ((impl_isTile_main_link _ _ x0 x1 h).mpr hm)
  obtain ⟨v, h2, h3, r, rfl, h4⟩ := this; exact ⟨r, h2, h3, h4⟩

/-! ### loop.example/g01354/spec.DrawStrongParts -/
def spec_DrawStrongParts_M : Nat → List Nat := fun i => []
def spec_DrawStrongParts_main (S : SatT) (K : AVal → H → Prop) (x0 : Sl) (h : H) : Prop :=
 newO [.int .i64 (0), .sl Sl.nil] h fun p0 h1 =>
 callV S i_spec_DrawCountColumns [.sl x0] h1 fun v3 h2 =>
 viaT v3 fun vs4 =>
 exA vs4 0 fun cs5 =>
 viaT v3 fun vs6 =>
 exI .i64 vs6 1 fun n7 =>
 stN p0 2 cs5 h2 fun h8 =>
 ldA p0 2 h8 fun cs9 =>
 K (.tuple [.agg cs9, .int .i64 n7]) h8
theorem spec_DrawStrongParts_main_link (S : SatT) (K : AVal → H → Prop) (x0 : Sl) (h : H) : cwp S tab spec_DrawStrongParts_M [] (bodyOf Try.f49) (kFun tab Try.f49.results.toList K) (fr0 Try.f49 [.sl x0]) h = spec_DrawStrongParts_main S K x0 h := by kernel_rfl
theorem spec_DrawStrongParts_call (x0 : Sl) (h : H) (K : AVal → H → Prop) (hm : spec_DrawStrongParts_main (Sat Try.prog) (fun v h' => K v h') x0 h) : callV (Sat Try.prog) i_spec_DrawStrongParts [.sl x0] h K := by
  have := Sat.ex tok mixed spec_DrawStrongParts_M Try.func49 (c := bodyOf Try.f49) (by kernel_rfl) (calls_of Try.func49 (c := bodyOf Try.f49) (by kernel_rfl) (by decide)) ((spec_DrawStrongParts_main_link _ _ x0 h).mpr hm)
  exact this

/-! ### slices.Clone[[]int64,int64] -/
def slices_Clone_s_int64_int64__M : Nat → List Nat := fun i => []
def slices_Clone_s_int64_int64__main (S : SatT) (K : AVal → H → Prop) (x0 : Sl) (h : H) : Prop :=
 bif (isNilS x0) then
 K (.sl Sl.nil) h
 else
 newS 0 1 [] h fun s0 h1 =>
 app s0 x0 1 h1 fun s2 h3 =>
 K (.sl s2) h3
theorem slices_Clone_s_int64_int64__main_link (S : SatT) (K : AVal → H → Prop) (x0 : Sl) (h : H) : cwp S tab slices_Clone_s_int64_int64__M [] (bodyOf Try.f107) (kFun tab Try.f107.results.toList K) (fr0 Try.f107 [.sl x0]) h = slices_Clone_s_int64_int64__main S K x0 h := by kernel_rfl
theorem slices_Clone_s_int64_int64__call (x0 : Sl) (h : H) (K : Sl → H → Prop) (hm : slices_Clone_s_int64_int64__main (Sat Try.prog) (fun v h' => ∃ r, v = .sl r ∧ K r h') x0 h) : callS (Sat Try.prog) i_slices_Clone_s_int64_int64_ [.sl x0] h K := by
  have := Sat.ex tok mixed slices_Clone_s_int64_int64__M Try.func107 (c := bodyOf Try.f107) (by kernel_rfl) (calls_of Try.func107 (c := bodyOf Try.f107) (by kernel_rfl) (by decide)) ((slices_Clone_s_int64_int64__main_link _ _ x0 h).mpr hm)
  obtain ⟨v, h2, h3, r, rfl, h4⟩ := this; exact ⟨r, h2, h3, h4⟩

/-! ### loop.example/g01354/impl.isTile$1 -/
def impl_isTile_1_M : Nat → List Nat := fun i => []
def impl_isTile_1_main (S : SatT) (K : AVal → H → Prop) (x0 : Int) (x1 : Pt) (h : H) : Prop :=
 ldI .i64 x1 h fun n0 =>
 callB S i_impl_within [.int .i64 x0, .int .i64 (0), .int .i64 (w64 (n0 - (1)))] h fun b2 h1 =>
 K (.bool (!b2)) h1
theorem impl_isTile_1_main_link (S : SatT) (K : AVal → H → Prop) (x0 : Int) (x1 : Pt) (h : H) : cwp S tab impl_isTile_1_M [] (bodyOf Try.f118) (kFun tab Try.f118.results.toList K) (fr0 Try.f118 [.int .i64 x0, .ptr x1]) h = impl_isTile_1_main S K x0 x1 h := by kernel_rfl
theorem impl_isTile_1_call (x0 : Int) (x1 : Pt) (h : H) (K : Bool → H → Prop) (hm : impl_isTile_1_main (Sat Try.prog) (fun v h' => ∃ r, v = .bool r ∧ K r h') x0 x1 h) : callB (Sat Try.prog) i_impl_isTile_1 [.int .i64 x0, .ptr x1] h K := by
  have := Sat.ex tok mixed impl_isTile_1_M Try.func118 (c := bodyOf Try.f118) (by kernel_rfl) (calls_of Try.func118 (c := bodyOf Try.f118) (by kernel_rfl) (by decide)) ((impl_isTile_1_main_link _ _ x0 x1 h).mpr hm)
  obtain ⟨v, h2, h3, r, rfl, h4⟩ := this; exact ⟨r, h2, h3, h4⟩

/-! ### loop.example/g01354/laws.szTileS -/
def laws_szTileS_M : Nat → List Nat := fun i => []
def laws_szTileS_main (S : SatT) (K : AVal → H → Prop) (x0 : Sl) (x1 : Int) (h : H) : Prop :=
 bif (decide ((w64 (x1 - (x0.len : Int))) < (0))) then
 K (.int .i64 (-1)) h
 else
 K (.int .i64 (w64 (x1 - (x0.len : Int)))) h
theorem laws_szTileS_main_link (S : SatT) (K : AVal → H → Prop) (x0 : Sl) (x1 : Int) (h : H) : cwp S tab laws_szTileS_M [] (bodyOf Try.f51) (kFun tab Try.f51.results.toList K) (fr0 Try.f51 [.sl x0, .int .i64 x1]) h = laws_szTileS_main S K x0 x1 h := by kernel_rfl
theorem laws_szTileS_call (x0 : Sl) (x1 : Int) (h : H) (K : Int → H → Prop) (hm : laws_szTileS_main (Sat Try.prog) (fun v h' => ∃ r, v = .int .i64 r ∧ K r h') x0 x1 h) : callI (Sat Try.prog) .i64 i_laws_szTileS [.sl x0, .int .i64 x1] h K := by
  have := Sat.ex tok mixed laws_szTileS_M Try.func51 (c := bodyOf Try.f51) (by kernel_rfl) (calls_of Try.func51 (c := bodyOf Try.f51) (by kernel_rfl) (by decide)) ((laws_szTileS_main_link _ _ x0 x1 h).mpr hm)
  obtain ⟨v, h2, h3, r, rfl, h4⟩ := this; exact ⟨r, h2, h3, h4⟩

/-! ### loop.example/g01354/impl.modulo -/
def impl_modulo_M : Nat → List Nat := fun i => []
def impl_modulo_main (S : SatT) (K : AVal → H → Prop) (x0 : Int) (h : H) : Prop :=
 nz (10007) (
 nz (10007) (
 K (.int .i64 (Int.tmod (w64 ((Int.tmod x0 (10007)) + (10007))) (10007))) h))
theorem impl_modulo_main_link (S : SatT) (K : AVal → H → Prop) (x0 : Int) (h : H) : cwp S tab impl_modulo_M [] (bodyOf Try.f77) (kFun tab Try.f77.results.toList K) (fr0 Try.f77 [.int .i64 x0]) h = impl_modulo_main S K x0 h := by kernel_rfl
theorem impl_modulo_call (x0 : Int) (h : H) (K : Int → H → Prop) (hm : impl_modulo_main (Sat Try.prog) (fun v h' => ∃ r, v = .int .i64 r ∧ K r h') x0 h) : callI (Sat Try.prog) .i64 i_impl_modulo [.int .i64 x0] h K := by
  have := Sat.ex tok mixed impl_modulo_M Try.func77 (c := bodyOf Try.f77) (by kernel_rfl) (calls_of Try.func77 (c := bodyOf Try.f77) (by kernel_rfl) (by decide)) ((impl_modulo_main_link _ _ x0 h).mpr hm)
  obtain ⟨v, h2, h3, r, rfl, h4⟩ := this; exact ⟨r, h2, h3, h4⟩

end Go.Proofs.Ytdmhchgaeepdmaa.Cl
