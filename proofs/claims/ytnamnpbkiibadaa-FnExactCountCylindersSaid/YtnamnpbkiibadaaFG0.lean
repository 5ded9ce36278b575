/- Typed forms of functions, and their links. No claim is stated here. -/
import Derived.Test.YtnamnpbkiibadaaFT
/- Typed forms of functions of the program, and their links. Printed by program. No claim is stated here. -/
set_option linter.unusedVariables false
namespace Go.Proofs.Ytnamnpbkiibadaa.Cl
open Go
/-! ### loop.example/g01354/spec.l06Shortest -/
def spec_l06Shortest_M : Nat → List Nat := fun i => bif i == 8 then [3, 7, 14, 15] else bif i == 6 then [0, 3, 4, 5, 6, 7, 8, 9, 11, 12, 13] else bif i == 4 then [0, 3, 4, 5, 6, 7, 8, 9, 11, 12] else bif i == 2 then [0, 3, 4, 5, 6, 7, 8, 9, 10] else bif i == 0 then [0, 3, 4, 5, 6, 7, 8] else []
def spec_l06Shortest_ks2 (S : SatT) (K : AVal → H → Prop) : Kont := kSeq (cwp S tab spec_l06Shortest_M [] (sub [1, 1, 1] (bodyOf Try.f21)) (kFun tab (Try.f21).results.toList K)) (kFun tab (Try.f21).results.toList K)
def spec_l06Shortest_e0 (s0_ : Sl) (s3_ : Sl) (s4_ : Sl) (i5_ : Int) (i6_ : Int) (i7_ : Int) (i8_ : Int) : Frame := [.sl s0_, U, U, .sl s3_, .sl s4_, .int .i64 i5_, .int .i64 i6_, .int .i64 i7_, .int .i64 i8_, U, U, U, U, U, U, U, U, U, U, U, U, U, U, U, U, U, U, U, U, U, U, U, U, U, U, U, U, U, U, U, U, U, U, U, U, U, U, U, U, U, U, U, U, U, U, U, U, U, U, U, U, U, U, U, U, U, U, U, U, U, U, U, U, U, U, U, U, U, U, U, U, U, U, U, U, U, U, U, U, U, U, U, U, U, U, U, U, U, U, U, U, U, U, U, U, U, U, U, U, U, U, U, U, U, U, U, U, U, U, U, U, U, U, U, U, U, U, U, U, U, U, U]
def spec_l06Shortest_w0 (S : SatT) (K : AVal → H → Prop) : (Frame → H → Prop) → Frame → H → Prop := fun X fr h => cwp S tab spec_l06Shortest_M (spec_l06Shortest_M 0) (sub [1, 1, 0, 1, 0, 0] (bodyOf Try.f21)) (kSeq (fun fr h => X (mask (spec_l06Shortest_M 0) fr) h) (kBlk 0 (spec_l06Shortest_ks2 S K))) fr h
def spec_l06Shortest_L0 (S : SatT) (K : AVal → H → Prop) (s0_ : Sl) (s3_ : Sl) (s4_ : Sl) (i5_ : Int) (i6_ : Int) (i7_ : Int) (i8_ : Int) (h : H) : Prop := loopK (spec_l06Shortest_w0 S K) (spec_l06Shortest_e0 s0_ s3_ s4_ i5_ i6_ i7_ i8_) h
def spec_l06Shortest_ks6 (S : SatT) (K : AVal → H → Prop) (X0 : Frame → H → Prop) : Kont := kSeq (cwp S tab spec_l06Shortest_M (spec_l06Shortest_M 0) (sub [1, 1, 0, 1, 0, 0, 1, 1] (bodyOf Try.f21)) (kSeq (fun fr h => X0 (mask (spec_l06Shortest_M 0) fr) h) (kBlk 0 (spec_l06Shortest_ks2 S K)))) (kSeq (fun fr h => X0 (mask (spec_l06Shortest_M 0) fr) h) (kBlk 0 (spec_l06Shortest_ks2 S K)))
def spec_l06Shortest_ks8 (S : SatT) (K : AVal → H → Prop) (X0 : Frame → H → Prop) : Kont := kSeq (cwp S tab spec_l06Shortest_M (spec_l06Shortest_M 1) (sub [1, 1, 0, 1, 0, 0, 1, 0, 0, 1, 1] (bodyOf Try.f21)) (kBlk 1 (spec_l06Shortest_ks6 S K X0))) (kBlk 1 (spec_l06Shortest_ks6 S K X0))
def spec_l06Shortest_e2 (s0_ : Sl) (s3_ : Sl) (s4_ : Sl) (i5_ : Int) (i6_ : Int) (i7_ : Int) (i8_ : Int) (i9_ : Int) (i10_ : Int) : Frame := [.sl s0_, U, U, .sl s3_, .sl s4_, .int .i64 i5_, .int .i64 i6_, .int .i64 i7_, .int .i64 i8_, .int .i64 i9_, .int .i64 i10_, U, U, U, U, U, U, U, U, U, U, U, U, U, U, U, U, U, U, U, U, U, U, U, U, U, U, U, U, U, U, U, U, U, U, U, U, U, U, U, U, U, U, U, U, U, U, U, U, U, U, U, U, U, U, U, U, U, U, U, U, U, U, U, U, U, U, U, U, U, U, U, U, U, U, U, U, U, U, U, U, U, U, U, U, U, U, U, U, U, U, U, U, U, U, U, U, U, U, U, U, U, U, U, U, U, U, U, U, U, U, U, U, U, U, U, U, U, U, U, U, U]
def spec_l06Shortest_w2 (S : SatT) (K : AVal → H → Prop) (X0 : Frame → H → Prop) : (Frame → H → Prop) → Frame → H → Prop := fun X fr h => cwp S tab spec_l06Shortest_M (spec_l06Shortest_M 2) (sub [1, 1, 0, 1, 0, 0, 1, 0, 0, 1, 0, 1, 0, 0] (bodyOf Try.f21)) (kSeq (fun fr h => X (mask (spec_l06Shortest_M 2) fr) h) (kBlk 2 (spec_l06Shortest_ks8 S K X0))) fr h
def spec_l06Shortest_L2 (S : SatT) (K : AVal → H → Prop) (X0 : Frame → H → Prop) (s0_ : Sl) (s3_ : Sl) (s4_ : Sl) (i5_ : Int) (i6_ : Int) (i7_ : Int) (i8_ : Int) (i9_ : Int) (i10_ : Int) (h : H) : Prop := loopK (spec_l06Shortest_w2 S K X0) (spec_l06Shortest_e2 s0_ s3_ s4_ i5_ i6_ i7_ i8_ i9_ i10_) h
def spec_l06Shortest_C1 (S : SatT) (K : AVal → H → Prop) (X0 : Frame → H → Prop) (s0_ : Sl) (s3_ : Sl) (s4_ : Sl) (i5_ : Int) (i6_ : Int) (i7_ : Int) (i8_ : Int) (h : H) : Prop :=
 X0 (spec_l06Shortest_e0 s0_ s3_ s4_ i5_ i6_ i7_ (w64 (i8_ + (1)))) h
def spec_l06Shortest_ks17 (S : SatT) (K : AVal → H → Prop) (X0 : Frame → H → Prop) : Kont := kSeq (cwp S tab spec_l06Shortest_M (spec_l06Shortest_M 1) (sub [1, 1, 0, 1, 0, 0, 1, 0, 0, 1, 1, 1, 1, 1] (bodyOf Try.f21)) (kBlk 1 (spec_l06Shortest_ks6 S K X0))) (kBlk 1 (spec_l06Shortest_ks6 S K X0))
def spec_l06Shortest_e4 (s0_ : Sl) (s3_ : Sl) (s4_ : Sl) (i5_ : Int) (i6_ : Int) (i7_ : Int) (i8_ : Int) (i9_ : Int) (s11_ : Sl) (i12_ : Int) : Frame := [.sl s0_, U, U, .sl s3_, .sl s4_, .int .i64 i5_, .int .i64 i6_, .int .i64 i7_, .int .i64 i8_, .int .i64 i9_, U, .sl s11_, .int .i64 i12_, U, U, U, U, U, U, U, U, U, U, U, U, U, U, U, U, U, U, U, U, U, U, U, U, U, U, U, U, U, U, U, U, U, U, U, U, U, U, U, U, U, U, U, U, U, U, U, U, U, U, U, U, U, U, U, U, U, U, U, U, U, U, U, U, U, U, U, U, U, U, U, U, U, U, U, U, U, U, U, U, U, U, U, U, U, U, U, U, U, U, U, U, U, U, U, U, U, U, U, U, U, U, U, U, U, U, U, U, U, U, U, U, U, U, U, U, U, U, U]
def spec_l06Shortest_w4 (S : SatT) (K : AVal → H → Prop) (X0 : Frame → H → Prop) : (Frame → H → Prop) → Frame → H → Prop := fun X fr h => cwp S tab spec_l06Shortest_M (spec_l06Shortest_M 4) (sub [1, 1, 0, 1, 0, 0, 1, 0, 0, 1, 1, 1, 1, 0, 0, 0] (bodyOf Try.f21)) (kSeq (fun fr h => X (mask (spec_l06Shortest_M 4) fr) h) (kBlk 4 (spec_l06Shortest_ks17 S K X0))) fr h
def spec_l06Shortest_L4 (S : SatT) (K : AVal → H → Prop) (X0 : Frame → H → Prop) (s0_ : Sl) (s3_ : Sl) (s4_ : Sl) (i5_ : Int) (i6_ : Int) (i7_ : Int) (i8_ : Int) (i9_ : Int) (s11_ : Sl) (i12_ : Int) (h : H) : Prop := loopK (spec_l06Shortest_w4 S K X0) (spec_l06Shortest_e4 s0_ s3_ s4_ i5_ i6_ i7_ i8_ i9_ s11_ i12_) h
def spec_l06Shortest_ks20 (S : SatT) (K : AVal → H → Prop) (X0 : Frame → H → Prop) : Kont := kSeq (cwp S tab spec_l06Shortest_M (spec_l06Shortest_M 1) (sub [1, 1, 0, 1, 0, 0, 1, 0, 0, 1, 1, 1, 1, 1, 1] (bodyOf Try.f21)) (kBlk 1 (spec_l06Shortest_ks6 S K X0))) (kBlk 1 (spec_l06Shortest_ks6 S K X0))
def spec_l06Shortest_e6 (s0_ : Sl) (s3_ : Sl) (s4_ : Sl) (i5_ : Int) (i6_ : Int) (i7_ : Int) (i8_ : Int) (i9_ : Int) (s11_ : Sl) (i12_ : Int) (i13_ : Int) : Frame := [.sl s0_, U, U, .sl s3_, .sl s4_, .int .i64 i5_, .int .i64 i6_, .int .i64 i7_, .int .i64 i8_, .int .i64 i9_, U, .sl s11_, .int .i64 i12_, .int .i64 i13_, U, U, U, U, U, U, U, U, U, U, U, U, U, U, U, U, U, U, U, U, U, U, U, U, U, U, U, U, U, U, U, U, U, U, U, U, U, U, U, U, U, U, U, U, U, U, U, U, U, U, U, U, U, U, U, U, U, U, U, U, U, U, U, U, U, U, U, U, U, U, U, U, U, U, U, U, U, U, U, U, U, U, U, U, U, U, U, U, U, U, U, U, U, U, U, U, U, U, U, U, U, U, U, U, U, U, U, U, U, U, U, U, U, U, U, U, U, U]
def spec_l06Shortest_w6 (S : SatT) (K : AVal → H → Prop) (X0 : Frame → H → Prop) : (Frame → H → Prop) → Frame → H → Prop := fun X fr h => cwp S tab spec_l06Shortest_M (spec_l06Shortest_M 6) (sub [1, 1, 0, 1, 0, 0, 1, 0, 0, 1, 1, 1, 1, 1, 0, 1, 0, 0] (bodyOf Try.f21)) (kSeq (fun fr h => X (mask (spec_l06Shortest_M 6) fr) h) (kBlk 6 (spec_l06Shortest_ks20 S K X0))) fr h
def spec_l06Shortest_L6 (S : SatT) (K : AVal → H → Prop) (X0 : Frame → H → Prop) (s0_ : Sl) (s3_ : Sl) (s4_ : Sl) (i5_ : Int) (i6_ : Int) (i7_ : Int) (i8_ : Int) (i9_ : Int) (s11_ : Sl) (i12_ : Int) (i13_ : Int) (h : H) : Prop := loopK (spec_l06Shortest_w6 S K X0) (spec_l06Shortest_e6 s0_ s3_ s4_ i5_ i6_ i7_ i8_ i9_ s11_ i12_ i13_) h
def spec_l06Shortest_C6 (S : SatT) (K : AVal → H → Prop) (X0 : Frame → H → Prop) (s0_ : Sl) (s3_ : Sl) (s4_ : Sl) (i5_ : Int) (i6_ : Int) (i7_ : Int) (i8_ : Int) (i9_ : Int) (s11_ : Sl) (h : H) : Prop :=
 bif (decide ((w64 ((2) * i7_)) ≤ i8_)) then
 spec_l06Shortest_C1 S K X0 s0_ s3_ s11_ (1) i9_ (w64 ((w64 (i8_ + (1))) - i7_)) i8_ h
 else
 spec_l06Shortest_C1 S K X0 s0_ s3_ s4_ (w64 (i5_ + (1))) i6_ i7_ i8_ h
def spec_l06Shortest_b6 (S : SatT) (K : AVal → H → Prop) (X0 : Frame → H → Prop) (X6 : Frame → H → Prop) (s0_ : Sl) (s3_ : Sl) (s4_ : Sl) (i5_ : Int) (i6_ : Int) (i7_ : Int) (i8_ : Int) (i9_ : Int) (s11_ : Sl) (i12_ : Int) (i13_ : Int) (h : H) : Prop :=
 bif (decide (i13_ < (s4_.len : Int))) then
 ixS s3_ 1 (w64 (i13_ + i5_)) fun p0 =>
 ldI .i64 p0 h fun n1 =>
 ixS s4_ 1 i13_ fun p2 =>
 ldI .i64 p2 h fun n3 =>
 nz (10007) (
 ixS s3_ 1 (w64 (i13_ + i5_)) fun p4 =>
 st1 p4 (.int .i64 (Int.tmod (w64 (n1 + (w64 ((w64 ((10007) - i12_)) * n3)))) (10007))) h fun h5 =>
 X6 (spec_l06Shortest_e6 s0_ s3_ s4_ i5_ i6_ i7_ i8_ i9_ s11_ i12_ (w64 (i13_ + (1)))) h5)
 else
 spec_l06Shortest_C6 S K X0 s0_ s3_ s4_ i5_ i6_ i7_ i8_ i9_ s11_ h
theorem spec_l06Shortest_link6 (S : SatT) (K : AVal → H → Prop) (X0 : Frame → H → Prop) (X6 : Frame → H → Prop) (s0_ : Sl) (s3_ : Sl) (s4_ : Sl) (i5_ : Int) (i6_ : Int) (i7_ : Int) (i8_ : Int) (i9_ : Int) (s11_ : Sl) (i12_ : Int) (i13_ : Int) (h : H) : spec_l06Shortest_w6 S K X0 X6 (spec_l06Shortest_e6 s0_ s3_ s4_ i5_ i6_ i7_ i8_ i9_ s11_ i12_ i13_) h = spec_l06Shortest_b6 S K X0 X6 s0_ s3_ s4_ i5_ i6_ i7_ i8_ i9_ s11_ i12_ i13_ h := by kernel_rfl
theorem spec_l06Shortest_rule6 (S : SatT) (K : AVal → H → Prop) (X0 : Frame → H → Prop) (s0_ : Sl) (s3_ : Sl) (s4_ : Sl) (i5_ : Int) (i6_ : Int) (i7_ : Int) (i8_ : Int) (i9_ : Int) (s11_ : Sl) (i12_ : Int) (I_ : Int → H → Prop) (m_ : Int → H → Nat)
    (hs : ∀ (X6 : Frame → H → Prop) (i13_ : Int) (h : H), I_ i13_ h → (∀ (i13_' : Int) (h' : H), I_ i13_' h' → m_ i13_' h' < m_ i13_ h → X6 (spec_l06Shortest_e6 s0_ s3_ s4_ i5_ i6_ i7_ i8_ i9_ s11_ i12_ i13_') h') → spec_l06Shortest_b6 S K X0 X6 s0_ s3_ s4_ i5_ i6_ i7_ i8_ i9_ s11_ i12_ i13_ h) (i13_ : Int) {h : H} (h0 : I_ i13_ h) : spec_l06Shortest_L6 S K X0 s0_ s3_ s4_ i5_ i6_ i7_ i8_ i9_ s11_ i12_ i13_ h :=
  loop_rule (σ := (Int)) (fun s_ => spec_l06Shortest_e6 s0_ s3_ s4_ i5_ i6_ i7_ i8_ i9_ s11_ i12_ (s_)) (fun s_ h => I_ (s_) h) (fun s_ h => m_ (s_) h)
    (fun X s_ h hi hx => (spec_l06Shortest_link6 S K X0 X s0_ s3_ s4_ i5_ i6_ i7_ i8_ i9_ s11_ i12_ (s_) h).mpr (hs X (s_) h hi fun i13_' h' hi' hm' => hx (i13_') h' hi' hm')) (i13_) h0
theorem spec_l06Shortest_unroll6 (S : SatT) (K : AVal → H → Prop) (X0 : Frame → H → Prop) (s0_ : Sl) (s3_ : Sl) (s4_ : Sl) (i5_ : Int) (i6_ : Int) (i7_ : Int) (i8_ : Int) (i9_ : Int) (s11_ : Sl) (i12_ : Int) (i13_ : Int) (h : H) (hb : spec_l06Shortest_b6 S K X0 (fun fr h => loopK (spec_l06Shortest_w6 S K X0) fr h) s0_ s3_ s4_ i5_ i6_ i7_ i8_ i9_ s11_ i12_ i13_ h) : spec_l06Shortest_L6 S K X0 s0_ s3_ s4_ i5_ i6_ i7_ i8_ i9_ s11_ i12_ i13_ h := loop_unroll ((spec_l06Shortest_link6 S K X0 _ s0_ s3_ s4_ i5_ i6_ i7_ i8_ i9_ s11_ i12_ i13_ h).mpr hb)
def spec_l06Shortest_C4 (S : SatT) (K : AVal → H → Prop) (X0 : Frame → H → Prop) (s0_ : Sl) (s3_ : Sl) (s4_ : Sl) (i5_ : Int) (i6_ : Int) (i7_ : Int) (i8_ : Int) (i9_ : Int) (s11_ : Sl) (i12_ : Int) (h : H) : Prop :=
 spec_l06Shortest_L6 S K X0 s0_ s3_ s4_ i5_ i6_ i7_ i8_ i9_ s11_ i12_ (0) h
def spec_l06Shortest_b4 (S : SatT) (K : AVal → H → Prop) (X0 : Frame → H → Prop) (X4 : Frame → H → Prop) (s0_ : Sl) (s3_ : Sl) (s4_ : Sl) (i5_ : Int) (i6_ : Int) (i7_ : Int) (i8_ : Int) (i9_ : Int) (s11_ : Sl) (i12_ : Int) (h : H) : Prop :=
 bif (decide ((s3_.len : Int) < (w64 ((s4_.len : Int) + i5_)))) then
 newS 1 1 [.int .i64 (0)] h fun s0 h1 =>
 app s3_ s0 1 h1 fun s2 h3 =>
 X4 (spec_l06Shortest_e4 s0_ s2 s4_ i5_ i6_ i7_ i8_ i9_ s11_ i12_) h3
 else
 spec_l06Shortest_C4 S K X0 s0_ s3_ s4_ i5_ i6_ i7_ i8_ i9_ s11_ i12_ h
theorem spec_l06Shortest_link4 (S : SatT) (K : AVal → H → Prop) (X0 : Frame → H → Prop) (X4 : Frame → H → Prop) (s0_ : Sl) (s3_ : Sl) (s4_ : Sl) (i5_ : Int) (i6_ : Int) (i7_ : Int) (i8_ : Int) (i9_ : Int) (s11_ : Sl) (i12_ : Int) (h : H) : spec_l06Shortest_w4 S K X0 X4 (spec_l06Shortest_e4 s0_ s3_ s4_ i5_ i6_ i7_ i8_ i9_ s11_ i12_) h = spec_l06Shortest_b4 S K X0 X4 s0_ s3_ s4_ i5_ i6_ i7_ i8_ i9_ s11_ i12_ h := by kernel_rfl
theorem spec_l06Shortest_rule4 (S : SatT) (K : AVal → H → Prop) (X0 : Frame → H → Prop) (s0_ : Sl) (s4_ : Sl) (i5_ : Int) (i6_ : Int) (i7_ : Int) (i8_ : Int) (i9_ : Int) (s11_ : Sl) (i12_ : Int) (I_ : Sl → H → Prop) (m_ : Sl → H → Nat)
    (hs : ∀ (X4 : Frame → H → Prop) (s3_ : Sl) (h : H), I_ s3_ h → (∀ (s3_' : Sl) (h' : H), I_ s3_' h' → m_ s3_' h' < m_ s3_ h → X4 (spec_l06Shortest_e4 s0_ s3_' s4_ i5_ i6_ i7_ i8_ i9_ s11_ i12_) h') → spec_l06Shortest_b4 S K X0 X4 s0_ s3_ s4_ i5_ i6_ i7_ i8_ i9_ s11_ i12_ h) (s3_ : Sl) {h : H} (h0 : I_ s3_ h) : spec_l06Shortest_L4 S K X0 s0_ s3_ s4_ i5_ i6_ i7_ i8_ i9_ s11_ i12_ h :=
  loop_rule (σ := (Sl)) (fun s_ => spec_l06Shortest_e4 s0_ (s_) s4_ i5_ i6_ i7_ i8_ i9_ s11_ i12_) (fun s_ h => I_ (s_) h) (fun s_ h => m_ (s_) h)
    (fun X s_ h hi hx => (spec_l06Shortest_link4 S K X0 X s0_ (s_) s4_ i5_ i6_ i7_ i8_ i9_ s11_ i12_ h).mpr (hs X (s_) h hi fun s3_' h' hi' hm' => hx (s3_') h' hi' hm')) (s3_) h0
theorem spec_l06Shortest_unroll4 (S : SatT) (K : AVal → H → Prop) (X0 : Frame → H → Prop) (s0_ : Sl) (s3_ : Sl) (s4_ : Sl) (i5_ : Int) (i6_ : Int) (i7_ : Int) (i8_ : Int) (i9_ : Int) (s11_ : Sl) (i12_ : Int) (h : H) (hb : spec_l06Shortest_b4 S K X0 (fun fr h => loopK (spec_l06Shortest_w4 S K X0) fr h) s0_ s3_ s4_ i5_ i6_ i7_ i8_ i9_ s11_ i12_ h) : spec_l06Shortest_L4 S K X0 s0_ s3_ s4_ i5_ i6_ i7_ i8_ i9_ s11_ i12_ h := loop_unroll ((spec_l06Shortest_link4 S K X0 _ s0_ s3_ s4_ i5_ i6_ i7_ i8_ i9_ s11_ i12_ h).mpr hb)
def spec_l06Shortest_C2 (S : SatT) (K : AVal → H → Prop) (X0 : Frame → H → Prop) (s0_ : Sl) (s3_ : Sl) (s4_ : Sl) (i5_ : Int) (i6_ : Int) (i7_ : Int) (i8_ : Int) (i9_ : Int) (h : H) : Prop :=
 bif (i9_ == (0)) then
 spec_l06Shortest_C1 S K X0 s0_ s3_ s4_ (w64 (i5_ + (1))) i6_ i7_ i8_ h
 else
 callS S i_spec_l01Own [.sl s3_] h fun s1 h0 =>
 callI S .i64 i_spec_l06Inverse [.int .i64 i6_] h0 fun n3 h2 =>
 nz (10007) (
 spec_l06Shortest_L4 S K X0 s0_ s3_ s4_ i5_ i6_ i7_ i8_ i9_ s1 (Int.tmod (w64 (i9_ * n3)) (10007)) h2)
def spec_l06Shortest_b2 (S : SatT) (K : AVal → H → Prop) (X0 : Frame → H → Prop) (X2 : Frame → H → Prop) (s0_ : Sl) (s3_ : Sl) (s4_ : Sl) (i5_ : Int) (i6_ : Int) (i7_ : Int) (i8_ : Int) (i9_ : Int) (i10_ : Int) (h : H) : Prop :=
 bif (decide (i10_ ≤ i7_)) then
 bif (decide (i10_ < (s3_.len : Int))) then
 ixS s3_ 1 i10_ fun p0 =>
 ldI .i64 p0 h fun n1 =>
 ixS s0_ 1 (w64 (i8_ - i10_)) fun p2 =>
 ldI .i64 p2 h fun n3 =>
 nz (10007) (
 X2 (spec_l06Shortest_e2 s0_ s3_ s4_ i5_ i6_ i7_ i8_ (Int.tmod (w64 (i9_ + (w64 (n1 * n3)))) (10007)) (w64 (i10_ + (1)))) h)
 else
 spec_l06Shortest_C2 S K X0 s0_ s3_ s4_ i5_ i6_ i7_ i8_ i9_ h
 else
 spec_l06Shortest_C2 S K X0 s0_ s3_ s4_ i5_ i6_ i7_ i8_ i9_ h
theorem spec_l06Shortest_link2 (S : SatT) (K : AVal → H → Prop) (X0 : Frame → H → Prop) (X2 : Frame → H → Prop) (s0_ : Sl) (s3_ : Sl) (s4_ : Sl) (i5_ : Int) (i6_ : Int) (i7_ : Int) (i8_ : Int) (i9_ : Int) (i10_ : Int) (h : H) : spec_l06Shortest_w2 S K X0 X2 (spec_l06Shortest_e2 s0_ s3_ s4_ i5_ i6_ i7_ i8_ i9_ i10_) h = spec_l06Shortest_b2 S K X0 X2 s0_ s3_ s4_ i5_ i6_ i7_ i8_ i9_ i10_ h := by kernel_rfl
theorem spec_l06Shortest_rule2 (S : SatT) (K : AVal → H → Prop) (X0 : Frame → H → Prop) (s0_ : Sl) (s3_ : Sl) (s4_ : Sl) (i5_ : Int) (i6_ : Int) (i7_ : Int) (i8_ : Int) (I_ : Int → Int → H → Prop) (m_ : Int → Int → H → Nat)
    (hs : ∀ (X2 : Frame → H → Prop) (i9_ : Int) (i10_ : Int) (h : H), I_ i9_ i10_ h → (∀ (i9_' : Int) (i10_' : Int) (h' : H), I_ i9_' i10_' h' → m_ i9_' i10_' h' < m_ i9_ i10_ h → X2 (spec_l06Shortest_e2 s0_ s3_ s4_ i5_ i6_ i7_ i8_ i9_' i10_') h') → spec_l06Shortest_b2 S K X0 X2 s0_ s3_ s4_ i5_ i6_ i7_ i8_ i9_ i10_ h) (i9_ : Int) (i10_ : Int) {h : H} (h0 : I_ i9_ i10_ h) : spec_l06Shortest_L2 S K X0 s0_ s3_ s4_ i5_ i6_ i7_ i8_ i9_ i10_ h :=
  loop_rule (σ := (Int) × (Int)) (fun s_ => spec_l06Shortest_e2 s0_ s3_ s4_ i5_ i6_ i7_ i8_ (s_.1) (s_.2)) (fun s_ h => I_ (s_.1) (s_.2) h) (fun s_ h => m_ (s_.1) (s_.2) h)
    (fun X s_ h hi hx => (spec_l06Shortest_link2 S K X0 X s0_ s3_ s4_ i5_ i6_ i7_ i8_ (s_.1) (s_.2) h).mpr (hs X (s_.1) (s_.2) h hi fun i9_' i10_' h' hi' hm' => hx (i9_', i10_') h' hi' hm')) (i9_, i10_) h0
theorem spec_l06Shortest_unroll2 (S : SatT) (K : AVal → H → Prop) (X0 : Frame → H → Prop) (s0_ : Sl) (s3_ : Sl) (s4_ : Sl) (i5_ : Int) (i6_ : Int) (i7_ : Int) (i8_ : Int) (i9_ : Int) (i10_ : Int) (h : H) (hb : spec_l06Shortest_b2 S K X0 (fun fr h => loopK (spec_l06Shortest_w2 S K X0) fr h) s0_ s3_ s4_ i5_ i6_ i7_ i8_ i9_ i10_ h) : spec_l06Shortest_L2 S K X0 s0_ s3_ s4_ i5_ i6_ i7_ i8_ i9_ i10_ h := loop_unroll ((spec_l06Shortest_link2 S K X0 _ s0_ s3_ s4_ i5_ i6_ i7_ i8_ i9_ i10_ h).mpr hb)
def spec_l06Shortest_ks30 (S : SatT) (K : AVal → H → Prop) : Kont := kSeq (cwp S tab spec_l06Shortest_M [] (sub [1, 1, 1, 1, 1] (bodyOf Try.f21)) (kFun tab (Try.f21).results.toList K)) (kFun tab (Try.f21).results.toList K)
def spec_l06Shortest_e8 (s3_ : Sl) (i7_ : Int) (s14_ : Sl) (i15_ : Int) : Frame := [U, U, U, .sl s3_, U, U, U, .int .i64 i7_, U, U, U, U, U, U, .sl s14_, .int .i64 i15_, U, U, U, U, U, U, U, U, U, U, U, U, U, U, U, U, U, U, U, U, U, U, U, U, U, U, U, U, U, U, U, U, U, U, U, U, U, U, U, U, U, U, U, U, U, U, U, U, U, U, U, U, U, U, U, U, U, U, U, U, U, U, U, U, U, U, U, U, U, U, U, U, U, U, U, U, U, U, U, U, U, U, U, U, U, U, U, U, U, U, U, U, U, U, U, U, U, U, U, U, U, U, U, U, U, U, U, U, U, U, U, U, U, U, U, U]
def spec_l06Shortest_w8 (S : SatT) (K : AVal → H → Prop) : (Frame → H → Prop) → Frame → H → Prop := fun X fr h => cwp S tab spec_l06Shortest_M (spec_l06Shortest_M 8) (sub [1, 1, 1, 1, 0, 1, 0, 0] (bodyOf Try.f21)) (kSeq (fun fr h => X (mask (spec_l06Shortest_M 8) fr) h) (kBlk 8 (spec_l06Shortest_ks30 S K))) fr h
def spec_l06Shortest_L8 (S : SatT) (K : AVal → H → Prop) (s3_ : Sl) (i7_ : Int) (s14_ : Sl) (i15_ : Int) (h : H) : Prop := loopK (spec_l06Shortest_w8 S K) (spec_l06Shortest_e8 s3_ i7_ s14_ i15_) h
def spec_l06Shortest_C8 (S : SatT) (K : AVal → H → Prop) (s14_ : Sl) (h : H) : Prop :=
 K (.sl s14_) h
def spec_l06Shortest_b8 (S : SatT) (K : AVal → H → Prop) (X8 : Frame → H → Prop) (s3_ : Sl) (i7_ : Int) (s14_ : Sl) (i15_ : Int) (h : H) : Prop :=
 bif (decide (i15_ ≤ i7_)) then
 bif (decide (i15_ < (s3_.len : Int))) then
 ixS s3_ 1 i15_ fun p0 =>
 ldI .i64 p0 h fun n1 =>
 nz (10007) (
 ixS s14_ 1 (w64 (i15_ - (1))) fun p2 =>
 st1 p2 (.int .i64 (Int.tmod (w64 ((10007) - n1)) (10007))) h fun h3 =>
 X8 (spec_l06Shortest_e8 s3_ i7_ s14_ (w64 (i15_ + (1)))) h3)
 else
 spec_l06Shortest_C8 S K s14_ h
 else
 spec_l06Shortest_C8 S K s14_ h
theorem spec_l06Shortest_link8 (S : SatT) (K : AVal → H → Prop) (X8 : Frame → H → Prop) (s3_ : Sl) (i7_ : Int) (s14_ : Sl) (i15_ : Int) (h : H) : spec_l06Shortest_w8 S K X8 (spec_l06Shortest_e8 s3_ i7_ s14_ i15_) h = spec_l06Shortest_b8 S K X8 s3_ i7_ s14_ i15_ h := by kernel_rfl
theorem spec_l06Shortest_rule8 (S : SatT) (K : AVal → H → Prop) (s3_ : Sl) (i7_ : Int) (s14_ : Sl) (I_ : Int → H → Prop) (m_ : Int → H → Nat)
    (hs : ∀ (X8 : Frame → H → Prop) (i15_ : Int) (h : H), I_ i15_ h → (∀ (i15_' : Int) (h' : H), I_ i15_' h' → m_ i15_' h' < m_ i15_ h → X8 (spec_l06Shortest_e8 s3_ i7_ s14_ i15_') h') → spec_l06Shortest_b8 S K X8 s3_ i7_ s14_ i15_ h) (i15_ : Int) {h : H} (h0 : I_ i15_ h) : spec_l06Shortest_L8 S K s3_ i7_ s14_ i15_ h :=
  loop_rule (σ := (Int)) (fun s_ => spec_l06Shortest_e8 s3_ i7_ s14_ (s_)) (fun s_ h => I_ (s_) h) (fun s_ h => m_ (s_) h)
    (fun X s_ h hi hx => (spec_l06Shortest_link8 S K X s3_ i7_ s14_ (s_) h).mpr (hs X (s_) h hi fun i15_' h' hi' hm' => hx (i15_') h' hi' hm')) (i15_) h0
theorem spec_l06Shortest_unroll8 (S : SatT) (K : AVal → H → Prop) (s3_ : Sl) (i7_ : Int) (s14_ : Sl) (i15_ : Int) (h : H) (hb : spec_l06Shortest_b8 S K (fun fr h => loopK (spec_l06Shortest_w8 S K) fr h) s3_ i7_ s14_ i15_ h) : spec_l06Shortest_L8 S K s3_ i7_ s14_ i15_ h := loop_unroll ((spec_l06Shortest_link8 S K _ s3_ i7_ s14_ i15_ h).mpr hb)
def spec_l06Shortest_C0 (S : SatT) (K : AVal → H → Prop) (s3_ : Sl) (i7_ : Int) (h : H) : Prop :=
 mkS i7_ [.int .i64 (0)] h fun s0 h1 =>
 spec_l06Shortest_L8 S K s3_ i7_ s0 (1) h1
def spec_l06Shortest_b0 (S : SatT) (K : AVal → H → Prop) (X0 : Frame → H → Prop) (s0_ : Sl) (s3_ : Sl) (s4_ : Sl) (i5_ : Int) (i6_ : Int) (i7_ : Int) (i8_ : Int) (h : H) : Prop :=
 bif (decide (i8_ < (s0_.len : Int))) then
 spec_l06Shortest_L2 S K X0 s0_ s3_ s4_ i5_ i6_ i7_ i8_ (0) (0) h
 else
 spec_l06Shortest_C0 S K s3_ i7_ h
theorem spec_l06Shortest_link0 (S : SatT) (K : AVal → H → Prop) (X0 : Frame → H → Prop) (s0_ : Sl) (s3_ : Sl) (s4_ : Sl) (i5_ : Int) (i6_ : Int) (i7_ : Int) (i8_ : Int) (h : H) : spec_l06Shortest_w0 S K X0 (spec_l06Shortest_e0 s0_ s3_ s4_ i5_ i6_ i7_ i8_) h = spec_l06Shortest_b0 S K X0 s0_ s3_ s4_ i5_ i6_ i7_ i8_ h := by kernel_rfl
theorem spec_l06Shortest_rule0 (S : SatT) (K : AVal → H → Prop) (s0_ : Sl) (I_ : Sl → Sl → Int → Int → Int → Int → H → Prop) (m_ : Sl → Sl → Int → Int → Int → Int → H → Nat)
    (hs : ∀ (X0 : Frame → H → Prop) (s3_ : Sl) (s4_ : Sl) (i5_ : Int) (i6_ : Int) (i7_ : Int) (i8_ : Int) (h : H), I_ s3_ s4_ i5_ i6_ i7_ i8_ h → (∀ (s3_' : Sl) (s4_' : Sl) (i5_' : Int) (i6_' : Int) (i7_' : Int) (i8_' : Int) (h' : H), I_ s3_' s4_' i5_' i6_' i7_' i8_' h' → m_ s3_' s4_' i5_' i6_' i7_' i8_' h' < m_ s3_ s4_ i5_ i6_ i7_ i8_ h → X0 (spec_l06Shortest_e0 s0_ s3_' s4_' i5_' i6_' i7_' i8_') h') → spec_l06Shortest_b0 S K X0 s0_ s3_ s4_ i5_ i6_ i7_ i8_ h) (s3_ : Sl) (s4_ : Sl) (i5_ : Int) (i6_ : Int) (i7_ : Int) (i8_ : Int) {h : H} (h0 : I_ s3_ s4_ i5_ i6_ i7_ i8_ h) : spec_l06Shortest_L0 S K s0_ s3_ s4_ i5_ i6_ i7_ i8_ h :=
  loop_rule (σ := (Sl) × (Sl) × (Int) × (Int) × (Int) × (Int)) (fun s_ => spec_l06Shortest_e0 s0_ (s_.1) (s_.2.1) (s_.2.2.1) (s_.2.2.2.1) (s_.2.2.2.2.1) (s_.2.2.2.2.2)) (fun s_ h => I_ (s_.1) (s_.2.1) (s_.2.2.1) (s_.2.2.2.1) (s_.2.2.2.2.1) (s_.2.2.2.2.2) h) (fun s_ h => m_ (s_.1) (s_.2.1) (s_.2.2.1) (s_.2.2.2.1) (s_.2.2.2.2.1) (s_.2.2.2.2.2) h)
    (fun X s_ h hi hx => (spec_l06Shortest_link0 S K X s0_ (s_.1) (s_.2.1) (s_.2.2.1) (s_.2.2.2.1) (s_.2.2.2.2.1) (s_.2.2.2.2.2) h).mpr (hs X (s_.1) (s_.2.1) (s_.2.2.1) (s_.2.2.2.1) (s_.2.2.2.2.1) (s_.2.2.2.2.2) h hi fun s3_' s4_' i5_' i6_' i7_' i8_' h' hi' hm' => hx (s3_', s4_', i5_', i6_', i7_', i8_') h' hi' hm')) (s3_, s4_, i5_, i6_, i7_, i8_) h0
theorem spec_l06Shortest_unroll0 (S : SatT) (K : AVal → H → Prop) (s0_ : Sl) (s3_ : Sl) (s4_ : Sl) (i5_ : Int) (i6_ : Int) (i7_ : Int) (i8_ : Int) (h : H) (hb : spec_l06Shortest_b0 S K (fun fr h => loopK (spec_l06Shortest_w0 S K) fr h) s0_ s3_ s4_ i5_ i6_ i7_ i8_ h) : spec_l06Shortest_L0 S K s0_ s3_ s4_ i5_ i6_ i7_ i8_ h := loop_unroll ((spec_l06Shortest_link0 S K _ s0_ s3_ s4_ i5_ i6_ i7_ i8_ h).mpr hb)
def spec_l06Shortest_main (S : SatT) (K : AVal → H → Prop) (x0 : Sl) (h : H) : Prop :=
 newS 1 1 [.int .i64 (1)] h fun s0 h1 =>
 newS 1 1 [.int .i64 (1)] h1 fun s2 h3 =>
 spec_l06Shortest_L0 S K x0 s0 s2 (1) (1) (0) (0) h3
theorem spec_l06Shortest_main_link (S : SatT) (K : AVal → H → Prop) (x0 : Sl) (h : H) : cwp S tab spec_l06Shortest_M [] (bodyOf Try.f21) (kFun tab Try.f21.results.toList K) (fr0 Try.f21 [.sl x0]) h = spec_l06Shortest_main S K x0 h := by kernel_rfl
theorem spec_l06Shortest_call (x0 : Sl) (h : H) (K : Sl → H → Prop) (hm : spec_l06Shortest_main (Sat Try.prog) (fun v h' => ∃ r, v = .sl r ∧ K r h') x0 h) : callS (Sat Try.prog) i_spec_l06Shortest [.sl x0] h K := by
  have := Sat.ex tok mixed spec_l06Shortest_M Try.func21 (c := bodyOf Try.f21) (by kernel_rfl) (calls_of Try.func21 (c := bodyOf Try.f21) (by kernel_rfl) (by decide)) ((spec_l06Shortest_main_link _ _ x0 h).mpr hm)
  obtain ⟨v, h2, h3, r, rfl, h4⟩ := this; exact ⟨r, h2, h3, h4⟩

/-! ### loop.example/g01354/impl.newStrip$1 -/
def impl_newStrip_1_M : Nat → List Nat := fun i => bif i == 0 then [0, 1, 2, 3, 4, 6, 7, 8, 39, 40, 41] else []
def impl_newStrip_1_ks5 (S : SatT) (K : AVal → H → Prop) : Kont := kSeq (cwp S tab impl_newStrip_1_M [] (sub [1, 1, 1] (bodyOf Try.f58)) (kFun tab (Try.f58).results.toList K)) (kFun tab (Try.f58).results.toList K)
def impl_newStrip_1_e0 (i0_ : Int) (i1_ : Int) (i2_ : Int) (i3_ : Int) (i4_ : Int) (p6_ : Pt) (p7_ : Pt) (p8_ : Pt) (s39_ : Sl) (i40_ : Int) (i41_ : Int) : Frame := [.int .i64 i0_, .int .i64 i1_, .int .i64 i2_, .int .i64 i3_, .int .i64 i4_, U, .ptr p6_, .ptr p7_, .ptr p8_, U, U, U, U, U, U, U, U, U, U, U, U, U, U, U, U, U, U, U, U, U, U, U, U, U, U, U, U, U, U, .sl s39_, .int .i64 i40_, .int .i64 i41_, U, U, U, U, U, U, U, U, U, U, U, U, U, U, U, U, U, U, U, U, U, U, U, U, U, U, U, U, U, U, U, U, U, U, U, U, U, U, U, U]
def impl_newStrip_1_w0 (S : SatT) (K : AVal → H → Prop) : (Frame → H → Prop) → Frame → H → Prop := fun X fr h => cwp S tab impl_newStrip_1_M (impl_newStrip_1_M 0) (sub [1, 1, 0, 1, 0, 0] (bodyOf Try.f58)) (kSeq (fun fr h => X (mask (impl_newStrip_1_M 0) fr) h) (kBlk 0 (impl_newStrip_1_ks5 S K))) fr h
def impl_newStrip_1_L0 (S : SatT) (K : AVal → H → Prop) (i0_ : Int) (i1_ : Int) (i2_ : Int) (i3_ : Int) (i4_ : Int) (p6_ : Pt) (p7_ : Pt) (p8_ : Pt) (s39_ : Sl) (i40_ : Int) (i41_ : Int) (h : H) : Prop := loopK (impl_newStrip_1_w0 S K) (impl_newStrip_1_e0 i0_ i1_ i2_ i3_ i4_ p6_ p7_ p8_ s39_ i40_ i41_) h
def impl_newStrip_1_C0 (S : SatT) (K : AVal → H → Prop) (h : H) : Prop :=
 K (.bool true) h
def impl_newStrip_1_b0 (S : SatT) (K : AVal → H → Prop) (X0 : Frame → H → Prop) (i0_ : Int) (i1_ : Int) (i2_ : Int) (i3_ : Int) (i4_ : Int) (p6_ : Pt) (p7_ : Pt) (p8_ : Pt) (s39_ : Sl) (i40_ : Int) (i41_ : Int) (h : H) : Prop :=
 bif (decide (i41_ < i40_)) then
 ixS s39_ 4 i41_ fun p0 =>
 ldA p0 4 h fun cs1 =>
 newO [.int .i64 (0), .int .i64 (0), .int .i64 (0), .int .i64 (0)] h fun p2 h3 =>
 stN p2 4 cs1 h3 fun h4 =>
 ldI .i64 p7_ h4 fun n5 =>
 bif (decide (i4_ < n5)) then
 ixA p2 4 1 (1) fun p6 =>
 ldI .i64 p6 h4 fun n7 =>
 bif (n7 != i1_) then
 X0 (impl_newStrip_1_e0 i0_ i1_ i2_ i3_ i4_ p6_ p7_ p8_ s39_ i40_ (w64 (i41_ + (1)))) h4
 else
 ldI .i64 p7_ h4 fun n8 =>
 bif (i4_ == n8) then
 ixA p2 4 1 (1) fun p9 =>
 ldI .i64 p9 h4 fun n10 =>
 ldV p8_ h4 fun v11 =>
 ixA p2 4 1 (3) fun p12 =>
 ldI .i64 p12 h4 fun n13 =>
 isPt p6_ (
 ldI .i64 (Pt.add p6_ 0) h4 fun n14 =>
 ixA p2 4 1 (0) fun p15 =>
 ldI .i64 p15 h4 fun n16 =>
 isPt p6_ (
 ldI .i64 (Pt.add p6_ 0) h4 fun n17 =>
 ixA p2 4 1 (2) fun p18 =>
 ldI .i64 p18 h4 fun n19 =>
 viaF v11 [.int .i64 n10, .int .i64 n13, .int .i64 (w64 ((w64 (i2_ * n14)) + n16)), .int .i64 (w64 ((w64 (i3_ * n17)) + n19)), .int .i64 (w64 (i4_ - (1)))] fun g20 ys21 =>
 callB S g20 ys21 h4 fun b23 h22 =>
 bif (!b23) then
 K (.bool false) h22
 else
 X0 (impl_newStrip_1_e0 n10 i1_ i2_ i3_ i4_ p6_ p7_ p8_ s39_ i40_ (w64 (i41_ + (1)))) h22))
 else
 ldV p8_ h4 fun v24 =>
 ixA p2 4 1 (3) fun p25 =>
 ldI .i64 p25 h4 fun n26 =>
 isPt p6_ (
 ldI .i64 (Pt.add p6_ 0) h4 fun n27 =>
 ixA p2 4 1 (0) fun p28 =>
 ldI .i64 p28 h4 fun n29 =>
 isPt p6_ (
 ldI .i64 (Pt.add p6_ 0) h4 fun n30 =>
 ixA p2 4 1 (2) fun p31 =>
 ldI .i64 p31 h4 fun n32 =>
 viaF v24 [.int .i64 i0_, .int .i64 n26, .int .i64 (w64 ((w64 (i2_ * n27)) + n29)), .int .i64 (w64 ((w64 (i3_ * n30)) + n32)), .int .i64 (w64 (i4_ - (1)))] fun g33 ys34 =>
 callB S g33 ys34 h4 fun b36 h35 =>
 bif (!b36) then
 K (.bool false) h35
 else
 X0 (impl_newStrip_1_e0 i0_ i1_ i2_ i3_ i4_ p6_ p7_ p8_ s39_ i40_ (w64 (i41_ + (1)))) h35))
 else
 ldI .i64 p7_ h4 fun n37 =>
 bif (i4_ == n37) then
 ixA p2 4 1 (1) fun p38 =>
 ldI .i64 p38 h4 fun n39 =>
 ldV p8_ h4 fun v40 =>
 ixA p2 4 1 (3) fun p41 =>
 ldI .i64 p41 h4 fun n42 =>
 isPt p6_ (
 ldI .i64 (Pt.add p6_ 0) h4 fun n43 =>
 ixA p2 4 1 (0) fun p44 =>
 ldI .i64 p44 h4 fun n45 =>
 isPt p6_ (
 ldI .i64 (Pt.add p6_ 0) h4 fun n46 =>
 ixA p2 4 1 (2) fun p47 =>
 ldI .i64 p47 h4 fun n48 =>
 viaF v40 [.int .i64 n39, .int .i64 n42, .int .i64 (w64 ((w64 (i2_ * n43)) + n45)), .int .i64 (w64 ((w64 (i3_ * n46)) + n48)), .int .i64 (w64 (i4_ - (1)))] fun g49 ys50 =>
 callB S g49 ys50 h4 fun b52 h51 =>
 bif (!b52) then
 K (.bool false) h51
 else
 X0 (impl_newStrip_1_e0 n39 i1_ i2_ i3_ i4_ p6_ p7_ p8_ s39_ i40_ (w64 (i41_ + (1)))) h51))
 else
 ldV p8_ h4 fun v53 =>
 ixA p2 4 1 (3) fun p54 =>
 ldI .i64 p54 h4 fun n55 =>
 isPt p6_ (
 ldI .i64 (Pt.add p6_ 0) h4 fun n56 =>
 ixA p2 4 1 (0) fun p57 =>
 ldI .i64 p57 h4 fun n58 =>
 isPt p6_ (
 ldI .i64 (Pt.add p6_ 0) h4 fun n59 =>
 ixA p2 4 1 (2) fun p60 =>
 ldI .i64 p60 h4 fun n61 =>
 viaF v53 [.int .i64 i0_, .int .i64 n55, .int .i64 (w64 ((w64 (i2_ * n56)) + n58)), .int .i64 (w64 ((w64 (i3_ * n59)) + n61)), .int .i64 (w64 (i4_ - (1)))] fun g62 ys63 =>
 callB S g62 ys63 h4 fun b65 h64 =>
 bif (!b65) then
 K (.bool false) h64
 else
 X0 (impl_newStrip_1_e0 i0_ i1_ i2_ i3_ i4_ p6_ p7_ p8_ s39_ i40_ (w64 (i41_ + (1)))) h64))
 else
 impl_newStrip_1_C0 S K h
theorem impl_newStrip_1_link0 (S : SatT) (K : AVal → H → Prop) (X0 : Frame → H → Prop) (i0_ : Int) (i1_ : Int) (i2_ : Int) (i3_ : Int) (i4_ : Int) (p6_ : Pt) (p7_ : Pt) (p8_ : Pt) (s39_ : Sl) (i40_ : Int) (i41_ : Int) (h : H) : impl_newStrip_1_w0 S K X0 (impl_newStrip_1_e0 i0_ i1_ i2_ i3_ i4_ p6_ p7_ p8_ s39_ i40_ i41_) h = impl_newStrip_1_b0 S K X0 i0_ i1_ i2_ i3_ i4_ p6_ p7_ p8_ s39_ i40_ i41_ h := by kernel_rfl
theorem impl_newStrip_1_rule0 (S : SatT) (K : AVal → H → Prop) (i1_ : Int) (i2_ : Int) (i3_ : Int) (i4_ : Int) (p6_ : Pt) (p7_ : Pt) (p8_ : Pt) (s39_ : Sl) (i40_ : Int) (I_ : Int → Int → H → Prop) (m_ : Int → Int → H → Nat)
    (hs : ∀ (X0 : Frame → H → Prop) (i0_ : Int) (i41_ : Int) (h : H), I_ i0_ i41_ h → (∀ (i0_' : Int) (i41_' : Int) (h' : H), I_ i0_' i41_' h' → m_ i0_' i41_' h' < m_ i0_ i41_ h → X0 (impl_newStrip_1_e0 i0_' i1_ i2_ i3_ i4_ p6_ p7_ p8_ s39_ i40_ i41_') h') → impl_newStrip_1_b0 S K X0 i0_ i1_ i2_ i3_ i4_ p6_ p7_ p8_ s39_ i40_ i41_ h) (i0_ : Int) (i41_ : Int) {h : H} (h0 : I_ i0_ i41_ h) : impl_newStrip_1_L0 S K i0_ i1_ i2_ i3_ i4_ p6_ p7_ p8_ s39_ i40_ i41_ h :=
  loop_rule (σ := (Int) × (Int)) (fun s_ => impl_newStrip_1_e0 (s_.1) i1_ i2_ i3_ i4_ p6_ p7_ p8_ s39_ i40_ (s_.2)) (fun s_ h => I_ (s_.1) (s_.2) h) (fun s_ h => m_ (s_.1) (s_.2) h)
    (fun X s_ h hi hx => (impl_newStrip_1_link0 S K X (s_.1) i1_ i2_ i3_ i4_ p6_ p7_ p8_ s39_ i40_ (s_.2) h).mpr (hs X (s_.1) (s_.2) h hi fun i0_' i41_' h' hi' hm' => hx (i0_', i41_') h' hi' hm')) (i0_, i41_) h0
theorem impl_newStrip_1_unroll0 (S : SatT) (K : AVal → H → Prop) (i0_ : Int) (i1_ : Int) (i2_ : Int) (i3_ : Int) (i4_ : Int) (p6_ : Pt) (p7_ : Pt) (p8_ : Pt) (s39_ : Sl) (i40_ : Int) (i41_ : Int) (h : H) (hb : impl_newStrip_1_b0 S K (fun fr h => loopK (impl_newStrip_1_w0 S K) fr h) i0_ i1_ i2_ i3_ i4_ p6_ p7_ p8_ s39_ i40_ i41_ h) : impl_newStrip_1_L0 S K i0_ i1_ i2_ i3_ i4_ p6_ p7_ p8_ s39_ i40_ i41_ h := loop_unroll ((impl_newStrip_1_link0 S K _ i0_ i1_ i2_ i3_ i4_ p6_ p7_ p8_ s39_ i40_ i41_ h).mpr hb)
def impl_newStrip_1_main (S : SatT) (K : AVal → H → Prop) (x0 : Int) (x1 : Int) (x2 : Int) (x3 : Int) (x4 : Int) (x5 : Pt) (x6 : Pt) (x7 : Pt) (x8 : Pt) (h : H) : Prop :=
 bif (x4 == (0)) then
 ldP x5 h fun p0 =>
 ldP x5 h fun p1 =>
 nilC (.ptr p1) (
 isPt p1 (
 ldS (Pt.add p1 4) h fun s2 =>
 lenA [.int .i64 x2, .int .i64 x3, .int .i64 x0] 3 (
 newS 1 3 (spl [.int .i64 (0), .int .i64 (0), .int .i64 (0)] 0 3 [.int .i64 x2, .int .i64 x3, .int .i64 x0]) h fun s3 h4 =>
(cell h4 (Pt.add p1 4) = cell h (Pt.add p1 4)) ∧ (
(cell h4 x5 = cell h x5) ∧ (
(cell h4 x5 = cell h x5) ∧ (
 app s2 s3 3 h4 fun s5 h6 =>
(cell h6 x5 = cell h x5) ∧ (
 nilC (.ptr p0) (
 isPt p0 (
 st1 (Pt.add p0 4) (.sl s5) h6 fun h7 =>
 ldP x5 h7 fun p8 =>
 nilC (.ptr p8) (
 isPt p8 (
 ldS (Pt.add p8 4) h7 fun s9 =>
 K (.bool (decide ((s9.len : Int) ≤ (5000)))) h7)))))))))))
 else
 isPt x6 (
 ldS (Pt.add x6 1) h fun s10 =>
 impl_newStrip_1_L0 S K x0 x1 x2 x3 x4 x6 x7 x8 s10 (s10.len : Int) (0) h)
theorem impl_newStrip_1_main_link (S : SatT) (K : AVal → H → Prop) (x0 : Int) (x1 : Int) (x2 : Int) (x3 : Int) (x4 : Int) (x5 : Pt) (x6 : Pt) (x7 : Pt) (x8 : Pt) (h : H) : cwp S tab impl_newStrip_1_M [] (bodyOf Try.f58) (kFun tab Try.f58.results.toList K) (fr0 Try.f58 [.int .i64 x0, .int .i64 x1, .int .i64 x2, .int .i64 x3, .int .i64 x4, .ptr x5, .ptr x6, .ptr x7, .ptr x8]) h = impl_newStrip_1_main S K x0 x1 x2 x3 x4 x5 x6 x7 x8 h := by kernel_rfl
theorem impl_newStrip_1_call (x0 : Int) (x1 : Int) (x2 : Int) (x3 : Int) (x4 : Int) (x5 : Pt) (x6 : Pt) (x7 : Pt) (x8 : Pt) (h : H) (K : Bool → H → Prop) (hm : impl_newStrip_1_main (Sat Try.prog) (fun v h' => ∃ r, v = .bool r ∧ K r h') x0 x1 x2 x3 x4 x5 x6 x7 x8 h) : callB (Sat Try.prog) i_impl_newStrip_1 [.int .i64 x0, .int .i64 x1, .int .i64 x2, .int .i64 x3, .int .i64 x4, .ptr x5, .ptr x6, .ptr x7, .ptr x8] h K := by
  have := Sat.ex tok mixed impl_newStrip_1_M Try.func58 (c := bodyOf Try.f58) (by kernel_rfl) (calls_of Try.func58 (c := bodyOf Try.f58) (by kernel_rfl) (by decide)) ((impl_newStrip_1_main_link _ _ x0 x1 x2 x3 x4 x5 x6 x7 x8 h).mpr hm)
  obtain ⟨v, h2, h3, r, rfl, h4⟩ := this; exact ⟨r, h2, h3, h4⟩

/-! ### loop.example/g01354/spec.l05Rounds -/
def spec_l05Rounds_M : Nat → List Nat := fun i => bif i == 0 then [1, 2, 3, 7, 8, 9] else []
def spec_l05Rounds_ks9 (S : SatT) (K : AVal → H → Prop) : Kont := kSeq (cwp S tab spec_l05Rounds_M [] (sub [1, 1, 1, 1, 1] (bodyOf Try.f52)) (kFun tab (Try.f52).results.toList K)) (kFun tab (Try.f52).results.toList K)
def spec_l05Rounds_e0 (s1_ : Sl) (i2_ : Int) (p3_ : Pt) (i7_ : Int) (s8_ : Sl) (i9_ : Int) : Frame := [U, .sl s1_, .int .i64 i2_, .ptr p3_, U, U, U, .int .i64 i7_, .sl s8_, .int .i64 i9_, U, U, U, U, U, U, U, U, U, U, U, U, U, U, U, U, U, U, U, U, U, U, U, U, U, U, U, U, U, U, U, U, U, U, U, U, U, U, U, U, U, U, U, U, U, U, U, U, U, U, U, U, U, U, U, U, U, U, U, U, U, U, U, U, U, U, U]
def spec_l05Rounds_w0 (S : SatT) (K : AVal → H → Prop) : (Frame → H → Prop) → Frame → H → Prop := fun X fr h => cwp S tab spec_l05Rounds_M (spec_l05Rounds_M 0) (sub [1, 1, 1, 1, 0, 1, 0, 0] (bodyOf Try.f52)) (kSeq (fun fr h => X (mask (spec_l05Rounds_M 0) fr) h) (kBlk 0 (spec_l05Rounds_ks9 S K))) fr h
def spec_l05Rounds_L0 (S : SatT) (K : AVal → H → Prop) (s1_ : Sl) (i2_ : Int) (p3_ : Pt) (i7_ : Int) (s8_ : Sl) (i9_ : Int) (h : H) : Prop := loopK (spec_l05Rounds_w0 S K) (spec_l05Rounds_e0 s1_ i2_ p3_ i7_ s8_ i9_) h
def spec_l05Rounds_C0 (S : SatT) (K : AVal → H → Prop) (s8_ : Sl) (h : H) : Prop :=
 K (.sl s8_) h
def spec_l05Rounds_b0 (S : SatT) (K : AVal → H → Prop) (X0 : Frame → H → Prop) (s1_ : Sl) (i2_ : Int) (p3_ : Pt) (i7_ : Int) (s8_ : Sl) (i9_ : Int) (h : H) : Prop :=
 isPt p3_ (
 ldS (Pt.add p3_ 1) h fun s0 =>
 bif (decide (i9_ < (s0.len : Int))) then
 bif (i7_ == (0)) then
 slotK 11 h fun h1 =>
 ldA p3_ 2 h1 fun cs2 =>
 callS S i_spec_l01Own [.sl s1_] h1 fun s4 h3 =>
(range h3 p3_.o p3_.n p3_.off 2 = range h1 p3_.o p3_.n p3_.off 2) ∧ (
 newSat 1 1 [.int .i64 i9_] h3 (h.length + 5) fun s5 h6 =>
(range h6 p3_.o p3_.n p3_.off 2 = range h1 p3_.o p3_.n p3_.off 2) ∧ (
 app s4 s5 1 h6 fun s7 h8 =>
(range h8 p3_.o p3_.n p3_.off 2 = range h1 p3_.o p3_.n p3_.off 2) ∧ (
 callS S i_spec_l05Rounds [.agg cs2, .sl s7, .int .i64 i2_] h8 fun s10 h9 =>
 app s8_ s10 1 h9 fun s11 h12 =>
 X0 (spec_l05Rounds_e0 s1_ i2_ p3_ i7_ s11 (w64 (i9_ + (1)))) h12)))
 else
 isPt p3_ (
 ldS (Pt.add p3_ 1) h fun s13 =>
 ixS s1_ 1 (w64 (i7_ - (1))) fun p14 =>
 ldI .i64 p14 h fun n15 =>
 ixS s13 4 n15 fun p16 =>
 ixA p16 4 1 (2) fun p17 =>
 ldI .i64 p17 h fun n18 =>
 isPt p3_ (
 ldS (Pt.add p3_ 1) h fun s19 =>
 ixS s19 4 i9_ fun p20 =>
 ixA p20 4 1 (0) fun p21 =>
 ldI .i64 p21 h fun n22 =>
 bif (n18 == n22) then
 slotK 11 h fun h23 =>
 ldA p3_ 2 h23 fun cs24 =>
 callS S i_spec_l01Own [.sl s1_] h23 fun s26 h25 =>
(range h25 p3_.o p3_.n p3_.off 2 = range h23 p3_.o p3_.n p3_.off 2) ∧ (
 newSat 1 1 [.int .i64 i9_] h25 (h.length + 5) fun s27 h28 =>
(range h28 p3_.o p3_.n p3_.off 2 = range h23 p3_.o p3_.n p3_.off 2) ∧ (
 app s26 s27 1 h28 fun s29 h30 =>
(range h30 p3_.o p3_.n p3_.off 2 = range h23 p3_.o p3_.n p3_.off 2) ∧ (
 callS S i_spec_l05Rounds [.agg cs24, .sl s29, .int .i64 i2_] h30 fun s32 h31 =>
 app s8_ s32 1 h31 fun s33 h34 =>
 X0 (spec_l05Rounds_e0 s1_ i2_ p3_ i7_ s33 (w64 (i9_ + (1)))) h34)))
 else
 X0 (spec_l05Rounds_e0 s1_ i2_ p3_ i7_ s8_ (w64 (i9_ + (1)))) h))
 else
 spec_l05Rounds_C0 S K s8_ h)
theorem spec_l05Rounds_link0 (S : SatT) (K : AVal → H → Prop) (X0 : Frame → H → Prop) (s1_ : Sl) (i2_ : Int) (p3_ : Pt) (i7_ : Int) (s8_ : Sl) (i9_ : Int) (h : H) : spec_l05Rounds_w0 S K X0 (spec_l05Rounds_e0 s1_ i2_ p3_ i7_ s8_ i9_) h = spec_l05Rounds_b0 S K X0 s1_ i2_ p3_ i7_ s8_ i9_ h := by kernel_rfl
theorem spec_l05Rounds_rule0 (S : SatT) (K : AVal → H → Prop) (s1_ : Sl) (i2_ : Int) (p3_ : Pt) (i7_ : Int) (I_ : Sl → Int → H → Prop) (m_ : Sl → Int → H → Nat)
    (hs : ∀ (X0 : Frame → H → Prop) (s8_ : Sl) (i9_ : Int) (h : H), I_ s8_ i9_ h → (∀ (s8_' : Sl) (i9_' : Int) (h' : H), I_ s8_' i9_' h' → m_ s8_' i9_' h' < m_ s8_ i9_ h → X0 (spec_l05Rounds_e0 s1_ i2_ p3_ i7_ s8_' i9_') h') → spec_l05Rounds_b0 S K X0 s1_ i2_ p3_ i7_ s8_ i9_ h) (s8_ : Sl) (i9_ : Int) {h : H} (h0 : I_ s8_ i9_ h) : spec_l05Rounds_L0 S K s1_ i2_ p3_ i7_ s8_ i9_ h :=
  loop_rule (σ := (Sl) × (Int)) (fun s_ => spec_l05Rounds_e0 s1_ i2_ p3_ i7_ (s_.1) (s_.2)) (fun s_ h => I_ (s_.1) (s_.2) h) (fun s_ h => m_ (s_.1) (s_.2) h)
    (fun X s_ h hi hx => (spec_l05Rounds_link0 S K X s1_ i2_ p3_ i7_ (s_.1) (s_.2) h).mpr (hs X (s_.1) (s_.2) h hi fun s8_' i9_' h' hi' hm' => hx (s8_', i9_') h' hi' hm')) (s8_, i9_) h0
theorem spec_l05Rounds_unroll0 (S : SatT) (K : AVal → H → Prop) (s1_ : Sl) (i2_ : Int) (p3_ : Pt) (i7_ : Int) (s8_ : Sl) (i9_ : Int) (h : H) (hb : spec_l05Rounds_b0 S K (fun fr h => loopK (spec_l05Rounds_w0 S K) fr h) s1_ i2_ p3_ i7_ s8_ i9_ h) : spec_l05Rounds_L0 S K s1_ i2_ p3_ i7_ s8_ i9_ h := loop_unroll ((spec_l05Rounds_link0 S K _ s1_ i2_ p3_ i7_ s8_ i9_ h).mpr hb)
def spec_l05Rounds_main (S : SatT) (K : AVal → H → Prop) (x0 : List AVal) (x1 : Sl) (x2 : Int) (h : H) : Prop :=
 newK 2 x0 h fun p0 h1 =>
 bif ((x1.len : Int) == x2) then
 isPt p0 (
 ldS (Pt.add p0 1) h1 fun s2 =>
 ixS x1 1 (w64 ((x1.len : Int) - (1))) fun p3 =>
 ldI .i64 p3 h1 fun n4 =>
 ixS s2 4 n4 fun p5 =>
 ixA p5 4 1 (2) fun p6 =>
 ldI .i64 p6 h1 fun n7 =>
 isPt p0 (
 ldS (Pt.add p0 1) h1 fun s8 =>
 ixS x1 1 (0) fun p9 =>
 ldI .i64 p9 h1 fun n10 =>
 ixS s8 4 n10 fun p11 =>
 ixA p11 4 1 (0) fun p12 =>
 ldI .i64 p12 h1 fun n13 =>
 bif (n7 == n13) then
 newS 1 1 [.sl x1] h1 fun s14 h15 =>
 K (.sl s14) h15
 else
 newS 0 1 [] h1 fun s16 h17 =>
 K (.sl s16) h17))
 else
 newS 0 1 [] h1 fun s18 h19 =>
 spec_l05Rounds_L0 S K x1 x2 p0 (x1.len : Int) s18 (0) h19
theorem spec_l05Rounds_main_link (S : SatT) (K : AVal → H → Prop) (x0 : List AVal) (x1 : Sl) (x2 : Int) (h : H) : cwp S tab spec_l05Rounds_M [] (bodyOf Try.f52) (kFun tab Try.f52.results.toList K) (fr0 Try.f52 [.agg x0, .sl x1, .int .i64 x2]) h = spec_l05Rounds_main S K x0 x1 x2 h := by kernel_rfl
theorem spec_l05Rounds_call (x0 : List AVal) (x1 : Sl) (x2 : Int) (h : H) (K : Sl → H → Prop) (hm : spec_l05Rounds_main (Sat Try.prog) (fun v h' => ∃ r, v = .sl r ∧ K r h') x0 x1 x2 h) : callS (Sat Try.prog) i_spec_l05Rounds [.agg x0, .sl x1, .int .i64 x2] h K := by
  have := Sat.ex tok mixed spec_l05Rounds_M Try.func52 (c := bodyOf Try.f52) (by kernel_rfl) (calls_of Try.func52 (c := bodyOf Try.f52) (by kernel_rfl) (by decide)) ((spec_l05Rounds_main_link _ _ x0 x1 x2 h).mpr hm)
  obtain ⟨v, h2, h3, r, rfl, h4⟩ := this; exact ⟨r, h2, h3, h4⟩

/-! ### loop.example/g01354/impl.newStrip -/
def impl_newStrip_M : Nat → List Nat := fun i => bif i == 0 then [2, 3, 6, 12, 13] else []
def impl_newStrip_ks2 (S : SatT) (K : AVal → H → Prop) : Kont := kSeq (cwp S tab impl_newStrip_M [] (sub [1, 1, 1] (bodyOf Try.f46)) (kFun tab (Try.f46).results.toList K)) (kFun tab (Try.f46).results.toList K)
def impl_newStrip_e0 (p2_ : Pt) (p3_ : Pt) (p6_ : Pt) (i12_ : Int) (i13_ : Int) : Frame := [U, U, .ptr p2_, .ptr p3_, U, U, .ptr p6_, U, U, U, U, U, .int .i64 i12_, .int .i64 i13_, U, U, U, U, U, U, U, U, U, U, U, U, U, U, U, U, U, U, U, U, U]
def impl_newStrip_w0 (S : SatT) (K : AVal → H → Prop) : (Frame → H → Prop) → Frame → H → Prop := fun X fr h => cwp S tab impl_newStrip_M (impl_newStrip_M 0) (sub [1, 1, 0, 1, 0, 0] (bodyOf Try.f46)) (kSeq (fun fr h => X (mask (impl_newStrip_M 0) fr) h) (kBlk 0 (impl_newStrip_ks2 S K))) fr h
def impl_newStrip_L0 (S : SatT) (K : AVal → H → Prop) (p2_ : Pt) (p3_ : Pt) (p6_ : Pt) (i12_ : Int) (i13_ : Int) (h : H) : Prop := loopK (impl_newStrip_w0 S K) (impl_newStrip_e0 p2_ p3_ p6_ i12_ i13_) h
def impl_newStrip_C0 (S : SatT) (K : AVal → H → Prop) (p2_ : Pt) (p3_ : Pt) (p6_ : Pt) (h : H) : Prop :=
 ldP p6_ h fun p0 =>
 nilC (.ptr p0) (
 isPt p0 (
 ldI .i64 (Pt.add p0 3) h fun n1 =>
 bif (decide (n1 > (700))) then
 K (.tuple [.ptr Pt.nil, .bool false]) h
 else
 newO [.nilFunc] h fun p2 h3 =>
 st1 p2 (.func 58 [.ptr p6_, .ptr p2_, .ptr p3_, .ptr p2]) h3 fun h4 =>
 ldP p6_ h4 fun p5 =>
 ldV p2 h4 fun v6 =>
 ldI .i64 p3_ h4 fun n7 =>
 viaF v6 [.int .i64 (0), .int .i64 (0), .int .i64 (0), .int .i64 (0), .int .i64 n7] fun g8 ys9 =>
 callB S g8 ys9 h4 fun b11 h10 =>
(cell h10 p6_ = cell h4 p6_) ∧ (
 K (.tuple [.ptr p5, .bool b11]) h10)))
def impl_newStrip_b0 (S : SatT) (K : AVal → H → Prop) (X0 : Frame → H → Prop) (p2_ : Pt) (p3_ : Pt) (p6_ : Pt) (i12_ : Int) (i13_ : Int) (h : H) : Prop :=
 bif (decide (i13_ < i12_)) then
 ldP p6_ h fun p0 =>
 nilC (.ptr p0) (
 isPt p0 (
 ldI .i64 (Pt.add p0 3) h fun n1 =>
 isPt p2_ (
 ldI .i64 (Pt.add p2_ 0) h fun n2 =>
 nilC (.ptr p0) (
 isPt p0 (
 st1 (Pt.add p0 3) (.int .i64 (w64 (n1 * n2))) h fun h3 =>
 X0 (impl_newStrip_e0 p2_ p3_ p6_ i12_ (w64 (i13_ + (1)))) h3)))))
 else
 impl_newStrip_C0 S K p2_ p3_ p6_ h
theorem impl_newStrip_link0 (S : SatT) (K : AVal → H → Prop) (X0 : Frame → H → Prop) (p2_ : Pt) (p3_ : Pt) (p6_ : Pt) (i12_ : Int) (i13_ : Int) (h : H) : impl_newStrip_w0 S K X0 (impl_newStrip_e0 p2_ p3_ p6_ i12_ i13_) h = impl_newStrip_b0 S K X0 p2_ p3_ p6_ i12_ i13_ h := by kernel_rfl
theorem impl_newStrip_rule0 (S : SatT) (K : AVal → H → Prop) (p2_ : Pt) (p3_ : Pt) (p6_ : Pt) (i12_ : Int) (I_ : Int → H → Prop) (m_ : Int → H → Nat)
    (hs : ∀ (X0 : Frame → H → Prop) (i13_ : Int) (h : H), I_ i13_ h → (∀ (i13_' : Int) (h' : H), I_ i13_' h' → m_ i13_' h' < m_ i13_ h → X0 (impl_newStrip_e0 p2_ p3_ p6_ i12_ i13_') h') → impl_newStrip_b0 S K X0 p2_ p3_ p6_ i12_ i13_ h) (i13_ : Int) {h : H} (h0 : I_ i13_ h) : impl_newStrip_L0 S K p2_ p3_ p6_ i12_ i13_ h :=
  loop_rule (σ := (Int)) (fun s_ => impl_newStrip_e0 p2_ p3_ p6_ i12_ (s_)) (fun s_ h => I_ (s_) h) (fun s_ h => m_ (s_) h)
    (fun X s_ h hi hx => (impl_newStrip_link0 S K X p2_ p3_ p6_ i12_ (s_) h).mpr (hs X (s_) h hi fun i13_' h' hi' hm' => hx (i13_') h' hi' hm')) (i13_) h0
theorem impl_newStrip_unroll0 (S : SatT) (K : AVal → H → Prop) (p2_ : Pt) (p3_ : Pt) (p6_ : Pt) (i12_ : Int) (i13_ : Int) (h : H) (hb : impl_newStrip_b0 S K (fun fr h => loopK (impl_newStrip_w0 S K) fr h) p2_ p3_ p6_ i12_ i13_ h) : impl_newStrip_L0 S K p2_ p3_ p6_ i12_ i13_ h := loop_unroll ((impl_newStrip_link0 S K _ p2_ p3_ p6_ i12_ i13_ h).mpr hb)
def impl_newStrip_main (S : SatT) (K : AVal → H → Prop) (x0 : List AVal) (x1 : Int) (h : H) : Prop :=
 newK 2 x0 h fun p0 h1 =>
 newO [.int .i64 x1] h1 fun p2 h3 =>
 ldA p0 2 h3 fun cs4 =>
 ldI .i64 p2 h3 fun n5 =>
 lenA cs4 2 (
 newK 5 (spl (spl (spl [.int .i64 (0), .sl Sl.nil, .int .i64 (0), .int .i64 (0), .sl Sl.nil] 0 2 cs4) 2 1 [.int .i64 n5]) 3 1 [.int .i64 (1)]) h3 fun p6 h7 =>
 newO [.ptr Pt.nil] h7 fun p8 h9 =>
 st1 p8 (.ptr p6) h9 fun h10 =>
 ldI .i64 p2 h10 fun n11 =>
 impl_newStrip_L0 S K p0 p2 p8 n11 (0) h10)
theorem impl_newStrip_main_link (S : SatT) (K : AVal → H → Prop) (x0 : List AVal) (x1 : Int) (h : H) : cwp S tab impl_newStrip_M [] (bodyOf Try.f46) (kFun tab Try.f46.results.toList K) (fr0 Try.f46 [.agg x0, .int .i64 x1]) h = impl_newStrip_main S K x0 x1 h := by kernel_rfl
theorem impl_newStrip_call (x0 : List AVal) (x1 : Int) (h : H) (K : AVal → H → Prop) (hm : impl_newStrip_main (Sat Try.prog) (fun v h' => K v h') x0 x1 h) : callV (Sat Try.prog) i_impl_newStrip [.agg x0, .int .i64 x1] h K := by
  have := Sat.ex tok mixed impl_newStrip_M Try.func46 (c := bodyOf Try.f46) (by kernel_rfl) (calls_of Try.func46 (c := bodyOf Try.f46) (by kernel_rfl) (by decide)) ((impl_newStrip_main_link _ _ x0 x1 h).mpr hm)
  exact this

/-! ### slices.Repeat[[]int64,int64] -/
def slices_Repeat_s_int64_int64__M : Nat → List Nat := fun i => bif i == 0 then [7, 8] else []
def slices_Repeat_s_int64_int64__ks8 (S : SatT) (K : AVal → H → Prop) : Kont := kSeq (cwp S tab slices_Repeat_s_int64_int64__M [] (sub [1, 1, 1, 1, 1, 1, 1] (bodyOf Try.f47)) (kFun tab (Try.f47).results.toList K)) (kFun tab (Try.f47).results.toList K)
def slices_Repeat_s_int64_int64__e0 (s7_ : Sl) (i8_ : Int) : Frame := [U, U, U, U, U, U, U, .sl s7_, .int .i64 i8_, U, U, U, U, U, U, U, U, U, U, U, U, U, U, U, U, U, U, U, U, U, U, U, U, U, U, U, U, U, U, U, U, U, U, U, U, U, U, U]
def slices_Repeat_s_int64_int64__w0 (S : SatT) (K : AVal → H → Prop) : (Frame → H → Prop) → Frame → H → Prop := fun X fr h => cwp S tab slices_Repeat_s_int64_int64__M (slices_Repeat_s_int64_int64__M 0) (sub [1, 1, 1, 1, 1, 1, 0, 0, 0] (bodyOf Try.f47)) (kSeq (fun fr h => X (mask (slices_Repeat_s_int64_int64__M 0) fr) h) (kBlk 0 (slices_Repeat_s_int64_int64__ks8 S K))) fr h
def slices_Repeat_s_int64_int64__L0 (S : SatT) (K : AVal → H → Prop) (s7_ : Sl) (i8_ : Int) (h : H) : Prop := loopK (slices_Repeat_s_int64_int64__w0 S K) (slices_Repeat_s_int64_int64__e0 s7_ i8_) h
def slices_Repeat_s_int64_int64__C0 (S : SatT) (K : AVal → H → Prop) (s7_ : Sl) (h : H) : Prop :=
 K (.sl s7_) h
def slices_Repeat_s_int64_int64__b0 (S : SatT) (K : AVal → H → Prop) (X0 : Frame → H → Prop) (s7_ : Sl) (i8_ : Int) (h : H) : Prop :=
 bif (decide (i8_ < (s7_.len : Int))) then
 cut s7_ 1 i8_ (s7_.len : Int) h fun s0 =>
 cut s7_ 1 (0) i8_ h fun s1 =>
 copyS s0 s1 1 h fun n2 h3 =>
 X0 (slices_Repeat_s_int64_int64__e0 s7_ (w64 (i8_ + n2))) h3
 else
 slices_Repeat_s_int64_int64__C0 S K s7_ h
theorem slices_Repeat_s_int64_int64__link0 (S : SatT) (K : AVal → H → Prop) (X0 : Frame → H → Prop) (s7_ : Sl) (i8_ : Int) (h : H) : slices_Repeat_s_int64_int64__w0 S K X0 (slices_Repeat_s_int64_int64__e0 s7_ i8_) h = slices_Repeat_s_int64_int64__b0 S K X0 s7_ i8_ h := by kernel_rfl
theorem slices_Repeat_s_int64_int64__rule0 (S : SatT) (K : AVal → H → Prop) (s7_ : Sl) (I_ : Int → H → Prop) (m_ : Int → H → Nat)
    (hs : ∀ (X0 : Frame → H → Prop) (i8_ : Int) (h : H), I_ i8_ h → (∀ (i8_' : Int) (h' : H), I_ i8_' h' → m_ i8_' h' < m_ i8_ h → X0 (slices_Repeat_s_int64_int64__e0 s7_ i8_') h') → slices_Repeat_s_int64_int64__b0 S K X0 s7_ i8_ h) (i8_ : Int) {h : H} (h0 : I_ i8_ h) : slices_Repeat_s_int64_int64__L0 S K s7_ i8_ h :=
  loop_rule (σ := (Int)) (fun s_ => slices_Repeat_s_int64_int64__e0 s7_ (s_)) (fun s_ h => I_ (s_) h) (fun s_ h => m_ (s_) h)
    (fun X s_ h hi hx => (slices_Repeat_s_int64_int64__link0 S K X s7_ (s_) h).mpr (hs X (s_) h hi fun i8_' h' hi' hm' => hx (i8_') h' hi' hm')) (i8_) h0
theorem slices_Repeat_s_int64_int64__unroll0 (S : SatT) (K : AVal → H → Prop) (s7_ : Sl) (i8_ : Int) (h : H) (hb : slices_Repeat_s_int64_int64__b0 S K (fun fr h => loopK (slices_Repeat_s_int64_int64__w0 S K) fr h) s7_ i8_ h) : slices_Repeat_s_int64_int64__L0 S K s7_ i8_ h := loop_unroll ((slices_Repeat_s_int64_int64__link0 S K _ s7_ i8_ h).mpr hb)
def slices_Repeat_s_int64_int64__main (S : SatT) (K : AVal → H → Prop) (x0 : Sl) (x1 : Int) (h : H) : Prop :=
 bif (decide (x1 < (0))) then
 False
 else
 callV S i_math_bits_Mul [.int .u64 (IntKind.wrap .u64 ((x0.len : Int))), .int .u64 (IntKind.wrap .u64 (x1))] h fun v1 h0 =>
 viaT v1 fun vs2 =>
 exI .u64 vs2 0 fun n3 =>
 viaT v1 fun vs4 =>
 exI .u64 vs4 1 fun n5 =>
 bif (decide (n3 > (0))) then
 False
 else
 bif (decide (n5 > (9223372036854775807))) then
 False
 else
 mkS (w64 (n5)) [.int .i64 (0)] h0 fun s6 h7 =>
 copyS s6 x0 1 h7 fun n8 h9 =>
 slices_Repeat_s_int64_int64__L0 S K s6 n8 h9
theorem slices_Repeat_s_int64_int64__main_link (S : SatT) (K : AVal → H → Prop) (x0 : Sl) (x1 : Int) (h : H) : cwp S tab slices_Repeat_s_int64_int64__M [] (bodyOf Try.f47) (kFun tab Try.f47.results.toList K) (fr0 Try.f47 [.sl x0, .int .i64 x1]) h = slices_Repeat_s_int64_int64__main S K x0 x1 h := by kernel_rfl
theorem slices_Repeat_s_int64_int64__call (x0 : Sl) (x1 : Int) (h : H) (K : Sl → H → Prop) (hm : slices_Repeat_s_int64_int64__main (Sat Try.prog) (fun v h' => ∃ r, v = .sl r ∧ K r h') x0 x1 h) : callS (Sat Try.prog) i_slices_Repeat_s_int64_int64_ [.sl x0, .int .i64 x1] h K := by
  have := Sat.ex tok mixed slices_Repeat_s_int64_int64__M Try.func47 (c := bodyOf Try.f47) (by kernel_rfl) (calls_of Try.func47 (c := bodyOf Try.f47) (by kernel_rfl) (by decide)) ((slices_Repeat_s_int64_int64__main_link _ _ x0 x1 h).mpr hm)
  obtain ⟨v, h2, h3, r, rfl, h4⟩ := this; exact ⟨r, h2, h3, h4⟩

/-! ### loop.example/g01354/spec.l05Side -/
def spec_l05Side_M : Nat → List Nat := fun i => bif i == 0 then [1, 2, 3, 7, 8] else []
def spec_l05Side_ks2 (S : SatT) (K : AVal → H → Prop) : Kont := kSeq (cwp S tab spec_l05Side_M [] (sub [1, 1, 1] (bodyOf Try.f53)) (kFun tab (Try.f53).results.toList K)) (kFun tab (Try.f53).results.toList K)
def spec_l05Side_e0 (s1_ : Sl) (i2_ : Int) (p3_ : Pt) (i7_ : Int) (i8_ : Int) : Frame := [U, .sl s1_, .int .i64 i2_, .ptr p3_, U, U, U, .int .i64 i7_, .int .i64 i8_, U, U, U, U, U, U, U, U, U, U, U, U, U, U, U, U, U, U, U, U, U, U]
def spec_l05Side_w0 (S : SatT) (K : AVal → H → Prop) : (Frame → H → Prop) → Frame → H → Prop := fun X fr h => cwp S tab spec_l05Side_M (spec_l05Side_M 0) (sub [1, 1, 0, 1, 0, 0] (bodyOf Try.f53)) (kSeq (fun fr h => X (mask (spec_l05Side_M 0) fr) h) (kBlk 0 (spec_l05Side_ks2 S K))) fr h
def spec_l05Side_L0 (S : SatT) (K : AVal → H → Prop) (s1_ : Sl) (i2_ : Int) (p3_ : Pt) (i7_ : Int) (i8_ : Int) (h : H) : Prop := loopK (spec_l05Side_w0 S K) (spec_l05Side_e0 s1_ i2_ p3_ i7_ i8_) h
def spec_l05Side_C0 (S : SatT) (K : AVal → H → Prop) (i7_ : Int) (h : H) : Prop :=
 K (.int .i64 i7_) h
def spec_l05Side_b0 (S : SatT) (K : AVal → H → Prop) (X0 : Frame → H → Prop) (s1_ : Sl) (i2_ : Int) (p3_ : Pt) (i7_ : Int) (i8_ : Int) (h : H) : Prop :=
 bif (decide (i8_ < (s1_.len : Int))) then
 isPt p3_ (
 ldI .i64 (Pt.add p3_ 0) h fun n0 =>
 isPt p3_ (
 ldS (Pt.add p3_ 1) h fun s1 =>
 ixS s1_ 1 i8_ fun p2 =>
 ldI .i64 p2 h fun n3 =>
 ixS s1 4 n3 fun p4 =>
 ixA p4 4 1 i2_ fun p5 =>
 ldI .i64 p5 h fun n6 =>
 X0 (spec_l05Side_e0 s1_ i2_ p3_ (w64 ((w64 (i7_ * n0)) + n6)) (w64 (i8_ + (1)))) h))
 else
 spec_l05Side_C0 S K i7_ h
theorem spec_l05Side_link0 (S : SatT) (K : AVal → H → Prop) (X0 : Frame → H → Prop) (s1_ : Sl) (i2_ : Int) (p3_ : Pt) (i7_ : Int) (i8_ : Int) (h : H) : spec_l05Side_w0 S K X0 (spec_l05Side_e0 s1_ i2_ p3_ i7_ i8_) h = spec_l05Side_b0 S K X0 s1_ i2_ p3_ i7_ i8_ h := by kernel_rfl
theorem spec_l05Side_rule0 (S : SatT) (K : AVal → H → Prop) (s1_ : Sl) (i2_ : Int) (p3_ : Pt) (I_ : Int → Int → H → Prop) (m_ : Int → Int → H → Nat)
    (hs : ∀ (X0 : Frame → H → Prop) (i7_ : Int) (i8_ : Int) (h : H), I_ i7_ i8_ h → (∀ (i7_' : Int) (i8_' : Int) (h' : H), I_ i7_' i8_' h' → m_ i7_' i8_' h' < m_ i7_ i8_ h → X0 (spec_l05Side_e0 s1_ i2_ p3_ i7_' i8_') h') → spec_l05Side_b0 S K X0 s1_ i2_ p3_ i7_ i8_ h) (i7_ : Int) (i8_ : Int) {h : H} (h0 : I_ i7_ i8_ h) : spec_l05Side_L0 S K s1_ i2_ p3_ i7_ i8_ h :=
  loop_rule (σ := (Int) × (Int)) (fun s_ => spec_l05Side_e0 s1_ i2_ p3_ (s_.1) (s_.2)) (fun s_ h => I_ (s_.1) (s_.2) h) (fun s_ h => m_ (s_.1) (s_.2) h)
    (fun X s_ h hi hx => (spec_l05Side_link0 S K X s1_ i2_ p3_ (s_.1) (s_.2) h).mpr (hs X (s_.1) (s_.2) h hi fun i7_' i8_' h' hi' hm' => hx (i7_', i8_') h' hi' hm')) (i7_, i8_) h0
theorem spec_l05Side_unroll0 (S : SatT) (K : AVal → H → Prop) (s1_ : Sl) (i2_ : Int) (p3_ : Pt) (i7_ : Int) (i8_ : Int) (h : H) (hb : spec_l05Side_b0 S K (fun fr h => loopK (spec_l05Side_w0 S K) fr h) s1_ i2_ p3_ i7_ i8_ h) : spec_l05Side_L0 S K s1_ i2_ p3_ i7_ i8_ h := loop_unroll ((spec_l05Side_link0 S K _ s1_ i2_ p3_ i7_ i8_ h).mpr hb)
def spec_l05Side_main (S : SatT) (K : AVal → H → Prop) (x0 : List AVal) (x1 : Sl) (x2 : Int) (h : H) : Prop :=
 newK 2 x0 h fun p0 h1 =>
 spec_l05Side_L0 S K x1 x2 p0 (0) (0) h1
theorem spec_l05Side_main_link (S : SatT) (K : AVal → H → Prop) (x0 : List AVal) (x1 : Sl) (x2 : Int) (h : H) : cwp S tab spec_l05Side_M [] (bodyOf Try.f53) (kFun tab Try.f53.results.toList K) (fr0 Try.f53 [.agg x0, .sl x1, .int .i64 x2]) h = spec_l05Side_main S K x0 x1 x2 h := by kernel_rfl
theorem spec_l05Side_call (x0 : List AVal) (x1 : Sl) (x2 : Int) (h : H) (K : Int → H → Prop) (hm : spec_l05Side_main (Sat Try.prog) (fun v h' => ∃ r, v = .int .i64 r ∧ K r h') x0 x1 x2 h) : callI (Sat Try.prog) .i64 i_spec_l05Side [.agg x0, .sl x1, .int .i64 x2] h K := by
  have := Sat.ex tok mixed spec_l05Side_M Try.func53 (c := bodyOf Try.f53) (by kernel_rfl) (calls_of Try.func53 (c := bodyOf Try.f53) (by kernel_rfl) (by decide)) ((spec_l05Side_main_link _ _ x0 x1 x2 h).mpr hm)
  obtain ⟨v, h2, h3, r, rfl, h4⟩ := this; exact ⟨r, h2, h3, h4⟩

/-! ### loop.example/g01354/spec.l01Before -/
def spec_l01Before_M : Nat → List Nat := fun i => bif i == 0 then [2, 3, 5] else []
def spec_l01Before_ks1 (S : SatT) (K : AVal → H → Prop) : Kont := kSeq (cwp S tab spec_l01Before_M [] (sub [1, 1] (bodyOf Try.f57)) (kFun tab (Try.f57).results.toList K)) (kFun tab (Try.f57).results.toList K)
def spec_l01Before_e0 (p2_ : Pt) (p3_ : Pt) (i5_ : Int) : Frame := [U, U, .ptr p2_, .ptr p3_, U, .int .i64 i5_, U, U, U, U, U, U, U, U, U, U, U, U, U, U, U, U, U, U]
def spec_l01Before_w0 (S : SatT) (K : AVal → H → Prop) : (Frame → H → Prop) → Frame → H → Prop := fun X fr h => cwp S tab spec_l01Before_M (spec_l01Before_M 0) (sub [1, 0, 1, 0, 0] (bodyOf Try.f57)) (kSeq (fun fr h => X (mask (spec_l01Before_M 0) fr) h) (kBlk 0 (spec_l01Before_ks1 S K))) fr h
def spec_l01Before_L0 (S : SatT) (K : AVal → H → Prop) (p2_ : Pt) (p3_ : Pt) (i5_ : Int) (h : H) : Prop := loopK (spec_l01Before_w0 S K) (spec_l01Before_e0 p2_ p3_ i5_) h
def spec_l01Before_C0 (S : SatT) (K : AVal → H → Prop) (h : H) : Prop :=
 K (.bool false) h
def spec_l01Before_b0 (S : SatT) (K : AVal → H → Prop) (X0 : Frame → H → Prop) (p2_ : Pt) (p3_ : Pt) (i5_ : Int) (h : H) : Prop :=
 bif (decide (i5_ < (4))) then
 ixA p2_ 4 1 i5_ fun p0 =>
 ldI .i64 p0 h fun n1 =>
 ixA p3_ 4 1 i5_ fun p2 =>
 ldI .i64 p2 h fun n3 =>
 bif (n1 != n3) then
 ixA p2_ 4 1 i5_ fun p4 =>
 ldI .i64 p4 h fun n5 =>
 ixA p3_ 4 1 i5_ fun p6 =>
 ldI .i64 p6 h fun n7 =>
 K (.bool (decide (n5 < n7))) h
 else
 X0 (spec_l01Before_e0 p2_ p3_ (w64 (i5_ + (1)))) h
 else
 spec_l01Before_C0 S K h
theorem spec_l01Before_link0 (S : SatT) (K : AVal → H → Prop) (X0 : Frame → H → Prop) (p2_ : Pt) (p3_ : Pt) (i5_ : Int) (h : H) : spec_l01Before_w0 S K X0 (spec_l01Before_e0 p2_ p3_ i5_) h = spec_l01Before_b0 S K X0 p2_ p3_ i5_ h := by kernel_rfl
theorem spec_l01Before_rule0 (S : SatT) (K : AVal → H → Prop) (p2_ : Pt) (p3_ : Pt) (I_ : Int → H → Prop) (m_ : Int → H → Nat)
    (hs : ∀ (X0 : Frame → H → Prop) (i5_ : Int) (h : H), I_ i5_ h → (∀ (i5_' : Int) (h' : H), I_ i5_' h' → m_ i5_' h' < m_ i5_ h → X0 (spec_l01Before_e0 p2_ p3_ i5_') h') → spec_l01Before_b0 S K X0 p2_ p3_ i5_ h) (i5_ : Int) {h : H} (h0 : I_ i5_ h) : spec_l01Before_L0 S K p2_ p3_ i5_ h :=
  loop_rule (σ := (Int)) (fun s_ => spec_l01Before_e0 p2_ p3_ (s_)) (fun s_ h => I_ (s_) h) (fun s_ h => m_ (s_) h)
    (fun X s_ h hi hx => (spec_l01Before_link0 S K X p2_ p3_ (s_) h).mpr (hs X (s_) h hi fun i5_' h' hi' hm' => hx (i5_') h' hi' hm')) (i5_) h0
theorem spec_l01Before_unroll0 (S : SatT) (K : AVal → H → Prop) (p2_ : Pt) (p3_ : Pt) (i5_ : Int) (h : H) (hb : spec_l01Before_b0 S K (fun fr h => loopK (spec_l01Before_w0 S K) fr h) p2_ p3_ i5_ h) : spec_l01Before_L0 S K p2_ p3_ i5_ h := loop_unroll ((spec_l01Before_link0 S K _ p2_ p3_ i5_ h).mpr hb)
def spec_l01Before_main (S : SatT) (K : AVal → H → Prop) (x0 : List AVal) (x1 : List AVal) (h : H) : Prop :=
 newK 4 x0 h fun p0 h1 =>
 newK 4 x1 h1 fun p2 h3 =>
 spec_l01Before_L0 S K p0 p2 (0) h3
theorem spec_l01Before_main_link (S : SatT) (K : AVal → H → Prop) (x0 : List AVal) (x1 : List AVal) (h : H) : cwp S tab spec_l01Before_M [] (bodyOf Try.f57) (kFun tab Try.f57.results.toList K) (fr0 Try.f57 [.agg x0, .agg x1]) h = spec_l01Before_main S K x0 x1 h := by kernel_rfl
theorem spec_l01Before_call (x0 : List AVal) (x1 : List AVal) (h : H) (K : Bool → H → Prop) (hm : spec_l01Before_main (Sat Try.prog) (fun v h' => ∃ r, v = .bool r ∧ K r h') x0 x1 h) : callB (Sat Try.prog) i_spec_l01Before [.agg x0, .agg x1] h K := by
  have := Sat.ex tok mixed spec_l01Before_M Try.func57 (c := bodyOf Try.f57) (by kernel_rfl) (calls_of Try.func57 (c := bodyOf Try.f57) (by kernel_rfl) (by decide)) ((spec_l01Before_main_link _ _ x0 x1 h).mpr hm)
  obtain ⟨v, h2, h3, r, rfl, h4⟩ := this; exact ⟨r, h2, h3, h4⟩

/-! ### loop.example/g01354/laws.eqTileS -/
def laws_eqTileS_M : Nat → List Nat := fun i => bif i == 0 then [0, 1, 5] else []
def laws_eqTileS_ks4 (S : SatT) (K : AVal → H → Prop) : Kont := kSeq (cwp S tab laws_eqTileS_M [] (sub [1, 1, 1] (bodyOf Try.f28)) (kFun tab (Try.f28).results.toList K)) (kFun tab (Try.f28).results.toList K)
def laws_eqTileS_e0 (s0_ : Sl) (s1_ : Sl) (i5_ : Int) : Frame := [.sl s0_, .sl s1_, U, U, U, .int .i64 i5_, U, U, U, U, U, U, U, U, U, U, U, U, U, U, U, U, U, U, U, U, U]
def laws_eqTileS_w0 (S : SatT) (K : AVal → H → Prop) : (Frame → H → Prop) → Frame → H → Prop := fun X fr h => cwp S tab laws_eqTileS_M (laws_eqTileS_M 0) (sub [1, 1, 0, 1, 0, 0] (bodyOf Try.f28)) (kSeq (fun fr h => X (mask (laws_eqTileS_M 0) fr) h) (kBlk 0 (laws_eqTileS_ks4 S K))) fr h
def laws_eqTileS_L0 (S : SatT) (K : AVal → H → Prop) (s0_ : Sl) (s1_ : Sl) (i5_ : Int) (h : H) : Prop := loopK (laws_eqTileS_w0 S K) (laws_eqTileS_e0 s0_ s1_ i5_) h
def laws_eqTileS_C0 (S : SatT) (K : AVal → H → Prop) (h : H) : Prop :=
 K (.bool true) h
def laws_eqTileS_b0 (S : SatT) (K : AVal → H → Prop) (X0 : Frame → H → Prop) (s0_ : Sl) (s1_ : Sl) (i5_ : Int) (h : H) : Prop :=
 bif (decide (i5_ < (s0_.len : Int))) then
 ixS s0_ 4 i5_ fun p0 =>
 ldA p0 4 h fun cs1 =>
 ixS s1_ 4 i5_ fun p2 =>
 ldA p2 4 h fun cs3 =>
 callB S i_laws_eqTile [.agg cs1, .agg cs3] h fun b5 h4 =>
 bif (!b5) then
 K (.bool false) h4
 else
 X0 (laws_eqTileS_e0 s0_ s1_ (w64 (i5_ + (1)))) h4
 else
 laws_eqTileS_C0 S K h
theorem laws_eqTileS_link0 (S : SatT) (K : AVal → H → Prop) (X0 : Frame → H → Prop) (s0_ : Sl) (s1_ : Sl) (i5_ : Int) (h : H) : laws_eqTileS_w0 S K X0 (laws_eqTileS_e0 s0_ s1_ i5_) h = laws_eqTileS_b0 S K X0 s0_ s1_ i5_ h := by kernel_rfl
theorem laws_eqTileS_rule0 (S : SatT) (K : AVal → H → Prop) (s0_ : Sl) (s1_ : Sl) (I_ : Int → H → Prop) (m_ : Int → H → Nat)
    (hs : ∀ (X0 : Frame → H → Prop) (i5_ : Int) (h : H), I_ i5_ h → (∀ (i5_' : Int) (h' : H), I_ i5_' h' → m_ i5_' h' < m_ i5_ h → X0 (laws_eqTileS_e0 s0_ s1_ i5_') h') → laws_eqTileS_b0 S K X0 s0_ s1_ i5_ h) (i5_ : Int) {h : H} (h0 : I_ i5_ h) : laws_eqTileS_L0 S K s0_ s1_ i5_ h :=
  loop_rule (σ := (Int)) (fun s_ => laws_eqTileS_e0 s0_ s1_ (s_)) (fun s_ h => I_ (s_) h) (fun s_ h => m_ (s_) h)
    (fun X s_ h hi hx => (laws_eqTileS_link0 S K X s0_ s1_ (s_) h).mpr (hs X (s_) h hi fun i5_' h' hi' hm' => hx (i5_') h' hi' hm')) (i5_) h0
theorem laws_eqTileS_unroll0 (S : SatT) (K : AVal → H → Prop) (s0_ : Sl) (s1_ : Sl) (i5_ : Int) (h : H) (hb : laws_eqTileS_b0 S K (fun fr h => loopK (laws_eqTileS_w0 S K) fr h) s0_ s1_ i5_ h) : laws_eqTileS_L0 S K s0_ s1_ i5_ h := loop_unroll ((laws_eqTileS_link0 S K _ s0_ s1_ i5_ h).mpr hb)
def laws_eqTileS_main (S : SatT) (K : AVal → H → Prop) (x0 : Sl) (x1 : Sl) (h : H) : Prop :=
 bif ((x0.len : Int) != (x1.len : Int)) then
 K (.bool false) h
 else
 laws_eqTileS_L0 S K x0 x1 (0) h
theorem laws_eqTileS_main_link (S : SatT) (K : AVal → H → Prop) (x0 : Sl) (x1 : Sl) (h : H) : cwp S tab laws_eqTileS_M [] (bodyOf Try.f28) (kFun tab Try.f28.results.toList K) (fr0 Try.f28 [.sl x0, .sl x1]) h = laws_eqTileS_main S K x0 x1 h := by kernel_rfl
theorem laws_eqTileS_call (x0 : Sl) (x1 : Sl) (h : H) (K : Bool → H → Prop) (hm : laws_eqTileS_main (Sat Try.prog) (fun v h' => ∃ r, v = .bool r ∧ K r h') x0 x1 h) : callB (Sat Try.prog) i_laws_eqTileS [.sl x0, .sl x1] h K := by
  have := Sat.ex tok mixed laws_eqTileS_M Try.func28 (c := bodyOf Try.f28) (by kernel_rfl) (calls_of Try.func28 (c := bodyOf Try.f28) (by kernel_rfl) (by decide)) ((laws_eqTileS_main_link _ _ x0 x1 h).mpr hm)
  obtain ⟨v, h2, h3, r, rfl, h4⟩ := this; exact ⟨r, h2, h3, h4⟩

/-! ### loop.example/g01354/spec.l03Power -/
def spec_l03Power_M : Nat → List Nat := fun i => bif i == 0 then [0, 1, 5] else []
def spec_l03Power_ks2 (S : SatT) (K : AVal → H → Prop) : Kont := kSeq (cwp S tab spec_l03Power_M [] (sub [1, 1, 1] (bodyOf Try.f33)) (kFun tab (Try.f33).results.toList K)) (kFun tab (Try.f33).results.toList K)
def spec_l03Power_e0 (i0_ : Int) (i1_ : Int) (i5_ : Int) : Frame := [.int .i64 i0_, .int .i64 i1_, U, U, U, .int .i64 i5_, U, U, U, U, U, U, U, U]
def spec_l03Power_w0 (S : SatT) (K : AVal → H → Prop) : (Frame → H → Prop) → Frame → H → Prop := fun X fr h => cwp S tab spec_l03Power_M (spec_l03Power_M 0) (sub [1, 1, 0, 0, 0] (bodyOf Try.f33)) (kSeq (fun fr h => X (mask (spec_l03Power_M 0) fr) h) (kBlk 0 (spec_l03Power_ks2 S K))) fr h
def spec_l03Power_L0 (S : SatT) (K : AVal → H → Prop) (i0_ : Int) (i1_ : Int) (i5_ : Int) (h : H) : Prop := loopK (spec_l03Power_w0 S K) (spec_l03Power_e0 i0_ i1_ i5_) h
def spec_l03Power_C0 (S : SatT) (K : AVal → H → Prop) (i5_ : Int) (h : H) : Prop :=
 K (.int .i64 i5_) h
def spec_l03Power_b0 (S : SatT) (K : AVal → H → Prop) (X0 : Frame → H → Prop) (i0_ : Int) (i1_ : Int) (i5_ : Int) (h : H) : Prop :=
 bif (decide (i1_ > (0))) then
 X0 (spec_l03Power_e0 i0_ (w64 (i1_ - (1))) (w64 (i5_ * i0_))) h
 else
 spec_l03Power_C0 S K i5_ h
theorem spec_l03Power_link0 (S : SatT) (K : AVal → H → Prop) (X0 : Frame → H → Prop) (i0_ : Int) (i1_ : Int) (i5_ : Int) (h : H) : spec_l03Power_w0 S K X0 (spec_l03Power_e0 i0_ i1_ i5_) h = spec_l03Power_b0 S K X0 i0_ i1_ i5_ h := by kernel_rfl
theorem spec_l03Power_rule0 (S : SatT) (K : AVal → H → Prop) (i0_ : Int) (I_ : Int → Int → H → Prop) (m_ : Int → Int → H → Nat)
    (hs : ∀ (X0 : Frame → H → Prop) (i1_ : Int) (i5_ : Int) (h : H), I_ i1_ i5_ h → (∀ (i1_' : Int) (i5_' : Int) (h' : H), I_ i1_' i5_' h' → m_ i1_' i5_' h' < m_ i1_ i5_ h → X0 (spec_l03Power_e0 i0_ i1_' i5_') h') → spec_l03Power_b0 S K X0 i0_ i1_ i5_ h) (i1_ : Int) (i5_ : Int) {h : H} (h0 : I_ i1_ i5_ h) : spec_l03Power_L0 S K i0_ i1_ i5_ h :=
  loop_rule (σ := (Int) × (Int)) (fun s_ => spec_l03Power_e0 i0_ (s_.1) (s_.2)) (fun s_ h => I_ (s_.1) (s_.2) h) (fun s_ h => m_ (s_.1) (s_.2) h)
    (fun X s_ h hi hx => (spec_l03Power_link0 S K X i0_ (s_.1) (s_.2) h).mpr (hs X (s_.1) (s_.2) h hi fun i1_' i5_' h' hi' hm' => hx (i1_', i5_') h' hi' hm')) (i1_, i5_) h0
theorem spec_l03Power_unroll0 (S : SatT) (K : AVal → H → Prop) (i0_ : Int) (i1_ : Int) (i5_ : Int) (h : H) (hb : spec_l03Power_b0 S K (fun fr h => loopK (spec_l03Power_w0 S K) fr h) i0_ i1_ i5_ h) : spec_l03Power_L0 S K i0_ i1_ i5_ h := loop_unroll ((spec_l03Power_link0 S K _ i0_ i1_ i5_ h).mpr hb)
def spec_l03Power_main (S : SatT) (K : AVal → H → Prop) (x0 : Int) (x1 : Int) (h : H) : Prop :=
 spec_l03Power_L0 S K x0 x1 (1) h
theorem spec_l03Power_main_link (S : SatT) (K : AVal → H → Prop) (x0 : Int) (x1 : Int) (h : H) : cwp S tab spec_l03Power_M [] (bodyOf Try.f33) (kFun tab Try.f33.results.toList K) (fr0 Try.f33 [.int .i64 x0, .int .i64 x1]) h = spec_l03Power_main S K x0 x1 h := by kernel_rfl
theorem spec_l03Power_call (x0 : Int) (x1 : Int) (h : H) (K : Int → H → Prop) (hm : spec_l03Power_main (Sat Try.prog) (fun v h' => ∃ r, v = .int .i64 r ∧ K r h') x0 x1 h) : callI (Sat Try.prog) .i64 i_spec_l03Power [.int .i64 x0, .int .i64 x1] h K := by
  have := Sat.ex tok mixed spec_l03Power_M Try.func33 (c := bodyOf Try.f33) (by kernel_rfl) (calls_of Try.func33 (c := bodyOf Try.f33) (by kernel_rfl) (by decide)) ((spec_l03Power_main_link _ _ x0 x1 h).mpr hm)
  obtain ⟨v, h2, h3, r, rfl, h4⟩ := this; exact ⟨r, h2, h3, h4⟩

/-! ### cmp.Compare[int64] -/
def cmp_Compare_int64__M : Nat → List Nat := fun i => []
def cmp_Compare_int64__main (S : SatT) (K : AVal → H → Prop) (x0 : Int) (x1 : Int) (h : H) : Prop :=
 callB S i_cmp_isNaN_int64_ [.int .i64 x0] h fun b1 h0 =>
 callB S i_cmp_isNaN_int64_ [.int .i64 x1] h0 fun b3 h2 =>
 bif b1 then
 bif b3 then
 K (.int .i64 (0)) h2
 else
 K (.int .i64 (-1)) h2
 else
 bif b3 then
 K (.int .i64 (1)) h2
 else
 bif (decide (x0 < x1)) then
 K (.int .i64 (-1)) h2
 else
 bif (decide (x0 > x1)) then
 K (.int .i64 (1)) h2
 else
 K (.int .i64 (0)) h2
theorem cmp_Compare_int64__main_link (S : SatT) (K : AVal → H → Prop) (x0 : Int) (x1 : Int) (h : H) : cwp S tab cmp_Compare_int64__M [] (bodyOf Try.f68) (kFun tab Try.f68.results.toList K) (fr0 Try.f68 [.int .i64 x0, .int .i64 x1]) h = cmp_Compare_int64__main S K x0 x1 h := by kernel_rfl
theorem cmp_Compare_int64__call (x0 : Int) (x1 : Int) (h : H) (K : Int → H → Prop) (hm : cmp_Compare_int64__main (Sat Try.prog) (fun v h' => ∃ r, v = .int .i64 r ∧ K r h') x0 x1 h) : callI (Sat Try.prog) .i64 i_cmp_Compare_int64_ [.int .i64 x0, .int .i64 x1] h K := by
  have := Sat.ex tok mixed cmp_Compare_int64__M Try.func68 (c := bodyOf Try.f68) (by kernel_rfl) (calls_of Try.func68 (c := bodyOf Try.f68) (by kernel_rfl) (by decide)) ((cmp_Compare_int64__main_link _ _ x0 x1 h).mpr hm)
  obtain ⟨v, h2, h3, r, rfl, h4⟩ := this; exact ⟨r, h2, h3, h4⟩

/-! ### loop.example/g01354/impl.CountCylinders$1 -/
def impl_CountCylinders_1_M : Nat → List Nat := fun i => []
def impl_CountCylinders_1_main (S : SatT) (K : AVal → H → Prop) (x0 : Pt) (x1 : Pt) (h : H) : Prop :=
 ldI .i64 x0 h fun n0 =>
 callB S i_impl_within [.int .i64 n0, .int .i64 (1), .int .i64 (5)] h fun b2 h1 =>
 bif b2 then
 ldI .i64 x1 h1 fun n3 =>
 callB S i_impl_within [.int .i64 n3, .int .i64 (1), .int .i64 (3)] h1 fun b5 h4 =>
 K (.bool b5) h4
 else
 K (.bool false) h1
theorem impl_CountCylinders_1_main_link (S : SatT) (K : AVal → H → Prop) (x0 : Pt) (x1 : Pt) (h : H) : cwp S tab impl_CountCylinders_1_M [] (bodyOf Try.f35) (kFun tab Try.f35.results.toList K) (fr0 Try.f35 [.ptr x0, .ptr x1]) h = impl_CountCylinders_1_main S K x0 x1 h := by kernel_rfl
theorem impl_CountCylinders_1_call (x0 : Pt) (x1 : Pt) (h : H) (K : Bool → H → Prop) (hm : impl_CountCylinders_1_main (Sat Try.prog) (fun v h' => ∃ r, v = .bool r ∧ K r h') x0 x1 h) : callB (Sat Try.prog) i_impl_CountCylinders_1 [.ptr x0, .ptr x1] h K := by
  have := Sat.ex tok mixed impl_CountCylinders_1_M Try.func35 (c := bodyOf Try.f35) (by kernel_rfl) (calls_of Try.func35 (c := bodyOf Try.f35) (by kernel_rfl) (by decide)) ((impl_CountCylinders_1_main_link _ _ x0 x1 h).mpr hm)
  obtain ⟨v, h2, h3, r, rfl, h4⟩ := this; exact ⟨r, h2, h3, h4⟩

/-! ### loop.example/g01354/impl.isTile -/
def impl_isTile_M : Nat → List Nat := fun i => []
def impl_isTile_main (S : SatT) (K : AVal → H → Prop) (x0 : List AVal) (x1 : Int) (h : H) : Prop :=
 newK 4 x0 h fun p0 h1 =>
 newO [.int .i64 x1] h1 fun p2 h3 =>
 cutA p0 4 1 (0) ((4 : Nat) : Int) fun s4 =>
 callB S i_slices_ContainsFunc_s_int64_int64_ [.sl s4, .func 65 [.ptr p2]] h3 fun b6 h5 =>
 K (.bool (!b6)) h5
theorem impl_isTile_main_link (S : SatT) (K : AVal → H → Prop) (x0 : List AVal) (x1 : Int) (h : H) : cwp S tab impl_isTile_M [] (bodyOf Try.f60) (kFun tab Try.f60.results.toList K) (fr0 Try.f60 [.agg x0, .int .i64 x1]) h = impl_isTile_main S K x0 x1 h := by kernel_rfl
theorem impl_isTile_call (x0 : List AVal) (x1 : Int) (h : H) (K : Bool → H → Prop) (hm : impl_isTile_main (Sat Try.prog) (fun v h' => ∃ r, v = .bool r ∧ K r h') x0 x1 h) : callB (Sat Try.prog) i_impl_isTile [.agg x0, .int .i64 x1] h K := by
  have := Sat.ex tok mixed impl_isTile_M Try.func60 (c := bodyOf Try.f60) (by kernel_rfl) (calls_of Try.func60 (c := bodyOf Try.f60) (by kernel_rfl) (by decide)) ((impl_isTile_main_link _ _ x0 x1 h).mpr hm)
  obtain ⟨v, h2, h3, r, rfl, h4⟩ := this; exact ⟨r, h2, h3, h4⟩

/-! ### slices.Clone[[]int64,int64] -/
def slices_Clone_s_int64_int64__M : Nat → List Nat := fun i => []
def slices_Clone_s_int64_int64__main (S : SatT) (K : AVal → H → Prop) (x0 : Sl) (h : H) : Prop :=
 bif (isNilS x0) then
 K (.sl Sl.nil) h
 else
 newS 0 1 [] h fun s0 h1 =>
 app s0 x0 1 h1 fun s2 h3 =>
 K (.sl s2) h3
theorem slices_Clone_s_int64_int64__main_link (S : SatT) (K : AVal → H → Prop) (x0 : Sl) (h : H) : cwp S tab slices_Clone_s_int64_int64__M [] (bodyOf Try.f50) (kFun tab Try.f50.results.toList K) (fr0 Try.f50 [.sl x0]) h = slices_Clone_s_int64_int64__main S K x0 h := by kernel_rfl
theorem slices_Clone_s_int64_int64__call (x0 : Sl) (h : H) (K : Sl → H → Prop) (hm : slices_Clone_s_int64_int64__main (Sat Try.prog) (fun v h' => ∃ r, v = .sl r ∧ K r h') x0 h) : callS (Sat Try.prog) i_slices_Clone_s_int64_int64_ [.sl x0] h K := by
  have := Sat.ex tok mixed slices_Clone_s_int64_int64__M Try.func50 (c := bodyOf Try.f50) (by kernel_rfl) (calls_of Try.func50 (c := bodyOf Try.f50) (by kernel_rfl) (by decide)) ((slices_Clone_s_int64_int64__main_link _ _ x0 h).mpr hm)
  obtain ⟨v, h2, h3, r, rfl, h4⟩ := this; exact ⟨r, h2, h3, h4⟩

/-! ### math/bits.Mul -/
def math_bits_Mul_M : Nat → List Nat := fun i => []
def math_bits_Mul_main (S : SatT) (K : AVal → H → Prop) (x0 : Int) (x1 : Int) (h : H) : Prop :=
 callV S i_math_bits_Mul64 [.int .u64 x0, .int .u64 x1] h fun v1 h0 =>
 viaT v1 fun vs2 =>
 exI .u64 vs2 0 fun n3 =>
 viaT v1 fun vs4 =>
 exI .u64 vs4 1 fun n5 =>
 K (.tuple [.int .u64 n3, .int .u64 n5]) h0
theorem math_bits_Mul_main_link (S : SatT) (K : AVal → H → Prop) (x0 : Int) (x1 : Int) (h : H) : cwp S tab math_bits_Mul_M [] (bodyOf Try.f59) (kFun tab Try.f59.results.toList K) (fr0 Try.f59 [.int .u64 x0, .int .u64 x1]) h = math_bits_Mul_main S K x0 x1 h := by kernel_rfl
theorem math_bits_Mul_call (x0 : Int) (x1 : Int) (h : H) (K : AVal → H → Prop) (hm : math_bits_Mul_main (Sat Try.prog) (fun v h' => K v h') x0 x1 h) : callV (Sat Try.prog) i_math_bits_Mul [.int .u64 x0, .int .u64 x1] h K := by
  have := Sat.ex tok mixed math_bits_Mul_M Try.func59 (c := bodyOf Try.f59) (by kernel_rfl) (calls_of Try.func59 (c := bodyOf Try.f59) (by kernel_rfl) (by decide)) ((math_bits_Mul_main_link _ _ x0 x1 h).mpr hm)
  exact this

/-! ### loop.example/g01354/impl.modulo -/
def impl_modulo_M : Nat → List Nat := fun i => []
def impl_modulo_main (S : SatT) (K : AVal → H → Prop) (x0 : Int) (h : H) : Prop :=
 nz (10007) (
 nz (10007) (
 K (.int .i64 (Int.tmod (w64 ((Int.tmod x0 (10007)) + (10007))) (10007))) h))
theorem impl_modulo_main_link (S : SatT) (K : AVal → H → Prop) (x0 : Int) (h : H) : cwp S tab impl_modulo_M [] (bodyOf Try.f25) (kFun tab Try.f25.results.toList K) (fr0 Try.f25 [.int .i64 x0]) h = impl_modulo_main S K x0 h := by kernel_rfl
theorem impl_modulo_call (x0 : Int) (h : H) (K : Int → H → Prop) (hm : impl_modulo_main (Sat Try.prog) (fun v h' => ∃ r, v = .int .i64 r ∧ K r h') x0 h) : callI (Sat Try.prog) .i64 i_impl_modulo [.int .i64 x0] h K := by
  have := Sat.ex tok mixed impl_modulo_M Try.func25 (c := bodyOf Try.f25) (by kernel_rfl) (calls_of Try.func25 (c := bodyOf Try.f25) (by kernel_rfl) (by decide)) ((impl_modulo_main_link _ _ x0 h).mpr hm)
  obtain ⟨v, h2, h3, r, rfl, h4⟩ := this; exact ⟨r, h2, h3, h4⟩

/-! ### loop.example/g01354/impl.shortest -/
def impl_shortest_M : Nat → List Nat := fun i => bif i == 7 then [0, 3, 4, 5, 6, 9, 16, 21, 22, 23, 88, 89, 90] else bif i == 5 then [0, 3, 4, 5, 6, 9, 12, 13, 21, 22, 23, 71, 72, 73] else bif i == 2 then [0, 3, 4, 5, 6, 7, 9, 21, 22, 23, 29, 30, 31] else bif i == 0 then [0, 3, 4, 5, 6, 21, 22, 23] else []
def impl_shortest_ks2 (S : SatT) (K : AVal → H → Prop) : Kont := kSeq (cwp S tab impl_shortest_M [] (sub [1, 1, 1] (bodyOf Try.f27)) (kFun tab (Try.f27).results.toList K)) (kFun tab (Try.f27).results.toList K)
def impl_shortest_e0 (s0_ : Sl) (s3_ : Sl) (s4_ : Sl) (i5_ : Int) (i6_ : Int) (s21_ : Sl) (i22_ : Int) (i23_ : Int) : Frame := [.sl s0_, U, U, .sl s3_, .sl s4_, .int .i64 i5_, .int .i64 i6_, U, U, U, U, U, U, U, U, U, U, U, U, U, U, .sl s21_, .int .i64 i22_, .int .i64 i23_, U, U, U, U, U, U, U, U, U, U, U, U, U, U, U, U, U, U, U, U, U, U, U, U, U, U, U, U, U, U, U, U, U, U, U, U, U, U, U, U, U, U, U, U, U, U, U, U, U, U, U, U, U, U, U, U, U, U, U, U, U, U, U, U, U, U, U, U, U, U, U, U, U, U, U, U, U, U, U, U, U, U, U, U, U, U, U, U, U, U, U, U, U, U, U, U, U, U, U, U, U]
def impl_shortest_w0 (S : SatT) (K : AVal → H → Prop) : (Frame → H → Prop) → Frame → H → Prop := fun X fr h => cwp S tab impl_shortest_M (impl_shortest_M 0) (sub [1, 1, 0, 1, 0, 0] (bodyOf Try.f27)) (kSeq (fun fr h => X (mask (impl_shortest_M 0) fr) h) (kBlk 0 (impl_shortest_ks2 S K))) fr h
def impl_shortest_L0 (S : SatT) (K : AVal → H → Prop) (s0_ : Sl) (s3_ : Sl) (s4_ : Sl) (i5_ : Int) (i6_ : Int) (s21_ : Sl) (i22_ : Int) (i23_ : Int) (h : H) : Prop := loopK (impl_shortest_w0 S K) (impl_shortest_e0 s0_ s3_ s4_ i5_ i6_ s21_ i22_ i23_) h
def impl_shortest_ks6 (S : SatT) (K : AVal → H → Prop) (X0 : Frame → H → Prop) : Kont := kSeq (cwp S tab impl_shortest_M (impl_shortest_M 0) (sub [1, 1, 0, 1, 0, 0, 1, 1, 1] (bodyOf Try.f27)) (kSeq (fun fr h => X0 (mask (impl_shortest_M 0) fr) h) (kBlk 0 (impl_shortest_ks2 S K)))) (kSeq (fun fr h => X0 (mask (impl_shortest_M 0) fr) h) (kBlk 0 (impl_shortest_ks2 S K)))
def impl_shortest_ks9 (S : SatT) (K : AVal → H → Prop) (X0 : Frame → H → Prop) : Kont := kSeq (cwp S tab impl_shortest_M (impl_shortest_M 1) (sub [1, 1, 0, 1, 0, 0, 1, 1, 0, 0, 1, 1, 1] (bodyOf Try.f27)) (kBlk 1 (impl_shortest_ks6 S K X0))) (kBlk 1 (impl_shortest_ks6 S K X0))
def impl_shortest_e2 (s0_ : Sl) (s3_ : Sl) (s4_ : Sl) (i5_ : Int) (i6_ : Int) (i7_ : Int) (i9_ : Int) (s21_ : Sl) (i22_ : Int) (i23_ : Int) (s29_ : Sl) (i30_ : Int) (i31_ : Int) : Frame := [.sl s0_, U, U, .sl s3_, .sl s4_, .int .i64 i5_, .int .i64 i6_, .int .i64 i7_, U, .int .i64 i9_, U, U, U, U, U, U, U, U, U, U, U, .sl s21_, .int .i64 i22_, .int .i64 i23_, U, U, U, U, U, .sl s29_, .int .i64 i30_, .int .i64 i31_, U, U, U, U, U, U, U, U, U, U, U, U, U, U, U, U, U, U, U, U, U, U, U, U, U, U, U, U, U, U, U, U, U, U, U, U, U, U, U, U, U, U, U, U, U, U, U, U, U, U, U, U, U, U, U, U, U, U, U, U, U, U, U, U, U, U, U, U, U, U, U, U, U, U, U, U, U, U, U, U, U, U, U, U, U, U, U, U, U, U, U, U, U]
def impl_shortest_w2 (S : SatT) (K : AVal → H → Prop) (X0 : Frame → H → Prop) : (Frame → H → Prop) → Frame → H → Prop := fun X fr h => cwp S tab impl_shortest_M (impl_shortest_M 2) (sub [1, 1, 0, 1, 0, 0, 1, 1, 0, 0, 1, 1, 0, 1, 0, 0] (bodyOf Try.f27)) (kSeq (fun fr h => X (mask (impl_shortest_M 2) fr) h) (kBlk 2 (impl_shortest_ks9 S K X0))) fr h
def impl_shortest_L2 (S : SatT) (K : AVal → H → Prop) (X0 : Frame → H → Prop) (s0_ : Sl) (s3_ : Sl) (s4_ : Sl) (i5_ : Int) (i6_ : Int) (i7_ : Int) (i9_ : Int) (s21_ : Sl) (i22_ : Int) (i23_ : Int) (s29_ : Sl) (i30_ : Int) (i31_ : Int) (h : H) : Prop := loopK (impl_shortest_w2 S K X0) (impl_shortest_e2 s0_ s3_ s4_ i5_ i6_ i7_ i9_ s21_ i22_ i23_ s29_ i30_ i31_) h
def impl_shortest_C1 (S : SatT) (K : AVal → H → Prop) (X0 : Frame → H → Prop) (s0_ : Sl) (s3_ : Sl) (s4_ : Sl) (i5_ : Int) (i6_ : Int) (s21_ : Sl) (i22_ : Int) (i23_ : Int) (h : H) : Prop :=
 X0 (impl_shortest_e0 s0_ s3_ s4_ i5_ i6_ s21_ i22_ (w64 (i23_ + (1)))) h
def impl_shortest_ks22 (S : SatT) (K : AVal → H → Prop) (X0 : Frame → H → Prop) : Kont := kSeq (cwp S tab impl_shortest_M (impl_shortest_M 1) (sub [1, 1, 0, 1, 0, 0, 1, 1, 0, 0, 1, 1, 1, 1, 1, 1, 1] (bodyOf Try.f27)) (kBlk 1 (impl_shortest_ks6 S K X0))) (kBlk 1 (impl_shortest_ks6 S K X0))
def impl_shortest_e5 (s0_ : Sl) (s3_ : Sl) (s4_ : Sl) (i5_ : Int) (i6_ : Int) (i9_ : Int) (i12_ : Int) (s13_ : Sl) (s21_ : Sl) (i22_ : Int) (i23_ : Int) (s71_ : Sl) (i72_ : Int) (i73_ : Int) : Frame := [.sl s0_, U, U, .sl s3_, .sl s4_, .int .i64 i5_, .int .i64 i6_, U, U, .int .i64 i9_, U, U, .int .i64 i12_, .sl s13_, U, U, U, U, U, U, U, .sl s21_, .int .i64 i22_, .int .i64 i23_, U, U, U, U, U, U, U, U, U, U, U, U, U, U, U, U, U, U, U, U, U, U, U, U, U, U, U, U, U, U, U, U, U, U, U, U, U, U, U, U, U, U, U, U, U, U, U, .sl s71_, .int .i64 i72_, .int .i64 i73_, U, U, U, U, U, U, U, U, U, U, U, U, U, U, U, U, U, U, U, U, U, U, U, U, U, U, U, U, U, U, U, U, U, U, U, U, U, U, U, U, U, U, U, U, U, U, U, U, U, U, U]
def impl_shortest_w5 (S : SatT) (K : AVal → H → Prop) (X0 : Frame → H → Prop) : (Frame → H → Prop) → Frame → H → Prop := fun X fr h => cwp S tab impl_shortest_M (impl_shortest_M 5) (sub [1, 1, 0, 1, 0, 0, 1, 1, 0, 0, 1, 1, 1, 1, 1, 1, 0, 1, 0, 0] (bodyOf Try.f27)) (kSeq (fun fr h => X (mask (impl_shortest_M 5) fr) h) (kBlk 5 (impl_shortest_ks22 S K X0))) fr h
def impl_shortest_L5 (S : SatT) (K : AVal → H → Prop) (X0 : Frame → H → Prop) (s0_ : Sl) (s3_ : Sl) (s4_ : Sl) (i5_ : Int) (i6_ : Int) (i9_ : Int) (i12_ : Int) (s13_ : Sl) (s21_ : Sl) (i22_ : Int) (i23_ : Int) (s71_ : Sl) (i72_ : Int) (i73_ : Int) (h : H) : Prop := loopK (impl_shortest_w5 S K X0) (impl_shortest_e5 s0_ s3_ s4_ i5_ i6_ i9_ i12_ s13_ s21_ i22_ i23_ s71_ i72_ i73_) h
def impl_shortest_ks29 (S : SatT) (K : AVal → H → Prop) (X0 : Frame → H → Prop) : Kont := kSeq (cwp S tab impl_shortest_M (impl_shortest_M 1) (sub [1, 1, 0, 1, 0, 0, 1, 1, 0, 0, 1, 1, 1, 1, 1, 1, 1, 1, 1] (bodyOf Try.f27)) (kBlk 1 (impl_shortest_ks6 S K X0))) (kBlk 1 (impl_shortest_ks6 S K X0))
def impl_shortest_e7 (s0_ : Sl) (s3_ : Sl) (s4_ : Sl) (i5_ : Int) (i6_ : Int) (i9_ : Int) (s16_ : Sl) (s21_ : Sl) (i22_ : Int) (i23_ : Int) (s88_ : Sl) (i89_ : Int) (i90_ : Int) : Frame := [.sl s0_, U, U, .sl s3_, .sl s4_, .int .i64 i5_, .int .i64 i6_, U, U, .int .i64 i9_, U, U, U, U, U, U, .sl s16_, U, U, U, U, .sl s21_, .int .i64 i22_, .int .i64 i23_, U, U, U, U, U, U, U, U, U, U, U, U, U, U, U, U, U, U, U, U, U, U, U, U, U, U, U, U, U, U, U, U, U, U, U, U, U, U, U, U, U, U, U, U, U, U, U, U, U, U, U, U, U, U, U, U, U, U, U, U, U, U, U, U, .sl s88_, .int .i64 i89_, .int .i64 i90_, U, U, U, U, U, U, U, U, U, U, U, U, U, U, U, U, U, U, U, U, U, U, U, U, U, U, U, U, U, U, U, U, U, U]
def impl_shortest_w7 (S : SatT) (K : AVal → H → Prop) (X0 : Frame → H → Prop) : (Frame → H → Prop) → Frame → H → Prop := fun X fr h => cwp S tab impl_shortest_M (impl_shortest_M 7) (sub [1, 1, 0, 1, 0, 0, 1, 1, 0, 0, 1, 1, 1, 1, 1, 1, 1, 1, 0, 1, 0, 0] (bodyOf Try.f27)) (kSeq (fun fr h => X (mask (impl_shortest_M 7) fr) h) (kBlk 7 (impl_shortest_ks29 S K X0))) fr h
def impl_shortest_L7 (S : SatT) (K : AVal → H → Prop) (X0 : Frame → H → Prop) (s0_ : Sl) (s3_ : Sl) (s4_ : Sl) (i5_ : Int) (i6_ : Int) (i9_ : Int) (s16_ : Sl) (s21_ : Sl) (i22_ : Int) (i23_ : Int) (s88_ : Sl) (i89_ : Int) (i90_ : Int) (h : H) : Prop := loopK (impl_shortest_w7 S K X0) (impl_shortest_e7 s0_ s3_ s4_ i5_ i6_ i9_ s16_ s21_ i22_ i23_ s88_ i89_ i90_) h
def impl_shortest_C7 (S : SatT) (K : AVal → H → Prop) (X0 : Frame → H → Prop) (s0_ : Sl) (s3_ : Sl) (s4_ : Sl) (i5_ : Int) (i6_ : Int) (i9_ : Int) (s16_ : Sl) (s21_ : Sl) (i22_ : Int) (i23_ : Int) (h : H) : Prop :=
 bif (decide ((s16_.len : Int) > (s3_.len : Int))) then
 impl_shortest_C1 S K X0 s0_ s16_ s3_ i9_ (0) s21_ i22_ i23_ h
 else
 impl_shortest_C1 S K X0 s0_ s16_ s4_ i5_ (w64 (i6_ + (1))) s21_ i22_ i23_ h
def impl_shortest_b7 (S : SatT) (K : AVal → H → Prop) (X0 : Frame → H → Prop) (X7 : Frame → H → Prop) (s0_ : Sl) (s3_ : Sl) (s4_ : Sl) (i5_ : Int) (i6_ : Int) (i9_ : Int) (s16_ : Sl) (s21_ : Sl) (i22_ : Int) (i23_ : Int) (s88_ : Sl) (i89_ : Int) (i90_ : Int) (h : H) : Prop :=
 bif (decide (i90_ < i89_)) then
 ixS s88_ 1 i90_ fun p0 =>
 ldI .i64 p0 h fun n1 =>
 bif (i90_ == (s16_.len : Int)) then
 newS 1 1 [.int .i64 (0)] h fun s2 h3 =>
 app s16_ s2 1 h3 fun s4 h5 =>
 ixS s4 1 i90_ fun p6 =>
 ldI .i64 p6 h5 fun n7 =>
 callI S .i64 i_impl_modulo [.int .i64 (w64 (n7 + n1))] h5 fun n9 h8 =>
 ixS s4 1 i90_ fun p10 =>
 st1 p10 (.int .i64 n9) h8 fun h11 =>
 X7 (impl_shortest_e7 s0_ s3_ s4_ i5_ i6_ i9_ s4 s21_ i22_ i23_ s88_ i89_ (w64 (i90_ + (1)))) h11
 else
 ixS s16_ 1 i90_ fun p12 =>
 ldI .i64 p12 h fun n13 =>
 callI S .i64 i_impl_modulo [.int .i64 (w64 (n13 + n1))] h fun n15 h14 =>
 ixS s16_ 1 i90_ fun p16 =>
 st1 p16 (.int .i64 n15) h14 fun h17 =>
 X7 (impl_shortest_e7 s0_ s3_ s4_ i5_ i6_ i9_ s16_ s21_ i22_ i23_ s88_ i89_ (w64 (i90_ + (1)))) h17
 else
 impl_shortest_C7 S K X0 s0_ s3_ s4_ i5_ i6_ i9_ s16_ s21_ i22_ i23_ h
theorem impl_shortest_link7 (S : SatT) (K : AVal → H → Prop) (X0 : Frame → H → Prop) (X7 : Frame → H → Prop) (s0_ : Sl) (s3_ : Sl) (s4_ : Sl) (i5_ : Int) (i6_ : Int) (i9_ : Int) (s16_ : Sl) (s21_ : Sl) (i22_ : Int) (i23_ : Int) (s88_ : Sl) (i89_ : Int) (i90_ : Int) (h : H) : impl_shortest_w7 S K X0 X7 (impl_shortest_e7 s0_ s3_ s4_ i5_ i6_ i9_ s16_ s21_ i22_ i23_ s88_ i89_ i90_) h = impl_shortest_b7 S K X0 X7 s0_ s3_ s4_ i5_ i6_ i9_ s16_ s21_ i22_ i23_ s88_ i89_ i90_ h := by kernel_rfl
theorem impl_shortest_rule7 (S : SatT) (K : AVal → H → Prop) (X0 : Frame → H → Prop) (s0_ : Sl) (s3_ : Sl) (s4_ : Sl) (i5_ : Int) (i6_ : Int) (i9_ : Int) (s21_ : Sl) (i22_ : Int) (i23_ : Int) (s88_ : Sl) (i89_ : Int) (I_ : Sl → Int → H → Prop) (m_ : Sl → Int → H → Nat)
    (hs : ∀ (X7 : Frame → H → Prop) (s16_ : Sl) (i90_ : Int) (h : H), I_ s16_ i90_ h → (∀ (s16_' : Sl) (i90_' : Int) (h' : H), I_ s16_' i90_' h' → m_ s16_' i90_' h' < m_ s16_ i90_ h → X7 (impl_shortest_e7 s0_ s3_ s4_ i5_ i6_ i9_ s16_' s21_ i22_ i23_ s88_ i89_ i90_') h') → impl_shortest_b7 S K X0 X7 s0_ s3_ s4_ i5_ i6_ i9_ s16_ s21_ i22_ i23_ s88_ i89_ i90_ h) (s16_ : Sl) (i90_ : Int) {h : H} (h0 : I_ s16_ i90_ h) : impl_shortest_L7 S K X0 s0_ s3_ s4_ i5_ i6_ i9_ s16_ s21_ i22_ i23_ s88_ i89_ i90_ h :=
  loop_rule (σ := (Sl) × (Int)) (fun s_ => impl_shortest_e7 s0_ s3_ s4_ i5_ i6_ i9_ (s_.1) s21_ i22_ i23_ s88_ i89_ (s_.2)) (fun s_ h => I_ (s_.1) (s_.2) h) (fun s_ h => m_ (s_.1) (s_.2) h)
    (fun X s_ h hi hx => (impl_shortest_link7 S K X0 X s0_ s3_ s4_ i5_ i6_ i9_ (s_.1) s21_ i22_ i23_ s88_ i89_ (s_.2) h).mpr (hs X (s_.1) (s_.2) h hi fun s16_' i90_' h' hi' hm' => hx (s16_', i90_') h' hi' hm')) (s16_, i90_) h0
theorem impl_shortest_unroll7 (S : SatT) (K : AVal → H → Prop) (X0 : Frame → H → Prop) (s0_ : Sl) (s3_ : Sl) (s4_ : Sl) (i5_ : Int) (i6_ : Int) (i9_ : Int) (s16_ : Sl) (s21_ : Sl) (i22_ : Int) (i23_ : Int) (s88_ : Sl) (i89_ : Int) (i90_ : Int) (h : H) (hb : impl_shortest_b7 S K X0 (fun fr h => loopK (impl_shortest_w7 S K X0) fr h) s0_ s3_ s4_ i5_ i6_ i9_ s16_ s21_ i22_ i23_ s88_ i89_ i90_ h) : impl_shortest_L7 S K X0 s0_ s3_ s4_ i5_ i6_ i9_ s16_ s21_ i22_ i23_ s88_ i89_ i90_ h := loop_unroll ((impl_shortest_link7 S K X0 _ s0_ s3_ s4_ i5_ i6_ i9_ s16_ s21_ i22_ i23_ s88_ i89_ i90_ h).mpr hb)
def impl_shortest_C5 (S : SatT) (K : AVal → H → Prop) (X0 : Frame → H → Prop) (s0_ : Sl) (s3_ : Sl) (s4_ : Sl) (i5_ : Int) (i6_ : Int) (i9_ : Int) (s13_ : Sl) (s21_ : Sl) (i22_ : Int) (i23_ : Int) (h : H) : Prop :=
 callS S i_slices_Clone_s_int64_int64_ [.sl s3_] h fun s1 h0 =>
 impl_shortest_L7 S K X0 s0_ s3_ s4_ i5_ i6_ i9_ s1 s21_ i22_ i23_ s13_ (s13_.len : Int) (0) h0
def impl_shortest_b5 (S : SatT) (K : AVal → H → Prop) (X0 : Frame → H → Prop) (X5 : Frame → H → Prop) (s0_ : Sl) (s3_ : Sl) (s4_ : Sl) (i5_ : Int) (i6_ : Int) (i9_ : Int) (i12_ : Int) (s13_ : Sl) (s21_ : Sl) (i22_ : Int) (i23_ : Int) (s71_ : Sl) (i72_ : Int) (i73_ : Int) (h : H) : Prop :=
 bif (decide (i73_ < i72_)) then
 ixS s71_ 1 i73_ fun p0 =>
 ldI .i64 p0 h fun n1 =>
 callI S .i64 i_impl_modulo [.int .i64 (w64 ((w64 (0 - i12_)) * n1))] h fun n3 h2 =>
 newS 1 1 [.int .i64 n3] h2 fun s4 h5 =>
 app s13_ s4 1 h5 fun s6 h7 =>
 X5 (impl_shortest_e5 s0_ s3_ s4_ i5_ i6_ i9_ i12_ s6 s21_ i22_ i23_ s71_ i72_ (w64 (i73_ + (1)))) h7
 else
 impl_shortest_C5 S K X0 s0_ s3_ s4_ i5_ i6_ i9_ s13_ s21_ i22_ i23_ h
theorem impl_shortest_link5 (S : SatT) (K : AVal → H → Prop) (X0 : Frame → H → Prop) (X5 : Frame → H → Prop) (s0_ : Sl) (s3_ : Sl) (s4_ : Sl) (i5_ : Int) (i6_ : Int) (i9_ : Int) (i12_ : Int) (s13_ : Sl) (s21_ : Sl) (i22_ : Int) (i23_ : Int) (s71_ : Sl) (i72_ : Int) (i73_ : Int) (h : H) : impl_shortest_w5 S K X0 X5 (impl_shortest_e5 s0_ s3_ s4_ i5_ i6_ i9_ i12_ s13_ s21_ i22_ i23_ s71_ i72_ i73_) h = impl_shortest_b5 S K X0 X5 s0_ s3_ s4_ i5_ i6_ i9_ i12_ s13_ s21_ i22_ i23_ s71_ i72_ i73_ h := by kernel_rfl
theorem impl_shortest_rule5 (S : SatT) (K : AVal → H → Prop) (X0 : Frame → H → Prop) (s0_ : Sl) (s3_ : Sl) (s4_ : Sl) (i5_ : Int) (i6_ : Int) (i9_ : Int) (i12_ : Int) (s21_ : Sl) (i22_ : Int) (i23_ : Int) (s71_ : Sl) (i72_ : Int) (I_ : Sl → Int → H → Prop) (m_ : Sl → Int → H → Nat)
    (hs : ∀ (X5 : Frame → H → Prop) (s13_ : Sl) (i73_ : Int) (h : H), I_ s13_ i73_ h → (∀ (s13_' : Sl) (i73_' : Int) (h' : H), I_ s13_' i73_' h' → m_ s13_' i73_' h' < m_ s13_ i73_ h → X5 (impl_shortest_e5 s0_ s3_ s4_ i5_ i6_ i9_ i12_ s13_' s21_ i22_ i23_ s71_ i72_ i73_') h') → impl_shortest_b5 S K X0 X5 s0_ s3_ s4_ i5_ i6_ i9_ i12_ s13_ s21_ i22_ i23_ s71_ i72_ i73_ h) (s13_ : Sl) (i73_ : Int) {h : H} (h0 : I_ s13_ i73_ h) : impl_shortest_L5 S K X0 s0_ s3_ s4_ i5_ i6_ i9_ i12_ s13_ s21_ i22_ i23_ s71_ i72_ i73_ h :=
  loop_rule (σ := (Sl) × (Int)) (fun s_ => impl_shortest_e5 s0_ s3_ s4_ i5_ i6_ i9_ i12_ (s_.1) s21_ i22_ i23_ s71_ i72_ (s_.2)) (fun s_ h => I_ (s_.1) (s_.2) h) (fun s_ h => m_ (s_.1) (s_.2) h)
    (fun X s_ h hi hx => (impl_shortest_link5 S K X0 X s0_ s3_ s4_ i5_ i6_ i9_ i12_ (s_.1) s21_ i22_ i23_ s71_ i72_ (s_.2) h).mpr (hs X (s_.1) (s_.2) h hi fun s13_' i73_' h' hi' hm' => hx (s13_', i73_') h' hi' hm')) (s13_, i73_) h0
theorem impl_shortest_unroll5 (S : SatT) (K : AVal → H → Prop) (X0 : Frame → H → Prop) (s0_ : Sl) (s3_ : Sl) (s4_ : Sl) (i5_ : Int) (i6_ : Int) (i9_ : Int) (i12_ : Int) (s13_ : Sl) (s21_ : Sl) (i22_ : Int) (i23_ : Int) (s71_ : Sl) (i72_ : Int) (i73_ : Int) (h : H) (hb : impl_shortest_b5 S K X0 (fun fr h => loopK (impl_shortest_w5 S K X0) fr h) s0_ s3_ s4_ i5_ i6_ i9_ i12_ s13_ s21_ i22_ i23_ s71_ i72_ i73_ h) : impl_shortest_L5 S K X0 s0_ s3_ s4_ i5_ i6_ i9_ i12_ s13_ s21_ i22_ i23_ s71_ i72_ i73_ h := loop_unroll ((impl_shortest_link5 S K X0 _ s0_ s3_ s4_ i5_ i6_ i9_ i12_ s13_ s21_ i22_ i23_ s71_ i72_ i73_ h).mpr hb)
def impl_shortest_C2 (S : SatT) (K : AVal → H → Prop) (X0 : Frame → H → Prop) (s0_ : Sl) (s3_ : Sl) (s4_ : Sl) (i5_ : Int) (i6_ : Int) (i7_ : Int) (i9_ : Int) (s21_ : Sl) (i22_ : Int) (i23_ : Int) (h : H) : Prop :=
 bif (i9_ == (0)) then
 impl_shortest_C1 S K X0 s0_ s3_ s4_ i5_ (w64 (i6_ + (1))) s21_ i22_ i23_ h
 else
 bif ((s3_.len : Int) == (0)) then
 mkS (w64 (i7_ + (1))) [.int .i64 (0)] h fun s0 h1 =>
 impl_shortest_C1 S K X0 s0_ s0 Sl.nil i9_ (0) s21_ i22_ i23_ h1
 else
 callI S .i64 i_impl_inverse [.int .i64 i5_] h fun n3 h2 =>
 nz (10007) (
 mkS i6_ [.int .i64 (0)] h2 fun s4 h5 =>
 newS 1 1 [.int .i64 (Int.tmod (w64 (i9_ * n3)) (10007))] h5 fun s6 h7 =>
 app s4 s6 1 h7 fun s8 h9 =>
 impl_shortest_L5 S K X0 s0_ s3_ s4_ i5_ i6_ i9_ (Int.tmod (w64 (i9_ * n3)) (10007)) s8 s21_ i22_ i23_ s4_ (s4_.len : Int) (0) h9)
def impl_shortest_b2 (S : SatT) (K : AVal → H → Prop) (X0 : Frame → H → Prop) (X2 : Frame → H → Prop) (s0_ : Sl) (s3_ : Sl) (s4_ : Sl) (i5_ : Int) (i6_ : Int) (i7_ : Int) (i9_ : Int) (s21_ : Sl) (i22_ : Int) (i23_ : Int) (s29_ : Sl) (i30_ : Int) (i31_ : Int) (h : H) : Prop :=
 bif (decide (i31_ < i30_)) then
 ixS s29_ 1 i31_ fun p0 =>
 ldI .i64 p0 h fun n1 =>
 callI S .i64 i_impl_at [.sl s0_, .int .i64 (w64 ((w64 (i7_ - i31_)) - (1)))] h fun n3 h2 =>
 callI S .i64 i_impl_modulo [.int .i64 (w64 (i9_ - (w64 (n1 * n3))))] h2 fun n5 h4 =>
 X2 (impl_shortest_e2 s0_ s3_ s4_ i5_ i6_ i7_ n5 s21_ i22_ i23_ s29_ i30_ (w64 (i31_ + (1)))) h4
 else
 impl_shortest_C2 S K X0 s0_ s3_ s4_ i5_ i6_ i7_ i9_ s21_ i22_ i23_ h
theorem impl_shortest_link2 (S : SatT) (K : AVal → H → Prop) (X0 : Frame → H → Prop) (X2 : Frame → H → Prop) (s0_ : Sl) (s3_ : Sl) (s4_ : Sl) (i5_ : Int) (i6_ : Int) (i7_ : Int) (i9_ : Int) (s21_ : Sl) (i22_ : Int) (i23_ : Int) (s29_ : Sl) (i30_ : Int) (i31_ : Int) (h : H) : impl_shortest_w2 S K X0 X2 (impl_shortest_e2 s0_ s3_ s4_ i5_ i6_ i7_ i9_ s21_ i22_ i23_ s29_ i30_ i31_) h = impl_shortest_b2 S K X0 X2 s0_ s3_ s4_ i5_ i6_ i7_ i9_ s21_ i22_ i23_ s29_ i30_ i31_ h := by kernel_rfl
theorem impl_shortest_rule2 (S : SatT) (K : AVal → H → Prop) (X0 : Frame → H → Prop) (s0_ : Sl) (s3_ : Sl) (s4_ : Sl) (i5_ : Int) (i6_ : Int) (i7_ : Int) (s21_ : Sl) (i22_ : Int) (i23_ : Int) (s29_ : Sl) (i30_ : Int) (I_ : Int → Int → H → Prop) (m_ : Int → Int → H → Nat)
    (hs : ∀ (X2 : Frame → H → Prop) (i9_ : Int) (i31_ : Int) (h : H), I_ i9_ i31_ h → (∀ (i9_' : Int) (i31_' : Int) (h' : H), I_ i9_' i31_' h' → m_ i9_' i31_' h' < m_ i9_ i31_ h → X2 (impl_shortest_e2 s0_ s3_ s4_ i5_ i6_ i7_ i9_' s21_ i22_ i23_ s29_ i30_ i31_') h') → impl_shortest_b2 S K X0 X2 s0_ s3_ s4_ i5_ i6_ i7_ i9_ s21_ i22_ i23_ s29_ i30_ i31_ h) (i9_ : Int) (i31_ : Int) {h : H} (h0 : I_ i9_ i31_ h) : impl_shortest_L2 S K X0 s0_ s3_ s4_ i5_ i6_ i7_ i9_ s21_ i22_ i23_ s29_ i30_ i31_ h :=
  loop_rule (σ := (Int) × (Int)) (fun s_ => impl_shortest_e2 s0_ s3_ s4_ i5_ i6_ i7_ (s_.1) s21_ i22_ i23_ s29_ i30_ (s_.2)) (fun s_ h => I_ (s_.1) (s_.2) h) (fun s_ h => m_ (s_.1) (s_.2) h)
    (fun X s_ h hi hx => (impl_shortest_link2 S K X0 X s0_ s3_ s4_ i5_ i6_ i7_ (s_.1) s21_ i22_ i23_ s29_ i30_ (s_.2) h).mpr (hs X (s_.1) (s_.2) h hi fun i9_' i31_' h' hi' hm' => hx (i9_', i31_') h' hi' hm')) (i9_, i31_) h0
theorem impl_shortest_unroll2 (S : SatT) (K : AVal → H → Prop) (X0 : Frame → H → Prop) (s0_ : Sl) (s3_ : Sl) (s4_ : Sl) (i5_ : Int) (i6_ : Int) (i7_ : Int) (i9_ : Int) (s21_ : Sl) (i22_ : Int) (i23_ : Int) (s29_ : Sl) (i30_ : Int) (i31_ : Int) (h : H) (hb : impl_shortest_b2 S K X0 (fun fr h => loopK (impl_shortest_w2 S K X0) fr h) s0_ s3_ s4_ i5_ i6_ i7_ i9_ s21_ i22_ i23_ s29_ i30_ i31_ h) : impl_shortest_L2 S K X0 s0_ s3_ s4_ i5_ i6_ i7_ i9_ s21_ i22_ i23_ s29_ i30_ i31_ h := loop_unroll ((impl_shortest_link2 S K X0 _ s0_ s3_ s4_ i5_ i6_ i7_ i9_ s21_ i22_ i23_ s29_ i30_ i31_ h).mpr hb)
def impl_shortest_C0 (S : SatT) (K : AVal → H → Prop) (s3_ : Sl) (h : H) : Prop :=
 K (.sl s3_) h
def impl_shortest_b0 (S : SatT) (K : AVal → H → Prop) (X0 : Frame → H → Prop) (s0_ : Sl) (s3_ : Sl) (s4_ : Sl) (i5_ : Int) (i6_ : Int) (s21_ : Sl) (i22_ : Int) (i23_ : Int) (h : H) : Prop :=
 bif (decide (i23_ < i22_)) then
 ixS s21_ 1 i23_ fun p0 =>
 ldI .i64 p0 h fun n1 =>
 impl_shortest_L2 S K X0 s0_ s3_ s4_ i5_ i6_ i23_ n1 s21_ i22_ i23_ s3_ (s3_.len : Int) (0) h
 else
 impl_shortest_C0 S K s3_ h
theorem impl_shortest_link0 (S : SatT) (K : AVal → H → Prop) (X0 : Frame → H → Prop) (s0_ : Sl) (s3_ : Sl) (s4_ : Sl) (i5_ : Int) (i6_ : Int) (s21_ : Sl) (i22_ : Int) (i23_ : Int) (h : H) : impl_shortest_w0 S K X0 (impl_shortest_e0 s0_ s3_ s4_ i5_ i6_ s21_ i22_ i23_) h = impl_shortest_b0 S K X0 s0_ s3_ s4_ i5_ i6_ s21_ i22_ i23_ h := by kernel_rfl
theorem impl_shortest_rule0 (S : SatT) (K : AVal → H → Prop) (s0_ : Sl) (s21_ : Sl) (i22_ : Int) (I_ : Sl → Sl → Int → Int → Int → H → Prop) (m_ : Sl → Sl → Int → Int → Int → H → Nat)
    (hs : ∀ (X0 : Frame → H → Prop) (s3_ : Sl) (s4_ : Sl) (i5_ : Int) (i6_ : Int) (i23_ : Int) (h : H), I_ s3_ s4_ i5_ i6_ i23_ h → (∀ (s3_' : Sl) (s4_' : Sl) (i5_' : Int) (i6_' : Int) (i23_' : Int) (h' : H), I_ s3_' s4_' i5_' i6_' i23_' h' → m_ s3_' s4_' i5_' i6_' i23_' h' < m_ s3_ s4_ i5_ i6_ i23_ h → X0 (impl_shortest_e0 s0_ s3_' s4_' i5_' i6_' s21_ i22_ i23_') h') → impl_shortest_b0 S K X0 s0_ s3_ s4_ i5_ i6_ s21_ i22_ i23_ h) (s3_ : Sl) (s4_ : Sl) (i5_ : Int) (i6_ : Int) (i23_ : Int) {h : H} (h0 : I_ s3_ s4_ i5_ i6_ i23_ h) : impl_shortest_L0 S K s0_ s3_ s4_ i5_ i6_ s21_ i22_ i23_ h :=
  loop_rule (σ := (Sl) × (Sl) × (Int) × (Int) × (Int)) (fun s_ => impl_shortest_e0 s0_ (s_.1) (s_.2.1) (s_.2.2.1) (s_.2.2.2.1) s21_ i22_ (s_.2.2.2.2)) (fun s_ h => I_ (s_.1) (s_.2.1) (s_.2.2.1) (s_.2.2.2.1) (s_.2.2.2.2) h) (fun s_ h => m_ (s_.1) (s_.2.1) (s_.2.2.1) (s_.2.2.2.1) (s_.2.2.2.2) h)
    (fun X s_ h hi hx => (impl_shortest_link0 S K X s0_ (s_.1) (s_.2.1) (s_.2.2.1) (s_.2.2.2.1) s21_ i22_ (s_.2.2.2.2) h).mpr (hs X (s_.1) (s_.2.1) (s_.2.2.1) (s_.2.2.2.1) (s_.2.2.2.2) h hi fun s3_' s4_' i5_' i6_' i23_' h' hi' hm' => hx (s3_', s4_', i5_', i6_', i23_') h' hi' hm')) (s3_, s4_, i5_, i6_, i23_) h0
theorem impl_shortest_unroll0 (S : SatT) (K : AVal → H → Prop) (s0_ : Sl) (s3_ : Sl) (s4_ : Sl) (i5_ : Int) (i6_ : Int) (s21_ : Sl) (i22_ : Int) (i23_ : Int) (h : H) (hb : impl_shortest_b0 S K (fun fr h => loopK (impl_shortest_w0 S K) fr h) s0_ s3_ s4_ i5_ i6_ s21_ i22_ i23_ h) : impl_shortest_L0 S K s0_ s3_ s4_ i5_ i6_ s21_ i22_ i23_ h := loop_unroll ((impl_shortest_link0 S K _ s0_ s3_ s4_ i5_ i6_ s21_ i22_ i23_ h).mpr hb)
def impl_shortest_main (S : SatT) (K : AVal → H → Prop) (x0 : Sl) (h : H) : Prop :=
 newS 0 1 [] h fun s0 h1 =>
 newS 0 1 [] h1 fun s2 h3 =>
 impl_shortest_L0 S K x0 s0 s2 (0) (0) x0 (x0.len : Int) (0) h3
theorem impl_shortest_main_link (S : SatT) (K : AVal → H → Prop) (x0 : Sl) (h : H) : cwp S tab impl_shortest_M [] (bodyOf Try.f27) (kFun tab Try.f27.results.toList K) (fr0 Try.f27 [.sl x0]) h = impl_shortest_main S K x0 h := by kernel_rfl
theorem impl_shortest_call (x0 : Sl) (h : H) (K : Sl → H → Prop) (hm : impl_shortest_main (Sat Try.prog) (fun v h' => ∃ r, v = .sl r ∧ K r h') x0 h) : callS (Sat Try.prog) i_impl_shortest [.sl x0] h K := by
  have := Sat.ex tok mixed impl_shortest_M Try.func27 (c := bodyOf Try.f27) (by kernel_rfl) (calls_of Try.func27 (c := bodyOf Try.f27) (by kernel_rfl) (by decide)) ((impl_shortest_main_link _ _ x0 h).mpr hm)
  obtain ⟨v, h2, h3, r, rfl, h4⟩ := this; exact ⟨r, h2, h3, h4⟩

/-! ### loop.example/g01354/spec.l05Paths -/
def spec_l05Paths_M : Nat → List Nat := fun i => bif i == 4 then [1, 2, 3, 4, 13, 15, 16] else bif i == 2 then [1, 2, 3, 4, 13] else bif i == 0 then [1, 2, 3, 4, 5, 13, 14] else []
def spec_l05Paths_ks2 (S : SatT) (K : AVal → H → Prop) : Kont := kSeq (cwp S tab spec_l05Paths_M [] (sub [1, 1, 1] (bodyOf Try.f32)) (kFun tab (Try.f32).results.toList K)) (kFun tab (Try.f32).results.toList K)
def spec_l05Paths_e0 (s1_ : Sl) (s2_ : Sl) (i3_ : Int) (i4_ : Int) (i5_ : Int) (s13_ : Sl) (i14_ : Int) : Frame := [U, .sl s1_, .sl s2_, .int .i64 i3_, .int .i64 i4_, .int .i64 i5_, U, U, U, U, U, U, U, .sl s13_, .int .i64 i14_, U, U, U, U, U, U, U, U, U, U, U, U, U, U, U, U, U, U, U, U, U, U, U, U, U, U, U, U, U, U, U, U, U, U, U, U, U, U, U, U, U, U, U, U, U, U, U, U, U, U, U, U, U, U, U]
def spec_l05Paths_w0 (S : SatT) (K : AVal → H → Prop) : (Frame → H → Prop) → Frame → H → Prop := fun X fr h => cwp S tab spec_l05Paths_M (spec_l05Paths_M 0) (sub [1, 1, 0, 1, 0, 0] (bodyOf Try.f32)) (kSeq (fun fr h => X (mask (spec_l05Paths_M 0) fr) h) (kBlk 0 (spec_l05Paths_ks2 S K))) fr h
def spec_l05Paths_L0 (S : SatT) (K : AVal → H → Prop) (s1_ : Sl) (s2_ : Sl) (i3_ : Int) (i4_ : Int) (i5_ : Int) (s13_ : Sl) (i14_ : Int) (h : H) : Prop := loopK (spec_l05Paths_w0 S K) (spec_l05Paths_e0 s1_ s2_ i3_ i4_ i5_ s13_ i14_) h
def spec_l05Paths_ks8 (S : SatT) (K : AVal → H → Prop) : Kont := kSeq (cwp S tab spec_l05Paths_M [] (sub [1, 1, 1, 1] (bodyOf Try.f32)) (kFun tab (Try.f32).results.toList K)) (kFun tab (Try.f32).results.toList K)
def spec_l05Paths_e2 (s1_ : Sl) (s2_ : Sl) (i3_ : Int) (i4_ : Int) (s13_ : Sl) : Frame := [U, .sl s1_, .sl s2_, .int .i64 i3_, .int .i64 i4_, U, U, U, U, U, U, U, U, .sl s13_, U, U, U, U, U, U, U, U, U, U, U, U, U, U, U, U, U, U, U, U, U, U, U, U, U, U, U, U, U, U, U, U, U, U, U, U, U, U, U, U, U, U, U, U, U, U, U, U, U, U, U, U, U, U, U, U]
def spec_l05Paths_w2 (S : SatT) (K : AVal → H → Prop) : (Frame → H → Prop) → Frame → H → Prop := fun X fr h => cwp S tab spec_l05Paths_M (spec_l05Paths_M 2) (sub [1, 1, 1, 0, 0, 0] (bodyOf Try.f32)) (kSeq (fun fr h => X (mask (spec_l05Paths_M 2) fr) h) (kBlk 2 (spec_l05Paths_ks8 S K))) fr h
def spec_l05Paths_L2 (S : SatT) (K : AVal → H → Prop) (s1_ : Sl) (s2_ : Sl) (i3_ : Int) (i4_ : Int) (s13_ : Sl) (h : H) : Prop := loopK (spec_l05Paths_w2 S K) (spec_l05Paths_e2 s1_ s2_ i3_ i4_ s13_) h
def spec_l05Paths_ks11 (S : SatT) (K : AVal → H → Prop) (X2 : Frame → H → Prop) : Kont := kSeq (cwp S tab spec_l05Paths_M (spec_l05Paths_M 2) (sub [1, 1, 1, 0, 0, 0, 1, 1] (bodyOf Try.f32)) (kSeq (fun fr h => X2 (mask (spec_l05Paths_M 2) fr) h) (kBlk 2 (spec_l05Paths_ks8 S K)))) (kSeq (fun fr h => X2 (mask (spec_l05Paths_M 2) fr) h) (kBlk 2 (spec_l05Paths_ks8 S K)))
def spec_l05Paths_ks13 (S : SatT) (K : AVal → H → Prop) (X2 : Frame → H → Prop) : Kont := kSeq (cwp S tab spec_l05Paths_M (spec_l05Paths_M 3) (sub [1, 1, 1, 0, 0, 0, 1, 0, 0, 1, 1] (bodyOf Try.f32)) (kBlk 3 (spec_l05Paths_ks11 S K X2))) (kBlk 3 (spec_l05Paths_ks11 S K X2))
def spec_l05Paths_e4 (s1_ : Sl) (s2_ : Sl) (i3_ : Int) (i4_ : Int) (s13_ : Sl) (s15_ : Sl) (i16_ : Int) : Frame := [U, .sl s1_, .sl s2_, .int .i64 i3_, .int .i64 i4_, U, U, U, U, U, U, U, U, .sl s13_, U, .sl s15_, .int .i64 i16_, U, U, U, U, U, U, U, U, U, U, U, U, U, U, U, U, U, U, U, U, U, U, U, U, U, U, U, U, U, U, U, U, U, U, U, U, U, U, U, U, U, U, U, U, U, U, U, U, U, U, U, U, U]
def spec_l05Paths_w4 (S : SatT) (K : AVal → H → Prop) (X2 : Frame → H → Prop) : (Frame → H → Prop) → Frame → H → Prop := fun X fr h => cwp S tab spec_l05Paths_M (spec_l05Paths_M 4) (sub [1, 1, 1, 0, 0, 0, 1, 0, 0, 1, 0, 1, 0, 0] (bodyOf Try.f32)) (kSeq (fun fr h => X (mask (spec_l05Paths_M 4) fr) h) (kBlk 4 (spec_l05Paths_ks13 S K X2))) fr h
def spec_l05Paths_L4 (S : SatT) (K : AVal → H → Prop) (X2 : Frame → H → Prop) (s1_ : Sl) (s2_ : Sl) (i3_ : Int) (i4_ : Int) (s13_ : Sl) (s15_ : Sl) (i16_ : Int) (h : H) : Prop := loopK (spec_l05Paths_w4 S K X2) (spec_l05Paths_e4 s1_ s2_ i3_ i4_ s13_ s15_ i16_) h
def spec_l05Paths_C3 (S : SatT) (K : AVal → H → Prop) (X2 : Frame → H → Prop) (s1_ : Sl) (s2_ : Sl) (i3_ : Int) (i4_ : Int) (s13_ : Sl) (h : H) : Prop :=
 X2 (spec_l05Paths_e2 s1_ s2_ i3_ (w64 (i4_ - (1))) s13_) h
def spec_l05Paths_C4 (S : SatT) (K : AVal → H → Prop) (X2 : Frame → H → Prop) (s1_ : Sl) (s2_ : Sl) (i3_ : Int) (i4_ : Int) (s15_ : Sl) (h : H) : Prop :=
 spec_l05Paths_C3 S K X2 s1_ s2_ i3_ i4_ s15_ h
def spec_l05Paths_b4 (S : SatT) (K : AVal → H → Prop) (X2 : Frame → H → Prop) (X4 : Frame → H → Prop) (s1_ : Sl) (s2_ : Sl) (i3_ : Int) (i4_ : Int) (s13_ : Sl) (s15_ : Sl) (i16_ : Int) (h : H) : Prop :=
 bif (decide (i16_ < (s1_.len : Int))) then
 ixS s1_ 1 i16_ fun p0 =>
 ldI .i64 p0 h fun n1 =>
 ixS s1_ 1 i16_ fun p2 =>
 ldI .i64 p2 h fun n3 =>
 ixS s15_ 1 n3 fun p4 =>
 ldI .i64 p4 h fun n5 =>
 ixS s2_ 1 i16_ fun p6 =>
 ldI .i64 p6 h fun n7 =>
 ixS s13_ 1 n7 fun p8 =>
 ldI .i64 p8 h fun n9 =>
 ixS s15_ 1 n1 fun p10 =>
 st1 p10 (.int .i64 (mnI (w64 (n5 + n9)) (1000000000000001))) h fun h11 =>
 X4 (spec_l05Paths_e4 s1_ s2_ i3_ i4_ s13_ s15_ (w64 (i16_ + (1)))) h11
 else
 spec_l05Paths_C4 S K X2 s1_ s2_ i3_ i4_ s15_ h
theorem spec_l05Paths_link4 (S : SatT) (K : AVal → H → Prop) (X2 : Frame → H → Prop) (X4 : Frame → H → Prop) (s1_ : Sl) (s2_ : Sl) (i3_ : Int) (i4_ : Int) (s13_ : Sl) (s15_ : Sl) (i16_ : Int) (h : H) : spec_l05Paths_w4 S K X2 X4 (spec_l05Paths_e4 s1_ s2_ i3_ i4_ s13_ s15_ i16_) h = spec_l05Paths_b4 S K X2 X4 s1_ s2_ i3_ i4_ s13_ s15_ i16_ h := by kernel_rfl
theorem spec_l05Paths_rule4 (S : SatT) (K : AVal → H → Prop) (X2 : Frame → H → Prop) (s1_ : Sl) (s2_ : Sl) (i3_ : Int) (i4_ : Int) (s13_ : Sl) (s15_ : Sl) (I_ : Int → H → Prop) (m_ : Int → H → Nat)
    (hs : ∀ (X4 : Frame → H → Prop) (i16_ : Int) (h : H), I_ i16_ h → (∀ (i16_' : Int) (h' : H), I_ i16_' h' → m_ i16_' h' < m_ i16_ h → X4 (spec_l05Paths_e4 s1_ s2_ i3_ i4_ s13_ s15_ i16_') h') → spec_l05Paths_b4 S K X2 X4 s1_ s2_ i3_ i4_ s13_ s15_ i16_ h) (i16_ : Int) {h : H} (h0 : I_ i16_ h) : spec_l05Paths_L4 S K X2 s1_ s2_ i3_ i4_ s13_ s15_ i16_ h :=
  loop_rule (σ := (Int)) (fun s_ => spec_l05Paths_e4 s1_ s2_ i3_ i4_ s13_ s15_ (s_)) (fun s_ h => I_ (s_) h) (fun s_ h => m_ (s_) h)
    (fun X s_ h hi hx => (spec_l05Paths_link4 S K X2 X s1_ s2_ i3_ i4_ s13_ s15_ (s_) h).mpr (hs X (s_) h hi fun i16_' h' hi' hm' => hx (i16_') h' hi' hm')) (i16_) h0
theorem spec_l05Paths_unroll4 (S : SatT) (K : AVal → H → Prop) (X2 : Frame → H → Prop) (s1_ : Sl) (s2_ : Sl) (i3_ : Int) (i4_ : Int) (s13_ : Sl) (s15_ : Sl) (i16_ : Int) (h : H) (hb : spec_l05Paths_b4 S K X2 (fun fr h => loopK (spec_l05Paths_w4 S K X2) fr h) s1_ s2_ i3_ i4_ s13_ s15_ i16_ h) : spec_l05Paths_L4 S K X2 s1_ s2_ i3_ i4_ s13_ s15_ i16_ h := loop_unroll ((spec_l05Paths_link4 S K X2 _ s1_ s2_ i3_ i4_ s13_ s15_ i16_ h).mpr hb)
def spec_l05Paths_C2 (S : SatT) (K : AVal → H → Prop) (s13_ : Sl) (h : H) : Prop :=
 K (.sl s13_) h
def spec_l05Paths_b2 (S : SatT) (K : AVal → H → Prop) (X2 : Frame → H → Prop) (s1_ : Sl) (s2_ : Sl) (i3_ : Int) (i4_ : Int) (s13_ : Sl) (h : H) : Prop :=
 bif (decide (i4_ > (0))) then
 mkS i3_ [.int .i64 (0)] h fun s0 h1 =>
 spec_l05Paths_L4 S K X2 s1_ s2_ i3_ i4_ s13_ s0 (0) h1
 else
 spec_l05Paths_C2 S K s13_ h
theorem spec_l05Paths_link2 (S : SatT) (K : AVal → H → Prop) (X2 : Frame → H → Prop) (s1_ : Sl) (s2_ : Sl) (i3_ : Int) (i4_ : Int) (s13_ : Sl) (h : H) : spec_l05Paths_w2 S K X2 (spec_l05Paths_e2 s1_ s2_ i3_ i4_ s13_) h = spec_l05Paths_b2 S K X2 s1_ s2_ i3_ i4_ s13_ h := by kernel_rfl
theorem spec_l05Paths_rule2 (S : SatT) (K : AVal → H → Prop) (s1_ : Sl) (s2_ : Sl) (i3_ : Int) (I_ : Int → Sl → H → Prop) (m_ : Int → Sl → H → Nat)
    (hs : ∀ (X2 : Frame → H → Prop) (i4_ : Int) (s13_ : Sl) (h : H), I_ i4_ s13_ h → (∀ (i4_' : Int) (s13_' : Sl) (h' : H), I_ i4_' s13_' h' → m_ i4_' s13_' h' < m_ i4_ s13_ h → X2 (spec_l05Paths_e2 s1_ s2_ i3_ i4_' s13_') h') → spec_l05Paths_b2 S K X2 s1_ s2_ i3_ i4_ s13_ h) (i4_ : Int) (s13_ : Sl) {h : H} (h0 : I_ i4_ s13_ h) : spec_l05Paths_L2 S K s1_ s2_ i3_ i4_ s13_ h :=
  loop_rule (σ := (Int) × (Sl)) (fun s_ => spec_l05Paths_e2 s1_ s2_ i3_ (s_.1) (s_.2)) (fun s_ h => I_ (s_.1) (s_.2) h) (fun s_ h => m_ (s_.1) (s_.2) h)
    (fun X s_ h hi hx => (spec_l05Paths_link2 S K X s1_ s2_ i3_ (s_.1) (s_.2) h).mpr (hs X (s_.1) (s_.2) h hi fun i4_' s13_' h' hi' hm' => hx (i4_', s13_') h' hi' hm')) (i4_, s13_) h0
theorem spec_l05Paths_unroll2 (S : SatT) (K : AVal → H → Prop) (s1_ : Sl) (s2_ : Sl) (i3_ : Int) (i4_ : Int) (s13_ : Sl) (h : H) (hb : spec_l05Paths_b2 S K (fun fr h => loopK (spec_l05Paths_w2 S K) fr h) s1_ s2_ i3_ i4_ s13_ h) : spec_l05Paths_L2 S K s1_ s2_ i3_ i4_ s13_ h := loop_unroll ((spec_l05Paths_link2 S K _ s1_ s2_ i3_ i4_ s13_ h).mpr hb)
def spec_l05Paths_C0 (S : SatT) (K : AVal → H → Prop) (s1_ : Sl) (s2_ : Sl) (i3_ : Int) (i4_ : Int) (s13_ : Sl) (h : H) : Prop :=
 spec_l05Paths_L2 S K s1_ s2_ i3_ i4_ s13_ h
def spec_l05Paths_b0 (S : SatT) (K : AVal → H → Prop) (X0 : Frame → H → Prop) (s1_ : Sl) (s2_ : Sl) (i3_ : Int) (i4_ : Int) (i5_ : Int) (s13_ : Sl) (i14_ : Int) (h : H) : Prop :=
 bif (decide (i14_ < i3_)) then
 bif (decide (i5_ < (0))) then
 ixS s13_ 1 i14_ fun p0 =>
 st1 p0 (.int .i64 (1)) h fun h1 =>
 X0 (spec_l05Paths_e0 s1_ s2_ i3_ i4_ i5_ s13_ (w64 (i14_ + (1)))) h1
 else
 bif (i14_ == i5_) then
 ixS s13_ 1 i14_ fun p2 =>
 st1 p2 (.int .i64 (1)) h fun h3 =>
 X0 (spec_l05Paths_e0 s1_ s2_ i3_ i4_ i5_ s13_ (w64 (i14_ + (1)))) h3
 else
 X0 (spec_l05Paths_e0 s1_ s2_ i3_ i4_ i5_ s13_ (w64 (i14_ + (1)))) h
 else
 spec_l05Paths_C0 S K s1_ s2_ i3_ i4_ s13_ h
theorem spec_l05Paths_link0 (S : SatT) (K : AVal → H → Prop) (X0 : Frame → H → Prop) (s1_ : Sl) (s2_ : Sl) (i3_ : Int) (i4_ : Int) (i5_ : Int) (s13_ : Sl) (i14_ : Int) (h : H) : spec_l05Paths_w0 S K X0 (spec_l05Paths_e0 s1_ s2_ i3_ i4_ i5_ s13_ i14_) h = spec_l05Paths_b0 S K X0 s1_ s2_ i3_ i4_ i5_ s13_ i14_ h := by kernel_rfl
theorem spec_l05Paths_rule0 (S : SatT) (K : AVal → H → Prop) (s1_ : Sl) (s2_ : Sl) (i3_ : Int) (i4_ : Int) (i5_ : Int) (s13_ : Sl) (I_ : Int → H → Prop) (m_ : Int → H → Nat)
    (hs : ∀ (X0 : Frame → H → Prop) (i14_ : Int) (h : H), I_ i14_ h → (∀ (i14_' : Int) (h' : H), I_ i14_' h' → m_ i14_' h' < m_ i14_ h → X0 (spec_l05Paths_e0 s1_ s2_ i3_ i4_ i5_ s13_ i14_') h') → spec_l05Paths_b0 S K X0 s1_ s2_ i3_ i4_ i5_ s13_ i14_ h) (i14_ : Int) {h : H} (h0 : I_ i14_ h) : spec_l05Paths_L0 S K s1_ s2_ i3_ i4_ i5_ s13_ i14_ h :=
  loop_rule (σ := (Int)) (fun s_ => spec_l05Paths_e0 s1_ s2_ i3_ i4_ i5_ s13_ (s_)) (fun s_ h => I_ (s_) h) (fun s_ h => m_ (s_) h)
    (fun X s_ h hi hx => (spec_l05Paths_link0 S K X s1_ s2_ i3_ i4_ i5_ s13_ (s_) h).mpr (hs X (s_) h hi fun i14_' h' hi' hm' => hx (i14_') h' hi' hm')) (i14_) h0
theorem spec_l05Paths_unroll0 (S : SatT) (K : AVal → H → Prop) (s1_ : Sl) (s2_ : Sl) (i3_ : Int) (i4_ : Int) (i5_ : Int) (s13_ : Sl) (i14_ : Int) (h : H) (hb : spec_l05Paths_b0 S K (fun fr h => loopK (spec_l05Paths_w0 S K) fr h) s1_ s2_ i3_ i4_ i5_ s13_ i14_ h) : spec_l05Paths_L0 S K s1_ s2_ i3_ i4_ i5_ s13_ i14_ h := loop_unroll ((spec_l05Paths_link0 S K _ s1_ s2_ i3_ i4_ i5_ s13_ i14_ h).mpr hb)
def spec_l05Paths_main (S : SatT) (K : AVal → H → Prop) (x0 : List AVal) (x1 : Sl) (x2 : Sl) (x3 : Int) (x4 : Int) (x5 : Int) (h : H) : Prop :=
 newK 2 x0 h fun p0 h1 =>
 mkS x3 [.int .i64 (0)] h1 fun s2 h3 =>
 spec_l05Paths_L0 S K x1 x2 x3 x4 x5 s2 (0) h3
theorem spec_l05Paths_main_link (S : SatT) (K : AVal → H → Prop) (x0 : List AVal) (x1 : Sl) (x2 : Sl) (x3 : Int) (x4 : Int) (x5 : Int) (h : H) : cwp S tab spec_l05Paths_M [] (bodyOf Try.f32) (kFun tab Try.f32.results.toList K) (fr0 Try.f32 [.agg x0, .sl x1, .sl x2, .int .i64 x3, .int .i64 x4, .int .i64 x5]) h = spec_l05Paths_main S K x0 x1 x2 x3 x4 x5 h := by kernel_rfl
theorem spec_l05Paths_call (x0 : List AVal) (x1 : Sl) (x2 : Sl) (x3 : Int) (x4 : Int) (x5 : Int) (h : H) (K : Sl → H → Prop) (hm : spec_l05Paths_main (Sat Try.prog) (fun v h' => ∃ r, v = .sl r ∧ K r h') x0 x1 x2 x3 x4 x5 h) : callS (Sat Try.prog) i_spec_l05Paths [.agg x0, .sl x1, .sl x2, .int .i64 x3, .int .i64 x4, .int .i64 x5] h K := by
  have := Sat.ex tok mixed spec_l05Paths_M Try.func32 (c := bodyOf Try.f32) (by kernel_rfl) (calls_of Try.func32 (c := bodyOf Try.f32) (by kernel_rfl) (by decide)) ((spec_l05Paths_main_link _ _ x0 x1 x2 x3 x4 x5 h).mpr hm)
  obtain ⟨v, h2, h3, r, rfl, h4⟩ := this; exact ⟨r, h2, h3, h4⟩

/-! ### (loop.example/g01354/impl.Set).rounds$1 -/
def impl_Set_rounds_1_M : Nat → List Nat := fun i => bif i == 0 then [0, 1, 2, 3, 4, 6, 7, 27, 28, 29] else []
def impl_Set_rounds_1_e0 (i0_ : Int) (i1_ : Int) (i2_ : Int) (i3_ : Int) (i4_ : Int) (p6_ : Pt) (p7_ : Pt) (s27_ : Sl) (i28_ : Int) (i29_ : Int) : Frame := [.int .i64 i0_, .int .i64 i1_, .int .i64 i2_, .int .i64 i3_, .int .i64 i4_, U, .ptr p6_, .ptr p7_, U, U, U, U, U, U, U, U, U, U, U, U, U, U, U, U, U, U, U, .sl s27_, .int .i64 i28_, .int .i64 i29_, U, U, U, U, U, U, U, U, U, U, U, U, U, U, U, U, U, U, U, U, U, U, U, U, U, U, U, U, U]
def impl_Set_rounds_1_w0 (S : SatT) (K : AVal → H → Prop) : (Frame → H → Prop) → Frame → H → Prop := fun X fr h => cwp S tab impl_Set_rounds_1_M (impl_Set_rounds_1_M 0) (sub [1, 1, 0, 0] (bodyOf Try.f55)) (kSeq (fun fr h => X (mask (impl_Set_rounds_1_M 0) fr) h) (kBlk 0 (kFun tab (Try.f55).results.toList K))) fr h
def impl_Set_rounds_1_L0 (S : SatT) (K : AVal → H → Prop) (i0_ : Int) (i1_ : Int) (i2_ : Int) (i3_ : Int) (i4_ : Int) (p6_ : Pt) (p7_ : Pt) (s27_ : Sl) (i28_ : Int) (i29_ : Int) (h : H) : Prop := loopK (impl_Set_rounds_1_w0 S K) (impl_Set_rounds_1_e0 i0_ i1_ i2_ i3_ i4_ p6_ p7_ s27_ i28_ i29_) h
def impl_Set_rounds_1_b0 (S : SatT) (K : AVal → H → Prop) (X0 : Frame → H → Prop) (i0_ : Int) (i1_ : Int) (i2_ : Int) (i3_ : Int) (i4_ : Int) (p6_ : Pt) (p7_ : Pt) (s27_ : Sl) (i28_ : Int) (i29_ : Int) (h : H) : Prop :=
 bif (decide (i29_ < i28_)) then
 ixS s27_ 4 i29_ fun p0 =>
 ldA p0 4 h fun cs1 =>
 newO [.int .i64 (0), .int .i64 (0), .int .i64 (0), .int .i64 (0)] h fun p2 h3 =>
 stN p2 4 cs1 h3 fun h4 =>
 ixA p2 4 1 (0) fun p5 =>
 ldI .i64 p5 h4 fun n6 =>
 bif (n6 == i1_) then
 ldV p7_ h4 fun v7 =>
 ixA p2 4 1 (2) fun p8 =>
 ldI .i64 p8 h4 fun n9 =>
 isPt p6_ (
 ldI .i64 (Pt.add p6_ 0) h4 fun n10 =>
 ixA p2 4 1 (1) fun p11 =>
 ldI .i64 p11 h4 fun n12 =>
 isPt p6_ (
 ldI .i64 (Pt.add p6_ 0) h4 fun n13 =>
 ixA p2 4 1 (3) fun p14 =>
 ldI .i64 p14 h4 fun n15 =>
 viaF v7 [.int .i64 i0_, .int .i64 n9, .int .i64 (w64 ((w64 (i2_ * n10)) + n12)), .int .i64 (w64 ((w64 (i3_ * n13)) + n15)), .int .i64 (w64 (i4_ - (1)))] fun g16 ys17 =>
 callV S g16 ys17 h4 fun v19 h18 =>
 X0 (impl_Set_rounds_1_e0 i0_ i1_ i2_ i3_ i4_ p6_ p7_ s27_ i28_ (w64 (i29_ + (1)))) h18))
 else
 X0 (impl_Set_rounds_1_e0 i0_ i1_ i2_ i3_ i4_ p6_ p7_ s27_ i28_ (w64 (i29_ + (1)))) h4
 else
 K (.tuple []) h
theorem impl_Set_rounds_1_link0 (S : SatT) (K : AVal → H → Prop) (X0 : Frame → H → Prop) (i0_ : Int) (i1_ : Int) (i2_ : Int) (i3_ : Int) (i4_ : Int) (p6_ : Pt) (p7_ : Pt) (s27_ : Sl) (i28_ : Int) (i29_ : Int) (h : H) : impl_Set_rounds_1_w0 S K X0 (impl_Set_rounds_1_e0 i0_ i1_ i2_ i3_ i4_ p6_ p7_ s27_ i28_ i29_) h = impl_Set_rounds_1_b0 S K X0 i0_ i1_ i2_ i3_ i4_ p6_ p7_ s27_ i28_ i29_ h := by kernel_rfl
theorem impl_Set_rounds_1_rule0 (S : SatT) (K : AVal → H → Prop) (i0_ : Int) (i1_ : Int) (i2_ : Int) (i3_ : Int) (i4_ : Int) (p6_ : Pt) (p7_ : Pt) (s27_ : Sl) (i28_ : Int) (I_ : Int → H → Prop) (m_ : Int → H → Nat)
    (hs : ∀ (X0 : Frame → H → Prop) (i29_ : Int) (h : H), I_ i29_ h → (∀ (i29_' : Int) (h' : H), I_ i29_' h' → m_ i29_' h' < m_ i29_ h → X0 (impl_Set_rounds_1_e0 i0_ i1_ i2_ i3_ i4_ p6_ p7_ s27_ i28_ i29_') h') → impl_Set_rounds_1_b0 S K X0 i0_ i1_ i2_ i3_ i4_ p6_ p7_ s27_ i28_ i29_ h) (i29_ : Int) {h : H} (h0 : I_ i29_ h) : impl_Set_rounds_1_L0 S K i0_ i1_ i2_ i3_ i4_ p6_ p7_ s27_ i28_ i29_ h :=
  loop_rule (σ := (Int)) (fun s_ => impl_Set_rounds_1_e0 i0_ i1_ i2_ i3_ i4_ p6_ p7_ s27_ i28_ (s_)) (fun s_ h => I_ (s_) h) (fun s_ h => m_ (s_) h)
    (fun X s_ h hi hx => (impl_Set_rounds_1_link0 S K X i0_ i1_ i2_ i3_ i4_ p6_ p7_ s27_ i28_ (s_) h).mpr (hs X (s_) h hi fun i29_' h' hi' hm' => hx (i29_') h' hi' hm')) (i29_) h0
theorem impl_Set_rounds_1_unroll0 (S : SatT) (K : AVal → H → Prop) (i0_ : Int) (i1_ : Int) (i2_ : Int) (i3_ : Int) (i4_ : Int) (p6_ : Pt) (p7_ : Pt) (s27_ : Sl) (i28_ : Int) (i29_ : Int) (h : H) (hb : impl_Set_rounds_1_b0 S K (fun fr h => loopK (impl_Set_rounds_1_w0 S K) fr h) i0_ i1_ i2_ i3_ i4_ p6_ p7_ s27_ i28_ i29_ h) : impl_Set_rounds_1_L0 S K i0_ i1_ i2_ i3_ i4_ p6_ p7_ s27_ i28_ i29_ h := loop_unroll ((impl_Set_rounds_1_link0 S K _ i0_ i1_ i2_ i3_ i4_ p6_ p7_ s27_ i28_ i29_ h).mpr hb)
def impl_Set_rounds_1_main (S : SatT) (K : AVal → H → Prop) (x0 : Int) (x1 : Int) (x2 : Int) (x3 : Int) (x4 : Int) (x5 : Pt) (x6 : Pt) (x7 : Pt) (h : H) : Prop :=
 bif (x4 == (0)) then
 bif (x0 == x1) then
 ldS x5 h fun s0 =>
 lenA [.int .i64 x2, .int .i64 x3] 2 (
 newS 1 2 (spl [.int .i64 (0), .int .i64 (0)] 0 2 [.int .i64 x2, .int .i64 x3]) h fun s1 h2 =>
 app s0 s1 2 h2 fun s3 h4 =>
 st1 x5 (.sl s3) h4 fun h5 =>
 K (.tuple []) h5)
 else
 K (.tuple []) h
 else
 isPt x6 (
 ldS (Pt.add x6 1) h fun s6 =>
 impl_Set_rounds_1_L0 S K x0 x1 x2 x3 x4 x6 x7 s6 (s6.len : Int) (0) h)
theorem impl_Set_rounds_1_main_link (S : SatT) (K : AVal → H → Prop) (x0 : Int) (x1 : Int) (x2 : Int) (x3 : Int) (x4 : Int) (x5 : Pt) (x6 : Pt) (x7 : Pt) (h : H) : cwp S tab impl_Set_rounds_1_M [] (bodyOf Try.f55) (kFun tab Try.f55.results.toList K) (fr0 Try.f55 [.int .i64 x0, .int .i64 x1, .int .i64 x2, .int .i64 x3, .int .i64 x4, .ptr x5, .ptr x6, .ptr x7]) h = impl_Set_rounds_1_main S K x0 x1 x2 x3 x4 x5 x6 x7 h := by kernel_rfl
theorem impl_Set_rounds_1_call (x0 : Int) (x1 : Int) (x2 : Int) (x3 : Int) (x4 : Int) (x5 : Pt) (x6 : Pt) (x7 : Pt) (h : H) (K : AVal → H → Prop) (hm : impl_Set_rounds_1_main (Sat Try.prog) (fun v h' => K v h') x0 x1 x2 x3 x4 x5 x6 x7 h) : callV (Sat Try.prog) i_impl_Set_rounds_1 [.int .i64 x0, .int .i64 x1, .int .i64 x2, .int .i64 x3, .int .i64 x4, .ptr x5, .ptr x6, .ptr x7] h K := by
  have := Sat.ex tok mixed impl_Set_rounds_1_M Try.func55 (c := bodyOf Try.f55) (by kernel_rfl) (calls_of Try.func55 (c := bodyOf Try.f55) (by kernel_rfl) (by decide)) ((impl_Set_rounds_1_main_link _ _ x0 x1 x2 x3 x4 x5 x6 x7 h).mpr hm)
  exact this

/-! ### slices.Compare[[]int64,int64] -/
def slices_Compare_s_int64_int64__M : Nat → List Nat := fun i => bif i == 0 then [0, 1, 9, 10, 11] else []
def slices_Compare_s_int64_int64__ks1 (S : SatT) (K : AVal → H → Prop) : Kont := kSeq (cwp S tab slices_Compare_s_int64_int64__M [] (sub [1, 1] (bodyOf Try.f66)) (kFun tab (Try.f66).results.toList K)) (kFun tab (Try.f66).results.toList K)
def slices_Compare_s_int64_int64__e0 (s0_ : Sl) (s1_ : Sl) (s9_ : Sl) (i10_ : Int) (i11_ : Int) : Frame := [.sl s0_, .sl s1_, U, U, U, U, U, U, U, .sl s9_, .int .i64 i10_, .int .i64 i11_, U, U, U, U, U, U, U, U, U, U, U, U, U, U, U, U, U, U, U, U, U, U, U, U]
def slices_Compare_s_int64_int64__w0 (S : SatT) (K : AVal → H → Prop) : (Frame → H → Prop) → Frame → H → Prop := fun X fr h => cwp S tab slices_Compare_s_int64_int64__M (slices_Compare_s_int64_int64__M 0) (sub [1, 0, 1, 0, 0] (bodyOf Try.f66)) (kSeq (fun fr h => X (mask (slices_Compare_s_int64_int64__M 0) fr) h) (kBlk 0 (slices_Compare_s_int64_int64__ks1 S K))) fr h
def slices_Compare_s_int64_int64__L0 (S : SatT) (K : AVal → H → Prop) (s0_ : Sl) (s1_ : Sl) (s9_ : Sl) (i10_ : Int) (i11_ : Int) (h : H) : Prop := loopK (slices_Compare_s_int64_int64__w0 S K) (slices_Compare_s_int64_int64__e0 s0_ s1_ s9_ i10_ i11_) h
def slices_Compare_s_int64_int64__C0 (S : SatT) (K : AVal → H → Prop) (s0_ : Sl) (s1_ : Sl) (h : H) : Prop :=
 bif (decide ((s0_.len : Int) < (s1_.len : Int))) then
 K (.int .i64 (-1)) h
 else
 K (.int .i64 (0)) h
def slices_Compare_s_int64_int64__b0 (S : SatT) (K : AVal → H → Prop) (X0 : Frame → H → Prop) (s0_ : Sl) (s1_ : Sl) (s9_ : Sl) (i10_ : Int) (i11_ : Int) (h : H) : Prop :=
 bif (decide (i11_ < i10_)) then
 ixS s9_ 1 i11_ fun p0 =>
 ldI .i64 p0 h fun n1 =>
 bif (decide (i11_ ≥ (s1_.len : Int))) then
 K (.int .i64 (1)) h
 else
 ixS s1_ 1 i11_ fun p2 =>
 ldI .i64 p2 h fun n3 =>
 callI S .i64 i_cmp_Compare_int64_ [.int .i64 n1, .int .i64 n3] h fun n5 h4 =>
 bif (n5 != (0)) then
 K (.int .i64 n5) h4
 else
 X0 (slices_Compare_s_int64_int64__e0 s0_ s1_ s9_ i10_ (w64 (i11_ + (1)))) h4
 else
 slices_Compare_s_int64_int64__C0 S K s0_ s1_ h
theorem slices_Compare_s_int64_int64__link0 (S : SatT) (K : AVal → H → Prop) (X0 : Frame → H → Prop) (s0_ : Sl) (s1_ : Sl) (s9_ : Sl) (i10_ : Int) (i11_ : Int) (h : H) : slices_Compare_s_int64_int64__w0 S K X0 (slices_Compare_s_int64_int64__e0 s0_ s1_ s9_ i10_ i11_) h = slices_Compare_s_int64_int64__b0 S K X0 s0_ s1_ s9_ i10_ i11_ h := by kernel_rfl
theorem slices_Compare_s_int64_int64__rule0 (S : SatT) (K : AVal → H → Prop) (s0_ : Sl) (s1_ : Sl) (s9_ : Sl) (i10_ : Int) (I_ : Int → H → Prop) (m_ : Int → H → Nat)
    (hs : ∀ (X0 : Frame → H → Prop) (i11_ : Int) (h : H), I_ i11_ h → (∀ (i11_' : Int) (h' : H), I_ i11_' h' → m_ i11_' h' < m_ i11_ h → X0 (slices_Compare_s_int64_int64__e0 s0_ s1_ s9_ i10_ i11_') h') → slices_Compare_s_int64_int64__b0 S K X0 s0_ s1_ s9_ i10_ i11_ h) (i11_ : Int) {h : H} (h0 : I_ i11_ h) : slices_Compare_s_int64_int64__L0 S K s0_ s1_ s9_ i10_ i11_ h :=
  loop_rule (σ := (Int)) (fun s_ => slices_Compare_s_int64_int64__e0 s0_ s1_ s9_ i10_ (s_)) (fun s_ h => I_ (s_) h) (fun s_ h => m_ (s_) h)
    (fun X s_ h hi hx => (slices_Compare_s_int64_int64__link0 S K X s0_ s1_ s9_ i10_ (s_) h).mpr (hs X (s_) h hi fun i11_' h' hi' hm' => hx (i11_') h' hi' hm')) (i11_) h0
theorem slices_Compare_s_int64_int64__unroll0 (S : SatT) (K : AVal → H → Prop) (s0_ : Sl) (s1_ : Sl) (s9_ : Sl) (i10_ : Int) (i11_ : Int) (h : H) (hb : slices_Compare_s_int64_int64__b0 S K (fun fr h => loopK (slices_Compare_s_int64_int64__w0 S K) fr h) s0_ s1_ s9_ i10_ i11_ h) : slices_Compare_s_int64_int64__L0 S K s0_ s1_ s9_ i10_ i11_ h := loop_unroll ((slices_Compare_s_int64_int64__link0 S K _ s0_ s1_ s9_ i10_ i11_ h).mpr hb)
def slices_Compare_s_int64_int64__main (S : SatT) (K : AVal → H → Prop) (x0 : Sl) (x1 : Sl) (h : H) : Prop :=
 slices_Compare_s_int64_int64__L0 S K x0 x1 x0 (x0.len : Int) (0) h
theorem slices_Compare_s_int64_int64__main_link (S : SatT) (K : AVal → H → Prop) (x0 : Sl) (x1 : Sl) (h : H) : cwp S tab slices_Compare_s_int64_int64__M [] (bodyOf Try.f66) (kFun tab Try.f66.results.toList K) (fr0 Try.f66 [.sl x0, .sl x1]) h = slices_Compare_s_int64_int64__main S K x0 x1 h := by kernel_rfl
theorem slices_Compare_s_int64_int64__call (x0 : Sl) (x1 : Sl) (h : H) (K : Int → H → Prop) (hm : slices_Compare_s_int64_int64__main (Sat Try.prog) (fun v h' => ∃ r, v = .int .i64 r ∧ K r h') x0 x1 h) : callI (Sat Try.prog) .i64 i_slices_Compare_s_int64_int64_ [.sl x0, .sl x1] h K := by
  have := Sat.ex tok mixed slices_Compare_s_int64_int64__M Try.func66 (c := bodyOf Try.f66) (by kernel_rfl) (calls_of Try.func66 (c := bodyOf Try.f66) (by kernel_rfl) (by decide)) ((slices_Compare_s_int64_int64__main_link _ _ x0 x1 h).mpr hm)
  obtain ⟨v, h2, h3, r, rfl, h4⟩ := this; exact ⟨r, h2, h3, h4⟩

/-! ### loop.example/g01354/impl.IsSet -/
def impl_IsSet_M : Nat → List Nat := fun i => bif i == 0 then [1, 6, 7, 8] else []
def impl_IsSet_ks1 (S : SatT) (K : AVal → H → Prop) : Kont := kSeq (cwp S tab impl_IsSet_M [] (sub [1, 1] (bodyOf Try.f54)) (kFun tab (Try.f54).results.toList K)) (kFun tab (Try.f54).results.toList K)
def impl_IsSet_e0 (p1_ : Pt) (s6_ : Sl) (i7_ : Int) (i8_ : Int) : Frame := [U, .ptr p1_, U, U, U, U, .sl s6_, .int .i64 i7_, .int .i64 i8_, U, U, U, U, U, U, U, U, U, U, U, U, U, U, U, U, U, U, U, U, U, U, U, U, U, U, U, U, U, U, U, U, U, U]
def impl_IsSet_w0 (S : SatT) (K : AVal → H → Prop) : (Frame → H → Prop) → Frame → H → Prop := fun X fr h => cwp S tab impl_IsSet_M (impl_IsSet_M 0) (sub [1, 0, 1, 0, 0] (bodyOf Try.f54)) (kSeq (fun fr h => X (mask (impl_IsSet_M 0) fr) h) (kBlk 0 (impl_IsSet_ks1 S K))) fr h
def impl_IsSet_L0 (S : SatT) (K : AVal → H → Prop) (p1_ : Pt) (s6_ : Sl) (i7_ : Int) (i8_ : Int) (h : H) : Prop := loopK (impl_IsSet_w0 S K) (impl_IsSet_e0 p1_ s6_ i7_ i8_) h
def impl_IsSet_C0 (S : SatT) (K : AVal → H → Prop) (p1_ : Pt) (h : H) : Prop :=
 isPt p1_ (
 ldI .i64 (Pt.add p1_ 0) h fun n0 =>
 callB S i_impl_within [.int .i64 n0, .int .i64 (1), .int .i64 (6)] h fun b2 h1 =>
 bif b2 then
 isPt p1_ (
 ldS (Pt.add p1_ 1) h1 fun s3 =>
 K (.bool (decide ((s3.len : Int) ≤ (16)))) h1)
 else
 K (.bool false) h1)
def impl_IsSet_b0 (S : SatT) (K : AVal → H → Prop) (X0 : Frame → H → Prop) (p1_ : Pt) (s6_ : Sl) (i7_ : Int) (i8_ : Int) (h : H) : Prop :=
 bif (decide (i8_ < i7_)) then
 ixS s6_ 4 i8_ fun p0 =>
 ldA p0 4 h fun cs1 =>
 newO [.int .i64 (0), .int .i64 (0), .int .i64 (0), .int .i64 (0)] h fun p2 h3 =>
 stN p2 4 cs1 h3 fun h4 =>
 ldA p2 4 h4 fun cs5 =>
 isPt p1_ (
 ldI .i64 (Pt.add p1_ 0) h4 fun n6 =>
 callB S i_impl_isTile [.agg cs5, .int .i64 n6] h4 fun b8 h7 =>
 bif (!b8) then
 K (.bool false) h7
 else
 bif (decide (i8_ > (0))) then
 isPt p1_ (
 ldS (Pt.add p1_ 1) h7 fun s9 =>
 ixS s9 4 (w64 (i8_ - (1))) fun p10 =>
 ldA p10 4 h7 fun cs11 =>
 ldA p2 4 h7 fun cs12 =>
 callI S .i64 i_impl_compare [.agg cs11, .agg cs12] h7 fun n14 h13 =>
 bif (decide (n14 ≥ (0))) then
 K (.bool false) h13
 else
 X0 (impl_IsSet_e0 p1_ s6_ i7_ (w64 (i8_ + (1)))) h13)
 else
 X0 (impl_IsSet_e0 p1_ s6_ i7_ (w64 (i8_ + (1)))) h7)
 else
 impl_IsSet_C0 S K p1_ h
theorem impl_IsSet_link0 (S : SatT) (K : AVal → H → Prop) (X0 : Frame → H → Prop) (p1_ : Pt) (s6_ : Sl) (i7_ : Int) (i8_ : Int) (h : H) : impl_IsSet_w0 S K X0 (impl_IsSet_e0 p1_ s6_ i7_ i8_) h = impl_IsSet_b0 S K X0 p1_ s6_ i7_ i8_ h := by kernel_rfl
theorem impl_IsSet_rule0 (S : SatT) (K : AVal → H → Prop) (p1_ : Pt) (s6_ : Sl) (i7_ : Int) (I_ : Int → H → Prop) (m_ : Int → H → Nat)
    (hs : ∀ (X0 : Frame → H → Prop) (i8_ : Int) (h : H), I_ i8_ h → (∀ (i8_' : Int) (h' : H), I_ i8_' h' → m_ i8_' h' < m_ i8_ h → X0 (impl_IsSet_e0 p1_ s6_ i7_ i8_') h') → impl_IsSet_b0 S K X0 p1_ s6_ i7_ i8_ h) (i8_ : Int) {h : H} (h0 : I_ i8_ h) : impl_IsSet_L0 S K p1_ s6_ i7_ i8_ h :=
  loop_rule (σ := (Int)) (fun s_ => impl_IsSet_e0 p1_ s6_ i7_ (s_)) (fun s_ h => I_ (s_) h) (fun s_ h => m_ (s_) h)
    (fun X s_ h hi hx => (impl_IsSet_link0 S K X p1_ s6_ i7_ (s_) h).mpr (hs X (s_) h hi fun i8_' h' hi' hm' => hx (i8_') h' hi' hm')) (i8_) h0
theorem impl_IsSet_unroll0 (S : SatT) (K : AVal → H → Prop) (p1_ : Pt) (s6_ : Sl) (i7_ : Int) (i8_ : Int) (h : H) (hb : impl_IsSet_b0 S K (fun fr h => loopK (impl_IsSet_w0 S K) fr h) p1_ s6_ i7_ i8_ h) : impl_IsSet_L0 S K p1_ s6_ i7_ i8_ h := loop_unroll ((impl_IsSet_link0 S K _ p1_ s6_ i7_ i8_ h).mpr hb)
def impl_IsSet_main (S : SatT) (K : AVal → H → Prop) (x0 : List AVal) (h : H) : Prop :=
 newK 2 x0 h fun p0 h1 =>
 isPt p0 (
 ldS (Pt.add p0 1) h1 fun s2 =>
 impl_IsSet_L0 S K p0 s2 (s2.len : Int) (0) h1)
theorem impl_IsSet_main_link (S : SatT) (K : AVal → H → Prop) (x0 : List AVal) (h : H) : cwp S tab impl_IsSet_M [] (bodyOf Try.f54) (kFun tab Try.f54.results.toList K) (fr0 Try.f54 [.agg x0]) h = impl_IsSet_main S K x0 h := by kernel_rfl
theorem impl_IsSet_call (x0 : List AVal) (h : H) (K : Bool → H → Prop) (hm : impl_IsSet_main (Sat Try.prog) (fun v h' => ∃ r, v = .bool r ∧ K r h') x0 h) : callB (Sat Try.prog) i_impl_IsSet [.agg x0] h K := by
  have := Sat.ex tok mixed impl_IsSet_M Try.func54 (c := bodyOf Try.f54) (by kernel_rfl) (calls_of Try.func54 (c := bodyOf Try.f54) (by kernel_rfl) (by decide)) ((impl_IsSet_main_link _ _ x0 h).mpr hm)
  obtain ⟨v, h2, h3, r, rfl, h4⟩ := this; exact ⟨r, h2, h3, h4⟩

/-! ### loop.example/g01354/spec.l06Inverse -/
def spec_l06Inverse_M : Nat → List Nat := fun i => bif i == 0 then [3, 4, 5] else []
def spec_l06Inverse_ks2 (S : SatT) (K : AVal → H → Prop) : Kont := kSeq (cwp S tab spec_l06Inverse_M [] (sub [1, 1, 1] (bodyOf Try.f43)) (kFun tab (Try.f43).results.toList K)) (kFun tab (Try.f43).results.toList K)
def spec_l06Inverse_e0 (i3_ : Int) (i4_ : Int) (i5_ : Int) : Frame := [U, U, U, .int .i64 i3_, .int .i64 i4_, .int .i64 i5_, U, U, U, U, U, U, U, U, U, U, U, U, U, U, U, U, U]
def spec_l06Inverse_w0 (S : SatT) (K : AVal → H → Prop) : (Frame → H → Prop) → Frame → H → Prop := fun X fr h => cwp S tab spec_l06Inverse_M (spec_l06Inverse_M 0) (sub [1, 1, 0, 1, 0, 0] (bodyOf Try.f43)) (kSeq (fun fr h => X (mask (spec_l06Inverse_M 0) fr) h) (kBlk 0 (spec_l06Inverse_ks2 S K))) fr h
def spec_l06Inverse_L0 (S : SatT) (K : AVal → H → Prop) (i3_ : Int) (i4_ : Int) (i5_ : Int) (h : H) : Prop := loopK (spec_l06Inverse_w0 S K) (spec_l06Inverse_e0 i3_ i4_ i5_) h
def spec_l06Inverse_C0 (S : SatT) (K : AVal → H → Prop) (i3_ : Int) (h : H) : Prop :=
 K (.int .i64 i3_) h
def spec_l06Inverse_b0 (S : SatT) (K : AVal → H → Prop) (X0 : Frame → H → Prop) (i3_ : Int) (i4_ : Int) (i5_ : Int) (h : H) : Prop :=
 bif (decide (i5_ > (0))) then
 nz (2) (
 bif ((Int.tmod i5_ (2)) == (1)) then
 nz (10007) (
 nz (10007) (
 nz (2) (
 X0 (spec_l06Inverse_e0 (Int.tmod (w64 (i3_ * i4_)) (10007)) (Int.tmod (w64 (i4_ * i4_)) (10007)) (w64 (Int.tdiv i5_ (2)))) h)))
 else
 nz (10007) (
 nz (2) (
 X0 (spec_l06Inverse_e0 i3_ (Int.tmod (w64 (i4_ * i4_)) (10007)) (w64 (Int.tdiv i5_ (2)))) h)))
 else
 spec_l06Inverse_C0 S K i3_ h
theorem spec_l06Inverse_link0 (S : SatT) (K : AVal → H → Prop) (X0 : Frame → H → Prop) (i3_ : Int) (i4_ : Int) (i5_ : Int) (h : H) : spec_l06Inverse_w0 S K X0 (spec_l06Inverse_e0 i3_ i4_ i5_) h = spec_l06Inverse_b0 S K X0 i3_ i4_ i5_ h := by kernel_rfl
theorem spec_l06Inverse_rule0 (S : SatT) (K : AVal → H → Prop) (I_ : Int → Int → Int → H → Prop) (m_ : Int → Int → Int → H → Nat)
    (hs : ∀ (X0 : Frame → H → Prop) (i3_ : Int) (i4_ : Int) (i5_ : Int) (h : H), I_ i3_ i4_ i5_ h → (∀ (i3_' : Int) (i4_' : Int) (i5_' : Int) (h' : H), I_ i3_' i4_' i5_' h' → m_ i3_' i4_' i5_' h' < m_ i3_ i4_ i5_ h → X0 (spec_l06Inverse_e0 i3_' i4_' i5_') h') → spec_l06Inverse_b0 S K X0 i3_ i4_ i5_ h) (i3_ : Int) (i4_ : Int) (i5_ : Int) {h : H} (h0 : I_ i3_ i4_ i5_ h) : spec_l06Inverse_L0 S K i3_ i4_ i5_ h :=
  loop_rule (σ := (Int) × (Int) × (Int)) (fun s_ => spec_l06Inverse_e0 (s_.1) (s_.2.1) (s_.2.2)) (fun s_ h => I_ (s_.1) (s_.2.1) (s_.2.2) h) (fun s_ h => m_ (s_.1) (s_.2.1) (s_.2.2) h)
    (fun X s_ h hi hx => (spec_l06Inverse_link0 S K X (s_.1) (s_.2.1) (s_.2.2) h).mpr (hs X (s_.1) (s_.2.1) (s_.2.2) h hi fun i3_' i4_' i5_' h' hi' hm' => hx (i3_', i4_', i5_') h' hi' hm')) (i3_, i4_, i5_) h0
theorem spec_l06Inverse_unroll0 (S : SatT) (K : AVal → H → Prop) (i3_ : Int) (i4_ : Int) (i5_ : Int) (h : H) (hb : spec_l06Inverse_b0 S K (fun fr h => loopK (spec_l06Inverse_w0 S K) fr h) i3_ i4_ i5_ h) : spec_l06Inverse_L0 S K i3_ i4_ i5_ h := loop_unroll ((spec_l06Inverse_link0 S K _ i3_ i4_ i5_ h).mpr hb)
def spec_l06Inverse_main (S : SatT) (K : AVal → H → Prop) (x0 : Int) (h : H) : Prop :=
 spec_l06Inverse_L0 S K (1) x0 (10005) h
theorem spec_l06Inverse_main_link (S : SatT) (K : AVal → H → Prop) (x0 : Int) (h : H) : cwp S tab spec_l06Inverse_M [] (bodyOf Try.f43) (kFun tab Try.f43.results.toList K) (fr0 Try.f43 [.int .i64 x0]) h = spec_l06Inverse_main S K x0 h := by kernel_rfl
theorem spec_l06Inverse_call (x0 : Int) (h : H) (K : Int → H → Prop) (hm : spec_l06Inverse_main (Sat Try.prog) (fun v h' => ∃ r, v = .int .i64 r ∧ K r h') x0 h) : callI (Sat Try.prog) .i64 i_spec_l06Inverse [.int .i64 x0] h K := by
  have := Sat.ex tok mixed spec_l06Inverse_M Try.func43 (c := bodyOf Try.f43) (by kernel_rfl) (calls_of Try.func43 (c := bodyOf Try.f43) (by kernel_rfl) (by decide)) ((spec_l06Inverse_main_link _ _ x0 h).mpr hm)
  obtain ⟨v, h2, h3, r, rfl, h4⟩ := this; exact ⟨r, h2, h3, h4⟩

/-! ### loop.example/g01354/laws.heldInt64S -/
def laws_heldInt64S_M : Nat → List Nat := fun i => bif i == 0 then [0, 1, 5] else []
def laws_heldInt64S_ks1 (S : SatT) (K : AVal → H → Prop) : Kont := kSeq (cwp S tab laws_heldInt64S_M [] (sub [1, 1] (bodyOf Try.f13)) (kFun tab (Try.f13).results.toList K)) (kFun tab (Try.f13).results.toList K)
def laws_heldInt64S_e0 (s0_ : Sl) (i1_ : Int) (i5_ : Int) : Frame := [.sl s0_, .int .i64 i1_, U, U, U, .int .i64 i5_, U, U, U, U, U, U, U, U, U, U, U, U, U, U, U]
def laws_heldInt64S_w0 (S : SatT) (K : AVal → H → Prop) : (Frame → H → Prop) → Frame → H → Prop := fun X fr h => cwp S tab laws_heldInt64S_M (laws_heldInt64S_M 0) (sub [1, 0, 1, 0, 0] (bodyOf Try.f13)) (kSeq (fun fr h => X (mask (laws_heldInt64S_M 0) fr) h) (kBlk 0 (laws_heldInt64S_ks1 S K))) fr h
def laws_heldInt64S_L0 (S : SatT) (K : AVal → H → Prop) (s0_ : Sl) (i1_ : Int) (i5_ : Int) (h : H) : Prop := loopK (laws_heldInt64S_w0 S K) (laws_heldInt64S_e0 s0_ i1_ i5_) h
def laws_heldInt64S_C0 (S : SatT) (K : AVal → H → Prop) (i1_ : Int) (h : H) : Prop :=
 K (.int .i64 i1_) h
def laws_heldInt64S_b0 (S : SatT) (K : AVal → H → Prop) (X0 : Frame → H → Prop) (s0_ : Sl) (i1_ : Int) (i5_ : Int) (h : H) : Prop :=
 bif (decide (i5_ < (s0_.len : Int))) then
 ixS s0_ 1 i5_ fun p0 =>
 ldI .i64 p0 h fun n1 =>
 bif (n1 != i1_) then
 K (.int .i64 (-1)) h
 else
 X0 (laws_heldInt64S_e0 s0_ (w64 (i1_ + (1))) (w64 (i5_ + (1)))) h
 else
 laws_heldInt64S_C0 S K i1_ h
theorem laws_heldInt64S_link0 (S : SatT) (K : AVal → H → Prop) (X0 : Frame → H → Prop) (s0_ : Sl) (i1_ : Int) (i5_ : Int) (h : H) : laws_heldInt64S_w0 S K X0 (laws_heldInt64S_e0 s0_ i1_ i5_) h = laws_heldInt64S_b0 S K X0 s0_ i1_ i5_ h := by kernel_rfl
theorem laws_heldInt64S_rule0 (S : SatT) (K : AVal → H → Prop) (s0_ : Sl) (I_ : Int → Int → H → Prop) (m_ : Int → Int → H → Nat)
    (hs : ∀ (X0 : Frame → H → Prop) (i1_ : Int) (i5_ : Int) (h : H), I_ i1_ i5_ h → (∀ (i1_' : Int) (i5_' : Int) (h' : H), I_ i1_' i5_' h' → m_ i1_' i5_' h' < m_ i1_ i5_ h → X0 (laws_heldInt64S_e0 s0_ i1_' i5_') h') → laws_heldInt64S_b0 S K X0 s0_ i1_ i5_ h) (i1_ : Int) (i5_ : Int) {h : H} (h0 : I_ i1_ i5_ h) : laws_heldInt64S_L0 S K s0_ i1_ i5_ h :=
  loop_rule (σ := (Int) × (Int)) (fun s_ => laws_heldInt64S_e0 s0_ (s_.1) (s_.2)) (fun s_ h => I_ (s_.1) (s_.2) h) (fun s_ h => m_ (s_.1) (s_.2) h)
    (fun X s_ h hi hx => (laws_heldInt64S_link0 S K X s0_ (s_.1) (s_.2) h).mpr (hs X (s_.1) (s_.2) h hi fun i1_' i5_' h' hi' hm' => hx (i1_', i5_') h' hi' hm')) (i1_, i5_) h0
theorem laws_heldInt64S_unroll0 (S : SatT) (K : AVal → H → Prop) (s0_ : Sl) (i1_ : Int) (i5_ : Int) (h : H) (hb : laws_heldInt64S_b0 S K (fun fr h => loopK (laws_heldInt64S_w0 S K) fr h) s0_ i1_ i5_ h) : laws_heldInt64S_L0 S K s0_ i1_ i5_ h := loop_unroll ((laws_heldInt64S_link0 S K _ s0_ i1_ i5_ h).mpr hb)
def laws_heldInt64S_main (S : SatT) (K : AVal → H → Prop) (x0 : Sl) (x1 : Int) (h : H) : Prop :=
 laws_heldInt64S_L0 S K x0 x1 (0) h
theorem laws_heldInt64S_main_link (S : SatT) (K : AVal → H → Prop) (x0 : Sl) (x1 : Int) (h : H) : cwp S tab laws_heldInt64S_M [] (bodyOf Try.f13) (kFun tab Try.f13.results.toList K) (fr0 Try.f13 [.sl x0, .int .i64 x1]) h = laws_heldInt64S_main S K x0 x1 h := by kernel_rfl
theorem laws_heldInt64S_call (x0 : Sl) (x1 : Int) (h : H) (K : Int → H → Prop) (hm : laws_heldInt64S_main (Sat Try.prog) (fun v h' => ∃ r, v = .int .i64 r ∧ K r h') x0 x1 h) : callI (Sat Try.prog) .i64 i_laws_heldInt64S [.sl x0, .int .i64 x1] h K := by
  have := Sat.ex tok mixed laws_heldInt64S_M Try.func13 (c := bodyOf Try.f13) (by kernel_rfl) (calls_of Try.func13 (c := bodyOf Try.f13) (by kernel_rfl) (by decide)) ((laws_heldInt64S_main_link _ _ x0 x1 h).mpr hm)
  obtain ⟨v, h2, h3, r, rfl, h4⟩ := this; exact ⟨r, h2, h3, h4⟩

/-! ### loop.example/g01354/laws.eqInt64S -/
def laws_eqInt64S_M : Nat → List Nat := fun i => bif i == 0 then [0, 1, 5] else []
def laws_eqInt64S_ks4 (S : SatT) (K : AVal → H → Prop) : Kont := kSeq (cwp S tab laws_eqInt64S_M [] (sub [1, 1, 1] (bodyOf Try.f9)) (kFun tab (Try.f9).results.toList K)) (kFun tab (Try.f9).results.toList K)
def laws_eqInt64S_e0 (s0_ : Sl) (s1_ : Sl) (i5_ : Int) : Frame := [.sl s0_, .sl s1_, U, U, U, .int .i64 i5_, U, U, U, U, U, U, U, U, U, U, U, U, U, U, U, U, U, U, U, U]
def laws_eqInt64S_w0 (S : SatT) (K : AVal → H → Prop) : (Frame → H → Prop) → Frame → H → Prop := fun X fr h => cwp S tab laws_eqInt64S_M (laws_eqInt64S_M 0) (sub [1, 1, 0, 1, 0, 0] (bodyOf Try.f9)) (kSeq (fun fr h => X (mask (laws_eqInt64S_M 0) fr) h) (kBlk 0 (laws_eqInt64S_ks4 S K))) fr h
def laws_eqInt64S_L0 (S : SatT) (K : AVal → H → Prop) (s0_ : Sl) (s1_ : Sl) (i5_ : Int) (h : H) : Prop := loopK (laws_eqInt64S_w0 S K) (laws_eqInt64S_e0 s0_ s1_ i5_) h
def laws_eqInt64S_C0 (S : SatT) (K : AVal → H → Prop) (h : H) : Prop :=
 K (.bool true) h
def laws_eqInt64S_b0 (S : SatT) (K : AVal → H → Prop) (X0 : Frame → H → Prop) (s0_ : Sl) (s1_ : Sl) (i5_ : Int) (h : H) : Prop :=
 bif (decide (i5_ < (s0_.len : Int))) then
 ixS s0_ 1 i5_ fun p0 =>
 ldI .i64 p0 h fun n1 =>
 ixS s1_ 1 i5_ fun p2 =>
 ldI .i64 p2 h fun n3 =>
 bif (n1 != n3) then
 K (.bool false) h
 else
 X0 (laws_eqInt64S_e0 s0_ s1_ (w64 (i5_ + (1)))) h
 else
 laws_eqInt64S_C0 S K h
theorem laws_eqInt64S_link0 (S : SatT) (K : AVal → H → Prop) (X0 : Frame → H → Prop) (s0_ : Sl) (s1_ : Sl) (i5_ : Int) (h : H) : laws_eqInt64S_w0 S K X0 (laws_eqInt64S_e0 s0_ s1_ i5_) h = laws_eqInt64S_b0 S K X0 s0_ s1_ i5_ h := by kernel_rfl
theorem laws_eqInt64S_rule0 (S : SatT) (K : AVal → H → Prop) (s0_ : Sl) (s1_ : Sl) (I_ : Int → H → Prop) (m_ : Int → H → Nat)
    (hs : ∀ (X0 : Frame → H → Prop) (i5_ : Int) (h : H), I_ i5_ h → (∀ (i5_' : Int) (h' : H), I_ i5_' h' → m_ i5_' h' < m_ i5_ h → X0 (laws_eqInt64S_e0 s0_ s1_ i5_') h') → laws_eqInt64S_b0 S K X0 s0_ s1_ i5_ h) (i5_ : Int) {h : H} (h0 : I_ i5_ h) : laws_eqInt64S_L0 S K s0_ s1_ i5_ h :=
  loop_rule (σ := (Int)) (fun s_ => laws_eqInt64S_e0 s0_ s1_ (s_)) (fun s_ h => I_ (s_) h) (fun s_ h => m_ (s_) h)
    (fun X s_ h hi hx => (laws_eqInt64S_link0 S K X s0_ s1_ (s_) h).mpr (hs X (s_) h hi fun i5_' h' hi' hm' => hx (i5_') h' hi' hm')) (i5_) h0
theorem laws_eqInt64S_unroll0 (S : SatT) (K : AVal → H → Prop) (s0_ : Sl) (s1_ : Sl) (i5_ : Int) (h : H) (hb : laws_eqInt64S_b0 S K (fun fr h => loopK (laws_eqInt64S_w0 S K) fr h) s0_ s1_ i5_ h) : laws_eqInt64S_L0 S K s0_ s1_ i5_ h := loop_unroll ((laws_eqInt64S_link0 S K _ s0_ s1_ i5_ h).mpr hb)
def laws_eqInt64S_main (S : SatT) (K : AVal → H → Prop) (x0 : Sl) (x1 : Sl) (h : H) : Prop :=
 bif ((x0.len : Int) != (x1.len : Int)) then
 K (.bool false) h
 else
 laws_eqInt64S_L0 S K x0 x1 (0) h
theorem laws_eqInt64S_main_link (S : SatT) (K : AVal → H → Prop) (x0 : Sl) (x1 : Sl) (h : H) : cwp S tab laws_eqInt64S_M [] (bodyOf Try.f9) (kFun tab Try.f9.results.toList K) (fr0 Try.f9 [.sl x0, .sl x1]) h = laws_eqInt64S_main S K x0 x1 h := by kernel_rfl
theorem laws_eqInt64S_call (x0 : Sl) (x1 : Sl) (h : H) (K : Bool → H → Prop) (hm : laws_eqInt64S_main (Sat Try.prog) (fun v h' => ∃ r, v = .bool r ∧ K r h') x0 x1 h) : callB (Sat Try.prog) i_laws_eqInt64S [.sl x0, .sl x1] h K := by
  have := Sat.ex tok mixed laws_eqInt64S_M Try.func9 (c := bodyOf Try.f9) (by kernel_rfl) (calls_of Try.func9 (c := bodyOf Try.f9) (by kernel_rfl) (by decide)) ((laws_eqInt64S_main_link _ _ x0 x1 h).mpr hm)
  obtain ⟨v, h2, h3, r, rfl, h4⟩ := this; exact ⟨r, h2, h3, h4⟩

/-! ### loop.example/g01354/laws.eqTile -/
def laws_eqTile_M : Nat → List Nat := fun i => bif i == 0 then [2, 3, 5] else []
def laws_eqTile_ks1 (S : SatT) (K : AVal → H → Prop) : Kont := kSeq (cwp S tab laws_eqTile_M [] (sub [1, 1] (bodyOf Try.f51)) (kFun tab (Try.f51).results.toList K)) (kFun tab (Try.f51).results.toList K)
def laws_eqTile_e0 (p2_ : Pt) (p3_ : Pt) (i5_ : Int) : Frame := [U, U, .ptr p2_, .ptr p3_, U, .int .i64 i5_, U, U, U, U, U, U, U, U, U, U, U]
def laws_eqTile_w0 (S : SatT) (K : AVal → H → Prop) : (Frame → H → Prop) → Frame → H → Prop := fun X fr h => cwp S tab laws_eqTile_M (laws_eqTile_M 0) (sub [1, 0, 1, 0, 0] (bodyOf Try.f51)) (kSeq (fun fr h => X (mask (laws_eqTile_M 0) fr) h) (kBlk 0 (laws_eqTile_ks1 S K))) fr h
def laws_eqTile_L0 (S : SatT) (K : AVal → H → Prop) (p2_ : Pt) (p3_ : Pt) (i5_ : Int) (h : H) : Prop := loopK (laws_eqTile_w0 S K) (laws_eqTile_e0 p2_ p3_ i5_) h
def laws_eqTile_C0 (S : SatT) (K : AVal → H → Prop) (h : H) : Prop :=
 K (.bool true) h
def laws_eqTile_b0 (S : SatT) (K : AVal → H → Prop) (X0 : Frame → H → Prop) (p2_ : Pt) (p3_ : Pt) (i5_ : Int) (h : H) : Prop :=
 bif (decide (i5_ < (4))) then
 ixA p2_ 4 1 i5_ fun p0 =>
 ldI .i64 p0 h fun n1 =>
 ixA p3_ 4 1 i5_ fun p2 =>
 ldI .i64 p2 h fun n3 =>
 bif (n1 != n3) then
 K (.bool false) h
 else
 X0 (laws_eqTile_e0 p2_ p3_ (w64 (i5_ + (1)))) h
 else
 laws_eqTile_C0 S K h
theorem laws_eqTile_link0 (S : SatT) (K : AVal → H → Prop) (X0 : Frame → H → Prop) (p2_ : Pt) (p3_ : Pt) (i5_ : Int) (h : H) : laws_eqTile_w0 S K X0 (laws_eqTile_e0 p2_ p3_ i5_) h = laws_eqTile_b0 S K X0 p2_ p3_ i5_ h := by kernel_rfl
theorem laws_eqTile_rule0 (S : SatT) (K : AVal → H → Prop) (p2_ : Pt) (p3_ : Pt) (I_ : Int → H → Prop) (m_ : Int → H → Nat)
    (hs : ∀ (X0 : Frame → H → Prop) (i5_ : Int) (h : H), I_ i5_ h → (∀ (i5_' : Int) (h' : H), I_ i5_' h' → m_ i5_' h' < m_ i5_ h → X0 (laws_eqTile_e0 p2_ p3_ i5_') h') → laws_eqTile_b0 S K X0 p2_ p3_ i5_ h) (i5_ : Int) {h : H} (h0 : I_ i5_ h) : laws_eqTile_L0 S K p2_ p3_ i5_ h :=
  loop_rule (σ := (Int)) (fun s_ => laws_eqTile_e0 p2_ p3_ (s_)) (fun s_ h => I_ (s_) h) (fun s_ h => m_ (s_) h)
    (fun X s_ h hi hx => (laws_eqTile_link0 S K X p2_ p3_ (s_) h).mpr (hs X (s_) h hi fun i5_' h' hi' hm' => hx (i5_') h' hi' hm')) (i5_) h0
theorem laws_eqTile_unroll0 (S : SatT) (K : AVal → H → Prop) (p2_ : Pt) (p3_ : Pt) (i5_ : Int) (h : H) (hb : laws_eqTile_b0 S K (fun fr h => loopK (laws_eqTile_w0 S K) fr h) p2_ p3_ i5_ h) : laws_eqTile_L0 S K p2_ p3_ i5_ h := loop_unroll ((laws_eqTile_link0 S K _ p2_ p3_ i5_ h).mpr hb)
def laws_eqTile_main (S : SatT) (K : AVal → H → Prop) (x0 : List AVal) (x1 : List AVal) (h : H) : Prop :=
 newK 4 x0 h fun p0 h1 =>
 newK 4 x1 h1 fun p2 h3 =>
 laws_eqTile_L0 S K p0 p2 (0) h3
theorem laws_eqTile_main_link (S : SatT) (K : AVal → H → Prop) (x0 : List AVal) (x1 : List AVal) (h : H) : cwp S tab laws_eqTile_M [] (bodyOf Try.f51) (kFun tab Try.f51.results.toList K) (fr0 Try.f51 [.agg x0, .agg x1]) h = laws_eqTile_main S K x0 x1 h := by kernel_rfl
theorem laws_eqTile_call (x0 : List AVal) (x1 : List AVal) (h : H) (K : Bool → H → Prop) (hm : laws_eqTile_main (Sat Try.prog) (fun v h' => ∃ r, v = .bool r ∧ K r h') x0 x1 h) : callB (Sat Try.prog) i_laws_eqTile [.agg x0, .agg x1] h K := by
  have := Sat.ex tok mixed laws_eqTile_M Try.func51 (c := bodyOf Try.f51) (by kernel_rfl) (calls_of Try.func51 (c := bodyOf Try.f51) (by kernel_rfl) (by decide)) ((laws_eqTile_main_link _ _ x0 x1 h).mpr hm)
  obtain ⟨v, h2, h3, r, rfl, h4⟩ := this; exact ⟨r, h2, h3, h4⟩

/-! ### math/bits.Mul64 -/
def math_bits_Mul64_M : Nat → List Nat := fun i => []
def math_bits_Mul64_main (S : SatT) (K : AVal → H → Prop) (x0 : Int) (x1 : Int) (h : H) : Prop :=
 nn (32) (
 nn (32) (
 nn (32) (
 nn (32) (
 nn (32) (
 K (.tuple [.int .u64 (IntKind.wrap .u64 ((IntKind.wrap .u64 ((IntKind.wrap .u64 ((shrI .u64 x0 (32)) * (shrI .u64 x1 (32)))) + (shrI .u64 (IntKind.wrap .u64 ((IntKind.wrap .u64 ((shrI .u64 x0 (32)) * (bitsOp .and .u64 x1 (4294967295)))) + (shrI .u64 (IntKind.wrap .u64 ((bitsOp .and .u64 x0 (4294967295)) * (bitsOp .and .u64 x1 (4294967295)))) (32)))) (32)))) + (shrI .u64 (IntKind.wrap .u64 ((bitsOp .and .u64 (IntKind.wrap .u64 ((IntKind.wrap .u64 ((shrI .u64 x0 (32)) * (bitsOp .and .u64 x1 (4294967295)))) + (shrI .u64 (IntKind.wrap .u64 ((bitsOp .and .u64 x0 (4294967295)) * (bitsOp .and .u64 x1 (4294967295)))) (32)))) (4294967295)) + (IntKind.wrap .u64 ((bitsOp .and .u64 x0 (4294967295)) * (shrI .u64 x1 (32)))))) (32)))), .int .u64 (IntKind.wrap .u64 (x0 * x1))]) h)))))
theorem math_bits_Mul64_main_link (S : SatT) (K : AVal → H → Prop) (x0 : Int) (x1 : Int) (h : H) : cwp S tab math_bits_Mul64_M [] (bodyOf Try.f63) (kFun tab Try.f63.results.toList K) (fr0 Try.f63 [.int .u64 x0, .int .u64 x1]) h = math_bits_Mul64_main S K x0 x1 h := by kernel_rfl
theorem math_bits_Mul64_call (x0 : Int) (x1 : Int) (h : H) (K : AVal → H → Prop) (hm : math_bits_Mul64_main (Sat Try.prog) (fun v h' => K v h') x0 x1 h) : callV (Sat Try.prog) i_math_bits_Mul64 [.int .u64 x0, .int .u64 x1] h K := by
  have := Sat.ex tok mixed math_bits_Mul64_M Try.func63 (c := bodyOf Try.f63) (by kernel_rfl) (calls_of Try.func63 (c := bodyOf Try.f63) (by kernel_rfl) (by decide)) ((math_bits_Mul64_main_link _ _ x0 x1 h).mpr hm)
  exact this

/-! ### loop.example/g01354/impl.stripOf -/
def impl_stripOf_M : Nat → List Nat := fun i => []
def impl_stripOf_main (S : SatT) (K : AVal → H → Prop) (x0 : List AVal) (x1 : Int) (h : H) : Prop :=
 newK 2 x0 h fun p0 h1 =>
 newO [.int .i64 x1] h1 fun p2 h3 =>
 ldA p0 2 h3 fun cs4 =>
 callI S .i64 i_impl_setCode [.agg cs4, .func 45 [.ptr p2]] h3 fun n6 h5 =>
 bif (n6 != (0)) then
 K (.tuple [.ptr Pt.nil, .int .i64 n6]) h5
 else
 ldA p0 2 h5 fun cs7 =>
 ldI .i64 p2 h5 fun n8 =>
 callV S i_impl_newStrip [.agg cs7, .int .i64 n8] h5 fun v10 h9 =>
 viaT v10 fun vs11 =>
 exP vs11 0 fun p12 =>
 viaT v10 fun vs13 =>
 exB vs13 1 fun b14 =>
 bif (!b14) then
 K (.tuple [.ptr Pt.nil, .int .i64 (3)]) h9
 else
 K (.tuple [.ptr p12, .int .i64 (0)]) h9
theorem impl_stripOf_main_link (S : SatT) (K : AVal → H → Prop) (x0 : List AVal) (x1 : Int) (h : H) : cwp S tab impl_stripOf_M [] (bodyOf Try.f23) (kFun tab Try.f23.results.toList K) (fr0 Try.f23 [.agg x0, .int .i64 x1]) h = impl_stripOf_main S K x0 x1 h := by kernel_rfl
theorem impl_stripOf_call (x0 : List AVal) (x1 : Int) (h : H) (K : AVal → H → Prop) (hm : impl_stripOf_main (Sat Try.prog) (fun v h' => K v h') x0 x1 h) : callV (Sat Try.prog) i_impl_stripOf [.agg x0, .int .i64 x1] h K := by
  have := Sat.ex tok mixed impl_stripOf_M Try.func23 (c := bodyOf Try.f23) (by kernel_rfl) (calls_of Try.func23 (c := bodyOf Try.f23) (by kernel_rfl) (by decide)) ((impl_stripOf_main_link _ _ x0 x1 h).mpr hm)
  exact this

/-! ### loop.example/g01354/impl.RecurrenceOf$1 -/
def impl_RecurrenceOf_1_M : Nat → List Nat := fun i => []
def impl_RecurrenceOf_1_main (S : SatT) (K : AVal → H → Prop) (x0 : Int) (x1 : Pt) (x2 : Pt) (h : H) : Prop :=
 ldS x1 h fun s0 =>
 newS 1 1 [.int .i64 x0] h fun s1 h2 =>
 app s0 s1 1 h2 fun s3 h4 =>
 st1 x1 (.sl s3) h4 fun h5 =>
 ldS x1 h5 fun s6 =>
 ldV x2 h5 fun v7 =>
 mlen v7 h5 fun n8 =>
 K (.bool (decide ((s6.len : Int) < (w64 ((w64 ((2) * n8)) + (2)))))) h5
theorem impl_RecurrenceOf_1_main_link (S : SatT) (K : AVal → H → Prop) (x0 : Int) (x1 : Pt) (x2 : Pt) (h : H) : cwp S tab impl_RecurrenceOf_1_M [] (bodyOf Try.f26) (kFun tab Try.f26.results.toList K) (fr0 Try.f26 [.int .i64 x0, .ptr x1, .ptr x2]) h = impl_RecurrenceOf_1_main S K x0 x1 x2 h := by kernel_rfl
theorem impl_RecurrenceOf_1_call (x0 : Int) (x1 : Pt) (x2 : Pt) (h : H) (K : Bool → H → Prop) (hm : impl_RecurrenceOf_1_main (Sat Try.prog) (fun v h' => ∃ r, v = .bool r ∧ K r h') x0 x1 x2 h) : callB (Sat Try.prog) i_impl_RecurrenceOf_1 [.int .i64 x0, .ptr x1, .ptr x2] h K := by
  have := Sat.ex tok mixed impl_RecurrenceOf_1_M Try.func26 (c := bodyOf Try.f26) (by kernel_rfl) (calls_of Try.func26 (c := bodyOf Try.f26) (by kernel_rfl) (by decide)) ((impl_RecurrenceOf_1_main_link _ _ x0 x1 x2 h).mpr hm)
  obtain ⟨v, h2, h3, r, rfl, h4⟩ := this; exact ⟨r, h2, h3, h4⟩

/-! ### loop.example/g01354/impl.setCode -/
def impl_setCode_M : Nat → List Nat := fun i => []
def impl_setCode_main (S : SatT) (K : AVal → H → Prop) (x0 : List AVal) (x1 : AVal) (h : H) : Prop :=
 newK 2 x0 h fun p0 h1 =>
 ldA p0 2 h1 fun cs2 =>
 callB S i_impl_IsSet [.agg cs2] h1 fun b4 h3 =>
 bif (!b4) then
 K (.int .i64 (1)) h3
 else
 viaF x1 [] fun g5 ys6 =>
 callB S g5 ys6 h3 fun b8 h7 =>
 bif (!b8) then
 K (.int .i64 (2)) h7
 else
 K (.int .i64 (0)) h7
theorem impl_setCode_main_link (S : SatT) (K : AVal → H → Prop) (x0 : List AVal) (x1 : AVal) (h : H) : cwp S tab impl_setCode_M [] (bodyOf Try.f34) (kFun tab Try.f34.results.toList K) (fr0 Try.f34 [.agg x0, x1]) h = impl_setCode_main S K x0 x1 h := by kernel_rfl
theorem impl_setCode_call (x0 : List AVal) (x1 : AVal) (h : H) (K : Int → H → Prop) (hm : impl_setCode_main (Sat Try.prog) (fun v h' => ∃ r, v = .int .i64 r ∧ K r h') x0 x1 h) : callI (Sat Try.prog) .i64 i_impl_setCode [.agg x0, x1] h K := by
  have := Sat.ex tok mixed impl_setCode_M Try.func34 (c := bodyOf Try.f34) (by kernel_rfl) (calls_of Try.func34 (c := bodyOf Try.f34) (by kernel_rfl) (by decide)) ((impl_setCode_main_link _ _ x0 x1 h).mpr hm)
  obtain ⟨v, h2, h3, r, rfl, h4⟩ := this; exact ⟨r, h2, h3, h4⟩

/-! ### loop.example/g01354/laws.markSet -/
def laws_markSet_M : Nat → List Nat := fun i => []
def laws_markSet_main (S : SatT) (K : AVal → H → Prop) (x0 : List AVal) (x1 : Int) (h : H) : Prop :=
 newK 2 x0 h fun p0 h1 =>
 isPt p0 (
 ldS (Pt.add p0 1) h1 fun s2 =>
 callI S .i64 i_laws_markTileS [.sl s2, .int .i64 x1] h1 fun n4 h3 =>
 K (.int .i64 n4) h3)
theorem laws_markSet_main_link (S : SatT) (K : AVal → H → Prop) (x0 : List AVal) (x1 : Int) (h : H) : cwp S tab laws_markSet_M [] (bodyOf Try.f11) (kFun tab Try.f11.results.toList K) (fr0 Try.f11 [.agg x0, .int .i64 x1]) h = laws_markSet_main S K x0 x1 h := by kernel_rfl
theorem laws_markSet_call (x0 : List AVal) (x1 : Int) (h : H) (K : Int → H → Prop) (hm : laws_markSet_main (Sat Try.prog) (fun v h' => ∃ r, v = .int .i64 r ∧ K r h') x0 x1 h) : callI (Sat Try.prog) .i64 i_laws_markSet [.agg x0, .int .i64 x1] h K := by
  have := Sat.ex tok mixed laws_markSet_M Try.func11 (c := bodyOf Try.f11) (by kernel_rfl) (calls_of Try.func11 (c := bodyOf Try.f11) (by kernel_rfl) (by decide)) ((laws_markSet_main_link _ _ x0 x1 h).mpr hm)
  obtain ⟨v, h2, h3, r, rfl, h4⟩ := this; exact ⟨r, h2, h3, h4⟩

/-! ### loop.example/g01354/impl.isTile$1 -/
def impl_isTile_1_M : Nat → List Nat := fun i => []
def impl_isTile_1_main (S : SatT) (K : AVal → H → Prop) (x0 : Int) (x1 : Pt) (h : H) : Prop :=
 ldI .i64 x1 h fun n0 =>
 callB S i_impl_within [.int .i64 x0, .int .i64 (0), .int .i64 (w64 (n0 - (1)))] h fun b2 h1 =>
 K (.bool (!b2)) h1
theorem impl_isTile_1_main_link (S : SatT) (K : AVal → H → Prop) (x0 : Int) (x1 : Pt) (h : H) : cwp S tab impl_isTile_1_M [] (bodyOf Try.f65) (kFun tab Try.f65.results.toList K) (fr0 Try.f65 [.int .i64 x0, .ptr x1]) h = impl_isTile_1_main S K x0 x1 h := by kernel_rfl
theorem impl_isTile_1_call (x0 : Int) (x1 : Pt) (h : H) (K : Bool → H → Prop) (hm : impl_isTile_1_main (Sat Try.prog) (fun v h' => ∃ r, v = .bool r ∧ K r h') x0 x1 h) : callB (Sat Try.prog) i_impl_isTile_1 [.int .i64 x0, .ptr x1] h K := by
  have := Sat.ex tok mixed impl_isTile_1_M Try.func65 (c := bodyOf Try.f65) (by kernel_rfl) (calls_of Try.func65 (c := bodyOf Try.f65) (by kernel_rfl) (by decide)) ((impl_isTile_1_main_link _ _ x0 x1 h).mpr hm)
  obtain ⟨v, h2, h3, r, rfl, h4⟩ := this; exact ⟨r, h2, h3, h4⟩

/-! ### loop.example/g01354/impl.at -/
def impl_at_M : Nat → List Nat := fun i => []
def impl_at_main (S : SatT) (K : AVal → H → Prop) (x0 : Sl) (x1 : Int) (h : H) : Prop :=
 bif (decide (x1 < (0))) then
 K (.int .i64 (0)) h
 else
 ixS x0 1 x1 fun p0 =>
 ldI .i64 p0 h fun n1 =>
 K (.int .i64 n1) h
theorem impl_at_main_link (S : SatT) (K : AVal → H → Prop) (x0 : Sl) (x1 : Int) (h : H) : cwp S tab impl_at_M [] (bodyOf Try.f48) (kFun tab Try.f48.results.toList K) (fr0 Try.f48 [.sl x0, .int .i64 x1]) h = impl_at_main S K x0 x1 h := by kernel_rfl
theorem impl_at_call (x0 : Sl) (x1 : Int) (h : H) (K : Int → H → Prop) (hm : impl_at_main (Sat Try.prog) (fun v h' => ∃ r, v = .int .i64 r ∧ K r h') x0 x1 h) : callI (Sat Try.prog) .i64 i_impl_at [.sl x0, .int .i64 x1] h K := by
  have := Sat.ex tok mixed impl_at_M Try.func48 (c := bodyOf Try.f48) (by kernel_rfl) (calls_of Try.func48 (c := bodyOf Try.f48) (by kernel_rfl) (by decide)) ((impl_at_main_link _ _ x0 x1 h).mpr hm)
  obtain ⟨v, h2, h3, r, rfl, h4⟩ := this; exact ⟨r, h2, h3, h4⟩

/-! ### loop.example/g01354/spec.l01Own -/
def spec_l01Own_M : Nat → List Nat := fun i => []
def spec_l01Own_main (S : SatT) (K : AVal → H → Prop) (x0 : Sl) (h : H) : Prop :=
 newS 0 1 [] h fun s0 h1 =>
 app s0 x0 1 h1 fun s2 h3 =>
 K (.sl s2) h3
theorem spec_l01Own_main_link (S : SatT) (K : AVal → H → Prop) (x0 : Sl) (h : H) : cwp S tab spec_l01Own_M [] (bodyOf Try.f42) (kFun tab Try.f42.results.toList K) (fr0 Try.f42 [.sl x0]) h = spec_l01Own_main S K x0 h := by kernel_rfl
theorem spec_l01Own_call (x0 : Sl) (h : H) (K : Sl → H → Prop) (hm : spec_l01Own_main (Sat Try.prog) (fun v h' => ∃ r, v = .sl r ∧ K r h') x0 h) : callS (Sat Try.prog) i_spec_l01Own [.sl x0] h K := by
  have := Sat.ex tok mixed spec_l01Own_M Try.func42 (c := bodyOf Try.f42) (by kernel_rfl) (calls_of Try.func42 (c := bodyOf Try.f42) (by kernel_rfl) (by decide)) ((spec_l01Own_main_link _ _ x0 h).mpr hm)
  obtain ⟨v, h2, h3, r, rfl, h4⟩ := this; exact ⟨r, h2, h3, h4⟩

/-! ### (*loop.example/g01354/impl.strip).sequence -/
def impl_strip_sequence_M : Nat → List Nat := fun i => bif i == 4 then [0, 1, 2, 7, 8, 51, 52, 53] else bif i == 2 then [0, 1, 2, 6, 7, 8, 27, 28, 29] else bif i == 0 then [0, 1, 2, 6] else []
def impl_strip_sequence_e0 (p0_ : Pt) (f1_ : AVal) (f2_ : AVal) (s6_ : Sl) : Frame := [.ptr p0_, f1_, f2_, U, U, U, .sl s6_, U, U, U, U, U, U, U, U, U, U, U, U, U, U, U, U, U, U, U, U, U, U, U, U, U, U, U, U, U, U, U, U, U, U, U, U, U, U, U, U, U, U, U, U, U, U, U, U, U, U, U, U, U, U, U, U, U, U, U, U, U]
def impl_strip_sequence_w0 (S : SatT) (K : AVal → H → Prop) : (Frame → H → Prop) → Frame → H → Prop := fun X fr h => cwp S tab impl_strip_sequence_M (impl_strip_sequence_M 0) (sub [1, 0, 0] (bodyOf Try.f24)) (kSeq (fun fr h => X (mask (impl_strip_sequence_M 0) fr) h) (kBlk 0 (kFun tab (Try.f24).results.toList K))) fr h
def impl_strip_sequence_L0 (S : SatT) (K : AVal → H → Prop) (p0_ : Pt) (f1_ : AVal) (f2_ : AVal) (s6_ : Sl) (h : H) : Prop := loopK (impl_strip_sequence_w0 S K) (impl_strip_sequence_e0 p0_ f1_ f2_ s6_) h
def impl_strip_sequence_ks2 (S : SatT) (K : AVal → H → Prop) (X0 : Frame → H → Prop) : Kont := kSeq (cwp S tab impl_strip_sequence_M (impl_strip_sequence_M 1) (sub [1, 0, 0, 0, 1, 1] (bodyOf Try.f24)) (kBlk 1 (kSeq (fun fr h => X0 (mask (impl_strip_sequence_M 0) fr) h) (kBlk 0 (kFun tab (Try.f24).results.toList K))))) (kBlk 1 (kSeq (fun fr h => X0 (mask (impl_strip_sequence_M 0) fr) h) (kBlk 0 (kFun tab (Try.f24).results.toList K))))
def impl_strip_sequence_e2 (p0_ : Pt) (f1_ : AVal) (f2_ : AVal) (s6_ : Sl) (s7_ : Sl) (i8_ : Int) (s27_ : Sl) (i28_ : Int) (i29_ : Int) : Frame := [.ptr p0_, f1_, f2_, U, U, U, .sl s6_, .sl s7_, .int .i64 i8_, U, U, U, U, U, U, U, U, U, U, U, U, U, U, U, U, U, U, .sl s27_, .int .i64 i28_, .int .i64 i29_, U, U, U, U, U, U, U, U, U, U, U, U, U, U, U, U, U, U, U, U, U, U, U, U, U, U, U, U, U, U, U, U, U, U, U, U, U, U]
def impl_strip_sequence_w2 (S : SatT) (K : AVal → H → Prop) (X0 : Frame → H → Prop) : (Frame → H → Prop) → Frame → H → Prop := fun X fr h => cwp S tab impl_strip_sequence_M (impl_strip_sequence_M 2) (sub [1, 0, 0, 0, 1, 0, 1, 0, 0] (bodyOf Try.f24)) (kSeq (fun fr h => X (mask (impl_strip_sequence_M 2) fr) h) (kBlk 2 (impl_strip_sequence_ks2 S K X0))) fr h
def impl_strip_sequence_L2 (S : SatT) (K : AVal → H → Prop) (X0 : Frame → H → Prop) (p0_ : Pt) (f1_ : AVal) (f2_ : AVal) (s6_ : Sl) (s7_ : Sl) (i8_ : Int) (s27_ : Sl) (i28_ : Int) (i29_ : Int) (h : H) : Prop := loopK (impl_strip_sequence_w2 S K X0) (impl_strip_sequence_e2 p0_ f1_ f2_ s6_ s7_ i8_ s27_ i28_ i29_) h
def impl_strip_sequence_ks8 (S : SatT) (K : AVal → H → Prop) (X0 : Frame → H → Prop) : Kont := kSeq (cwp S tab impl_strip_sequence_M (impl_strip_sequence_M 1) (sub [1, 0, 0, 0, 1, 1, 1] (bodyOf Try.f24)) (kBlk 1 (kSeq (fun fr h => X0 (mask (impl_strip_sequence_M 0) fr) h) (kBlk 0 (kFun tab (Try.f24).results.toList K))))) (kBlk 1 (kSeq (fun fr h => X0 (mask (impl_strip_sequence_M 0) fr) h) (kBlk 0 (kFun tab (Try.f24).results.toList K))))
def impl_strip_sequence_e4 (p0_ : Pt) (f1_ : AVal) (f2_ : AVal) (s7_ : Sl) (i8_ : Int) (s51_ : Sl) (i52_ : Int) (i53_ : Int) : Frame := [.ptr p0_, f1_, f2_, U, U, U, U, .sl s7_, .int .i64 i8_, U, U, U, U, U, U, U, U, U, U, U, U, U, U, U, U, U, U, U, U, U, U, U, U, U, U, U, U, U, U, U, U, U, U, U, U, U, U, U, U, U, U, .sl s51_, .int .i64 i52_, .int .i64 i53_, U, U, U, U, U, U, U, U, U, U, U, U, U, U]
def impl_strip_sequence_w4 (S : SatT) (K : AVal → H → Prop) (X0 : Frame → H → Prop) : (Frame → H → Prop) → Frame → H → Prop := fun X fr h => cwp S tab impl_strip_sequence_M (impl_strip_sequence_M 4) (sub [1, 0, 0, 0, 1, 1, 0, 1, 0, 0] (bodyOf Try.f24)) (kSeq (fun fr h => X (mask (impl_strip_sequence_M 4) fr) h) (kBlk 4 (impl_strip_sequence_ks8 S K X0))) fr h
def impl_strip_sequence_L4 (S : SatT) (K : AVal → H → Prop) (X0 : Frame → H → Prop) (p0_ : Pt) (f1_ : AVal) (f2_ : AVal) (s7_ : Sl) (i8_ : Int) (s51_ : Sl) (i52_ : Int) (i53_ : Int) (h : H) : Prop := loopK (impl_strip_sequence_w4 S K X0) (impl_strip_sequence_e4 p0_ f1_ f2_ s7_ i8_ s51_ i52_ i53_) h
def impl_strip_sequence_C4 (S : SatT) (K : AVal → H → Prop) (X0 : Frame → H → Prop) (p0_ : Pt) (f1_ : AVal) (f2_ : AVal) (s7_ : Sl) (i8_ : Int) (h : H) : Prop :=
 viaF f2_ [.int .i64 i8_] fun g0 ys1 =>
 callB S g0 ys1 h fun b3 h2 =>
 bif (!b3) then
 K (.tuple []) h2
 else
 X0 (impl_strip_sequence_e0 p0_ f1_ f2_ s7_) h2
def impl_strip_sequence_b4 (S : SatT) (K : AVal → H → Prop) (X0 : Frame → H → Prop) (X4 : Frame → H → Prop) (p0_ : Pt) (f1_ : AVal) (f2_ : AVal) (s7_ : Sl) (i8_ : Int) (s51_ : Sl) (i52_ : Int) (i53_ : Int) (h : H) : Prop :=
 bif (decide (i53_ < i52_)) then
 ixS s51_ 1 i53_ fun p0 =>
 ldI .i64 p0 h fun n1 =>
 viaF f1_ [.int .i64 (w64 (i8_ + n1))] fun g2 ys3 =>
 callI S .i64 g2 ys3 h fun n5 h4 =>
 X4 (impl_strip_sequence_e4 p0_ f1_ f2_ s7_ n5 s51_ i52_ (w64 (i53_ + (1)))) h4
 else
 impl_strip_sequence_C4 S K X0 p0_ f1_ f2_ s7_ i8_ h
theorem impl_strip_sequence_link4 (S : SatT) (K : AVal → H → Prop) (X0 : Frame → H → Prop) (X4 : Frame → H → Prop) (p0_ : Pt) (f1_ : AVal) (f2_ : AVal) (s7_ : Sl) (i8_ : Int) (s51_ : Sl) (i52_ : Int) (i53_ : Int) (h : H) : impl_strip_sequence_w4 S K X0 X4 (impl_strip_sequence_e4 p0_ f1_ f2_ s7_ i8_ s51_ i52_ i53_) h = impl_strip_sequence_b4 S K X0 X4 p0_ f1_ f2_ s7_ i8_ s51_ i52_ i53_ h := by kernel_rfl
theorem impl_strip_sequence_rule4 (S : SatT) (K : AVal → H → Prop) (X0 : Frame → H → Prop) (p0_ : Pt) (f1_ : AVal) (f2_ : AVal) (s7_ : Sl) (s51_ : Sl) (i52_ : Int) (I_ : Int → Int → H → Prop) (m_ : Int → Int → H → Nat)
    (hs : ∀ (X4 : Frame → H → Prop) (i8_ : Int) (i53_ : Int) (h : H), I_ i8_ i53_ h → (∀ (i8_' : Int) (i53_' : Int) (h' : H), I_ i8_' i53_' h' → m_ i8_' i53_' h' < m_ i8_ i53_ h → X4 (impl_strip_sequence_e4 p0_ f1_ f2_ s7_ i8_' s51_ i52_ i53_') h') → impl_strip_sequence_b4 S K X0 X4 p0_ f1_ f2_ s7_ i8_ s51_ i52_ i53_ h) (i8_ : Int) (i53_ : Int) {h : H} (h0 : I_ i8_ i53_ h) : impl_strip_sequence_L4 S K X0 p0_ f1_ f2_ s7_ i8_ s51_ i52_ i53_ h :=
  loop_rule (σ := (Int) × (Int)) (fun s_ => impl_strip_sequence_e4 p0_ f1_ f2_ s7_ (s_.1) s51_ i52_ (s_.2)) (fun s_ h => I_ (s_.1) (s_.2) h) (fun s_ h => m_ (s_.1) (s_.2) h)
    (fun X s_ h hi hx => (impl_strip_sequence_link4 S K X0 X p0_ f1_ f2_ s7_ (s_.1) s51_ i52_ (s_.2) h).mpr (hs X (s_.1) (s_.2) h hi fun i8_' i53_' h' hi' hm' => hx (i8_', i53_') h' hi' hm')) (i8_, i53_) h0
theorem impl_strip_sequence_unroll4 (S : SatT) (K : AVal → H → Prop) (X0 : Frame → H → Prop) (p0_ : Pt) (f1_ : AVal) (f2_ : AVal) (s7_ : Sl) (i8_ : Int) (s51_ : Sl) (i52_ : Int) (i53_ : Int) (h : H) (hb : impl_strip_sequence_b4 S K X0 (fun fr h => loopK (impl_strip_sequence_w4 S K X0) fr h) p0_ f1_ f2_ s7_ i8_ s51_ i52_ i53_ h) : impl_strip_sequence_L4 S K X0 p0_ f1_ f2_ s7_ i8_ s51_ i52_ i53_ h := loop_unroll ((impl_strip_sequence_link4 S K X0 _ p0_ f1_ f2_ s7_ i8_ s51_ i52_ i53_ h).mpr hb)
def impl_strip_sequence_C2 (S : SatT) (K : AVal → H → Prop) (X0 : Frame → H → Prop) (p0_ : Pt) (f1_ : AVal) (f2_ : AVal) (s7_ : Sl) (i8_ : Int) (h : H) : Prop :=
 impl_strip_sequence_L4 S K X0 p0_ f1_ f2_ s7_ i8_ s7_ (s7_.len : Int) (0) h
def impl_strip_sequence_b2 (S : SatT) (K : AVal → H → Prop) (X0 : Frame → H → Prop) (X2 : Frame → H → Prop) (p0_ : Pt) (f1_ : AVal) (f2_ : AVal) (s6_ : Sl) (s7_ : Sl) (i8_ : Int) (s27_ : Sl) (i28_ : Int) (i29_ : Int) (h : H) : Prop :=
 bif (decide (i29_ < i28_)) then
 ixS s27_ 3 i29_ fun p0 =>
 ldA p0 3 h fun cs1 =>
 newO [.int .i64 (0), .int .i64 (0), .int .i64 (0)] h fun p2 h3 =>
 stN p2 3 cs1 h3 fun h4 =>
 ixA p2 3 1 (1) fun p5 =>
 ldI .i64 p5 h4 fun n6 =>
 ixA p2 3 1 (1) fun p7 =>
 ldI .i64 p7 h4 fun n8 =>
 ixS s7_ 1 n8 fun p9 =>
 ldI .i64 p9 h4 fun n10 =>
 ixA p2 3 1 (0) fun p11 =>
 ldI .i64 p11 h4 fun n12 =>
 ixS s6_ 1 n12 fun p13 =>
 ldI .i64 p13 h4 fun n14 =>
 viaF f1_ [.int .i64 (w64 (n10 + n14))] fun g15 ys16 =>
 callI S .i64 g15 ys16 h4 fun n18 h17 =>
(cell h17 p5 = cell h4 p5) ∧ (
 ixS s7_ 1 n6 fun p19 =>
 st1 p19 (.int .i64 n18) h17 fun h20 =>
 X2 (impl_strip_sequence_e2 p0_ f1_ f2_ s6_ s7_ i8_ s27_ i28_ (w64 (i29_ + (1)))) h20)
 else
 impl_strip_sequence_C2 S K X0 p0_ f1_ f2_ s7_ i8_ h
theorem impl_strip_sequence_link2 (S : SatT) (K : AVal → H → Prop) (X0 : Frame → H → Prop) (X2 : Frame → H → Prop) (p0_ : Pt) (f1_ : AVal) (f2_ : AVal) (s6_ : Sl) (s7_ : Sl) (i8_ : Int) (s27_ : Sl) (i28_ : Int) (i29_ : Int) (h : H) : impl_strip_sequence_w2 S K X0 X2 (impl_strip_sequence_e2 p0_ f1_ f2_ s6_ s7_ i8_ s27_ i28_ i29_) h = impl_strip_sequence_b2 S K X0 X2 p0_ f1_ f2_ s6_ s7_ i8_ s27_ i28_ i29_ h := by kernel_rfl
theorem impl_strip_sequence_rule2 (S : SatT) (K : AVal → H → Prop) (X0 : Frame → H → Prop) (p0_ : Pt) (f1_ : AVal) (f2_ : AVal) (s6_ : Sl) (s7_ : Sl) (i8_ : Int) (s27_ : Sl) (i28_ : Int) (I_ : Int → H → Prop) (m_ : Int → H → Nat)
    (hs : ∀ (X2 : Frame → H → Prop) (i29_ : Int) (h : H), I_ i29_ h → (∀ (i29_' : Int) (h' : H), I_ i29_' h' → m_ i29_' h' < m_ i29_ h → X2 (impl_strip_sequence_e2 p0_ f1_ f2_ s6_ s7_ i8_ s27_ i28_ i29_') h') → impl_strip_sequence_b2 S K X0 X2 p0_ f1_ f2_ s6_ s7_ i8_ s27_ i28_ i29_ h) (i29_ : Int) {h : H} (h0 : I_ i29_ h) : impl_strip_sequence_L2 S K X0 p0_ f1_ f2_ s6_ s7_ i8_ s27_ i28_ i29_ h :=
  loop_rule (σ := (Int)) (fun s_ => impl_strip_sequence_e2 p0_ f1_ f2_ s6_ s7_ i8_ s27_ i28_ (s_)) (fun s_ h => I_ (s_) h) (fun s_ h => m_ (s_) h)
    (fun X s_ h hi hx => (impl_strip_sequence_link2 S K X0 X p0_ f1_ f2_ s6_ s7_ i8_ s27_ i28_ (s_) h).mpr (hs X (s_) h hi fun i29_' h' hi' hm' => hx (i29_') h' hi' hm')) (i29_) h0
theorem impl_strip_sequence_unroll2 (S : SatT) (K : AVal → H → Prop) (X0 : Frame → H → Prop) (p0_ : Pt) (f1_ : AVal) (f2_ : AVal) (s6_ : Sl) (s7_ : Sl) (i8_ : Int) (s27_ : Sl) (i28_ : Int) (i29_ : Int) (h : H) (hb : impl_strip_sequence_b2 S K X0 (fun fr h => loopK (impl_strip_sequence_w2 S K X0) fr h) p0_ f1_ f2_ s6_ s7_ i8_ s27_ i28_ i29_ h) : impl_strip_sequence_L2 S K X0 p0_ f1_ f2_ s6_ s7_ i8_ s27_ i28_ i29_ h := loop_unroll ((impl_strip_sequence_link2 S K X0 _ p0_ f1_ f2_ s6_ s7_ i8_ s27_ i28_ i29_ h).mpr hb)
def impl_strip_sequence_b0 (S : SatT) (K : AVal → H → Prop) (X0 : Frame → H → Prop) (p0_ : Pt) (f1_ : AVal) (f2_ : AVal) (s6_ : Sl) (h : H) : Prop :=
 nilC (.ptr p0_) (
 isPt p0_ (
 ldI .i64 (Pt.add p0_ 3) h fun n0 =>
 mkS n0 [.int .i64 (0)] h fun s1 h2 =>
 nilC (.ptr p0_) (
 isPt p0_ (
 ldS (Pt.add p0_ 4) h2 fun s3 =>
 impl_strip_sequence_L2 S K X0 p0_ f1_ f2_ s6_ s1 (0) s3 (s3.len : Int) (0) h2))))
theorem impl_strip_sequence_link0 (S : SatT) (K : AVal → H → Prop) (X0 : Frame → H → Prop) (p0_ : Pt) (f1_ : AVal) (f2_ : AVal) (s6_ : Sl) (h : H) : impl_strip_sequence_w0 S K X0 (impl_strip_sequence_e0 p0_ f1_ f2_ s6_) h = impl_strip_sequence_b0 S K X0 p0_ f1_ f2_ s6_ h := by kernel_rfl
theorem impl_strip_sequence_rule0 (S : SatT) (K : AVal → H → Prop) (p0_ : Pt) (f1_ : AVal) (f2_ : AVal) (I_ : Sl → H → Prop) (m_ : Sl → H → Nat)
    (hs : ∀ (X0 : Frame → H → Prop) (s6_ : Sl) (h : H), I_ s6_ h → (∀ (s6_' : Sl) (h' : H), I_ s6_' h' → m_ s6_' h' < m_ s6_ h → X0 (impl_strip_sequence_e0 p0_ f1_ f2_ s6_') h') → impl_strip_sequence_b0 S K X0 p0_ f1_ f2_ s6_ h) (s6_ : Sl) {h : H} (h0 : I_ s6_ h) : impl_strip_sequence_L0 S K p0_ f1_ f2_ s6_ h :=
  loop_rule (σ := (Sl)) (fun s_ => impl_strip_sequence_e0 p0_ f1_ f2_ (s_)) (fun s_ h => I_ (s_) h) (fun s_ h => m_ (s_) h)
    (fun X s_ h hi hx => (impl_strip_sequence_link0 S K X p0_ f1_ f2_ (s_) h).mpr (hs X (s_) h hi fun s6_' h' hi' hm' => hx (s6_') h' hi' hm')) (s6_) h0
theorem impl_strip_sequence_unroll0 (S : SatT) (K : AVal → H → Prop) (p0_ : Pt) (f1_ : AVal) (f2_ : AVal) (s6_ : Sl) (h : H) (hb : impl_strip_sequence_b0 S K (fun fr h => loopK (impl_strip_sequence_w0 S K) fr h) p0_ f1_ f2_ s6_ h) : impl_strip_sequence_L0 S K p0_ f1_ f2_ s6_ h := loop_unroll ((impl_strip_sequence_link0 S K _ p0_ f1_ f2_ s6_ h).mpr hb)
def impl_strip_sequence_main (S : SatT) (K : AVal → H → Prop) (x0 : Pt) (x1 : AVal) (x2 : AVal) (h : H) : Prop :=
 newS 1 1 [.int .i64 (1)] h fun s0 h1 =>
 nilC (.ptr x0) (
 isPt x0 (
 ldI .i64 (Pt.add x0 3) h1 fun n2 =>
 callS S i_slices_Repeat_s_int64_int64_ [.sl s0, .int .i64 n2] h1 fun s4 h3 =>
 impl_strip_sequence_L0 S K x0 x1 x2 s4 h3))
theorem impl_strip_sequence_main_link (S : SatT) (K : AVal → H → Prop) (x0 : Pt) (x1 : AVal) (x2 : AVal) (h : H) : cwp S tab impl_strip_sequence_M [] (bodyOf Try.f24) (kFun tab Try.f24.results.toList K) (fr0 Try.f24 [.ptr x0, x1, x2]) h = impl_strip_sequence_main S K x0 x1 x2 h := by kernel_rfl
theorem impl_strip_sequence_call (x0 : Pt) (x1 : AVal) (x2 : AVal) (h : H) (K : AVal → H → Prop) (hm : impl_strip_sequence_main (Sat Try.prog) (fun v h' => K v h') x0 x1 x2 h) : callV (Sat Try.prog) i_impl_strip_sequence [.ptr x0, x1, x2] h K := by
  have := Sat.ex tok mixed impl_strip_sequence_M Try.func24 (c := bodyOf Try.f24) (by kernel_rfl) (calls_of Try.func24 (c := bodyOf Try.f24) (by kernel_rfl) (by decide)) ((impl_strip_sequence_main_link _ _ x0 x1 x2 h).mpr hm)
  exact this

/-! ### loop.example/g01354/laws.markTileS -/
def laws_markTileS_M : Nat → List Nat := fun i => bif i == 2 then [0, 1, 5, 6] else bif i == 0 then [0, 1, 5] else []
def laws_markTileS_ks1 (S : SatT) (K : AVal → H → Prop) : Kont := kSeq (cwp S tab laws_markTileS_M [] (sub [1, 1] (bodyOf Try.f29)) (kFun tab (Try.f29).results.toList K)) (kFun tab (Try.f29).results.toList K)
def laws_markTileS_e0 (s0_ : Sl) (i1_ : Int) (i5_ : Int) : Frame := [.sl s0_, .int .i64 i1_, U, U, U, .int .i64 i5_, U, U, U, U, U, U, U, U, U, U, U, U, U, U, U, U, U, U, U, U]
def laws_markTileS_w0 (S : SatT) (K : AVal → H → Prop) : (Frame → H → Prop) → Frame → H → Prop := fun X fr h => cwp S tab laws_markTileS_M (laws_markTileS_M 0) (sub [1, 0, 1, 0, 0] (bodyOf Try.f29)) (kSeq (fun fr h => X (mask (laws_markTileS_M 0) fr) h) (kBlk 0 (laws_markTileS_ks1 S K))) fr h
def laws_markTileS_L0 (S : SatT) (K : AVal → H → Prop) (s0_ : Sl) (i1_ : Int) (i5_ : Int) (h : H) : Prop := loopK (laws_markTileS_w0 S K) (laws_markTileS_e0 s0_ i1_ i5_) h
def laws_markTileS_ks5 (S : SatT) (K : AVal → H → Prop) (X0 : Frame → H → Prop) : Kont := kSeq (cwp S tab laws_markTileS_M (laws_markTileS_M 0) (sub [1, 0, 1, 0, 0, 1, 1] (bodyOf Try.f29)) (kSeq (fun fr h => X0 (mask (laws_markTileS_M 0) fr) h) (kBlk 0 (laws_markTileS_ks1 S K)))) (kSeq (fun fr h => X0 (mask (laws_markTileS_M 0) fr) h) (kBlk 0 (laws_markTileS_ks1 S K)))
def laws_markTileS_e2 (s0_ : Sl) (i1_ : Int) (i5_ : Int) (i6_ : Int) : Frame := [.sl s0_, .int .i64 i1_, U, U, U, .int .i64 i5_, .int .i64 i6_, U, U, U, U, U, U, U, U, U, U, U, U, U, U, U, U, U, U, U]
def laws_markTileS_w2 (S : SatT) (K : AVal → H → Prop) (X0 : Frame → H → Prop) : (Frame → H → Prop) → Frame → H → Prop := fun X fr h => cwp S tab laws_markTileS_M (laws_markTileS_M 2) (sub [1, 0, 1, 0, 0, 1, 0, 0, 1, 0, 0] (bodyOf Try.f29)) (kSeq (fun fr h => X (mask (laws_markTileS_M 2) fr) h) (kBlk 2 (kBlk 1 (laws_markTileS_ks5 S K X0)))) fr h
def laws_markTileS_L2 (S : SatT) (K : AVal → H → Prop) (X0 : Frame → H → Prop) (s0_ : Sl) (i1_ : Int) (i5_ : Int) (i6_ : Int) (h : H) : Prop := loopK (laws_markTileS_w2 S K X0) (laws_markTileS_e2 s0_ i1_ i5_ i6_) h
def laws_markTileS_C1 (S : SatT) (K : AVal → H → Prop) (X0 : Frame → H → Prop) (s0_ : Sl) (i1_ : Int) (i5_ : Int) (h : H) : Prop :=
 X0 (laws_markTileS_e0 s0_ i1_ (w64 (i5_ + (1)))) h
def laws_markTileS_C2 (S : SatT) (K : AVal → H → Prop) (X0 : Frame → H → Prop) (s0_ : Sl) (i1_ : Int) (i5_ : Int) (h : H) : Prop :=
 laws_markTileS_C1 S K X0 s0_ i1_ i5_ h
def laws_markTileS_b2 (S : SatT) (K : AVal → H → Prop) (X0 : Frame → H → Prop) (X2 : Frame → H → Prop) (s0_ : Sl) (i1_ : Int) (i5_ : Int) (i6_ : Int) (h : H) : Prop :=
 bif (decide (i6_ < (4))) then
 ixS s0_ 4 i5_ fun p0 =>
 ixA p0 4 1 i6_ fun p1 =>
 st1 p1 (.int .i64 i1_) h fun h2 =>
 X2 (laws_markTileS_e2 s0_ (w64 (i1_ + (1))) i5_ (w64 (i6_ + (1)))) h2
 else
 laws_markTileS_C2 S K X0 s0_ i1_ i5_ h
theorem laws_markTileS_link2 (S : SatT) (K : AVal → H → Prop) (X0 : Frame → H → Prop) (X2 : Frame → H → Prop) (s0_ : Sl) (i1_ : Int) (i5_ : Int) (i6_ : Int) (h : H) : laws_markTileS_w2 S K X0 X2 (laws_markTileS_e2 s0_ i1_ i5_ i6_) h = laws_markTileS_b2 S K X0 X2 s0_ i1_ i5_ i6_ h := by kernel_rfl
theorem laws_markTileS_rule2 (S : SatT) (K : AVal → H → Prop) (X0 : Frame → H → Prop) (s0_ : Sl) (i5_ : Int) (I_ : Int → Int → H → Prop) (m_ : Int → Int → H → Nat)
    (hs : ∀ (X2 : Frame → H → Prop) (i1_ : Int) (i6_ : Int) (h : H), I_ i1_ i6_ h → (∀ (i1_' : Int) (i6_' : Int) (h' : H), I_ i1_' i6_' h' → m_ i1_' i6_' h' < m_ i1_ i6_ h → X2 (laws_markTileS_e2 s0_ i1_' i5_ i6_') h') → laws_markTileS_b2 S K X0 X2 s0_ i1_ i5_ i6_ h) (i1_ : Int) (i6_ : Int) {h : H} (h0 : I_ i1_ i6_ h) : laws_markTileS_L2 S K X0 s0_ i1_ i5_ i6_ h :=
  loop_rule (σ := (Int) × (Int)) (fun s_ => laws_markTileS_e2 s0_ (s_.1) i5_ (s_.2)) (fun s_ h => I_ (s_.1) (s_.2) h) (fun s_ h => m_ (s_.1) (s_.2) h)
    (fun X s_ h hi hx => (laws_markTileS_link2 S K X0 X s0_ (s_.1) i5_ (s_.2) h).mpr (hs X (s_.1) (s_.2) h hi fun i1_' i6_' h' hi' hm' => hx (i1_', i6_') h' hi' hm')) (i1_, i6_) h0
theorem laws_markTileS_unroll2 (S : SatT) (K : AVal → H → Prop) (X0 : Frame → H → Prop) (s0_ : Sl) (i1_ : Int) (i5_ : Int) (i6_ : Int) (h : H) (hb : laws_markTileS_b2 S K X0 (fun fr h => loopK (laws_markTileS_w2 S K X0) fr h) s0_ i1_ i5_ i6_ h) : laws_markTileS_L2 S K X0 s0_ i1_ i5_ i6_ h := loop_unroll ((laws_markTileS_link2 S K X0 _ s0_ i1_ i5_ i6_ h).mpr hb)
def laws_markTileS_C0 (S : SatT) (K : AVal → H → Prop) (i1_ : Int) (h : H) : Prop :=
 K (.int .i64 i1_) h
def laws_markTileS_b0 (S : SatT) (K : AVal → H → Prop) (X0 : Frame → H → Prop) (s0_ : Sl) (i1_ : Int) (i5_ : Int) (h : H) : Prop :=
 bif (decide (i5_ < (s0_.len : Int))) then
 laws_markTileS_L2 S K X0 s0_ i1_ i5_ (0) h
 else
 laws_markTileS_C0 S K i1_ h
theorem laws_markTileS_link0 (S : SatT) (K : AVal → H → Prop) (X0 : Frame → H → Prop) (s0_ : Sl) (i1_ : Int) (i5_ : Int) (h : H) : laws_markTileS_w0 S K X0 (laws_markTileS_e0 s0_ i1_ i5_) h = laws_markTileS_b0 S K X0 s0_ i1_ i5_ h := by kernel_rfl
theorem laws_markTileS_rule0 (S : SatT) (K : AVal → H → Prop) (s0_ : Sl) (I_ : Int → Int → H → Prop) (m_ : Int → Int → H → Nat)
    (hs : ∀ (X0 : Frame → H → Prop) (i1_ : Int) (i5_ : Int) (h : H), I_ i1_ i5_ h → (∀ (i1_' : Int) (i5_' : Int) (h' : H), I_ i1_' i5_' h' → m_ i1_' i5_' h' < m_ i1_ i5_ h → X0 (laws_markTileS_e0 s0_ i1_' i5_') h') → laws_markTileS_b0 S K X0 s0_ i1_ i5_ h) (i1_ : Int) (i5_ : Int) {h : H} (h0 : I_ i1_ i5_ h) : laws_markTileS_L0 S K s0_ i1_ i5_ h :=
  loop_rule (σ := (Int) × (Int)) (fun s_ => laws_markTileS_e0 s0_ (s_.1) (s_.2)) (fun s_ h => I_ (s_.1) (s_.2) h) (fun s_ h => m_ (s_.1) (s_.2) h)
    (fun X s_ h hi hx => (laws_markTileS_link0 S K X s0_ (s_.1) (s_.2) h).mpr (hs X (s_.1) (s_.2) h hi fun i1_' i5_' h' hi' hm' => hx (i1_', i5_') h' hi' hm')) (i1_, i5_) h0
theorem laws_markTileS_unroll0 (S : SatT) (K : AVal → H → Prop) (s0_ : Sl) (i1_ : Int) (i5_ : Int) (h : H) (hb : laws_markTileS_b0 S K (fun fr h => loopK (laws_markTileS_w0 S K) fr h) s0_ i1_ i5_ h) : laws_markTileS_L0 S K s0_ i1_ i5_ h := loop_unroll ((laws_markTileS_link0 S K _ s0_ i1_ i5_ h).mpr hb)
def laws_markTileS_main (S : SatT) (K : AVal → H → Prop) (x0 : Sl) (x1 : Int) (h : H) : Prop :=
 laws_markTileS_L0 S K x0 x1 (0) h
theorem laws_markTileS_main_link (S : SatT) (K : AVal → H → Prop) (x0 : Sl) (x1 : Int) (h : H) : cwp S tab laws_markTileS_M [] (bodyOf Try.f29) (kFun tab Try.f29.results.toList K) (fr0 Try.f29 [.sl x0, .int .i64 x1]) h = laws_markTileS_main S K x0 x1 h := by kernel_rfl
theorem laws_markTileS_call (x0 : Sl) (x1 : Int) (h : H) (K : Int → H → Prop) (hm : laws_markTileS_main (Sat Try.prog) (fun v h' => ∃ r, v = .int .i64 r ∧ K r h') x0 x1 h) : callI (Sat Try.prog) .i64 i_laws_markTileS [.sl x0, .int .i64 x1] h K := by
  have := Sat.ex tok mixed laws_markTileS_M Try.func29 (c := bodyOf Try.f29) (by kernel_rfl) (calls_of Try.func29 (c := bodyOf Try.f29) (by kernel_rfl) (by decide)) ((laws_markTileS_main_link _ _ x0 x1 h).mpr hm)
  obtain ⟨v, h2, h3, r, rfl, h4⟩ := this; exact ⟨r, h2, h3, h4⟩

/-! ### loop.example/g01354/spec.CountCylinders -/
def spec_CountCylinders_M : Nat → List Nat := fun i => bif i == 0 then [12, 13, 14] else []
def spec_CountCylinders_ks7 (S : SatT) (K : AVal → H → Prop) : Kont := kSeq (cwp S tab spec_CountCylinders_M [] (sub [1, 1, 1, 1, 1] (bodyOf Try.f14)) (kFun tab (Try.f14).results.toList K)) (kFun tab (Try.f14).results.toList K)
def spec_CountCylinders_e0 (s12_ : Sl) (i13_ : Int) (i14_ : Int) : Frame := [U, U, U, U, U, U, U, U, U, U, U, U, .sl s12_, .int .i64 i13_, .int .i64 i14_, U, U, U, U, U, U, U, U, U, U, U, U, U, U, U, U, U, U, U, U, U, U, U, U, U, U, U, U, U, U, U, U, U, U, U, U, U, U, U]
def spec_CountCylinders_w0 (S : SatT) (K : AVal → H → Prop) : (Frame → H → Prop) → Frame → H → Prop := fun X fr h => cwp S tab spec_CountCylinders_M (spec_CountCylinders_M 0) (sub [1, 1, 1, 1, 0, 1, 0, 0] (bodyOf Try.f14)) (kSeq (fun fr h => X (mask (spec_CountCylinders_M 0) fr) h) (kBlk 0 (spec_CountCylinders_ks7 S K))) fr h
def spec_CountCylinders_L0 (S : SatT) (K : AVal → H → Prop) (s12_ : Sl) (i13_ : Int) (i14_ : Int) (h : H) : Prop := loopK (spec_CountCylinders_w0 S K) (spec_CountCylinders_e0 s12_ i13_ i14_) h
def spec_CountCylinders_C0 (S : SatT) (K : AVal → H → Prop) (i13_ : Int) (h : H) : Prop :=
 bif (decide (i13_ > (1000000000000000))) then
 K (.tuple [.int .i64 (0), .int .i64 (3)]) h
 else
 K (.tuple [.int .i64 i13_, .int .i64 (0)]) h
def spec_CountCylinders_b0 (S : SatT) (K : AVal → H → Prop) (X0 : Frame → H → Prop) (s12_ : Sl) (i13_ : Int) (i14_ : Int) (h : H) : Prop :=
 bif (decide (i14_ < (s12_.len : Int))) then
 ixS s12_ 1 i14_ fun p0 =>
 ldI .i64 p0 h fun n1 =>
 X0 (spec_CountCylinders_e0 s12_ (mnI (w64 (i13_ + n1)) (1000000000000001)) (w64 (i14_ + (1)))) h
 else
 spec_CountCylinders_C0 S K i13_ h
theorem spec_CountCylinders_link0 (S : SatT) (K : AVal → H → Prop) (X0 : Frame → H → Prop) (s12_ : Sl) (i13_ : Int) (i14_ : Int) (h : H) : spec_CountCylinders_w0 S K X0 (spec_CountCylinders_e0 s12_ i13_ i14_) h = spec_CountCylinders_b0 S K X0 s12_ i13_ i14_ h := by kernel_rfl
theorem spec_CountCylinders_rule0 (S : SatT) (K : AVal → H → Prop) (s12_ : Sl) (I_ : Int → Int → H → Prop) (m_ : Int → Int → H → Nat)
    (hs : ∀ (X0 : Frame → H → Prop) (i13_ : Int) (i14_ : Int) (h : H), I_ i13_ i14_ h → (∀ (i13_' : Int) (i14_' : Int) (h' : H), I_ i13_' i14_' h' → m_ i13_' i14_' h' < m_ i13_ i14_ h → X0 (spec_CountCylinders_e0 s12_ i13_' i14_') h') → spec_CountCylinders_b0 S K X0 s12_ i13_ i14_ h) (i13_ : Int) (i14_ : Int) {h : H} (h0 : I_ i13_ i14_ h) : spec_CountCylinders_L0 S K s12_ i13_ i14_ h :=
  loop_rule (σ := (Int) × (Int)) (fun s_ => spec_CountCylinders_e0 s12_ (s_.1) (s_.2)) (fun s_ h => I_ (s_.1) (s_.2) h) (fun s_ h => m_ (s_.1) (s_.2) h)
    (fun X s_ h hi hx => (spec_CountCylinders_link0 S K X s12_ (s_.1) (s_.2) h).mpr (hs X (s_.1) (s_.2) h hi fun i13_' i14_' h' hi' hm' => hx (i13_', i14_') h' hi' hm')) (i13_, i14_) h0
theorem spec_CountCylinders_unroll0 (S : SatT) (K : AVal → H → Prop) (s12_ : Sl) (i13_ : Int) (i14_ : Int) (h : H) (hb : spec_CountCylinders_b0 S K (fun fr h => loopK (spec_CountCylinders_w0 S K) fr h) s12_ i13_ i14_ h) : spec_CountCylinders_L0 S K s12_ i13_ i14_ h := loop_unroll ((spec_CountCylinders_link0 S K _ s12_ i13_ i14_ h).mpr hb)
def spec_CountCylinders_main (S : SatT) (K : AVal → H → Prop) (x0 : List AVal) (x1 : Int) (x2 : Int) (h : H) : Prop :=
 newK 2 x0 h fun p0 h1 =>
 ldA p0 2 h1 fun cs2 =>
 callI S .i64 i_spec_l05Code [.agg cs2, .int .i64 x1, .int .i64 x2, .int .i64 (5)] h1 fun n4 h3 =>
 bif (n4 != (0)) then
 K (.tuple [.int .i64 (0), .int .i64 n4]) h3
 else
 ldA p0 2 h3 fun cs5 =>
 callV S i_spec_l05Words [.agg cs5, .int .i64 x2] h3 fun v7 h6 =>
 viaT v7 fun vs8 =>
 exS vs8 0 fun s9 =>
 viaT v7 fun vs10 =>
 exS vs10 1 fun s11 =>
 viaT v7 fun vs12 =>
 exS vs12 2 fun s13 =>
 ldA p0 2 h6 fun cs14 =>
 isPt p0 (
 ldI .i64 (Pt.add p0 0) h6 fun n15 =>
 callI S .i64 i_spec_l03Power [.int .i64 n15, .int .i64 x2] h6 fun n17 h16 =>
(range h16 p0.o p0.n p0.off 2 = range h6 p0.o p0.n p0.off 2) ∧ (
 callS S i_spec_l05Paths [.agg cs14, .sl s11, .sl s13, .int .i64 n17, .int .i64 x1, .int .i64 (-1)] h16 fun s19 h18 =>
 spec_CountCylinders_L0 S K s19 (0) (0) h18))
theorem spec_CountCylinders_main_link (S : SatT) (K : AVal → H → Prop) (x0 : List AVal) (x1 : Int) (x2 : Int) (h : H) : cwp S tab spec_CountCylinders_M [] (bodyOf Try.f14) (kFun tab Try.f14.results.toList K) (fr0 Try.f14 [.agg x0, .int .i64 x1, .int .i64 x2]) h = spec_CountCylinders_main S K x0 x1 x2 h := by kernel_rfl
theorem spec_CountCylinders_call (x0 : List AVal) (x1 : Int) (x2 : Int) (h : H) (K : AVal → H → Prop) (hm : spec_CountCylinders_main (Sat Try.prog) (fun v h' => K v h') x0 x1 x2 h) : callV (Sat Try.prog) i_spec_CountCylinders [.agg x0, .int .i64 x1, .int .i64 x2] h K := by
  have := Sat.ex tok mixed spec_CountCylinders_M Try.func14 (c := bodyOf Try.f14) (by kernel_rfl) (calls_of Try.func14 (c := bodyOf Try.f14) (by kernel_rfl) (by decide)) ((spec_CountCylinders_main_link _ _ x0 x1 x2 h).mpr hm)
  exact this

/-! ### slices.IndexFunc[[]int64,int64] -/
def slices_IndexFunc_s_int64_int64__M : Nat → List Nat := fun i => bif i == 0 then [0, 1, 7, 8] else []
def slices_IndexFunc_s_int64_int64__ks1 (S : SatT) (K : AVal → H → Prop) : Kont := kSeq (cwp S tab slices_IndexFunc_s_int64_int64__M [] (sub [1, 1] (bodyOf Try.f67)) (kFun tab (Try.f67).results.toList K)) (kFun tab (Try.f67).results.toList K)
def slices_IndexFunc_s_int64_int64__e0 (s0_ : Sl) (f1_ : AVal) (i7_ : Int) (i8_ : Int) : Frame := [.sl s0_, f1_, U, U, U, U, U, .int .i64 i7_, .int .i64 i8_, U, U, U, U, U, U, U, U, U, U]
def slices_IndexFunc_s_int64_int64__w0 (S : SatT) (K : AVal → H → Prop) : (Frame → H → Prop) → Frame → H → Prop := fun X fr h => cwp S tab slices_IndexFunc_s_int64_int64__M (slices_IndexFunc_s_int64_int64__M 0) (sub [1, 0, 1, 0, 0] (bodyOf Try.f67)) (kSeq (fun fr h => X (mask (slices_IndexFunc_s_int64_int64__M 0) fr) h) (kBlk 0 (slices_IndexFunc_s_int64_int64__ks1 S K))) fr h
def slices_IndexFunc_s_int64_int64__L0 (S : SatT) (K : AVal → H → Prop) (s0_ : Sl) (f1_ : AVal) (i7_ : Int) (i8_ : Int) (h : H) : Prop := loopK (slices_IndexFunc_s_int64_int64__w0 S K) (slices_IndexFunc_s_int64_int64__e0 s0_ f1_ i7_ i8_) h
def slices_IndexFunc_s_int64_int64__C0 (S : SatT) (K : AVal → H → Prop) (h : H) : Prop :=
 K (.int .i64 (-1)) h
def slices_IndexFunc_s_int64_int64__b0 (S : SatT) (K : AVal → H → Prop) (X0 : Frame → H → Prop) (s0_ : Sl) (f1_ : AVal) (i7_ : Int) (i8_ : Int) (h : H) : Prop :=
 bif (decide (i8_ < i7_)) then
 ixS s0_ 1 i8_ fun p0 =>
 ldI .i64 p0 h fun n1 =>
 viaF f1_ [.int .i64 n1] fun g2 ys3 =>
 callB S g2 ys3 h fun b5 h4 =>
 bif b5 then
 K (.int .i64 i8_) h4
 else
 X0 (slices_IndexFunc_s_int64_int64__e0 s0_ f1_ i7_ (w64 (i8_ + (1)))) h4
 else
 slices_IndexFunc_s_int64_int64__C0 S K h
theorem slices_IndexFunc_s_int64_int64__link0 (S : SatT) (K : AVal → H → Prop) (X0 : Frame → H → Prop) (s0_ : Sl) (f1_ : AVal) (i7_ : Int) (i8_ : Int) (h : H) : slices_IndexFunc_s_int64_int64__w0 S K X0 (slices_IndexFunc_s_int64_int64__e0 s0_ f1_ i7_ i8_) h = slices_IndexFunc_s_int64_int64__b0 S K X0 s0_ f1_ i7_ i8_ h := by kernel_rfl
theorem slices_IndexFunc_s_int64_int64__rule0 (S : SatT) (K : AVal → H → Prop) (s0_ : Sl) (f1_ : AVal) (i7_ : Int) (I_ : Int → H → Prop) (m_ : Int → H → Nat)
    (hs : ∀ (X0 : Frame → H → Prop) (i8_ : Int) (h : H), I_ i8_ h → (∀ (i8_' : Int) (h' : H), I_ i8_' h' → m_ i8_' h' < m_ i8_ h → X0 (slices_IndexFunc_s_int64_int64__e0 s0_ f1_ i7_ i8_') h') → slices_IndexFunc_s_int64_int64__b0 S K X0 s0_ f1_ i7_ i8_ h) (i8_ : Int) {h : H} (h0 : I_ i8_ h) : slices_IndexFunc_s_int64_int64__L0 S K s0_ f1_ i7_ i8_ h :=
  loop_rule (σ := (Int)) (fun s_ => slices_IndexFunc_s_int64_int64__e0 s0_ f1_ i7_ (s_)) (fun s_ h => I_ (s_) h) (fun s_ h => m_ (s_) h)
    (fun X s_ h hi hx => (slices_IndexFunc_s_int64_int64__link0 S K X s0_ f1_ i7_ (s_) h).mpr (hs X (s_) h hi fun i8_' h' hi' hm' => hx (i8_') h' hi' hm')) (i8_) h0
theorem slices_IndexFunc_s_int64_int64__unroll0 (S : SatT) (K : AVal → H → Prop) (s0_ : Sl) (f1_ : AVal) (i7_ : Int) (i8_ : Int) (h : H) (hb : slices_IndexFunc_s_int64_int64__b0 S K (fun fr h => loopK (slices_IndexFunc_s_int64_int64__w0 S K) fr h) s0_ f1_ i7_ i8_ h) : slices_IndexFunc_s_int64_int64__L0 S K s0_ f1_ i7_ i8_ h := loop_unroll ((slices_IndexFunc_s_int64_int64__link0 S K _ s0_ f1_ i7_ i8_ h).mpr hb)
def slices_IndexFunc_s_int64_int64__main (S : SatT) (K : AVal → H → Prop) (x0 : Sl) (x1 : AVal) (h : H) : Prop :=
 slices_IndexFunc_s_int64_int64__L0 S K x0 x1 (x0.len : Int) (0) h
theorem slices_IndexFunc_s_int64_int64__main_link (S : SatT) (K : AVal → H → Prop) (x0 : Sl) (x1 : AVal) (h : H) : cwp S tab slices_IndexFunc_s_int64_int64__M [] (bodyOf Try.f67) (kFun tab Try.f67.results.toList K) (fr0 Try.f67 [.sl x0, x1]) h = slices_IndexFunc_s_int64_int64__main S K x0 x1 h := by kernel_rfl
theorem slices_IndexFunc_s_int64_int64__call (x0 : Sl) (x1 : AVal) (h : H) (K : Int → H → Prop) (hm : slices_IndexFunc_s_int64_int64__main (Sat Try.prog) (fun v h' => ∃ r, v = .int .i64 r ∧ K r h') x0 x1 h) : callI (Sat Try.prog) .i64 i_slices_IndexFunc_s_int64_int64_ [.sl x0, x1] h K := by
  have := Sat.ex tok mixed slices_IndexFunc_s_int64_int64__M Try.func67 (c := bodyOf Try.f67) (by kernel_rfl) (calls_of Try.func67 (c := bodyOf Try.f67) (by kernel_rfl) (by decide)) ((slices_IndexFunc_s_int64_int64__main_link _ _ x0 x1 h).mpr hm)
  obtain ⟨v, h2, h3, r, rfl, h4⟩ := this; exact ⟨r, h2, h3, h4⟩

/-! ### loop.example/g01354/spec.l01Is -/
def spec_l01Is_M : Nat → List Nat := fun i => bif i == 0 then [1, 3] else []
def spec_l01Is_ks5 (S : SatT) (K : AVal → H → Prop) : Kont := kSeq (cwp S tab spec_l01Is_M [] (sub [1, 1, 1] (bodyOf Try.f39)) (kFun tab (Try.f39).results.toList K)) (kFun tab (Try.f39).results.toList K)
def spec_l01Is_e0 (p1_ : Pt) (i3_ : Int) : Frame := [U, .ptr p1_, U, .int .i64 i3_, U, U, U, U, U, U, U, U, U, U, U, U, U, U, U, U, U, U, U, U, U, U, U, U, U, U, U, U, U, U, U, U, U, U, U, U, U, U, U, U, U, U, U, U, U]
def spec_l01Is_w0 (S : SatT) (K : AVal → H → Prop) : (Frame → H → Prop) → Frame → H → Prop := fun X fr h => cwp S tab spec_l01Is_M (spec_l01Is_M 0) (sub [1, 1, 0, 1, 0, 0] (bodyOf Try.f39)) (kSeq (fun fr h => X (mask (spec_l01Is_M 0) fr) h) (kBlk 0 (spec_l01Is_ks5 S K))) fr h
def spec_l01Is_L0 (S : SatT) (K : AVal → H → Prop) (p1_ : Pt) (i3_ : Int) (h : H) : Prop := loopK (spec_l01Is_w0 S K) (spec_l01Is_e0 p1_ i3_) h
def spec_l01Is_C0 (S : SatT) (K : AVal → H → Prop) (h : H) : Prop :=
 K (.bool true) h
def spec_l01Is_b0 (S : SatT) (K : AVal → H → Prop) (X0 : Frame → H → Prop) (p1_ : Pt) (i3_ : Int) (h : H) : Prop :=
 isPt p1_ (
 ldS (Pt.add p1_ 1) h fun s0 =>
 bif (decide (i3_ < (s0.len : Int))) then
 isPt p1_ (
 ldI .i64 (Pt.add p1_ 0) h fun n1 =>
 isPt p1_ (
 ldS (Pt.add p1_ 1) h fun s2 =>
 ixS s2 4 i3_ fun p3 =>
 ldA p3 4 h fun cs4 =>
 callB S i_spec_l01Tile [.int .i64 n1, .agg cs4] h fun b6 h5 =>
 bif (!b6) then
 K (.bool false) h5
 else
 bif (decide (i3_ > (0))) then
 isPt p1_ (
 ldS (Pt.add p1_ 1) h5 fun s7 =>
 ixS s7 4 (w64 (i3_ - (1))) fun p8 =>
 ldA p8 4 h5 fun cs9 =>
 isPt p1_ (
 ldS (Pt.add p1_ 1) h5 fun s10 =>
 ixS s10 4 i3_ fun p11 =>
 ldA p11 4 h5 fun cs12 =>
 callB S i_spec_l01Before [.agg cs9, .agg cs12] h5 fun b14 h13 =>
 bif (!b14) then
 K (.bool false) h13
 else
 X0 (spec_l01Is_e0 p1_ (w64 (i3_ + (1)))) h13))
 else
 X0 (spec_l01Is_e0 p1_ (w64 (i3_ + (1)))) h5))
 else
 spec_l01Is_C0 S K h)
theorem spec_l01Is_link0 (S : SatT) (K : AVal → H → Prop) (X0 : Frame → H → Prop) (p1_ : Pt) (i3_ : Int) (h : H) : spec_l01Is_w0 S K X0 (spec_l01Is_e0 p1_ i3_) h = spec_l01Is_b0 S K X0 p1_ i3_ h := by kernel_rfl
theorem spec_l01Is_rule0 (S : SatT) (K : AVal → H → Prop) (p1_ : Pt) (I_ : Int → H → Prop) (m_ : Int → H → Nat)
    (hs : ∀ (X0 : Frame → H → Prop) (i3_ : Int) (h : H), I_ i3_ h → (∀ (i3_' : Int) (h' : H), I_ i3_' h' → m_ i3_' h' < m_ i3_ h → X0 (spec_l01Is_e0 p1_ i3_') h') → spec_l01Is_b0 S K X0 p1_ i3_ h) (i3_ : Int) {h : H} (h0 : I_ i3_ h) : spec_l01Is_L0 S K p1_ i3_ h :=
  loop_rule (σ := (Int)) (fun s_ => spec_l01Is_e0 p1_ (s_)) (fun s_ h => I_ (s_) h) (fun s_ h => m_ (s_) h)
    (fun X s_ h hi hx => (spec_l01Is_link0 S K X p1_ (s_) h).mpr (hs X (s_) h hi fun i3_' h' hi' hm' => hx (i3_') h' hi' hm')) (i3_) h0
theorem spec_l01Is_unroll0 (S : SatT) (K : AVal → H → Prop) (p1_ : Pt) (i3_ : Int) (h : H) (hb : spec_l01Is_b0 S K (fun fr h => loopK (spec_l01Is_w0 S K) fr h) p1_ i3_ h) : spec_l01Is_L0 S K p1_ i3_ h := loop_unroll ((spec_l01Is_link0 S K _ p1_ i3_ h).mpr hb)
def spec_l01Is_main (S : SatT) (K : AVal → H → Prop) (x0 : List AVal) (h : H) : Prop :=
 newK 2 x0 h fun p0 h1 =>
 isPt p0 (
 ldI .i64 (Pt.add p0 0) h1 fun n2 =>
 callB S i_spec_l01In [.int .i64 n2, .int .i64 (1), .int .i64 (6)] h1 fun b4 h3 =>
 bif (!b4) then
 K (.bool false) h3
 else
 isPt p0 (
 ldS (Pt.add p0 1) h3 fun s5 =>
 bif (decide ((s5.len : Int) > (16))) then
 K (.bool false) h3
 else
 spec_l01Is_L0 S K p0 (0) h3))
theorem spec_l01Is_main_link (S : SatT) (K : AVal → H → Prop) (x0 : List AVal) (h : H) : cwp S tab spec_l01Is_M [] (bodyOf Try.f39) (kFun tab Try.f39.results.toList K) (fr0 Try.f39 [.agg x0]) h = spec_l01Is_main S K x0 h := by kernel_rfl
theorem spec_l01Is_call (x0 : List AVal) (h : H) (K : Bool → H → Prop) (hm : spec_l01Is_main (Sat Try.prog) (fun v h' => ∃ r, v = .bool r ∧ K r h') x0 h) : callB (Sat Try.prog) i_spec_l01Is [.agg x0] h K := by
  have := Sat.ex tok mixed spec_l01Is_M Try.func39 (c := bodyOf Try.f39) (by kernel_rfl) (calls_of Try.func39 (c := bodyOf Try.f39) (by kernel_rfl) (by decide)) ((spec_l01Is_main_link _ _ x0 h).mpr hm)
  obtain ⟨v, h2, h3, r, rfl, h4⟩ := this; exact ⟨r, h2, h3, h4⟩

/-! ### loop.example/g01354/laws.toTile -/
def laws_toTile_M : Nat → List Nat := fun i => bif i == 0 then [1, 2, 3, 4] else []
def laws_toTile_ks2 (S : SatT) (K : AVal → H → Prop) : Kont := kSeq (cwp S tab laws_toTile_M [] (sub [1, 1, 1] (bodyOf Try.f44)) (kFun tab (Try.f44).results.toList K)) (kFun tab (Try.f44).results.toList K)
def laws_toTile_e0 (p1_ : Pt) (p2_ : Pt) (p3_ : Pt) (i4_ : Int) : Frame := [U, .ptr p1_, .ptr p2_, .ptr p3_, .int .i64 i4_, U, U, U, U, U, U, U, U, U, U]
def laws_toTile_w0 (S : SatT) (K : AVal → H → Prop) : (Frame → H → Prop) → Frame → H → Prop := fun X fr h => cwp S tab laws_toTile_M (laws_toTile_M 0) (sub [1, 1, 0, 1, 0, 0] (bodyOf Try.f44)) (kSeq (fun fr h => X (mask (laws_toTile_M 0) fr) h) (kBlk 0 (laws_toTile_ks2 S K))) fr h
def laws_toTile_L0 (S : SatT) (K : AVal → H → Prop) (p1_ : Pt) (p2_ : Pt) (p3_ : Pt) (i4_ : Int) (h : H) : Prop := loopK (laws_toTile_w0 S K) (laws_toTile_e0 p1_ p2_ p3_ i4_) h
def laws_toTile_C0 (S : SatT) (K : AVal → H → Prop) (p2_ : Pt) (p3_ : Pt) (h : H) : Prop :=
 ldA p3_ 4 h fun cs0 =>
 stN p2_ 4 cs0 h fun h1 =>
 ldA p2_ 4 h1 fun cs2 =>
 K (.agg cs2) h1
def laws_toTile_b0 (S : SatT) (K : AVal → H → Prop) (X0 : Frame → H → Prop) (p1_ : Pt) (p2_ : Pt) (p3_ : Pt) (i4_ : Int) (h : H) : Prop :=
 bif (decide (i4_ < (4))) then
 ixA p1_ 4 1 i4_ fun p0 =>
 ldI .i64 p0 h fun n1 =>
 ixA p3_ 4 1 i4_ fun p2 =>
 st1 p2 (.int .i64 n1) h fun h3 =>
 X0 (laws_toTile_e0 p1_ p2_ p3_ (w64 (i4_ + (1)))) h3
 else
 laws_toTile_C0 S K p2_ p3_ h
theorem laws_toTile_link0 (S : SatT) (K : AVal → H → Prop) (X0 : Frame → H → Prop) (p1_ : Pt) (p2_ : Pt) (p3_ : Pt) (i4_ : Int) (h : H) : laws_toTile_w0 S K X0 (laws_toTile_e0 p1_ p2_ p3_ i4_) h = laws_toTile_b0 S K X0 p1_ p2_ p3_ i4_ h := by kernel_rfl
theorem laws_toTile_rule0 (S : SatT) (K : AVal → H → Prop) (p1_ : Pt) (p2_ : Pt) (p3_ : Pt) (I_ : Int → H → Prop) (m_ : Int → H → Nat)
    (hs : ∀ (X0 : Frame → H → Prop) (i4_ : Int) (h : H), I_ i4_ h → (∀ (i4_' : Int) (h' : H), I_ i4_' h' → m_ i4_' h' < m_ i4_ h → X0 (laws_toTile_e0 p1_ p2_ p3_ i4_') h') → laws_toTile_b0 S K X0 p1_ p2_ p3_ i4_ h) (i4_ : Int) {h : H} (h0 : I_ i4_ h) : laws_toTile_L0 S K p1_ p2_ p3_ i4_ h :=
  loop_rule (σ := (Int)) (fun s_ => laws_toTile_e0 p1_ p2_ p3_ (s_)) (fun s_ h => I_ (s_) h) (fun s_ h => m_ (s_) h)
    (fun X s_ h hi hx => (laws_toTile_link0 S K X p1_ p2_ p3_ (s_) h).mpr (hs X (s_) h hi fun i4_' h' hi' hm' => hx (i4_') h' hi' hm')) (i4_) h0
theorem laws_toTile_unroll0 (S : SatT) (K : AVal → H → Prop) (p1_ : Pt) (p2_ : Pt) (p3_ : Pt) (i4_ : Int) (h : H) (hb : laws_toTile_b0 S K (fun fr h => loopK (laws_toTile_w0 S K) fr h) p1_ p2_ p3_ i4_ h) : laws_toTile_L0 S K p1_ p2_ p3_ i4_ h := loop_unroll ((laws_toTile_link0 S K _ p1_ p2_ p3_ i4_ h).mpr hb)
def laws_toTile_main (S : SatT) (K : AVal → H → Prop) (x0 : List AVal) (h : H) : Prop :=
 newK 4 x0 h fun p0 h1 =>
 newO [.int .i64 (0), .int .i64 (0), .int .i64 (0), .int .i64 (0)] h1 fun p2 h3 =>
 newO [.int .i64 (0), .int .i64 (0), .int .i64 (0), .int .i64 (0)] h3 fun p4 h5 =>
 laws_toTile_L0 S K p0 p2 p4 (0) h5
theorem laws_toTile_main_link (S : SatT) (K : AVal → H → Prop) (x0 : List AVal) (h : H) : cwp S tab laws_toTile_M [] (bodyOf Try.f44) (kFun tab Try.f44.results.toList K) (fr0 Try.f44 [.agg x0]) h = laws_toTile_main S K x0 h := by kernel_rfl
theorem laws_toTile_call (x0 : List AVal) (h : H) (K : List AVal → H → Prop) (hm : laws_toTile_main (Sat Try.prog) (fun v h' => ∃ r, v = .agg r ∧ K r h') x0 h) : callA (Sat Try.prog) i_laws_toTile [.agg x0] h K := by
  have := Sat.ex tok mixed laws_toTile_M Try.func44 (c := bodyOf Try.f44) (by kernel_rfl) (calls_of Try.func44 (c := bodyOf Try.f44) (by kernel_rfl) (by decide)) ((laws_toTile_main_link _ _ x0 h).mpr hm)
  obtain ⟨v, h2, h3, r, rfl, h4⟩ := this; exact ⟨r, h2, h3, h4⟩

/-! ### loop.example/g01354/laws.markInt64S -/
def laws_markInt64S_M : Nat → List Nat := fun i => bif i == 0 then [0, 1, 5] else []
def laws_markInt64S_ks1 (S : SatT) (K : AVal → H → Prop) : Kont := kSeq (cwp S tab laws_markInt64S_M [] (sub [1, 1] (bodyOf Try.f12)) (kFun tab (Try.f12).results.toList K)) (kFun tab (Try.f12).results.toList K)
def laws_markInt64S_e0 (s0_ : Sl) (i1_ : Int) (i5_ : Int) : Frame := [.sl s0_, .int .i64 i1_, U, U, U, .int .i64 i5_, U, U, U, U, U, U, U, U, U, U, U, U, U]
def laws_markInt64S_w0 (S : SatT) (K : AVal → H → Prop) : (Frame → H → Prop) → Frame → H → Prop := fun X fr h => cwp S tab laws_markInt64S_M (laws_markInt64S_M 0) (sub [1, 0, 1, 0, 0] (bodyOf Try.f12)) (kSeq (fun fr h => X (mask (laws_markInt64S_M 0) fr) h) (kBlk 0 (laws_markInt64S_ks1 S K))) fr h
def laws_markInt64S_L0 (S : SatT) (K : AVal → H → Prop) (s0_ : Sl) (i1_ : Int) (i5_ : Int) (h : H) : Prop := loopK (laws_markInt64S_w0 S K) (laws_markInt64S_e0 s0_ i1_ i5_) h
def laws_markInt64S_C0 (S : SatT) (K : AVal → H → Prop) (i1_ : Int) (h : H) : Prop :=
 K (.int .i64 i1_) h
def laws_markInt64S_b0 (S : SatT) (K : AVal → H → Prop) (X0 : Frame → H → Prop) (s0_ : Sl) (i1_ : Int) (i5_ : Int) (h : H) : Prop :=
 bif (decide (i5_ < (s0_.len : Int))) then
 ixS s0_ 1 i5_ fun p0 =>
 st1 p0 (.int .i64 i1_) h fun h1 =>
 X0 (laws_markInt64S_e0 s0_ (w64 (i1_ + (1))) (w64 (i5_ + (1)))) h1
 else
 laws_markInt64S_C0 S K i1_ h
theorem laws_markInt64S_link0 (S : SatT) (K : AVal → H → Prop) (X0 : Frame → H → Prop) (s0_ : Sl) (i1_ : Int) (i5_ : Int) (h : H) : laws_markInt64S_w0 S K X0 (laws_markInt64S_e0 s0_ i1_ i5_) h = laws_markInt64S_b0 S K X0 s0_ i1_ i5_ h := by kernel_rfl
theorem laws_markInt64S_rule0 (S : SatT) (K : AVal → H → Prop) (s0_ : Sl) (I_ : Int → Int → H → Prop) (m_ : Int → Int → H → Nat)
    (hs : ∀ (X0 : Frame → H → Prop) (i1_ : Int) (i5_ : Int) (h : H), I_ i1_ i5_ h → (∀ (i1_' : Int) (i5_' : Int) (h' : H), I_ i1_' i5_' h' → m_ i1_' i5_' h' < m_ i1_ i5_ h → X0 (laws_markInt64S_e0 s0_ i1_' i5_') h') → laws_markInt64S_b0 S K X0 s0_ i1_ i5_ h) (i1_ : Int) (i5_ : Int) {h : H} (h0 : I_ i1_ i5_ h) : laws_markInt64S_L0 S K s0_ i1_ i5_ h :=
  loop_rule (σ := (Int) × (Int)) (fun s_ => laws_markInt64S_e0 s0_ (s_.1) (s_.2)) (fun s_ h => I_ (s_.1) (s_.2) h) (fun s_ h => m_ (s_.1) (s_.2) h)
    (fun X s_ h hi hx => (laws_markInt64S_link0 S K X s0_ (s_.1) (s_.2) h).mpr (hs X (s_.1) (s_.2) h hi fun i1_' i5_' h' hi' hm' => hx (i1_', i5_') h' hi' hm')) (i1_, i5_) h0
theorem laws_markInt64S_unroll0 (S : SatT) (K : AVal → H → Prop) (s0_ : Sl) (i1_ : Int) (i5_ : Int) (h : H) (hb : laws_markInt64S_b0 S K (fun fr h => loopK (laws_markInt64S_w0 S K) fr h) s0_ i1_ i5_ h) : laws_markInt64S_L0 S K s0_ i1_ i5_ h := loop_unroll ((laws_markInt64S_link0 S K _ s0_ i1_ i5_ h).mpr hb)
def laws_markInt64S_main (S : SatT) (K : AVal → H → Prop) (x0 : Sl) (x1 : Int) (h : H) : Prop :=
 laws_markInt64S_L0 S K x0 x1 (0) h
theorem laws_markInt64S_main_link (S : SatT) (K : AVal → H → Prop) (x0 : Sl) (x1 : Int) (h : H) : cwp S tab laws_markInt64S_M [] (bodyOf Try.f12) (kFun tab Try.f12.results.toList K) (fr0 Try.f12 [.sl x0, .int .i64 x1]) h = laws_markInt64S_main S K x0 x1 h := by kernel_rfl
theorem laws_markInt64S_call (x0 : Sl) (x1 : Int) (h : H) (K : Int → H → Prop) (hm : laws_markInt64S_main (Sat Try.prog) (fun v h' => ∃ r, v = .int .i64 r ∧ K r h') x0 x1 h) : callI (Sat Try.prog) .i64 i_laws_markInt64S [.sl x0, .int .i64 x1] h K := by
  have := Sat.ex tok mixed laws_markInt64S_M Try.func12 (c := bodyOf Try.f12) (by kernel_rfl) (calls_of Try.func12 (c := bodyOf Try.f12) (by kernel_rfl) (by decide)) ((laws_markInt64S_main_link _ _ x0 x1 h).mpr hm)
  obtain ⟨v, h2, h3, r, rfl, h4⟩ := this; exact ⟨r, h2, h3, h4⟩

/-! ### loop.example/g01354/laws.toTileS -/
def laws_toTileS_M : Nat → List Nat := fun i => bif i == 0 then [0, 3, 4] else []
def laws_toTileS_ks2 (S : SatT) (K : AVal → H → Prop) : Kont := kSeq (cwp S tab laws_toTileS_M [] (sub [1, 1, 1] (bodyOf Try.f22)) (kFun tab (Try.f22).results.toList K)) (kFun tab (Try.f22).results.toList K)
def laws_toTileS_e0 (s0_ : Sl) (s3_ : Sl) (i4_ : Int) : Frame := [.sl s0_, U, U, .sl s3_, .int .i64 i4_, U, U, U, U, U, U, U, U, U, U, U, U, U, U, U, U, U, U]
def laws_toTileS_w0 (S : SatT) (K : AVal → H → Prop) : (Frame → H → Prop) → Frame → H → Prop := fun X fr h => cwp S tab laws_toTileS_M (laws_toTileS_M 0) (sub [1, 1, 0, 1, 0, 0] (bodyOf Try.f22)) (kSeq (fun fr h => X (mask (laws_toTileS_M 0) fr) h) (kBlk 0 (laws_toTileS_ks2 S K))) fr h
def laws_toTileS_L0 (S : SatT) (K : AVal → H → Prop) (s0_ : Sl) (s3_ : Sl) (i4_ : Int) (h : H) : Prop := loopK (laws_toTileS_w0 S K) (laws_toTileS_e0 s0_ s3_ i4_) h
def laws_toTileS_C0 (S : SatT) (K : AVal → H → Prop) (s3_ : Sl) (h : H) : Prop :=
 K (.sl s3_) h
def laws_toTileS_b0 (S : SatT) (K : AVal → H → Prop) (X0 : Frame → H → Prop) (s0_ : Sl) (s3_ : Sl) (i4_ : Int) (h : H) : Prop :=
 bif (decide (i4_ < (s0_.len : Int))) then
 ixS s0_ 4 i4_ fun p0 =>
 ldA p0 4 h fun cs1 =>
 callA S i_laws_toTile [.agg cs1] h fun cs3 h2 =>
 ixS s3_ 4 i4_ fun p4 =>
 stN p4 4 cs3 h2 fun h5 =>
 X0 (laws_toTileS_e0 s0_ s3_ (w64 (i4_ + (1)))) h5
 else
 laws_toTileS_C0 S K s3_ h
theorem laws_toTileS_link0 (S : SatT) (K : AVal → H → Prop) (X0 : Frame → H → Prop) (s0_ : Sl) (s3_ : Sl) (i4_ : Int) (h : H) : laws_toTileS_w0 S K X0 (laws_toTileS_e0 s0_ s3_ i4_) h = laws_toTileS_b0 S K X0 s0_ s3_ i4_ h := by kernel_rfl
theorem laws_toTileS_rule0 (S : SatT) (K : AVal → H → Prop) (s0_ : Sl) (s3_ : Sl) (I_ : Int → H → Prop) (m_ : Int → H → Nat)
    (hs : ∀ (X0 : Frame → H → Prop) (i4_ : Int) (h : H), I_ i4_ h → (∀ (i4_' : Int) (h' : H), I_ i4_' h' → m_ i4_' h' < m_ i4_ h → X0 (laws_toTileS_e0 s0_ s3_ i4_') h') → laws_toTileS_b0 S K X0 s0_ s3_ i4_ h) (i4_ : Int) {h : H} (h0 : I_ i4_ h) : laws_toTileS_L0 S K s0_ s3_ i4_ h :=
  loop_rule (σ := (Int)) (fun s_ => laws_toTileS_e0 s0_ s3_ (s_)) (fun s_ h => I_ (s_) h) (fun s_ h => m_ (s_) h)
    (fun X s_ h hi hx => (laws_toTileS_link0 S K X s0_ s3_ (s_) h).mpr (hs X (s_) h hi fun i4_' h' hi' hm' => hx (i4_') h' hi' hm')) (i4_) h0
theorem laws_toTileS_unroll0 (S : SatT) (K : AVal → H → Prop) (s0_ : Sl) (s3_ : Sl) (i4_ : Int) (h : H) (hb : laws_toTileS_b0 S K (fun fr h => loopK (laws_toTileS_w0 S K) fr h) s0_ s3_ i4_ h) : laws_toTileS_L0 S K s0_ s3_ i4_ h := loop_unroll ((laws_toTileS_link0 S K _ s0_ s3_ i4_ h).mpr hb)
def laws_toTileS_main (S : SatT) (K : AVal → H → Prop) (x0 : Sl) (h : H) : Prop :=
 mkS (x0.len : Int) [.int .i64 (0), .int .i64 (0), .int .i64 (0), .int .i64 (0)] h fun s0 h1 =>
 laws_toTileS_L0 S K x0 s0 (0) h1
theorem laws_toTileS_main_link (S : SatT) (K : AVal → H → Prop) (x0 : Sl) (h : H) : cwp S tab laws_toTileS_M [] (bodyOf Try.f22) (kFun tab Try.f22.results.toList K) (fr0 Try.f22 [.sl x0]) h = laws_toTileS_main S K x0 h := by kernel_rfl
theorem laws_toTileS_call (x0 : Sl) (h : H) (K : Sl → H → Prop) (hm : laws_toTileS_main (Sat Try.prog) (fun v h' => ∃ r, v = .sl r ∧ K r h') x0 h) : callS (Sat Try.prog) i_laws_toTileS [.sl x0] h K := by
  have := Sat.ex tok mixed laws_toTileS_M Try.func22 (c := bodyOf Try.f22) (by kernel_rfl) (calls_of Try.func22 (c := bodyOf Try.f22) (by kernel_rfl) (by decide)) ((laws_toTileS_main_link _ _ x0 h).mpr hm)
  obtain ⟨v, h2, h3, r, rfl, h4⟩ := this; exact ⟨r, h2, h3, h4⟩

/-! ### loop.example/g01354/laws.FnExactCountCylinders -/
def laws_FnExactCountCylinders_M : Nat → List Nat := fun i => []
def laws_FnExactCountCylinders_main (S : SatT) (K : AVal → H → Prop) (x0 : List AVal) (x1 : Int) (x2 : Int) (h : H) : Prop :=
 newK 2 x0 h fun p0 h1 =>
 ldA p0 2 h1 fun cs2 =>
 callI S .i64 i_laws_szSet [.agg cs2, .int .i64 (1048576)] h1 fun n4 h3 =>
 bif (decide (n4 < (0))) then
 K (.bool true) h3
 else
 ldA p0 2 h3 fun cs5 =>
 callA S i_laws_toSet [.agg cs5] h3 fun cs7 h6 =>
 callV S i_spec_CountCylinders [.agg cs7, .int .i64 x1, .int .i64 x2] h6 fun v9 h8 =>
 viaT v9 fun vs10 =>
 exI .i64 vs10 0 fun n11 =>
 viaT v9 fun vs12 =>
 exI .i64 vs12 1 fun n13 =>
 ldA p0 2 h8 fun cs14 =>
 callA S i_laws_toSet [.agg cs14] h8 fun cs16 h15 =>
 newO [.int .i64 (0), .sl Sl.nil] h15 fun p17 h18 =>
 stN p17 2 cs16 h18 fun h19 =>
 ldA p17 2 h19 fun cs20 =>
 callV S i_impl_CountCylinders [.agg cs20, .int .i64 x1, .int .i64 x2] h19 fun v22 h21 =>
 viaT v22 fun vs23 =>
 exI .i64 vs23 0 fun n24 =>
 viaT v22 fun vs25 =>
 exI .i64 vs25 1 fun n26 =>
 bif (n24 != n11) then
 K (.bool false) h21
 else
 bif (n26 != n13) then
 K (.bool false) h21
 else
 ldA p17 2 h21 fun cs27 =>
 ldA p0 2 h21 fun cs28 =>
 callA S i_laws_toSet [.agg cs28] h21 fun cs30 h29 =>
(range h29 p17.o p17.n p17.off 2 = range h21 p17.o p17.n p17.off 2) ∧ (
 callB S i_laws_eqSet [.agg cs27, .agg cs30] h29 fun b32 h31 =>
 bif (!b32) then
 K (.bool false) h31
 else
 K (.bool true) h31)
theorem laws_FnExactCountCylinders_main_link (S : SatT) (K : AVal → H → Prop) (x0 : List AVal) (x1 : Int) (x2 : Int) (h : H) : cwp S tab laws_FnExactCountCylinders_M [] (bodyOf Try.f4) (kFun tab Try.f4.results.toList K) (fr0 Try.f4 [.agg x0, .int .i64 x1, .int .i64 x2]) h = laws_FnExactCountCylinders_main S K x0 x1 x2 h := by kernel_rfl
theorem laws_FnExactCountCylinders_call (x0 : List AVal) (x1 : Int) (x2 : Int) (h : H) (K : Bool → H → Prop) (hm : laws_FnExactCountCylinders_main (Sat Try.prog) (fun v h' => ∃ r, v = .bool r ∧ K r h') x0 x1 x2 h) : callB (Sat Try.prog) i_laws_FnExactCountCylinders [.agg x0, .int .i64 x1, .int .i64 x2] h K := by
  have := Sat.ex tok mixed laws_FnExactCountCylinders_M Try.func4 (c := bodyOf Try.f4) (by kernel_rfl) (calls_of Try.func4 (c := bodyOf Try.f4) (by kernel_rfl) (by decide)) ((laws_FnExactCountCylinders_main_link _ _ x0 x1 x2 h).mpr hm)
  obtain ⟨v, h2, h3, r, rfl, h4⟩ := this; exact ⟨r, h2, h3, h4⟩

/-! ### loop.example/g01354/spec.l06Code -/
def spec_l06Code_M : Nat → List Nat := fun i => []
def spec_l06Code_main (S : SatT) (K : AVal → H → Prop) (x0 : List AVal) (x1 : Int) (h : H) : Prop :=
 newK 2 x0 h fun p0 h1 =>
 ldA p0 2 h1 fun cs2 =>
 callB S i_spec_l01Is [.agg cs2] h1 fun b4 h3 =>
 bif (!b4) then
 K (.tuple [.sl Sl.nil, .int .i64 (1)]) h3
 else
 callB S i_spec_l01In [.int .i64 x1, .int .i64 (1), .int .i64 (4)] h3 fun b6 h5 =>
 bif (!b6) then
 K (.tuple [.sl Sl.nil, .int .i64 (2)]) h5
 else
 ldA p0 2 h5 fun cs7 =>
 callI S .i64 i_spec_l06Size [.agg cs7, .int .i64 x1] h5 fun n9 h8 =>
 bif (decide (n9 > (700))) then
 K (.tuple [.sl Sl.nil, .int .i64 (3)]) h8
 else
 ldA p0 2 h8 fun cs10 =>
 callV S i_spec_l06Columns [.agg cs10, .int .i64 x1] h8 fun v12 h11 =>
 viaT v12 fun vs13 =>
 exS vs13 0 fun s14 =>
 viaT v12 fun vs15 =>
 exB vs15 1 fun b16 =>
 bif (!b16) then
 K (.tuple [.sl Sl.nil, .int .i64 (3)]) h11
 else
 K (.tuple [.sl s14, .int .i64 (0)]) h11
theorem spec_l06Code_main_link (S : SatT) (K : AVal → H → Prop) (x0 : List AVal) (x1 : Int) (h : H) : cwp S tab spec_l06Code_M [] (bodyOf Try.f17) (kFun tab Try.f17.results.toList K) (fr0 Try.f17 [.agg x0, .int .i64 x1]) h = spec_l06Code_main S K x0 x1 h := by kernel_rfl
theorem spec_l06Code_call (x0 : List AVal) (x1 : Int) (h : H) (K : AVal → H → Prop) (hm : spec_l06Code_main (Sat Try.prog) (fun v h' => K v h') x0 x1 h) : callV (Sat Try.prog) i_spec_l06Code [.agg x0, .int .i64 x1] h K := by
  have := Sat.ex tok mixed spec_l06Code_M Try.func17 (c := bodyOf Try.f17) (by kernel_rfl) (calls_of Try.func17 (c := bodyOf Try.f17) (by kernel_rfl) (by decide)) ((spec_l06Code_main_link _ _ x0 x1 h).mpr hm)
  exact this

/-! ### loop.example/g01354/laws.toSet -/
def laws_toSet_M : Nat → List Nat := fun i => []
def laws_toSet_main (S : SatT) (K : AVal → H → Prop) (x0 : List AVal) (h : H) : Prop :=
 newK 2 x0 h fun p0 h1 =>
 newO [.int .i64 (0), .sl Sl.nil] h1 fun p2 h3 =>
 newO [.int .i64 (0), .sl Sl.nil] h3 fun p4 h5 =>
 isPt p0 (
 ldI .i64 (Pt.add p0 0) h5 fun n6 =>
 isPt p4 (
 st1 (Pt.add p4 0) (.int .i64 n6) h5 fun h7 =>
 isPt p0 (
 ldS (Pt.add p0 1) h7 fun s8 =>
 callS S i_laws_toTileS [.sl s8] h7 fun s10 h9 =>
 isPt p4 (
 st1 (Pt.add p4 1) (.sl s10) h9 fun h11 =>
 ldA p4 2 h11 fun cs12 =>
 stN p2 2 cs12 h11 fun h13 =>
 ldA p2 2 h13 fun cs14 =>
 K (.agg cs14) h13))))
theorem laws_toSet_main_link (S : SatT) (K : AVal → H → Prop) (x0 : List AVal) (h : H) : cwp S tab laws_toSet_M [] (bodyOf Try.f7) (kFun tab Try.f7.results.toList K) (fr0 Try.f7 [.agg x0]) h = laws_toSet_main S K x0 h := by kernel_rfl
theorem laws_toSet_call (x0 : List AVal) (h : H) (K : List AVal → H → Prop) (hm : laws_toSet_main (Sat Try.prog) (fun v h' => ∃ r, v = .agg r ∧ K r h') x0 h) : callA (Sat Try.prog) i_laws_toSet [.agg x0] h K := by
  have := Sat.ex tok mixed laws_toSet_M Try.func7 (c := bodyOf Try.f7) (by kernel_rfl) (calls_of Try.func7 (c := bodyOf Try.f7) (by kernel_rfl) (by decide)) ((laws_toSet_main_link _ _ x0 h).mpr hm)
  obtain ⟨v, h2, h3, r, rfl, h4⟩ := this; exact ⟨r, h2, h3, h4⟩

/-! ### slices.ContainsFunc[[]int64,int64] -/
def slices_ContainsFunc_s_int64_int64__M : Nat → List Nat := fun i => []
def slices_ContainsFunc_s_int64_int64__main (S : SatT) (K : AVal → H → Prop) (x0 : Sl) (x1 : AVal) (h : H) : Prop :=
 callI S .i64 i_slices_IndexFunc_s_int64_int64_ [.sl x0, x1] h fun n1 h0 =>
 K (.bool (decide (n1 ≥ (0)))) h0
theorem slices_ContainsFunc_s_int64_int64__main_link (S : SatT) (K : AVal → H → Prop) (x0 : Sl) (x1 : AVal) (h : H) : cwp S tab slices_ContainsFunc_s_int64_int64__M [] (bodyOf Try.f64) (kFun tab Try.f64.results.toList K) (fr0 Try.f64 [.sl x0, x1]) h = slices_ContainsFunc_s_int64_int64__main S K x0 x1 h := by kernel_rfl
theorem slices_ContainsFunc_s_int64_int64__call (x0 : Sl) (x1 : AVal) (h : H) (K : Bool → H → Prop) (hm : slices_ContainsFunc_s_int64_int64__main (Sat Try.prog) (fun v h' => ∃ r, v = .bool r ∧ K r h') x0 x1 h) : callB (Sat Try.prog) i_slices_ContainsFunc_s_int64_int64_ [.sl x0, x1] h K := by
  have := Sat.ex tok mixed slices_ContainsFunc_s_int64_int64__M Try.func64 (c := bodyOf Try.f64) (by kernel_rfl) (calls_of Try.func64 (c := bodyOf Try.f64) (by kernel_rfl) (by decide)) ((slices_ContainsFunc_s_int64_int64__main_link _ _ x0 x1 h).mpr hm)
  obtain ⟨v, h2, h3, r, rfl, h4⟩ := this; exact ⟨r, h2, h3, h4⟩

/-! ### loop.example/g01354/impl.within -/
def impl_within_M : Nat → List Nat := fun i => []
def impl_within_main (S : SatT) (K : AVal → H → Prop) (x0 : Int) (x1 : Int) (x2 : Int) (h : H) : Prop :=
 bif (decide (x0 ≥ x1)) then
 K (.bool (decide (x0 ≤ x2))) h
 else
 K (.bool false) h
theorem impl_within_main_link (S : SatT) (K : AVal → H → Prop) (x0 : Int) (x1 : Int) (x2 : Int) (h : H) : cwp S tab impl_within_M [] (bodyOf Try.f36) (kFun tab Try.f36.results.toList K) (fr0 Try.f36 [.int .i64 x0, .int .i64 x1, .int .i64 x2]) h = impl_within_main S K x0 x1 x2 h := by kernel_rfl
theorem impl_within_call (x0 : Int) (x1 : Int) (x2 : Int) (h : H) (K : Bool → H → Prop) (hm : impl_within_main (Sat Try.prog) (fun v h' => ∃ r, v = .bool r ∧ K r h') x0 x1 x2 h) : callB (Sat Try.prog) i_impl_within [.int .i64 x0, .int .i64 x1, .int .i64 x2] h K := by
  have := Sat.ex tok mixed impl_within_M Try.func36 (c := bodyOf Try.f36) (by kernel_rfl) (calls_of Try.func36 (c := bodyOf Try.f36) (by kernel_rfl) (by decide)) ((impl_within_main_link _ _ x0 x1 x2 h).mpr hm)
  obtain ⟨v, h2, h3, r, rfl, h4⟩ := this; exact ⟨r, h2, h3, h4⟩

/-! ### loop.example/g01354/laws.szTileS -/
def laws_szTileS_M : Nat → List Nat := fun i => []
def laws_szTileS_main (S : SatT) (K : AVal → H → Prop) (x0 : Sl) (x1 : Int) (h : H) : Prop :=
 bif (decide ((w64 (x1 - (x0.len : Int))) < (0))) then
 K (.int .i64 (-1)) h
 else
 K (.int .i64 (w64 (x1 - (x0.len : Int)))) h
theorem laws_szTileS_main_link (S : SatT) (K : AVal → H → Prop) (x0 : Sl) (x1 : Int) (h : H) : cwp S tab laws_szTileS_M [] (bodyOf Try.f16) (kFun tab Try.f16.results.toList K) (fr0 Try.f16 [.sl x0, .int .i64 x1]) h = laws_szTileS_main S K x0 x1 h := by kernel_rfl
theorem laws_szTileS_call (x0 : Sl) (x1 : Int) (h : H) (K : Int → H → Prop) (hm : laws_szTileS_main (Sat Try.prog) (fun v h' => ∃ r, v = .int .i64 r ∧ K r h') x0 x1 h) : callI (Sat Try.prog) .i64 i_laws_szTileS [.sl x0, .int .i64 x1] h K := by
  have := Sat.ex tok mixed laws_szTileS_M Try.func16 (c := bodyOf Try.f16) (by kernel_rfl) (calls_of Try.func16 (c := bodyOf Try.f16) (by kernel_rfl) (by decide)) ((laws_szTileS_main_link _ _ x0 x1 h).mpr hm)
  obtain ⟨v, h2, h3, r, rfl, h4⟩ := this; exact ⟨r, h2, h3, h4⟩

/-! ### loop.example/g01354/impl.counted -/
def impl_counted_M : Nat → List Nat := fun i => []
def impl_counted_main (S : SatT) (K : AVal → H → Prop) (x0 : Int) (h : H) : Prop :=
 bif (decide (x0 > (1000000000000000))) then
 K (.tuple [.int .i64 (0), .int .i64 (3)]) h
 else
 K (.tuple [.int .i64 x0, .int .i64 (0)]) h
theorem impl_counted_main_link (S : SatT) (K : AVal → H → Prop) (x0 : Int) (h : H) : cwp S tab impl_counted_M [] (bodyOf Try.f38) (kFun tab Try.f38.results.toList K) (fr0 Try.f38 [.int .i64 x0]) h = impl_counted_main S K x0 h := by kernel_rfl
theorem impl_counted_call (x0 : Int) (h : H) (K : AVal → H → Prop) (hm : impl_counted_main (Sat Try.prog) (fun v h' => K v h') x0 h) : callV (Sat Try.prog) i_impl_counted [.int .i64 x0] h K := by
  have := Sat.ex tok mixed impl_counted_M Try.func38 (c := bodyOf Try.f38) (by kernel_rfl) (calls_of Try.func38 (c := bodyOf Try.f38) (by kernel_rfl) (by decide)) ((impl_counted_main_link _ _ x0 h).mpr hm)
  exact this

/-! ### loop.example/g01354/spec.l06Columns -/
def spec_l06Columns_M : Nat → List Nat := fun i => bif i == 4 then [1, 2, 6, 7, 8, 9, 10] else bif i == 2 then [1, 2, 6, 7, 8, 9] else bif i == 0 then [1, 2, 6, 7] else []
def spec_l06Columns_ks2 (S : SatT) (K : AVal → H → Prop) : Kont := kSeq (cwp S tab spec_l06Columns_M [] (sub [1, 1, 1] (bodyOf Try.f41)) (kFun tab (Try.f41).results.toList K)) (kFun tab (Try.f41).results.toList K)
def spec_l06Columns_e0 (i1_ : Int) (p2_ : Pt) (s6_ : Sl) (i7_ : Int) : Frame := [U, .int .i64 i1_, .ptr p2_, U, U, U, .sl s6_, .int .i64 i7_, U, U, U, U, U, U, U, U, U, U, U, U, U, U, U, U, U, U, U, U, U, U, U, U, U, U, U, U, U, U, U, U, U, U, U, U, U, U, U, U, U, U, U, U, U, U, U, U, U, U, U, U, U, U, U, U, U, U, U, U, U, U, U, U, U, U, U, U, U, U, U, U, U, U, U, U, U, U, U, U, U, U, U]
def spec_l06Columns_w0 (S : SatT) (K : AVal → H → Prop) : (Frame → H → Prop) → Frame → H → Prop := fun X fr h => cwp S tab spec_l06Columns_M (spec_l06Columns_M 0) (sub [1, 1, 0, 1, 0, 0] (bodyOf Try.f41)) (kSeq (fun fr h => X (mask (spec_l06Columns_M 0) fr) h) (kBlk 0 (spec_l06Columns_ks2 S K))) fr h
def spec_l06Columns_L0 (S : SatT) (K : AVal → H → Prop) (i1_ : Int) (p2_ : Pt) (s6_ : Sl) (i7_ : Int) (h : H) : Prop := loopK (spec_l06Columns_w0 S K) (spec_l06Columns_e0 i1_ p2_ s6_ i7_) h
def spec_l06Columns_ks6 (S : SatT) (K : AVal → H → Prop) (X0 : Frame → H → Prop) : Kont := kSeq (cwp S tab spec_l06Columns_M (spec_l06Columns_M 0) (sub [1, 1, 0, 1, 0, 0, 1, 1] (bodyOf Try.f41)) (kSeq (fun fr h => X0 (mask (spec_l06Columns_M 0) fr) h) (kBlk 0 (spec_l06Columns_ks2 S K)))) (kSeq (fun fr h => X0 (mask (spec_l06Columns_M 0) fr) h) (kBlk 0 (spec_l06Columns_ks2 S K)))
def spec_l06Columns_ks8 (S : SatT) (K : AVal → H → Prop) (X0 : Frame → H → Prop) : Kont := kSeq (cwp S tab spec_l06Columns_M (spec_l06Columns_M 1) (sub [1, 1, 0, 1, 0, 0, 1, 0, 0, 1, 1] (bodyOf Try.f41)) (kBlk 1 (spec_l06Columns_ks6 S K X0))) (kBlk 1 (spec_l06Columns_ks6 S K X0))
def spec_l06Columns_e2 (i1_ : Int) (p2_ : Pt) (s6_ : Sl) (i7_ : Int) (s8_ : Sl) (i9_ : Int) : Frame := [U, .int .i64 i1_, .ptr p2_, U, U, U, .sl s6_, .int .i64 i7_, .sl s8_, .int .i64 i9_, U, U, U, U, U, U, U, U, U, U, U, U, U, U, U, U, U, U, U, U, U, U, U, U, U, U, U, U, U, U, U, U, U, U, U, U, U, U, U, U, U, U, U, U, U, U, U, U, U, U, U, U, U, U, U, U, U, U, U, U, U, U, U, U, U, U, U, U, U, U, U, U, U, U, U, U, U, U, U, U, U]
def spec_l06Columns_w2 (S : SatT) (K : AVal → H → Prop) (X0 : Frame → H → Prop) : (Frame → H → Prop) → Frame → H → Prop := fun X fr h => cwp S tab spec_l06Columns_M (spec_l06Columns_M 2) (sub [1, 1, 0, 1, 0, 0, 1, 0, 0, 1, 0, 1, 0, 0] (bodyOf Try.f41)) (kSeq (fun fr h => X (mask (spec_l06Columns_M 2) fr) h) (kBlk 2 (spec_l06Columns_ks8 S K X0))) fr h
def spec_l06Columns_L2 (S : SatT) (K : AVal → H → Prop) (X0 : Frame → H → Prop) (i1_ : Int) (p2_ : Pt) (s6_ : Sl) (i7_ : Int) (s8_ : Sl) (i9_ : Int) (h : H) : Prop := loopK (spec_l06Columns_w2 S K X0) (spec_l06Columns_e2 i1_ p2_ s6_ i7_ s8_ i9_) h
def spec_l06Columns_ks12 (S : SatT) (K : AVal → H → Prop) (X0 : Frame → H → Prop) (X2 : Frame → H → Prop) : Kont := kSeq (cwp S tab spec_l06Columns_M (spec_l06Columns_M 2) (sub [1, 1, 0, 1, 0, 0, 1, 0, 0, 1, 0, 1, 0, 0, 1, 1] (bodyOf Try.f41)) (kSeq (fun fr h => X2 (mask (spec_l06Columns_M 2) fr) h) (kBlk 2 (spec_l06Columns_ks8 S K X0)))) (kSeq (fun fr h => X2 (mask (spec_l06Columns_M 2) fr) h) (kBlk 2 (spec_l06Columns_ks8 S K X0)))
def spec_l06Columns_e4 (i1_ : Int) (p2_ : Pt) (s6_ : Sl) (i7_ : Int) (s8_ : Sl) (i9_ : Int) (i10_ : Int) : Frame := [U, .int .i64 i1_, .ptr p2_, U, U, U, .sl s6_, .int .i64 i7_, .sl s8_, .int .i64 i9_, .int .i64 i10_, U, U, U, U, U, U, U, U, U, U, U, U, U, U, U, U, U, U, U, U, U, U, U, U, U, U, U, U, U, U, U, U, U, U, U, U, U, U, U, U, U, U, U, U, U, U, U, U, U, U, U, U, U, U, U, U, U, U, U, U, U, U, U, U, U, U, U, U, U, U, U, U, U, U, U, U, U, U, U, U]
def spec_l06Columns_w4 (S : SatT) (K : AVal → H → Prop) (X0 : Frame → H → Prop) (X2 : Frame → H → Prop) : (Frame → H → Prop) → Frame → H → Prop := fun X fr h => cwp S tab spec_l06Columns_M (spec_l06Columns_M 4) (sub [1, 1, 0, 1, 0, 0, 1, 0, 0, 1, 0, 1, 0, 0, 1, 0, 0, 1, 0, 0] (bodyOf Try.f41)) (kSeq (fun fr h => X (mask (spec_l06Columns_M 4) fr) h) (kBlk 4 (kBlk 3 (spec_l06Columns_ks12 S K X0 X2)))) fr h
def spec_l06Columns_L4 (S : SatT) (K : AVal → H → Prop) (X0 : Frame → H → Prop) (X2 : Frame → H → Prop) (i1_ : Int) (p2_ : Pt) (s6_ : Sl) (i7_ : Int) (s8_ : Sl) (i9_ : Int) (i10_ : Int) (h : H) : Prop := loopK (spec_l06Columns_w4 S K X0 X2) (spec_l06Columns_e4 i1_ p2_ s6_ i7_ s8_ i9_ i10_) h
def spec_l06Columns_C3 (S : SatT) (K : AVal → H → Prop) (X0 : Frame → H → Prop) (X2 : Frame → H → Prop) (i1_ : Int) (p2_ : Pt) (s6_ : Sl) (i7_ : Int) (s8_ : Sl) (i9_ : Int) (h : H) : Prop :=
 X2 (spec_l06Columns_e2 i1_ p2_ s6_ i7_ s8_ (w64 (i9_ + (1)))) h
def spec_l06Columns_C4 (S : SatT) (K : AVal → H → Prop) (X0 : Frame → H → Prop) (X2 : Frame → H → Prop) (i1_ : Int) (p2_ : Pt) (s6_ : Sl) (i7_ : Int) (s8_ : Sl) (i9_ : Int) (h : H) : Prop :=
 spec_l06Columns_C3 S K X0 X2 i1_ p2_ s6_ i7_ s8_ i9_ h
def spec_l06Columns_b4 (S : SatT) (K : AVal → H → Prop) (X0 : Frame → H → Prop) (X2 : Frame → H → Prop) (X4 : Frame → H → Prop) (i1_ : Int) (p2_ : Pt) (s6_ : Sl) (i7_ : Int) (s8_ : Sl) (i9_ : Int) (i10_ : Int) (h : H) : Prop :=
 isPt p2_ (
 ldS (Pt.add p2_ 1) h fun s0 =>
 bif (decide (i10_ < (s0.len : Int))) then
 isPt p2_ (
 ldS (Pt.add p2_ 1) h fun s1 =>
 ixS s1 4 i10_ fun p2 =>
 ldA p2 4 h fun cs3 =>
 newO [.int .i64 (0), .int .i64 (0), .int .i64 (0), .int .i64 (0)] h fun p4 h5 =>
 stN p4 4 cs3 h5 fun h6 =>
 ixS s6_ 1 i9_ fun p7 =>
 ldS p7 h6 fun s8 =>
 ixS s8 1 (2) fun p9 =>
 ldI .i64 p9 h6 fun n10 =>
 bif (decide (n10 ≥ (0))) then
 ixS s6_ 1 i9_ fun p11 =>
 ldS p11 h6 fun s12 =>
 ixS s12 1 (2) fun p13 =>
 ldI .i64 p13 h6 fun n14 =>
 ixA p4 4 1 (1) fun p15 =>
 ldI .i64 p15 h6 fun n16 =>
 bif (n14 != n16) then
 X4 (spec_l06Columns_e4 i1_ p2_ s6_ i7_ s8_ i9_ (w64 (i10_ + (1)))) h6
 else
 bif ((s8_.len : Int) == (5000)) then
 K (.tuple [.sl Sl.nil, .bool false]) h6
 else
 ixS s6_ 1 i9_ fun p17 =>
 ldS p17 h6 fun s18 =>
 ixS s18 1 (0) fun p19 =>
 ldI .i64 p19 h6 fun n20 =>
 isPt p2_ (
 ldI .i64 (Pt.add p2_ 0) h6 fun n21 =>
 ixA p4 4 1 (0) fun p22 =>
 ldI .i64 p22 h6 fun n23 =>
 ixS s6_ 1 i9_ fun p24 =>
 ldS p24 h6 fun s25 =>
 ixS s25 1 (1) fun p26 =>
 ldI .i64 p26 h6 fun n27 =>
 isPt p2_ (
 ldI .i64 (Pt.add p2_ 0) h6 fun n28 =>
 ixA p4 4 1 (2) fun p29 =>
 ldI .i64 p29 h6 fun n30 =>
 ixA p4 4 1 (3) fun p31 =>
 ldI .i64 p31 h6 fun n32 =>
 newS 3 1 [.int .i64 (w64 ((w64 (n20 * n21)) + n23)), .int .i64 (w64 ((w64 (n27 * n28)) + n30)), .int .i64 n32] h6 fun s33 h34 =>
 newS 1 1 [.sl s33] h34 fun s35 h36 =>
 app s8_ s35 1 h36 fun s37 h38 =>
 X4 (spec_l06Columns_e4 i1_ p2_ s6_ i7_ s37 i9_ (w64 (i10_ + (1)))) h38))
 else
 bif ((s8_.len : Int) == (5000)) then
 K (.tuple [.sl Sl.nil, .bool false]) h6
 else
 ixS s6_ 1 i9_ fun p39 =>
 ldS p39 h6 fun s40 =>
 ixS s40 1 (0) fun p41 =>
 ldI .i64 p41 h6 fun n42 =>
 isPt p2_ (
 ldI .i64 (Pt.add p2_ 0) h6 fun n43 =>
 ixA p4 4 1 (0) fun p44 =>
 ldI .i64 p44 h6 fun n45 =>
 ixS s6_ 1 i9_ fun p46 =>
 ldS p46 h6 fun s47 =>
 ixS s47 1 (1) fun p48 =>
 ldI .i64 p48 h6 fun n49 =>
 isPt p2_ (
 ldI .i64 (Pt.add p2_ 0) h6 fun n50 =>
 ixA p4 4 1 (2) fun p51 =>
 ldI .i64 p51 h6 fun n52 =>
 ixA p4 4 1 (3) fun p53 =>
 ldI .i64 p53 h6 fun n54 =>
 newS 3 1 [.int .i64 (w64 ((w64 (n42 * n43)) + n45)), .int .i64 (w64 ((w64 (n49 * n50)) + n52)), .int .i64 n54] h6 fun s55 h56 =>
 newS 1 1 [.sl s55] h56 fun s57 h58 =>
 app s8_ s57 1 h58 fun s59 h60 =>
 X4 (spec_l06Columns_e4 i1_ p2_ s6_ i7_ s59 i9_ (w64 (i10_ + (1)))) h60)))
 else
 spec_l06Columns_C4 S K X0 X2 i1_ p2_ s6_ i7_ s8_ i9_ h)
theorem spec_l06Columns_link4 (S : SatT) (K : AVal → H → Prop) (X0 : Frame → H → Prop) (X2 : Frame → H → Prop) (X4 : Frame → H → Prop) (i1_ : Int) (p2_ : Pt) (s6_ : Sl) (i7_ : Int) (s8_ : Sl) (i9_ : Int) (i10_ : Int) (h : H) : spec_l06Columns_w4 S K X0 X2 X4 (spec_l06Columns_e4 i1_ p2_ s6_ i7_ s8_ i9_ i10_) h = spec_l06Columns_b4 S K X0 X2 X4 i1_ p2_ s6_ i7_ s8_ i9_ i10_ h := by kernel_rfl
theorem spec_l06Columns_rule4 (S : SatT) (K : AVal → H → Prop) (X0 : Frame → H → Prop) (X2 : Frame → H → Prop) (i1_ : Int) (p2_ : Pt) (s6_ : Sl) (i7_ : Int) (i9_ : Int) (I_ : Sl → Int → H → Prop) (m_ : Sl → Int → H → Nat)
    (hs : ∀ (X4 : Frame → H → Prop) (s8_ : Sl) (i10_ : Int) (h : H), I_ s8_ i10_ h → (∀ (s8_' : Sl) (i10_' : Int) (h' : H), I_ s8_' i10_' h' → m_ s8_' i10_' h' < m_ s8_ i10_ h → X4 (spec_l06Columns_e4 i1_ p2_ s6_ i7_ s8_' i9_ i10_') h') → spec_l06Columns_b4 S K X0 X2 X4 i1_ p2_ s6_ i7_ s8_ i9_ i10_ h) (s8_ : Sl) (i10_ : Int) {h : H} (h0 : I_ s8_ i10_ h) : spec_l06Columns_L4 S K X0 X2 i1_ p2_ s6_ i7_ s8_ i9_ i10_ h :=
  loop_rule (σ := (Sl) × (Int)) (fun s_ => spec_l06Columns_e4 i1_ p2_ s6_ i7_ (s_.1) i9_ (s_.2)) (fun s_ h => I_ (s_.1) (s_.2) h) (fun s_ h => m_ (s_.1) (s_.2) h)
    (fun X s_ h hi hx => (spec_l06Columns_link4 S K X0 X2 X i1_ p2_ s6_ i7_ (s_.1) i9_ (s_.2) h).mpr (hs X (s_.1) (s_.2) h hi fun s8_' i10_' h' hi' hm' => hx (s8_', i10_') h' hi' hm')) (s8_, i10_) h0
theorem spec_l06Columns_unroll4 (S : SatT) (K : AVal → H → Prop) (X0 : Frame → H → Prop) (X2 : Frame → H → Prop) (i1_ : Int) (p2_ : Pt) (s6_ : Sl) (i7_ : Int) (s8_ : Sl) (i9_ : Int) (i10_ : Int) (h : H) (hb : spec_l06Columns_b4 S K X0 X2 (fun fr h => loopK (spec_l06Columns_w4 S K X0 X2) fr h) i1_ p2_ s6_ i7_ s8_ i9_ i10_ h) : spec_l06Columns_L4 S K X0 X2 i1_ p2_ s6_ i7_ s8_ i9_ i10_ h := loop_unroll ((spec_l06Columns_link4 S K X0 X2 _ i1_ p2_ s6_ i7_ s8_ i9_ i10_ h).mpr hb)
def spec_l06Columns_C1 (S : SatT) (K : AVal → H → Prop) (X0 : Frame → H → Prop) (i1_ : Int) (p2_ : Pt) (s6_ : Sl) (i7_ : Int) (h : H) : Prop :=
 X0 (spec_l06Columns_e0 i1_ p2_ s6_ (w64 (i7_ + (1)))) h
def spec_l06Columns_C2 (S : SatT) (K : AVal → H → Prop) (X0 : Frame → H → Prop) (i1_ : Int) (p2_ : Pt) (i7_ : Int) (s8_ : Sl) (h : H) : Prop :=
 spec_l06Columns_C1 S K X0 i1_ p2_ s8_ i7_ h
def spec_l06Columns_b2 (S : SatT) (K : AVal → H → Prop) (X0 : Frame → H → Prop) (X2 : Frame → H → Prop) (i1_ : Int) (p2_ : Pt) (s6_ : Sl) (i7_ : Int) (s8_ : Sl) (i9_ : Int) (h : H) : Prop :=
 bif (decide (i9_ < (s6_.len : Int))) then
 spec_l06Columns_L4 S K X0 X2 i1_ p2_ s6_ i7_ s8_ i9_ (0) h
 else
 spec_l06Columns_C2 S K X0 i1_ p2_ i7_ s8_ h
theorem spec_l06Columns_link2 (S : SatT) (K : AVal → H → Prop) (X0 : Frame → H → Prop) (X2 : Frame → H → Prop) (i1_ : Int) (p2_ : Pt) (s6_ : Sl) (i7_ : Int) (s8_ : Sl) (i9_ : Int) (h : H) : spec_l06Columns_w2 S K X0 X2 (spec_l06Columns_e2 i1_ p2_ s6_ i7_ s8_ i9_) h = spec_l06Columns_b2 S K X0 X2 i1_ p2_ s6_ i7_ s8_ i9_ h := by kernel_rfl
theorem spec_l06Columns_rule2 (S : SatT) (K : AVal → H → Prop) (X0 : Frame → H → Prop) (i1_ : Int) (p2_ : Pt) (s6_ : Sl) (i7_ : Int) (I_ : Sl → Int → H → Prop) (m_ : Sl → Int → H → Nat)
    (hs : ∀ (X2 : Frame → H → Prop) (s8_ : Sl) (i9_ : Int) (h : H), I_ s8_ i9_ h → (∀ (s8_' : Sl) (i9_' : Int) (h' : H), I_ s8_' i9_' h' → m_ s8_' i9_' h' < m_ s8_ i9_ h → X2 (spec_l06Columns_e2 i1_ p2_ s6_ i7_ s8_' i9_') h') → spec_l06Columns_b2 S K X0 X2 i1_ p2_ s6_ i7_ s8_ i9_ h) (s8_ : Sl) (i9_ : Int) {h : H} (h0 : I_ s8_ i9_ h) : spec_l06Columns_L2 S K X0 i1_ p2_ s6_ i7_ s8_ i9_ h :=
  loop_rule (σ := (Sl) × (Int)) (fun s_ => spec_l06Columns_e2 i1_ p2_ s6_ i7_ (s_.1) (s_.2)) (fun s_ h => I_ (s_.1) (s_.2) h) (fun s_ h => m_ (s_.1) (s_.2) h)
    (fun X s_ h hi hx => (spec_l06Columns_link2 S K X0 X i1_ p2_ s6_ i7_ (s_.1) (s_.2) h).mpr (hs X (s_.1) (s_.2) h hi fun s8_' i9_' h' hi' hm' => hx (s8_', i9_') h' hi' hm')) (s8_, i9_) h0
theorem spec_l06Columns_unroll2 (S : SatT) (K : AVal → H → Prop) (X0 : Frame → H → Prop) (i1_ : Int) (p2_ : Pt) (s6_ : Sl) (i7_ : Int) (s8_ : Sl) (i9_ : Int) (h : H) (hb : spec_l06Columns_b2 S K X0 (fun fr h => loopK (spec_l06Columns_w2 S K X0) fr h) i1_ p2_ s6_ i7_ s8_ i9_ h) : spec_l06Columns_L2 S K X0 i1_ p2_ s6_ i7_ s8_ i9_ h := loop_unroll ((spec_l06Columns_link2 S K X0 _ i1_ p2_ s6_ i7_ s8_ i9_ h).mpr hb)
def spec_l06Columns_C0 (S : SatT) (K : AVal → H → Prop) (s6_ : Sl) (h : H) : Prop :=
 K (.tuple [.sl s6_, .bool true]) h
def spec_l06Columns_b0 (S : SatT) (K : AVal → H → Prop) (X0 : Frame → H → Prop) (i1_ : Int) (p2_ : Pt) (s6_ : Sl) (i7_ : Int) (h : H) : Prop :=
 bif (decide (i7_ < i1_)) then
 newS 0 1 [] h fun s0 h1 =>
 spec_l06Columns_L2 S K X0 i1_ p2_ s6_ i7_ s0 (0) h1
 else
 spec_l06Columns_C0 S K s6_ h
theorem spec_l06Columns_link0 (S : SatT) (K : AVal → H → Prop) (X0 : Frame → H → Prop) (i1_ : Int) (p2_ : Pt) (s6_ : Sl) (i7_ : Int) (h : H) : spec_l06Columns_w0 S K X0 (spec_l06Columns_e0 i1_ p2_ s6_ i7_) h = spec_l06Columns_b0 S K X0 i1_ p2_ s6_ i7_ h := by kernel_rfl
theorem spec_l06Columns_rule0 (S : SatT) (K : AVal → H → Prop) (i1_ : Int) (p2_ : Pt) (I_ : Sl → Int → H → Prop) (m_ : Sl → Int → H → Nat)
    (hs : ∀ (X0 : Frame → H → Prop) (s6_ : Sl) (i7_ : Int) (h : H), I_ s6_ i7_ h → (∀ (s6_' : Sl) (i7_' : Int) (h' : H), I_ s6_' i7_' h' → m_ s6_' i7_' h' < m_ s6_ i7_ h → X0 (spec_l06Columns_e0 i1_ p2_ s6_' i7_') h') → spec_l06Columns_b0 S K X0 i1_ p2_ s6_ i7_ h) (s6_ : Sl) (i7_ : Int) {h : H} (h0 : I_ s6_ i7_ h) : spec_l06Columns_L0 S K i1_ p2_ s6_ i7_ h :=
  loop_rule (σ := (Sl) × (Int)) (fun s_ => spec_l06Columns_e0 i1_ p2_ (s_.1) (s_.2)) (fun s_ h => I_ (s_.1) (s_.2) h) (fun s_ h => m_ (s_.1) (s_.2) h)
    (fun X s_ h hi hx => (spec_l06Columns_link0 S K X i1_ p2_ (s_.1) (s_.2) h).mpr (hs X (s_.1) (s_.2) h hi fun s6_' i7_' h' hi' hm' => hx (s6_', i7_') h' hi' hm')) (s6_, i7_) h0
theorem spec_l06Columns_unroll0 (S : SatT) (K : AVal → H → Prop) (i1_ : Int) (p2_ : Pt) (s6_ : Sl) (i7_ : Int) (h : H) (hb : spec_l06Columns_b0 S K (fun fr h => loopK (spec_l06Columns_w0 S K) fr h) i1_ p2_ s6_ i7_ h) : spec_l06Columns_L0 S K i1_ p2_ s6_ i7_ h := loop_unroll ((spec_l06Columns_link0 S K _ i1_ p2_ s6_ i7_ h).mpr hb)
def spec_l06Columns_main (S : SatT) (K : AVal → H → Prop) (x0 : List AVal) (x1 : Int) (h : H) : Prop :=
 newK 2 x0 h fun p0 h1 =>
 newS 3 1 [.int .i64 (0), .int .i64 (0), .int .i64 (-1)] h1 fun s2 h3 =>
 newS 1 1 [.sl s2] h3 fun s4 h5 =>
 spec_l06Columns_L0 S K x1 p0 s4 (0) h5
theorem spec_l06Columns_main_link (S : SatT) (K : AVal → H → Prop) (x0 : List AVal) (x1 : Int) (h : H) : cwp S tab spec_l06Columns_M [] (bodyOf Try.f41) (kFun tab Try.f41.results.toList K) (fr0 Try.f41 [.agg x0, .int .i64 x1]) h = spec_l06Columns_main S K x0 x1 h := by kernel_rfl
theorem spec_l06Columns_call (x0 : List AVal) (x1 : Int) (h : H) (K : AVal → H → Prop) (hm : spec_l06Columns_main (Sat Try.prog) (fun v h' => K v h') x0 x1 h) : callV (Sat Try.prog) i_spec_l06Columns [.agg x0, .int .i64 x1] h K := by
  have := Sat.ex tok mixed spec_l06Columns_M Try.func41 (c := bodyOf Try.f41) (by kernel_rfl) (calls_of Try.func41 (c := bodyOf Try.f41) (by kernel_rfl) (by decide)) ((spec_l06Columns_main_link _ _ x0 x1 h).mpr hm)
  exact this

/-! ### loop.example/g01354/impl.CountCylinders -/
def impl_CountCylinders_M : Nat → List Nat := fun i => bif i == 4021 then [10, 16] else bif i == 3021 then [16, 16] else bif i == 4 then [9, 10, 13, 42, 43, 46, 47, 48] else bif i == 2 then [9, 10, 42, 43] else bif i == 0 then [4, 9, 10, 29, 30, 31] else []
def impl_CountCylinders_ks6 (S : SatT) (K : AVal → H → Prop) : Kont := kSeq (cwp S tab impl_CountCylinders_M [] (sub [1, 1, 1, 1] (bodyOf Try.f15)) (kFun tab (Try.f15).results.toList K)) (kFun tab (Try.f15).results.toList K)
def impl_CountCylinders_e0 (p4_ : Pt) (s9_ : Sl) (f10_ : AVal) (s29_ : Sl) (i30_ : Int) (i31_ : Int) : Frame := [U, U, U, U, .ptr p4_, U, U, U, U, .sl s9_, f10_, U, U, U, U, U, U, U, U, U, U, U, U, U, U, U, U, U, U, .sl s29_, .int .i64 i30_, .int .i64 i31_, U, U, U, U, U, U, U, U, U, U, U, U, U, U, U, U, U, U, U, U, U, U, U, U, U, U, U, U, U, U, U, U, U, U, U, U, U, U, U, U, U, U, U, U, U, U, U, U, U, U]
def impl_CountCylinders_w0 (S : SatT) (K : AVal → H → Prop) : (Frame → H → Prop) → Frame → H → Prop := fun X fr h => cwp S tab impl_CountCylinders_M (impl_CountCylinders_M 0) (sub [1, 1, 1, 0, 1, 0, 0] (bodyOf Try.f15)) (kSeq (fun fr h => X (mask (impl_CountCylinders_M 0) fr) h) (kBlk 0 (impl_CountCylinders_ks6 S K))) fr h
def impl_CountCylinders_L0 (S : SatT) (K : AVal → H → Prop) (p4_ : Pt) (s9_ : Sl) (f10_ : AVal) (s29_ : Sl) (i30_ : Int) (i31_ : Int) (h : H) : Prop := loopK (impl_CountCylinders_w0 S K) (impl_CountCylinders_e0 p4_ s9_ f10_ s29_ i30_ i31_) h
def impl_CountCylinders_ks12 (S : SatT) (K : AVal → H → Prop) : Kont := kSeq (cwp S tab impl_CountCylinders_M [] (sub [1, 1, 1, 1, 1] (bodyOf Try.f15)) (kFun tab (Try.f15).results.toList K)) (kFun tab (Try.f15).results.toList K)
def impl_CountCylinders_e2 (s9_ : Sl) (f10_ : AVal) (i42_ : Int) (i43_ : Int) : Frame := [U, U, U, U, U, U, U, U, U, .sl s9_, f10_, U, U, U, U, U, U, U, U, U, U, U, U, U, U, U, U, U, U, U, U, U, U, U, U, U, U, U, U, U, U, U, .int .i64 i42_, .int .i64 i43_, U, U, U, U, U, U, U, U, U, U, U, U, U, U, U, U, U, U, U, U, U, U, U, U, U, U, U, U, U, U, U, U, U, U, U, U, U, U]
def impl_CountCylinders_w2 (S : SatT) (K : AVal → H → Prop) : (Frame → H → Prop) → Frame → H → Prop := fun X fr h => cwp S tab impl_CountCylinders_M (impl_CountCylinders_M 2) (sub [1, 1, 1, 1, 0, 1, 0, 0] (bodyOf Try.f15)) (kSeq (fun fr h => X (mask (impl_CountCylinders_M 2) fr) h) (kBlk 2 (impl_CountCylinders_ks12 S K))) fr h
def impl_CountCylinders_L2 (S : SatT) (K : AVal → H → Prop) (s9_ : Sl) (f10_ : AVal) (i42_ : Int) (i43_ : Int) (h : H) : Prop := loopK (impl_CountCylinders_w2 S K) (impl_CountCylinders_e2 s9_ f10_ i42_ i43_) h
def impl_CountCylinders_ks16 (S : SatT) (K : AVal → H → Prop) (X2 : Frame → H → Prop) : Kont := kSeq (cwp S tab impl_CountCylinders_M (impl_CountCylinders_M 2) (sub [1, 1, 1, 1, 0, 1, 0, 0, 1, 1, 1] (bodyOf Try.f15)) (kSeq (fun fr h => X2 (mask (impl_CountCylinders_M 2) fr) h) (kBlk 2 (impl_CountCylinders_ks12 S K)))) (kSeq (fun fr h => X2 (mask (impl_CountCylinders_M 2) fr) h) (kBlk 2 (impl_CountCylinders_ks12 S K)))
def impl_CountCylinders_ks18 (S : SatT) (K : AVal → H → Prop) (X2 : Frame → H → Prop) : Kont := kSeq (cwp S tab impl_CountCylinders_M (impl_CountCylinders_M 3) (sub [1, 1, 1, 1, 0, 1, 0, 0, 1, 1, 0, 0, 1, 1] (bodyOf Try.f15)) (kBlk 3 (impl_CountCylinders_ks16 S K X2))) (kBlk 3 (impl_CountCylinders_ks16 S K X2))
def impl_CountCylinders_e4 (s9_ : Sl) (f10_ : AVal) (f13_ : AVal) (i42_ : Int) (i43_ : Int) (s46_ : Sl) (i47_ : Int) (i48_ : Int) : Frame := [U, U, U, U, U, U, U, U, U, .sl s9_, f10_, U, U, f13_, U, U, U, U, U, U, U, U, U, U, U, U, U, U, U, U, U, U, U, U, U, U, U, U, U, U, U, U, .int .i64 i42_, .int .i64 i43_, U, U, .sl s46_, .int .i64 i47_, .int .i64 i48_, U, U, U, U, U, U, U, U, U, U, U, U, U, U, U, U, U, U, U, U, U, U, U, U, U, U, U, U, U, U, U, U, U]
def impl_CountCylinders_w4 (S : SatT) (K : AVal → H → Prop) (X2 : Frame → H → Prop) : (Frame → H → Prop) → Frame → H → Prop := fun X fr h => cwp S tab impl_CountCylinders_M (impl_CountCylinders_M 4) (sub [1, 1, 1, 1, 0, 1, 0, 0, 1, 1, 0, 0, 1, 0, 1, 0, 0] (bodyOf Try.f15)) (kSeq (fun fr h => X (mask (impl_CountCylinders_M 4) fr) h) (kBlk 4 (impl_CountCylinders_ks18 S K X2))) fr h
def impl_CountCylinders_L4 (S : SatT) (K : AVal → H → Prop) (X2 : Frame → H → Prop) (s9_ : Sl) (f10_ : AVal) (f13_ : AVal) (i42_ : Int) (i43_ : Int) (s46_ : Sl) (i47_ : Int) (i48_ : Int) (h : H) : Prop := loopK (impl_CountCylinders_w4 S K X2) (impl_CountCylinders_e4 s9_ f10_ f13_ i42_ i43_ s46_ i47_ i48_) h
def impl_CountCylinders_C3 (S : SatT) (K : AVal → H → Prop) (X2 : Frame → H → Prop) (s9_ : Sl) (f10_ : AVal) (i42_ : Int) (i43_ : Int) (h : H) : Prop :=
 X2 (impl_CountCylinders_e2 s9_ f10_ i42_ (w64 (i43_ + (1)))) h
def impl_CountCylinders_C4 (S : SatT) (K : AVal → H → Prop) (X2 : Frame → H → Prop) (s9_ : Sl) (f13_ : AVal) (i42_ : Int) (i43_ : Int) (h : H) : Prop :=
 impl_CountCylinders_C3 S K X2 s9_ f13_ i42_ i43_ h
def impl_CountCylinders_b4 (S : SatT) (K : AVal → H → Prop) (X2 : Frame → H → Prop) (X4 : Frame → H → Prop) (s9_ : Sl) (f10_ : AVal) (f13_ : AVal) (i42_ : Int) (i43_ : Int) (s46_ : Sl) (i47_ : Int) (i48_ : Int) (h : H) : Prop :=
 bif (decide (i48_ < i47_)) then
 ixS s46_ 2 i48_ fun p0 =>
 ldA p0 2 h fun cs1 =>
 newO [.int .i64 (0), .int .i64 (0)] h fun p2 h3 =>
 stN p2 2 cs1 h3 fun h4 =>
 ixA p2 2 1 (1) fun p5 =>
 ldI .i64 p5 h4 fun n6 =>
 ixA p2 2 1 (1) fun p7 =>
 ldI .i64 p7 h4 fun n8 =>
 mgetI .i64 f13_ (.int .i64 n8) h4 fun n9 =>
 ixA p2 2 1 (0) fun p10 =>
 ldI .i64 p10 h4 fun n11 =>
 mgetI .i64 f10_ (.int .i64 n11) h4 fun n12 =>
 mput f13_ (.int .i64 n6) (.int .i64 (mnI (1000000000000001) (w64 (n9 + n12)))) h4 fun h13 =>
 X4 (impl_CountCylinders_e4 s9_ f10_ f13_ i42_ i43_ s46_ i47_ (w64 (i48_ + (1)))) h13
 else
 impl_CountCylinders_C4 S K X2 s9_ f13_ i42_ i43_ h
theorem impl_CountCylinders_link4 (S : SatT) (K : AVal → H → Prop) (X2 : Frame → H → Prop) (X4 : Frame → H → Prop) (s9_ : Sl) (f10_ : AVal) (f13_ : AVal) (i42_ : Int) (i43_ : Int) (s46_ : Sl) (i47_ : Int) (i48_ : Int) (h : H) : impl_CountCylinders_w4 S K X2 X4 (impl_CountCylinders_e4 s9_ f10_ f13_ i42_ i43_ s46_ i47_ i48_) h = impl_CountCylinders_b4 S K X2 X4 s9_ f10_ f13_ i42_ i43_ s46_ i47_ i48_ h := by kernel_rfl
theorem impl_CountCylinders_rule4 (S : SatT) (K : AVal → H → Prop) (X2 : Frame → H → Prop) (s9_ : Sl) (f10_ : AVal) (f13_ : AVal) (i42_ : Int) (i43_ : Int) (s46_ : Sl) (i47_ : Int) (I_ : Int → H → Prop) (m_ : Int → H → Nat)
    (hs : ∀ (X4 : Frame → H → Prop) (i48_ : Int) (h : H), I_ i48_ h → (∀ (i48_' : Int) (h' : H), I_ i48_' h' → m_ i48_' h' < m_ i48_ h → X4 (impl_CountCylinders_e4 s9_ f10_ f13_ i42_ i43_ s46_ i47_ i48_') h') → impl_CountCylinders_b4 S K X2 X4 s9_ f10_ f13_ i42_ i43_ s46_ i47_ i48_ h) (i48_ : Int) {h : H} (h0 : I_ i48_ h) : impl_CountCylinders_L4 S K X2 s9_ f10_ f13_ i42_ i43_ s46_ i47_ i48_ h :=
  loop_rule (σ := (Int)) (fun s_ => impl_CountCylinders_e4 s9_ f10_ f13_ i42_ i43_ s46_ i47_ (s_)) (fun s_ h => I_ (s_) h) (fun s_ h => m_ (s_) h)
    (fun X s_ h hi hx => (impl_CountCylinders_link4 S K X2 X s9_ f10_ f13_ i42_ i43_ s46_ i47_ (s_) h).mpr (hs X (s_) h hi fun i48_' h' hi' hm' => hx (i48_') h' hi' hm')) (i48_) h0
theorem impl_CountCylinders_unroll4 (S : SatT) (K : AVal → H → Prop) (X2 : Frame → H → Prop) (s9_ : Sl) (f10_ : AVal) (f13_ : AVal) (i42_ : Int) (i43_ : Int) (s46_ : Sl) (i47_ : Int) (i48_ : Int) (h : H) (hb : impl_CountCylinders_b4 S K X2 (fun fr h => loopK (impl_CountCylinders_w4 S K X2) fr h) s9_ f10_ f13_ i42_ i43_ s46_ i47_ i48_ h) : impl_CountCylinders_L4 S K X2 s9_ f10_ f13_ i42_ i43_ s46_ i47_ i48_ h := loop_unroll ((impl_CountCylinders_link4 S K X2 _ s9_ f10_ f13_ i42_ i43_ s46_ i47_ i48_ h).mpr hb)
def impl_CountCylinders_C2 (S : SatT) (K : AVal → H → Prop) (f10_ : AVal) (h : H) : Prop :=
 rangeK S tab [16, 16] (sub [1, 1, 1, 1, 1, 1, 0, 0] (bodyOf Try.f15)) (sub [1, 1, 1, 1, 1, 1, 0, 1] (bodyOf Try.f15)) (fun i16_ h0 =>
 callV S i_impl_counted [.int .i64 i16_] h0 fun v2 h1 =>
 viaT v2 fun vs3 =>
 exI .i64 vs3 0 fun n4 =>
 viaT v2 fun vs5 =>
 exI .i64 vs5 1 fun n6 =>
 K (.tuple [.int .i64 n4, .int .i64 n6]) h1) [U, U, U, U, U, U, U, U, U, U, f10_, U, U, U, U, U, .int .i64 (0), U, U, U, U, U, U, U, U, U, U, U, U, U, U, U, U, U, U, U, U, U, U, U, U, U, U, U, U, U, U, U, U, U, U, U, U, U, U, U, U, U, U, U, U, U, U, U, U, U, U, U, U, U, U, U, U, U, U, U, U, U, U, U, U, U] h
def impl_CountCylinders_b2 (S : SatT) (K : AVal → H → Prop) (X2 : Frame → H → Prop) (s9_ : Sl) (f10_ : AVal) (i42_ : Int) (i43_ : Int) (h : H) : Prop :=
 bif (decide (i43_ < i42_)) then
 newM h fun v0 h1 =>
 impl_CountCylinders_L4 S K X2 s9_ f10_ v0 i42_ i43_ s9_ (s9_.len : Int) (0) h1
 else
 impl_CountCylinders_C2 S K f10_ h
theorem impl_CountCylinders_link2 (S : SatT) (K : AVal → H → Prop) (X2 : Frame → H → Prop) (s9_ : Sl) (f10_ : AVal) (i42_ : Int) (i43_ : Int) (h : H) : impl_CountCylinders_w2 S K X2 (impl_CountCylinders_e2 s9_ f10_ i42_ i43_) h = impl_CountCylinders_b2 S K X2 s9_ f10_ i42_ i43_ h := by kernel_rfl
theorem impl_CountCylinders_rule2 (S : SatT) (K : AVal → H → Prop) (s9_ : Sl) (i42_ : Int) (I_ : AVal → Int → H → Prop) (m_ : AVal → Int → H → Nat)
    (hs : ∀ (X2 : Frame → H → Prop) (f10_ : AVal) (i43_ : Int) (h : H), I_ f10_ i43_ h → (∀ (f10_' : AVal) (i43_' : Int) (h' : H), I_ f10_' i43_' h' → m_ f10_' i43_' h' < m_ f10_ i43_ h → X2 (impl_CountCylinders_e2 s9_ f10_' i42_ i43_') h') → impl_CountCylinders_b2 S K X2 s9_ f10_ i42_ i43_ h) (f10_ : AVal) (i43_ : Int) {h : H} (h0 : I_ f10_ i43_ h) : impl_CountCylinders_L2 S K s9_ f10_ i42_ i43_ h :=
  loop_rule (σ := (AVal) × (Int)) (fun s_ => impl_CountCylinders_e2 s9_ (s_.1) i42_ (s_.2)) (fun s_ h => I_ (s_.1) (s_.2) h) (fun s_ h => m_ (s_.1) (s_.2) h)
    (fun X s_ h hi hx => (impl_CountCylinders_link2 S K X s9_ (s_.1) i42_ (s_.2) h).mpr (hs X (s_.1) (s_.2) h hi fun f10_' i43_' h' hi' hm' => hx (f10_', i43_') h' hi' hm')) (f10_, i43_) h0
theorem impl_CountCylinders_unroll2 (S : SatT) (K : AVal → H → Prop) (s9_ : Sl) (f10_ : AVal) (i42_ : Int) (i43_ : Int) (h : H) (hb : impl_CountCylinders_b2 S K (fun fr h => loopK (impl_CountCylinders_w2 S K) fr h) s9_ f10_ i42_ i43_ h) : impl_CountCylinders_L2 S K s9_ f10_ i42_ i43_ h := loop_unroll ((impl_CountCylinders_link2 S K _ s9_ f10_ i42_ i43_ h).mpr hb)
def impl_CountCylinders_C0 (S : SatT) (K : AVal → H → Prop) (p4_ : Pt) (s9_ : Sl) (f10_ : AVal) (h : H) : Prop :=
 ldI .i64 p4_ h fun n0 =>
 impl_CountCylinders_L2 S K s9_ f10_ (w64 (n0 - (1))) (0) h
def impl_CountCylinders_b0 (S : SatT) (K : AVal → H → Prop) (X0 : Frame → H → Prop) (p4_ : Pt) (s9_ : Sl) (f10_ : AVal) (s29_ : Sl) (i30_ : Int) (i31_ : Int) (h : H) : Prop :=
 bif (decide (i31_ < i30_)) then
 ixS s29_ 2 i31_ fun p0 =>
 ldA p0 2 h fun cs1 =>
 newO [.int .i64 (0), .int .i64 (0)] h fun p2 h3 =>
 stN p2 2 cs1 h3 fun h4 =>
 ixA p2 2 1 (1) fun p5 =>
 ldI .i64 p5 h4 fun n6 =>
 mgetI .i64 f10_ (.int .i64 n6) h4 fun n7 =>
 mput f10_ (.int .i64 n6) (.int .i64 (w64 (n7 + (1)))) h4 fun h8 =>
 X0 (impl_CountCylinders_e0 p4_ s9_ f10_ s29_ i30_ (w64 (i31_ + (1)))) h8
 else
 impl_CountCylinders_C0 S K p4_ s9_ f10_ h
theorem impl_CountCylinders_link0 (S : SatT) (K : AVal → H → Prop) (X0 : Frame → H → Prop) (p4_ : Pt) (s9_ : Sl) (f10_ : AVal) (s29_ : Sl) (i30_ : Int) (i31_ : Int) (h : H) : impl_CountCylinders_w0 S K X0 (impl_CountCylinders_e0 p4_ s9_ f10_ s29_ i30_ i31_) h = impl_CountCylinders_b0 S K X0 p4_ s9_ f10_ s29_ i30_ i31_ h := by kernel_rfl
theorem impl_CountCylinders_rule0 (S : SatT) (K : AVal → H → Prop) (p4_ : Pt) (s9_ : Sl) (f10_ : AVal) (s29_ : Sl) (i30_ : Int) (I_ : Int → H → Prop) (m_ : Int → H → Nat)
    (hs : ∀ (X0 : Frame → H → Prop) (i31_ : Int) (h : H), I_ i31_ h → (∀ (i31_' : Int) (h' : H), I_ i31_' h' → m_ i31_' h' < m_ i31_ h → X0 (impl_CountCylinders_e0 p4_ s9_ f10_ s29_ i30_ i31_') h') → impl_CountCylinders_b0 S K X0 p4_ s9_ f10_ s29_ i30_ i31_ h) (i31_ : Int) {h : H} (h0 : I_ i31_ h) : impl_CountCylinders_L0 S K p4_ s9_ f10_ s29_ i30_ i31_ h :=
  loop_rule (σ := (Int)) (fun s_ => impl_CountCylinders_e0 p4_ s9_ f10_ s29_ i30_ (s_)) (fun s_ h => I_ (s_) h) (fun s_ h => m_ (s_) h)
    (fun X s_ h hi hx => (impl_CountCylinders_link0 S K X p4_ s9_ f10_ s29_ i30_ (s_) h).mpr (hs X (s_) h hi fun i31_' h' hi' hm' => hx (i31_') h' hi' hm')) (i31_) h0
theorem impl_CountCylinders_unroll0 (S : SatT) (K : AVal → H → Prop) (p4_ : Pt) (s9_ : Sl) (f10_ : AVal) (s29_ : Sl) (i30_ : Int) (i31_ : Int) (h : H) (hb : impl_CountCylinders_b0 S K (fun fr h => loopK (impl_CountCylinders_w0 S K) fr h) p4_ s9_ f10_ s29_ i30_ i31_ h) : impl_CountCylinders_L0 S K p4_ s9_ f10_ s29_ i30_ i31_ h := loop_unroll ((impl_CountCylinders_link0 S K _ p4_ s9_ f10_ s29_ i30_ i31_ h).mpr hb)
def impl_CountCylinders_main (S : SatT) (K : AVal → H → Prop) (x0 : List AVal) (x1 : Int) (x2 : Int) (h : H) : Prop :=
 newK 2 x0 h fun p0 h1 =>
 newO [.int .i64 x1] h1 fun p2 h3 =>
 newO [.int .i64 x2] h3 fun p4 h5 =>
 ldA p0 2 h5 fun cs6 =>
 callI S .i64 i_impl_setCode [.agg cs6, .func 35 [.ptr p2, .ptr p4]] h5 fun n8 h7 =>
 bif (n8 != (0)) then
 K (.tuple [.int .i64 (0), .int .i64 n8]) h7
 else
 ldA p0 2 h7 fun cs9 =>
 ldI .i64 p4 h7 fun n10 =>
 callS S i_impl_Set_rounds [.agg cs9, .int .i64 n10] h7 fun s12 h11 =>
 newM h11 fun v13 h14 =>
 impl_CountCylinders_L0 S K p2 s12 v13 s12 (s12.len : Int) (0) h14
theorem impl_CountCylinders_main_link (S : SatT) (K : AVal → H → Prop) (x0 : List AVal) (x1 : Int) (x2 : Int) (h : H) : cwp S tab impl_CountCylinders_M [] (bodyOf Try.f15) (kFun tab Try.f15.results.toList K) (fr0 Try.f15 [.agg x0, .int .i64 x1, .int .i64 x2]) h = impl_CountCylinders_main S K x0 x1 x2 h := by kernel_rfl
theorem impl_CountCylinders_call (x0 : List AVal) (x1 : Int) (x2 : Int) (h : H) (K : AVal → H → Prop) (hm : impl_CountCylinders_main (Sat Try.prog) (fun v h' => K v h') x0 x1 x2 h) : callV (Sat Try.prog) i_impl_CountCylinders [.agg x0, .int .i64 x1, .int .i64 x2] h K := by
  have := Sat.ex tok mixed impl_CountCylinders_M Try.func15 (c := bodyOf Try.f15) (by kernel_rfl) (calls_of Try.func15 (c := bodyOf Try.f15) (by kernel_rfl) (by decide)) ((impl_CountCylinders_main_link _ _ x0 x1 x2 h).mpr hm)
  exact this

/-! ### loop.example/g01354/spec.l04Sorted -/
def spec_l04Sorted_M : Nat → List Nat := fun i => bif i == 0 then [4, 5, 6, 7, 8] else []
def spec_l04Sorted_ks6 (S : SatT) (K : AVal → H → Prop) : Kont := kSeq (cwp S tab spec_l04Sorted_M [] (sub [1, 1, 1, 1, 1] (bodyOf Try.f19)) (kFun tab (Try.f19).results.toList K)) (kFun tab (Try.f19).results.toList K)
def spec_l04Sorted_e0 (s4_ : Sl) (s5_ : Sl) (s6_ : Sl) (i7_ : Int) (i8_ : Int) : Frame := [U, U, U, U, .sl s4_, .sl s5_, .sl s6_, .int .i64 i7_, .int .i64 i8_, U, U, U, U, U, U, U, U, U, U, U, U, U, U, U, U, U, U, U, U, U, U, U, U, U, U, U, U, U, U, U, U, U, U, U, U, U, U, U, U, U, U, U, U, U, U, U, U, U, U, U, U, U, U, U, U, U, U, U, U, U, U, U, U, U, U, U, U, U, U, U, U, U, U, U, U, U, U, U, U, U, U, U, U, U]
def spec_l04Sorted_w0 (S : SatT) (K : AVal → H → Prop) : (Frame → H → Prop) → Frame → H → Prop := fun X fr h => cwp S tab spec_l04Sorted_M (spec_l04Sorted_M 0) (sub [1, 1, 1, 1, 0, 1, 0, 0] (bodyOf Try.f19)) (kSeq (fun fr h => X (mask (spec_l04Sorted_M 0) fr) h) (kBlk 0 (spec_l04Sorted_ks6 S K))) fr h
def spec_l04Sorted_L0 (S : SatT) (K : AVal → H → Prop) (s4_ : Sl) (s5_ : Sl) (s6_ : Sl) (i7_ : Int) (i8_ : Int) (h : H) : Prop := loopK (spec_l04Sorted_w0 S K) (spec_l04Sorted_e0 s4_ s5_ s6_ i7_ i8_) h
def spec_l04Sorted_C0 (S : SatT) (K : AVal → H → Prop) (s6_ : Sl) (h : H) : Prop :=
 K (.sl s6_) h
def spec_l04Sorted_b0 (S : SatT) (K : AVal → H → Prop) (X0 : Frame → H → Prop) (s4_ : Sl) (s5_ : Sl) (s6_ : Sl) (i7_ : Int) (i8_ : Int) (h : H) : Prop :=
 bif (decide (i7_ < (s4_.len : Int))) then
 bif (i8_ == (s5_.len : Int)) then
 ixS s4_ 1 i7_ fun p0 =>
 ldI .i64 p0 h fun n1 =>
 newS 1 1 [.int .i64 n1] h fun s2 h3 =>
 app s6_ s2 1 h3 fun s4 h5 =>
 X0 (spec_l04Sorted_e0 s4_ s5_ s4 (w64 (i7_ + (1))) i8_) h5
 else
 bif (decide (i7_ < (s4_.len : Int))) then
 ixS s4_ 1 i7_ fun p6 =>
 ldI .i64 p6 h fun n7 =>
 ixS s5_ 1 i8_ fun p8 =>
 ldI .i64 p8 h fun n9 =>
 bif (decide (n7 < n9)) then
 ixS s4_ 1 i7_ fun p10 =>
 ldI .i64 p10 h fun n11 =>
 newS 1 1 [.int .i64 n11] h fun s12 h13 =>
 app s6_ s12 1 h13 fun s14 h15 =>
 X0 (spec_l04Sorted_e0 s4_ s5_ s14 (w64 (i7_ + (1))) i8_) h15
 else
 bif (i7_ == (s4_.len : Int)) then
 ixS s5_ 1 i8_ fun p16 =>
 ldI .i64 p16 h fun n17 =>
 newS 1 1 [.int .i64 n17] h fun s18 h19 =>
 app s6_ s18 1 h19 fun s20 h21 =>
 X0 (spec_l04Sorted_e0 s4_ s5_ s20 i7_ (w64 (i8_ + (1)))) h21
 else
 ixS s5_ 1 i8_ fun p22 =>
 ldI .i64 p22 h fun n23 =>
 ixS s4_ 1 i7_ fun p24 =>
 ldI .i64 p24 h fun n25 =>
 bif (decide (n23 < n25)) then
 ixS s5_ 1 i8_ fun p26 =>
 ldI .i64 p26 h fun n27 =>
 newS 1 1 [.int .i64 n27] h fun s28 h29 =>
 app s6_ s28 1 h29 fun s30 h31 =>
 X0 (spec_l04Sorted_e0 s4_ s5_ s30 i7_ (w64 (i8_ + (1)))) h31
 else
 X0 (spec_l04Sorted_e0 s4_ s5_ s6_ (w64 (i7_ + (1))) i8_) h
 else
 bif (i7_ == (s4_.len : Int)) then
 ixS s5_ 1 i8_ fun p32 =>
 ldI .i64 p32 h fun n33 =>
 newS 1 1 [.int .i64 n33] h fun s34 h35 =>
 app s6_ s34 1 h35 fun s36 h37 =>
 X0 (spec_l04Sorted_e0 s4_ s5_ s36 i7_ (w64 (i8_ + (1)))) h37
 else
 ixS s5_ 1 i8_ fun p38 =>
 ldI .i64 p38 h fun n39 =>
 ixS s4_ 1 i7_ fun p40 =>
 ldI .i64 p40 h fun n41 =>
 bif (decide (n39 < n41)) then
 ixS s5_ 1 i8_ fun p42 =>
 ldI .i64 p42 h fun n43 =>
 newS 1 1 [.int .i64 n43] h fun s44 h45 =>
 app s6_ s44 1 h45 fun s46 h47 =>
 X0 (spec_l04Sorted_e0 s4_ s5_ s46 i7_ (w64 (i8_ + (1)))) h47
 else
 X0 (spec_l04Sorted_e0 s4_ s5_ s6_ (w64 (i7_ + (1))) i8_) h
 else
 bif (decide (i8_ < (s5_.len : Int))) then
 bif (i8_ == (s5_.len : Int)) then
 ixS s4_ 1 i7_ fun p48 =>
 ldI .i64 p48 h fun n49 =>
 newS 1 1 [.int .i64 n49] h fun s50 h51 =>
 app s6_ s50 1 h51 fun s52 h53 =>
 X0 (spec_l04Sorted_e0 s4_ s5_ s52 (w64 (i7_ + (1))) i8_) h53
 else
 bif (decide (i7_ < (s4_.len : Int))) then
 ixS s4_ 1 i7_ fun p54 =>
 ldI .i64 p54 h fun n55 =>
 ixS s5_ 1 i8_ fun p56 =>
 ldI .i64 p56 h fun n57 =>
 bif (decide (n55 < n57)) then
 ixS s4_ 1 i7_ fun p58 =>
 ldI .i64 p58 h fun n59 =>
 newS 1 1 [.int .i64 n59] h fun s60 h61 =>
 app s6_ s60 1 h61 fun s62 h63 =>
 X0 (spec_l04Sorted_e0 s4_ s5_ s62 (w64 (i7_ + (1))) i8_) h63
 else
 bif (i7_ == (s4_.len : Int)) then
 ixS s5_ 1 i8_ fun p64 =>
 ldI .i64 p64 h fun n65 =>
 newS 1 1 [.int .i64 n65] h fun s66 h67 =>
 app s6_ s66 1 h67 fun s68 h69 =>
 X0 (spec_l04Sorted_e0 s4_ s5_ s68 i7_ (w64 (i8_ + (1)))) h69
 else
 ixS s5_ 1 i8_ fun p70 =>
 ldI .i64 p70 h fun n71 =>
 ixS s4_ 1 i7_ fun p72 =>
 ldI .i64 p72 h fun n73 =>
 bif (decide (n71 < n73)) then
 ixS s5_ 1 i8_ fun p74 =>
 ldI .i64 p74 h fun n75 =>
 newS 1 1 [.int .i64 n75] h fun s76 h77 =>
 app s6_ s76 1 h77 fun s78 h79 =>
 X0 (spec_l04Sorted_e0 s4_ s5_ s78 i7_ (w64 (i8_ + (1)))) h79
 else
 X0 (spec_l04Sorted_e0 s4_ s5_ s6_ (w64 (i7_ + (1))) i8_) h
 else
 bif (i7_ == (s4_.len : Int)) then
 ixS s5_ 1 i8_ fun p80 =>
 ldI .i64 p80 h fun n81 =>
 newS 1 1 [.int .i64 n81] h fun s82 h83 =>
 app s6_ s82 1 h83 fun s84 h85 =>
 X0 (spec_l04Sorted_e0 s4_ s5_ s84 i7_ (w64 (i8_ + (1)))) h85
 else
 ixS s5_ 1 i8_ fun p86 =>
 ldI .i64 p86 h fun n87 =>
 ixS s4_ 1 i7_ fun p88 =>
 ldI .i64 p88 h fun n89 =>
 bif (decide (n87 < n89)) then
 ixS s5_ 1 i8_ fun p90 =>
 ldI .i64 p90 h fun n91 =>
 newS 1 1 [.int .i64 n91] h fun s92 h93 =>
 app s6_ s92 1 h93 fun s94 h95 =>
 X0 (spec_l04Sorted_e0 s4_ s5_ s94 i7_ (w64 (i8_ + (1)))) h95
 else
 X0 (spec_l04Sorted_e0 s4_ s5_ s6_ (w64 (i7_ + (1))) i8_) h
 else
 spec_l04Sorted_C0 S K s6_ h
theorem spec_l04Sorted_link0 (S : SatT) (K : AVal → H → Prop) (X0 : Frame → H → Prop) (s4_ : Sl) (s5_ : Sl) (s6_ : Sl) (i7_ : Int) (i8_ : Int) (h : H) : spec_l04Sorted_w0 S K X0 (spec_l04Sorted_e0 s4_ s5_ s6_ i7_ i8_) h = spec_l04Sorted_b0 S K X0 s4_ s5_ s6_ i7_ i8_ h := by kernel_rfl
theorem spec_l04Sorted_rule0 (S : SatT) (K : AVal → H → Prop) (s4_ : Sl) (s5_ : Sl) (I_ : Sl → Int → Int → H → Prop) (m_ : Sl → Int → Int → H → Nat)
    (hs : ∀ (X0 : Frame → H → Prop) (s6_ : Sl) (i7_ : Int) (i8_ : Int) (h : H), I_ s6_ i7_ i8_ h → (∀ (s6_' : Sl) (i7_' : Int) (i8_' : Int) (h' : H), I_ s6_' i7_' i8_' h' → m_ s6_' i7_' i8_' h' < m_ s6_ i7_ i8_ h → X0 (spec_l04Sorted_e0 s4_ s5_ s6_' i7_' i8_') h') → spec_l04Sorted_b0 S K X0 s4_ s5_ s6_ i7_ i8_ h) (s6_ : Sl) (i7_ : Int) (i8_ : Int) {h : H} (h0 : I_ s6_ i7_ i8_ h) : spec_l04Sorted_L0 S K s4_ s5_ s6_ i7_ i8_ h :=
  loop_rule (σ := (Sl) × (Int) × (Int)) (fun s_ => spec_l04Sorted_e0 s4_ s5_ (s_.1) (s_.2.1) (s_.2.2)) (fun s_ h => I_ (s_.1) (s_.2.1) (s_.2.2) h) (fun s_ h => m_ (s_.1) (s_.2.1) (s_.2.2) h)
    (fun X s_ h hi hx => (spec_l04Sorted_link0 S K X s4_ s5_ (s_.1) (s_.2.1) (s_.2.2) h).mpr (hs X (s_.1) (s_.2.1) (s_.2.2) h hi fun s6_' i7_' i8_' h' hi' hm' => hx (s6_', i7_', i8_') h' hi' hm')) (s6_, i7_, i8_) h0
theorem spec_l04Sorted_unroll0 (S : SatT) (K : AVal → H → Prop) (s4_ : Sl) (s5_ : Sl) (s6_ : Sl) (i7_ : Int) (i8_ : Int) (h : H) (hb : spec_l04Sorted_b0 S K (fun fr h => loopK (spec_l04Sorted_w0 S K) fr h) s4_ s5_ s6_ i7_ i8_ h) : spec_l04Sorted_L0 S K s4_ s5_ s6_ i7_ i8_ h := loop_unroll ((spec_l04Sorted_link0 S K _ s4_ s5_ s6_ i7_ i8_ h).mpr hb)
def spec_l04Sorted_main (S : SatT) (K : AVal → H → Prop) (x0 : Sl) (h : H) : Prop :=
 bif (decide ((x0.len : Int) < (2))) then
 K (.sl x0) h
 else
 nz (2) (
 slotK 12 h fun h0 =>
 cut x0 1 (0) (w64 (Int.tdiv (x0.len : Int) (2))) h0 fun s1 =>
 callS S i_spec_l04Sorted [.sl s1] h0 fun s3 h2 =>
 cut x0 1 (w64 (Int.tdiv (x0.len : Int) (2))) (x0.len : Int) h2 fun s4 =>
 okS h0 x0 ∧ (
 callS S i_spec_l04Sorted [.sl s4] h2 fun s6 h5 =>
 newSat 0 1 [] h5 (h.length + 8) fun s7 h8 =>
 okS h5 x0 ∧ (
 okS h5 x0 ∧ (
 okS h8 x0 ∧ (
 okS h8 x0 ∧ (
 spec_l04Sorted_L0 S K s3 s6 s7 (0) (0) h8))))))
theorem spec_l04Sorted_main_link (S : SatT) (K : AVal → H → Prop) (x0 : Sl) (h : H) : cwp S tab spec_l04Sorted_M [] (bodyOf Try.f19) (kFun tab Try.f19.results.toList K) (fr0 Try.f19 [.sl x0]) h = spec_l04Sorted_main S K x0 h := by kernel_rfl
theorem spec_l04Sorted_call (x0 : Sl) (h : H) (K : Sl → H → Prop) (hm : spec_l04Sorted_main (Sat Try.prog) (fun v h' => ∃ r, v = .sl r ∧ K r h') x0 h) : callS (Sat Try.prog) i_spec_l04Sorted [.sl x0] h K := by
  have := Sat.ex tok mixed spec_l04Sorted_M Try.func19 (c := bodyOf Try.f19) (by kernel_rfl) (calls_of Try.func19 (c := bodyOf Try.f19) (by kernel_rfl) (by decide)) ((spec_l04Sorted_main_link _ _ x0 h).mpr hm)
  obtain ⟨v, h2, h3, r, rfl, h4⟩ := this; exact ⟨r, h2, h3, h4⟩

/-! ### loop.example/g01354/impl.RecurrenceOf -/
def impl_RecurrenceOf_M : Nat → List Nat := fun i => bif i == 0 then [6, 8, 25, 26, 27] else []
def impl_RecurrenceOf_ks6 (S : SatT) (K : AVal → H → Prop) : Kont := kSeq (cwp S tab impl_RecurrenceOf_M [] (sub [1, 1, 1, 1, 1] (bodyOf Try.f8)) (kFun tab (Try.f8).results.toList K)) (kFun tab (Try.f8).results.toList K)
def impl_RecurrenceOf_e0 (p6_ : Pt) (p8_ : Pt) (s25_ : Sl) (i26_ : Int) (i27_ : Int) : Frame := [U, U, U, U, U, U, .ptr p6_, U, .ptr p8_, U, U, U, U, U, U, U, U, U, U, U, U, U, U, U, U, .sl s25_, .int .i64 i26_, .int .i64 i27_, U, U, U, U, U, U, U, U, U, U, U, U, U, U, U, U, U, U, U]
def impl_RecurrenceOf_w0 (S : SatT) (K : AVal → H → Prop) : (Frame → H → Prop) → Frame → H → Prop := fun X fr h => cwp S tab impl_RecurrenceOf_M (impl_RecurrenceOf_M 0) (sub [1, 1, 1, 1, 0, 1, 0, 0] (bodyOf Try.f8)) (kSeq (fun fr h => X (mask (impl_RecurrenceOf_M 0) fr) h) (kBlk 0 (impl_RecurrenceOf_ks6 S K))) fr h
def impl_RecurrenceOf_L0 (S : SatT) (K : AVal → H → Prop) (p6_ : Pt) (p8_ : Pt) (s25_ : Sl) (i26_ : Int) (i27_ : Int) (h : H) : Prop := loopK (impl_RecurrenceOf_w0 S K) (impl_RecurrenceOf_e0 p6_ p8_ s25_ i26_ i27_) h
def impl_RecurrenceOf_C0 (S : SatT) (K : AVal → H → Prop) (p6_ : Pt) (p8_ : Pt) (h : H) : Prop :=
 ldV p8_ h fun v0 =>
 mlen v0 h fun n1 =>
 bif (decide (n1 > (40))) then
 K (.tuple [.sl Sl.nil, .int .i64 (3)]) h
 else
 newS 0 1 [] h fun s2 h3 =>
 newO [.sl Sl.nil] h3 fun p4 h5 =>
 st1 p4 (.sl s2) h5 fun h6 =>
 callV S i_impl_strip_sequence [.ptr p6_, .func 25 [], .func 26 [.ptr p4, .ptr p8_]] h6 fun v8 h7 =>
 ldS p4 h7 fun s9 =>
 callS S i_impl_shortest [.sl s9] h7 fun s11 h10 =>
 K (.tuple [.sl s11, .int .i64 (0)]) h10
def impl_RecurrenceOf_b0 (S : SatT) (K : AVal → H → Prop) (X0 : Frame → H → Prop) (p6_ : Pt) (p8_ : Pt) (s25_ : Sl) (i26_ : Int) (i27_ : Int) (h : H) : Prop :=
 bif (decide (i27_ < i26_)) then
 ixS s25_ 3 i27_ fun p0 =>
 ldA p0 3 h fun cs1 =>
 newO [.int .i64 (0), .int .i64 (0), .int .i64 (0)] h fun p2 h3 =>
 stN p2 3 cs1 h3 fun h4 =>
 ldV p8_ h4 fun v5 =>
 ixA p2 3 1 (0) fun p6 =>
 ldI .i64 p6 h4 fun n7 =>
 ldV p8_ h4 fun v8 =>
 ixA p2 3 1 (1) fun p9 =>
 ldI .i64 p9 h4 fun n10 =>
 mput v5 (.int .i64 n7) (.bool true) h4 fun h11 =>
(cell h11 p9 = cell h4 p9) ∧ (
(cell h11 p8_ = cell h4 p8_) ∧ (
 mput v8 (.int .i64 n10) (.bool true) h11 fun h12 =>
 X0 (impl_RecurrenceOf_e0 p6_ p8_ s25_ i26_ (w64 (i27_ + (1)))) h12))
 else
 impl_RecurrenceOf_C0 S K p6_ p8_ h
theorem impl_RecurrenceOf_link0 (S : SatT) (K : AVal → H → Prop) (X0 : Frame → H → Prop) (p6_ : Pt) (p8_ : Pt) (s25_ : Sl) (i26_ : Int) (i27_ : Int) (h : H) : impl_RecurrenceOf_w0 S K X0 (impl_RecurrenceOf_e0 p6_ p8_ s25_ i26_ i27_) h = impl_RecurrenceOf_b0 S K X0 p6_ p8_ s25_ i26_ i27_ h := by kernel_rfl
theorem impl_RecurrenceOf_rule0 (S : SatT) (K : AVal → H → Prop) (p6_ : Pt) (p8_ : Pt) (s25_ : Sl) (i26_ : Int) (I_ : Int → H → Prop) (m_ : Int → H → Nat)
    (hs : ∀ (X0 : Frame → H → Prop) (i27_ : Int) (h : H), I_ i27_ h → (∀ (i27_' : Int) (h' : H), I_ i27_' h' → m_ i27_' h' < m_ i27_ h → X0 (impl_RecurrenceOf_e0 p6_ p8_ s25_ i26_ i27_') h') → impl_RecurrenceOf_b0 S K X0 p6_ p8_ s25_ i26_ i27_ h) (i27_ : Int) {h : H} (h0 : I_ i27_ h) : impl_RecurrenceOf_L0 S K p6_ p8_ s25_ i26_ i27_ h :=
  loop_rule (σ := (Int)) (fun s_ => impl_RecurrenceOf_e0 p6_ p8_ s25_ i26_ (s_)) (fun s_ h => I_ (s_) h) (fun s_ h => m_ (s_) h)
    (fun X s_ h hi hx => (impl_RecurrenceOf_link0 S K X p6_ p8_ s25_ i26_ (s_) h).mpr (hs X (s_) h hi fun i27_' h' hi' hm' => hx (i27_') h' hi' hm')) (i27_) h0
theorem impl_RecurrenceOf_unroll0 (S : SatT) (K : AVal → H → Prop) (p6_ : Pt) (p8_ : Pt) (s25_ : Sl) (i26_ : Int) (i27_ : Int) (h : H) (hb : impl_RecurrenceOf_b0 S K (fun fr h => loopK (impl_RecurrenceOf_w0 S K) fr h) p6_ p8_ s25_ i26_ i27_ h) : impl_RecurrenceOf_L0 S K p6_ p8_ s25_ i26_ i27_ h := loop_unroll ((impl_RecurrenceOf_link0 S K _ p6_ p8_ s25_ i26_ i27_ h).mpr hb)
def impl_RecurrenceOf_main (S : SatT) (K : AVal → H → Prop) (x0 : List AVal) (x1 : Int) (h : H) : Prop :=
 newK 2 x0 h fun p0 h1 =>
 ldA p0 2 h1 fun cs2 =>
 callV S i_impl_stripOf [.agg cs2, .int .i64 x1] h1 fun v4 h3 =>
 viaT v4 fun vs5 =>
 exP vs5 0 fun p6 =>
 viaT v4 fun vs7 =>
 exI .i64 vs7 1 fun n8 =>
 bif (n8 != (0)) then
 K (.tuple [.sl Sl.nil, .int .i64 n8]) h3
 else
 newM h3 fun v9 h10 =>
 newO [.map none] h10 fun p11 h12 =>
 bif (AVal.isCell v9 && true) then
 st1 p11 v9 h12 fun h13 =>
 nilC (.ptr p6) (
 isPt p6 (
 ldS (Pt.add p6 4) h13 fun s14 =>
 impl_RecurrenceOf_L0 S K p6 p11 s14 (s14.len : Int) (0) h13))
 else False
theorem impl_RecurrenceOf_main_link (S : SatT) (K : AVal → H → Prop) (x0 : List AVal) (x1 : Int) (h : H) : cwp S tab impl_RecurrenceOf_M [] (bodyOf Try.f8) (kFun tab Try.f8.results.toList K) (fr0 Try.f8 [.agg x0, .int .i64 x1]) h = impl_RecurrenceOf_main S K x0 x1 h := by kernel_rfl
theorem impl_RecurrenceOf_call (x0 : List AVal) (x1 : Int) (h : H) (K : AVal → H → Prop) (hm : impl_RecurrenceOf_main (Sat Try.prog) (fun v h' => K v h') x0 x1 h) : callV (Sat Try.prog) i_impl_RecurrenceOf [.agg x0, .int .i64 x1] h K := by
  have := Sat.ex tok mixed impl_RecurrenceOf_M Try.func8 (c := bodyOf Try.f8) (by kernel_rfl) (calls_of Try.func8 (c := bodyOf Try.f8) (by kernel_rfl) (by decide)) ((impl_RecurrenceOf_main_link _ _ x0 x1 h).mpr hm)
  exact this

end Go.Proofs.Ytnamnpbkiibadaa.Cl
