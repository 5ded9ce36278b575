/- Typed forms of functions, and their links. No claim is stated here. -/
import Derived.Test.YtlbglfgienklfaaFT
/- Typed forms of functions of the program, and their links. Printed by program. No claim is stated here. -/
set_option linter.unusedVariables false
namespace Go.Proofs.Ytlbglfgienklfaa.Cl
open Go
/-! ### loop.example/g01354/spec.l02Lasting -/
def spec_l02Lasting_M : Nat → List Nat := fun i => bif i == 6 then [1, 3, 5, 6, 7, 8, 9] else bif i == 4 then [1, 3, 5, 6] else bif i == 2 then [1, 3, 5] else bif i == 0 then [1, 3, 4] else []
def spec_l02Lasting_ks2 (S : SatT) (K : AVal → H → Prop) : Kont := kSeq (cwp S tab spec_l02Lasting_M [] (sub [1, 1, 1] (bodyOf Try.f72)) (kFun tab (Try.f72).results.toList K)) (kFun tab (Try.f72).results.toList K)
def spec_l02Lasting_e0 (p1_ : Pt) (s3_ : Sl) (i4_ : Int) : Frame := [U, .ptr p1_, U, .sl s3_, .int .i64 i4_, U, U, U, U, U, U, U, U, U, U, U, U, U, U, U, U, U, U, U, U, U, U, U, U, U, U, U, U, U, U, U, U, U, U, U, U, U, U, U, U, U, U, U, U, U, U, U, U, U, U, U, U, U, U, U, U, U, U, U, U, U, U, U, U, U, U, U, U, U, U, U, U, U, U, U, U, U, U, U, U, U, U, U, U, U, U, U, U, U, U]
def spec_l02Lasting_w0 (S : SatT) (K : AVal → H → Prop) : (Frame → H → Prop) → Frame → H → Prop := fun X fr h => cwp S tab spec_l02Lasting_M (spec_l02Lasting_M 0) (sub [1, 1, 0, 1, 0, 0] (bodyOf Try.f72)) (kSeq (fun fr h => X (mask (spec_l02Lasting_M 0) fr) h) (kBlk 0 (spec_l02Lasting_ks2 S K))) fr h
def spec_l02Lasting_L0 (S : SatT) (K : AVal → H → Prop) (p1_ : Pt) (s3_ : Sl) (i4_ : Int) (h : H) : Prop := loopK (spec_l02Lasting_w0 S K) (spec_l02Lasting_e0 p1_ s3_ i4_) h
def spec_l02Lasting_ks7 (S : SatT) (K : AVal → H → Prop) : Kont := kSeq (cwp S tab spec_l02Lasting_M [] (sub [1, 1, 1, 1] (bodyOf Try.f72)) (kFun tab (Try.f72).results.toList K)) (kFun tab (Try.f72).results.toList K)
def spec_l02Lasting_e2 (p1_ : Pt) (s3_ : Sl) (b5_ : Bool) : Frame := [U, .ptr p1_, U, .sl s3_, U, .bool b5_, U, U, U, U, U, U, U, U, U, U, U, U, U, U, U, U, U, U, U, U, U, U, U, U, U, U, U, U, U, U, U, U, U, U, U, U, U, U, U, U, U, U, U, U, U, U, U, U, U, U, U, U, U, U, U, U, U, U, U, U, U, U, U, U, U, U, U, U, U, U, U, U, U, U, U, U, U, U, U, U, U, U, U, U, U, U, U, U, U]
def spec_l02Lasting_w2 (S : SatT) (K : AVal → H → Prop) : (Frame → H → Prop) → Frame → H → Prop := fun X fr h => cwp S tab spec_l02Lasting_M (spec_l02Lasting_M 2) (sub [1, 1, 1, 0, 1, 0, 0] (bodyOf Try.f72)) (kSeq (fun fr h => X (mask (spec_l02Lasting_M 2) fr) h) (kBlk 2 (spec_l02Lasting_ks7 S K))) fr h
def spec_l02Lasting_L2 (S : SatT) (K : AVal → H → Prop) (p1_ : Pt) (s3_ : Sl) (b5_ : Bool) (h : H) : Prop := loopK (spec_l02Lasting_w2 S K) (spec_l02Lasting_e2 p1_ s3_ b5_) h
def spec_l02Lasting_e4 (p1_ : Pt) (s3_ : Sl) (b5_ : Bool) (i6_ : Int) : Frame := [U, .ptr p1_, U, .sl s3_, U, .bool b5_, .int .i64 i6_, U, U, U, U, U, U, U, U, U, U, U, U, U, U, U, U, U, U, U, U, U, U, U, U, U, U, U, U, U, U, U, U, U, U, U, U, U, U, U, U, U, U, U, U, U, U, U, U, U, U, U, U, U, U, U, U, U, U, U, U, U, U, U, U, U, U, U, U, U, U, U, U, U, U, U, U, U, U, U, U, U, U, U, U, U, U, U, U]
def spec_l02Lasting_w4 (S : SatT) (K : AVal → H → Prop) (X2 : Frame → H → Prop) : (Frame → H → Prop) → Frame → H → Prop := fun X fr h => cwp S tab spec_l02Lasting_M (spec_l02Lasting_M 4) (sub [1, 1, 1, 0, 1, 0, 0, 1, 0, 1, 1, 0, 0] (bodyOf Try.f72)) (kSeq (fun fr h => X (mask (spec_l02Lasting_M 4) fr) h) (kBlk 4 (kBlk 3 (kSeq (fun fr h => X2 (mask (spec_l02Lasting_M 2) fr) h) (kBlk 2 (spec_l02Lasting_ks7 S K)))))) fr h
def spec_l02Lasting_L4 (S : SatT) (K : AVal → H → Prop) (X2 : Frame → H → Prop) (p1_ : Pt) (s3_ : Sl) (b5_ : Bool) (i6_ : Int) (h : H) : Prop := loopK (spec_l02Lasting_w4 S K X2) (spec_l02Lasting_e4 p1_ s3_ b5_ i6_) h
def spec_l02Lasting_ks15 (S : SatT) (K : AVal → H → Prop) (X2 : Frame → H → Prop) (X4 : Frame → H → Prop) : Kont := kSeq (cwp S tab spec_l02Lasting_M (spec_l02Lasting_M 4) (sub [1, 1, 1, 0, 1, 0, 0, 1, 0, 1, 1, 0, 0, 1, 1] (bodyOf Try.f72)) (kSeq (fun fr h => X4 (mask (spec_l02Lasting_M 4) fr) h) (kBlk 4 (kBlk 3 (kSeq (fun fr h => X2 (mask (spec_l02Lasting_M 2) fr) h) (kBlk 2 (spec_l02Lasting_ks7 S K))))))) (kSeq (fun fr h => X4 (mask (spec_l02Lasting_M 4) fr) h) (kBlk 4 (kBlk 3 (kSeq (fun fr h => X2 (mask (spec_l02Lasting_M 2) fr) h) (kBlk 2 (spec_l02Lasting_ks7 S K))))))
def spec_l02Lasting_ks17 (S : SatT) (K : AVal → H → Prop) (X2 : Frame → H → Prop) (X4 : Frame → H → Prop) : Kont := kSeq (cwp S tab spec_l02Lasting_M (spec_l02Lasting_M 5) (sub [1, 1, 1, 0, 1, 0, 0, 1, 0, 1, 1, 0, 0, 1, 0, 0, 1, 1] (bodyOf Try.f72)) (kBlk 5 (spec_l02Lasting_ks15 S K X2 X4))) (kBlk 5 (spec_l02Lasting_ks15 S K X2 X4))
def spec_l02Lasting_e6 (p1_ : Pt) (s3_ : Sl) (b5_ : Bool) (i6_ : Int) (b7_ : Bool) (b8_ : Bool) (i9_ : Int) : Frame := [U, .ptr p1_, U, .sl s3_, U, .bool b5_, .int .i64 i6_, .bool b7_, .bool b8_, .int .i64 i9_, U, U, U, U, U, U, U, U, U, U, U, U, U, U, U, U, U, U, U, U, U, U, U, U, U, U, U, U, U, U, U, U, U, U, U, U, U, U, U, U, U, U, U, U, U, U, U, U, U, U, U, U, U, U, U, U, U, U, U, U, U, U, U, U, U, U, U, U, U, U, U, U, U, U, U, U, U, U, U, U, U, U, U, U, U]
def spec_l02Lasting_w6 (S : SatT) (K : AVal → H → Prop) (X2 : Frame → H → Prop) (X4 : Frame → H → Prop) : (Frame → H → Prop) → Frame → H → Prop := fun X fr h => cwp S tab spec_l02Lasting_M (spec_l02Lasting_M 6) (sub [1, 1, 1, 0, 1, 0, 0, 1, 0, 1, 1, 0, 0, 1, 0, 0, 1, 0, 1, 0, 0] (bodyOf Try.f72)) (kSeq (fun fr h => X (mask (spec_l02Lasting_M 6) fr) h) (kBlk 6 (spec_l02Lasting_ks17 S K X2 X4))) fr h
def spec_l02Lasting_L6 (S : SatT) (K : AVal → H → Prop) (X2 : Frame → H → Prop) (X4 : Frame → H → Prop) (p1_ : Pt) (s3_ : Sl) (b5_ : Bool) (i6_ : Int) (b7_ : Bool) (b8_ : Bool) (i9_ : Int) (h : H) : Prop := loopK (spec_l02Lasting_w6 S K X2 X4) (spec_l02Lasting_e6 p1_ s3_ b5_ i6_ b7_ b8_ i9_) h
def spec_l02Lasting_C5 (S : SatT) (K : AVal → H → Prop) (X2 : Frame → H → Prop) (X4 : Frame → H → Prop) (p1_ : Pt) (s3_ : Sl) (b5_ : Bool) (i6_ : Int) (h : H) : Prop :=
 X4 (spec_l02Lasting_e4 p1_ s3_ b5_ (w64 (i6_ + (1)))) h
def spec_l02Lasting_C6 (S : SatT) (K : AVal → H → Prop) (X2 : Frame → H → Prop) (X4 : Frame → H → Prop) (p1_ : Pt) (s3_ : Sl) (b5_ : Bool) (i6_ : Int) (b7_ : Bool) (b8_ : Bool) (h : H) : Prop :=
 ixS s3_ 1 i6_ fun p0 =>
 ldB p0 h fun b1 =>
 bif b1 then
 bif b7_ then
 bif (!b8_) then
 ixS s3_ 1 i6_ fun p2 =>
 st1 p2 (.bool false) h fun h3 =>
 spec_l02Lasting_C5 S K X2 X4 p1_ s3_ true i6_ h3
 else
 spec_l02Lasting_C5 S K X2 X4 p1_ s3_ b5_ i6_ h
 else
 ixS s3_ 1 i6_ fun p4 =>
 st1 p4 (.bool false) h fun h5 =>
 spec_l02Lasting_C5 S K X2 X4 p1_ s3_ true i6_ h5
 else
 spec_l02Lasting_C5 S K X2 X4 p1_ s3_ b5_ i6_ h
def spec_l02Lasting_b6 (S : SatT) (K : AVal → H → Prop) (X2 : Frame → H → Prop) (X4 : Frame → H → Prop) (X6 : Frame → H → Prop) (p1_ : Pt) (s3_ : Sl) (b5_ : Bool) (i6_ : Int) (b7_ : Bool) (b8_ : Bool) (i9_ : Int) (h : H) : Prop :=
 bif (decide (i9_ < (s3_.len : Int))) then
 bif b7_ then
 bif b8_ then
 X6 (spec_l02Lasting_e6 p1_ s3_ b5_ i6_ true true (w64 (i9_ + (1)))) h
 else
 ixS s3_ 1 i9_ fun p0 =>
 ldB p0 h fun b1 =>
 bif b1 then
 isPt p1_ (
 ldS (Pt.add p1_ 1) h fun s2 =>
 ixS s2 4 i9_ fun p3 =>
 ixA p3 4 1 (0) fun p4 =>
 ldI .i64 p4 h fun n5 =>
 isPt p1_ (
 ldS (Pt.add p1_ 1) h fun s6 =>
 ixS s6 4 i6_ fun p7 =>
 ixA p7 4 1 (2) fun p8 =>
 ldI .i64 p8 h fun n9 =>
 X6 (spec_l02Lasting_e6 p1_ s3_ b5_ i6_ true (n5 == n9) (w64 (i9_ + (1)))) h))
 else
 X6 (spec_l02Lasting_e6 p1_ s3_ b5_ i6_ true false (w64 (i9_ + (1)))) h
 else
 ixS s3_ 1 i9_ fun p10 =>
 ldB p10 h fun b11 =>
 bif b11 then
 isPt p1_ (
 ldS (Pt.add p1_ 1) h fun s12 =>
 ixS s12 4 i9_ fun p13 =>
 ixA p13 4 1 (2) fun p14 =>
 ldI .i64 p14 h fun n15 =>
 isPt p1_ (
 ldS (Pt.add p1_ 1) h fun s16 =>
 ixS s16 4 i6_ fun p17 =>
 ixA p17 4 1 (0) fun p18 =>
 ldI .i64 p18 h fun n19 =>
 bif b8_ then
 X6 (spec_l02Lasting_e6 p1_ s3_ b5_ i6_ (n15 == n19) true (w64 (i9_ + (1)))) h
 else
 ixS s3_ 1 i9_ fun p20 =>
 ldB p20 h fun b21 =>
 bif b21 then
 isPt p1_ (
 ldS (Pt.add p1_ 1) h fun s22 =>
 ixS s22 4 i9_ fun p23 =>
 ixA p23 4 1 (0) fun p24 =>
 ldI .i64 p24 h fun n25 =>
 isPt p1_ (
 ldS (Pt.add p1_ 1) h fun s26 =>
 ixS s26 4 i6_ fun p27 =>
 ixA p27 4 1 (2) fun p28 =>
 ldI .i64 p28 h fun n29 =>
 X6 (spec_l02Lasting_e6 p1_ s3_ b5_ i6_ (n15 == n19) (n25 == n29) (w64 (i9_ + (1)))) h))
 else
 X6 (spec_l02Lasting_e6 p1_ s3_ b5_ i6_ (n15 == n19) false (w64 (i9_ + (1)))) h))
 else
 bif b8_ then
 X6 (spec_l02Lasting_e6 p1_ s3_ b5_ i6_ false true (w64 (i9_ + (1)))) h
 else
 ixS s3_ 1 i9_ fun p30 =>
 ldB p30 h fun b31 =>
 bif b31 then
 isPt p1_ (
 ldS (Pt.add p1_ 1) h fun s32 =>
 ixS s32 4 i9_ fun p33 =>
 ixA p33 4 1 (0) fun p34 =>
 ldI .i64 p34 h fun n35 =>
 isPt p1_ (
 ldS (Pt.add p1_ 1) h fun s36 =>
 ixS s36 4 i6_ fun p37 =>
 ixA p37 4 1 (2) fun p38 =>
 ldI .i64 p38 h fun n39 =>
 X6 (spec_l02Lasting_e6 p1_ s3_ b5_ i6_ false (n35 == n39) (w64 (i9_ + (1)))) h))
 else
 X6 (spec_l02Lasting_e6 p1_ s3_ b5_ i6_ false false (w64 (i9_ + (1)))) h
 else
 spec_l02Lasting_C6 S K X2 X4 p1_ s3_ b5_ i6_ b7_ b8_ h
theorem spec_l02Lasting_link6 (S : SatT) (K : AVal → H → Prop) (X2 : Frame → H → Prop) (X4 : Frame → H → Prop) (X6 : Frame → H → Prop) (p1_ : Pt) (s3_ : Sl) (b5_ : Bool) (i6_ : Int) (b7_ : Bool) (b8_ : Bool) (i9_ : Int) (h : H) : spec_l02Lasting_w6 S K X2 X4 X6 (spec_l02Lasting_e6 p1_ s3_ b5_ i6_ b7_ b8_ i9_) h = spec_l02Lasting_b6 S K X2 X4 X6 p1_ s3_ b5_ i6_ b7_ b8_ i9_ h := by kernel_rfl
theorem spec_l02Lasting_rule6 (S : SatT) (K : AVal → H → Prop) (X2 : Frame → H → Prop) (X4 : Frame → H → Prop) (p1_ : Pt) (s3_ : Sl) (b5_ : Bool) (i6_ : Int) (I_ : Bool → Bool → Int → H → Prop) (m_ : Bool → Bool → Int → H → Nat)
    (hs : ∀ (X6 : Frame → H → Prop) (b7_ : Bool) (b8_ : Bool) (i9_ : Int) (h : H), I_ b7_ b8_ i9_ h → (∀ (b7_' : Bool) (b8_' : Bool) (i9_' : Int) (h' : H), I_ b7_' b8_' i9_' h' → m_ b7_' b8_' i9_' h' < m_ b7_ b8_ i9_ h → X6 (spec_l02Lasting_e6 p1_ s3_ b5_ i6_ b7_' b8_' i9_') h') → spec_l02Lasting_b6 S K X2 X4 X6 p1_ s3_ b5_ i6_ b7_ b8_ i9_ h) (b7_ : Bool) (b8_ : Bool) (i9_ : Int) {h : H} (h0 : I_ b7_ b8_ i9_ h) : spec_l02Lasting_L6 S K X2 X4 p1_ s3_ b5_ i6_ b7_ b8_ i9_ h :=
  loop_rule (σ := (Bool) × (Bool) × (Int)) (fun s_ => spec_l02Lasting_e6 p1_ s3_ b5_ i6_ (s_.1) (s_.2.1) (s_.2.2)) (fun s_ h => I_ (s_.1) (s_.2.1) (s_.2.2) h) (fun s_ h => m_ (s_.1) (s_.2.1) (s_.2.2) h)
    (fun X s_ h hi hx => (spec_l02Lasting_link6 S K X2 X4 X p1_ s3_ b5_ i6_ (s_.1) (s_.2.1) (s_.2.2) h).mpr (hs X (s_.1) (s_.2.1) (s_.2.2) h hi fun b7_' b8_' i9_' h' hi' hm' => hx (b7_', b8_', i9_') h' hi' hm')) (b7_, b8_, i9_) h0
theorem spec_l02Lasting_unroll6 (S : SatT) (K : AVal → H → Prop) (X2 : Frame → H → Prop) (X4 : Frame → H → Prop) (p1_ : Pt) (s3_ : Sl) (b5_ : Bool) (i6_ : Int) (b7_ : Bool) (b8_ : Bool) (i9_ : Int) (h : H) (hb : spec_l02Lasting_b6 S K X2 X4 (fun fr h => loopK (spec_l02Lasting_w6 S K X2 X4) fr h) p1_ s3_ b5_ i6_ b7_ b8_ i9_ h) : spec_l02Lasting_L6 S K X2 X4 p1_ s3_ b5_ i6_ b7_ b8_ i9_ h := loop_unroll ((spec_l02Lasting_link6 S K X2 X4 _ p1_ s3_ b5_ i6_ b7_ b8_ i9_ h).mpr hb)
def spec_l02Lasting_C4 (S : SatT) (K : AVal → H → Prop) (X2 : Frame → H → Prop) (p1_ : Pt) (s3_ : Sl) (b5_ : Bool) (h : H) : Prop :=
 X2 (spec_l02Lasting_e2 p1_ s3_ b5_) h
def spec_l02Lasting_b4 (S : SatT) (K : AVal → H → Prop) (X2 : Frame → H → Prop) (X4 : Frame → H → Prop) (p1_ : Pt) (s3_ : Sl) (b5_ : Bool) (i6_ : Int) (h : H) : Prop :=
 bif (decide (i6_ < (s3_.len : Int))) then
 spec_l02Lasting_L6 S K X2 X4 p1_ s3_ b5_ i6_ false false (0) h
 else
 spec_l02Lasting_C4 S K X2 p1_ s3_ b5_ h
theorem spec_l02Lasting_link4 (S : SatT) (K : AVal → H → Prop) (X2 : Frame → H → Prop) (X4 : Frame → H → Prop) (p1_ : Pt) (s3_ : Sl) (b5_ : Bool) (i6_ : Int) (h : H) : spec_l02Lasting_w4 S K X2 X4 (spec_l02Lasting_e4 p1_ s3_ b5_ i6_) h = spec_l02Lasting_b4 S K X2 X4 p1_ s3_ b5_ i6_ h := by kernel_rfl
theorem spec_l02Lasting_rule4 (S : SatT) (K : AVal → H → Prop) (X2 : Frame → H → Prop) (p1_ : Pt) (s3_ : Sl) (I_ : Bool → Int → H → Prop) (m_ : Bool → Int → H → Nat)
    (hs : ∀ (X4 : Frame → H → Prop) (b5_ : Bool) (i6_ : Int) (h : H), I_ b5_ i6_ h → (∀ (b5_' : Bool) (i6_' : Int) (h' : H), I_ b5_' i6_' h' → m_ b5_' i6_' h' < m_ b5_ i6_ h → X4 (spec_l02Lasting_e4 p1_ s3_ b5_' i6_') h') → spec_l02Lasting_b4 S K X2 X4 p1_ s3_ b5_ i6_ h) (b5_ : Bool) (i6_ : Int) {h : H} (h0 : I_ b5_ i6_ h) : spec_l02Lasting_L4 S K X2 p1_ s3_ b5_ i6_ h :=
  loop_rule (σ := (Bool) × (Int)) (fun s_ => spec_l02Lasting_e4 p1_ s3_ (s_.1) (s_.2)) (fun s_ h => I_ (s_.1) (s_.2) h) (fun s_ h => m_ (s_.1) (s_.2) h)
    (fun X s_ h hi hx => (spec_l02Lasting_link4 S K X2 X p1_ s3_ (s_.1) (s_.2) h).mpr (hs X (s_.1) (s_.2) h hi fun b5_' i6_' h' hi' hm' => hx (b5_', i6_') h' hi' hm')) (b5_, i6_) h0
theorem spec_l02Lasting_unroll4 (S : SatT) (K : AVal → H → Prop) (X2 : Frame → H → Prop) (p1_ : Pt) (s3_ : Sl) (b5_ : Bool) (i6_ : Int) (h : H) (hb : spec_l02Lasting_b4 S K X2 (fun fr h => loopK (spec_l02Lasting_w4 S K X2) fr h) p1_ s3_ b5_ i6_ h) : spec_l02Lasting_L4 S K X2 p1_ s3_ b5_ i6_ h := loop_unroll ((spec_l02Lasting_link4 S K X2 _ p1_ s3_ b5_ i6_ h).mpr hb)
def spec_l02Lasting_C2 (S : SatT) (K : AVal → H → Prop) (s3_ : Sl) (h : H) : Prop :=
 K (.sl s3_) h
def spec_l02Lasting_b2 (S : SatT) (K : AVal → H → Prop) (X2 : Frame → H → Prop) (p1_ : Pt) (s3_ : Sl) (b5_ : Bool) (h : H) : Prop :=
 bif b5_ then
 spec_l02Lasting_L4 S K X2 p1_ s3_ false (0) h
 else
 spec_l02Lasting_C2 S K s3_ h
theorem spec_l02Lasting_link2 (S : SatT) (K : AVal → H → Prop) (X2 : Frame → H → Prop) (p1_ : Pt) (s3_ : Sl) (b5_ : Bool) (h : H) : spec_l02Lasting_w2 S K X2 (spec_l02Lasting_e2 p1_ s3_ b5_) h = spec_l02Lasting_b2 S K X2 p1_ s3_ b5_ h := by kernel_rfl
theorem spec_l02Lasting_rule2 (S : SatT) (K : AVal → H → Prop) (p1_ : Pt) (s3_ : Sl) (I_ : Bool → H → Prop) (m_ : Bool → H → Nat)
    (hs : ∀ (X2 : Frame → H → Prop) (b5_ : Bool) (h : H), I_ b5_ h → (∀ (b5_' : Bool) (h' : H), I_ b5_' h' → m_ b5_' h' < m_ b5_ h → X2 (spec_l02Lasting_e2 p1_ s3_ b5_') h') → spec_l02Lasting_b2 S K X2 p1_ s3_ b5_ h) (b5_ : Bool) {h : H} (h0 : I_ b5_ h) : spec_l02Lasting_L2 S K p1_ s3_ b5_ h :=
  loop_rule (σ := (Bool)) (fun s_ => spec_l02Lasting_e2 p1_ s3_ (s_)) (fun s_ h => I_ (s_) h) (fun s_ h => m_ (s_) h)
    (fun X s_ h hi hx => (spec_l02Lasting_link2 S K X p1_ s3_ (s_) h).mpr (hs X (s_) h hi fun b5_' h' hi' hm' => hx (b5_') h' hi' hm')) (b5_) h0
theorem spec_l02Lasting_unroll2 (S : SatT) (K : AVal → H → Prop) (p1_ : Pt) (s3_ : Sl) (b5_ : Bool) (h : H) (hb : spec_l02Lasting_b2 S K (fun fr h => loopK (spec_l02Lasting_w2 S K) fr h) p1_ s3_ b5_ h) : spec_l02Lasting_L2 S K p1_ s3_ b5_ h := loop_unroll ((spec_l02Lasting_link2 S K _ p1_ s3_ b5_ h).mpr hb)
def spec_l02Lasting_C0 (S : SatT) (K : AVal → H → Prop) (p1_ : Pt) (s3_ : Sl) (h : H) : Prop :=
 spec_l02Lasting_L2 S K p1_ s3_ true h
def spec_l02Lasting_b0 (S : SatT) (K : AVal → H → Prop) (X0 : Frame → H → Prop) (p1_ : Pt) (s3_ : Sl) (i4_ : Int) (h : H) : Prop :=
 bif (decide (i4_ < (s3_.len : Int))) then
 ixS s3_ 1 i4_ fun p0 =>
 st1 p0 (.bool true) h fun h1 =>
 X0 (spec_l02Lasting_e0 p1_ s3_ (w64 (i4_ + (1)))) h1
 else
 spec_l02Lasting_C0 S K p1_ s3_ h
theorem spec_l02Lasting_link0 (S : SatT) (K : AVal → H → Prop) (X0 : Frame → H → Prop) (p1_ : Pt) (s3_ : Sl) (i4_ : Int) (h : H) : spec_l02Lasting_w0 S K X0 (spec_l02Lasting_e0 p1_ s3_ i4_) h = spec_l02Lasting_b0 S K X0 p1_ s3_ i4_ h := by kernel_rfl
theorem spec_l02Lasting_rule0 (S : SatT) (K : AVal → H → Prop) (p1_ : Pt) (s3_ : Sl) (I_ : Int → H → Prop) (m_ : Int → H → Nat)
    (hs : ∀ (X0 : Frame → H → Prop) (i4_ : Int) (h : H), I_ i4_ h → (∀ (i4_' : Int) (h' : H), I_ i4_' h' → m_ i4_' h' < m_ i4_ h → X0 (spec_l02Lasting_e0 p1_ s3_ i4_') h') → spec_l02Lasting_b0 S K X0 p1_ s3_ i4_ h) (i4_ : Int) {h : H} (h0 : I_ i4_ h) : spec_l02Lasting_L0 S K p1_ s3_ i4_ h :=
  loop_rule (σ := (Int)) (fun s_ => spec_l02Lasting_e0 p1_ s3_ (s_)) (fun s_ h => I_ (s_) h) (fun s_ h => m_ (s_) h)
    (fun X s_ h hi hx => (spec_l02Lasting_link0 S K X p1_ s3_ (s_) h).mpr (hs X (s_) h hi fun i4_' h' hi' hm' => hx (i4_') h' hi' hm')) (i4_) h0
theorem spec_l02Lasting_unroll0 (S : SatT) (K : AVal → H → Prop) (p1_ : Pt) (s3_ : Sl) (i4_ : Int) (h : H) (hb : spec_l02Lasting_b0 S K (fun fr h => loopK (spec_l02Lasting_w0 S K) fr h) p1_ s3_ i4_ h) : spec_l02Lasting_L0 S K p1_ s3_ i4_ h := loop_unroll ((spec_l02Lasting_link0 S K _ p1_ s3_ i4_ h).mpr hb)
def spec_l02Lasting_main (S : SatT) (K : AVal → H → Prop) (x0 : List AVal) (h : H) : Prop :=
 newK 2 x0 h fun p0 h1 =>
 isPt p0 (
 ldS (Pt.add p0 1) h1 fun s2 =>
 mkS (s2.len : Int) [.bool false] h1 fun s3 h4 =>
 spec_l02Lasting_L0 S K p0 s3 (0) h4)
theorem spec_l02Lasting_main_link (S : SatT) (K : AVal → H → Prop) (x0 : List AVal) (h : H) : cwp S tab spec_l02Lasting_M [] (bodyOf Try.f72) (kFun tab Try.f72.results.toList K) (fr0 Try.f72 [.agg x0]) h = spec_l02Lasting_main S K x0 h := by kernel_rfl
theorem spec_l02Lasting_call (x0 : List AVal) (h : H) (K : Sl → H → Prop) (hm : spec_l02Lasting_main (Sat Try.prog) (fun v h' => ∃ r, v = .sl r ∧ K r h') x0 h) : callS (Sat Try.prog) i_spec_l02Lasting [.agg x0] h K := by
  have := Sat.ex tok mixed spec_l02Lasting_M Try.func72 (c := bodyOf Try.f72) (by kernel_rfl) (calls_of Try.func72 (c := bodyOf Try.f72) (by kernel_rfl) (by decide)) ((spec_l02Lasting_main_link _ _ x0 h).mpr hm)
  obtain ⟨v, h2, h3, r, rfl, h4⟩ := this; exact ⟨r, h2, h3, h4⟩

/-! ### loop.example/g01354/spec.l04Keep -/
def spec_l04Keep_M : Nat → List Nat := fun i => bif i == 4 then [1, 2, 3, 4, 6, 7] else bif i == 2 then [1, 2, 3, 4, 5] else bif i == 0 then [1, 2] else []
def spec_l04Keep_e0 (p1_ : Pt) (p2_ : Pt) : Frame := [U, .ptr p1_, .ptr p2_, U, U, U, U, U, U, U, U, U, U, U, U, U, U, U, U, U, U, U, U, U, U, U, U, U, U, U, U, U, U, U, U, U, U, U, U, U, U, U, U, U, U, U, U, U, U, U, U, U, U, U, U, U, U, U, U, U, U, U, U, U, U, U, U, U, U, U, U, U, U, U, U, U, U, U, U, U, U, U, U, U, U, U, U, U, U, U, U]
def spec_l04Keep_w0 (S : SatT) (K : AVal → H → Prop) : (Frame → H → Prop) → Frame → H → Prop := fun X fr h => cwp S tab spec_l04Keep_M (spec_l04Keep_M 0) (sub [1, 0, 0] (bodyOf Try.f73)) (kSeq (fun fr h => X (mask (spec_l04Keep_M 0) fr) h) (kBlk 0 (kFun tab (Try.f73).results.toList K))) fr h
def spec_l04Keep_L0 (S : SatT) (K : AVal → H → Prop) (p1_ : Pt) (p2_ : Pt) (h : H) : Prop := loopK (spec_l04Keep_w0 S K) (spec_l04Keep_e0 p1_ p2_) h
def spec_l04Keep_ks2 (S : SatT) (K : AVal → H → Prop) (X0 : Frame → H → Prop) : Kont := kSeq (cwp S tab spec_l04Keep_M (spec_l04Keep_M 1) (sub [1, 0, 0, 0, 1, 1] (bodyOf Try.f73)) (kBlk 1 (kSeq (fun fr h => X0 (mask (spec_l04Keep_M 0) fr) h) (kBlk 0 (kFun tab (Try.f73).results.toList K))))) (kBlk 1 (kSeq (fun fr h => X0 (mask (spec_l04Keep_M 0) fr) h) (kBlk 0 (kFun tab (Try.f73).results.toList K))))
def spec_l04Keep_e2 (p1_ : Pt) (p2_ : Pt) (s3_ : Sl) (s4_ : Sl) (i5_ : Int) : Frame := [U, .ptr p1_, .ptr p2_, .sl s3_, .sl s4_, .int .i64 i5_, U, U, U, U, U, U, U, U, U, U, U, U, U, U, U, U, U, U, U, U, U, U, U, U, U, U, U, U, U, U, U, U, U, U, U, U, U, U, U, U, U, U, U, U, U, U, U, U, U, U, U, U, U, U, U, U, U, U, U, U, U, U, U, U, U, U, U, U, U, U, U, U, U, U, U, U, U, U, U, U, U, U, U, U, U]
def spec_l04Keep_w2 (S : SatT) (K : AVal → H → Prop) (X0 : Frame → H → Prop) : (Frame → H → Prop) → Frame → H → Prop := fun X fr h => cwp S tab spec_l04Keep_M (spec_l04Keep_M 2) (sub [1, 0, 0, 0, 1, 0, 1, 0, 0] (bodyOf Try.f73)) (kSeq (fun fr h => X (mask (spec_l04Keep_M 2) fr) h) (kBlk 2 (spec_l04Keep_ks2 S K X0))) fr h
def spec_l04Keep_L2 (S : SatT) (K : AVal → H → Prop) (X0 : Frame → H → Prop) (p1_ : Pt) (p2_ : Pt) (s3_ : Sl) (s4_ : Sl) (i5_ : Int) (h : H) : Prop := loopK (spec_l04Keep_w2 S K X0) (spec_l04Keep_e2 p1_ p2_ s3_ s4_ i5_) h
def spec_l04Keep_ks11 (S : SatT) (K : AVal → H → Prop) (X0 : Frame → H → Prop) : Kont := kSeq (cwp S tab spec_l04Keep_M (spec_l04Keep_M 1) (sub [1, 0, 0, 0, 1, 1, 1, 1, 1, 1] (bodyOf Try.f73)) (kBlk 1 (kSeq (fun fr h => X0 (mask (spec_l04Keep_M 0) fr) h) (kBlk 0 (kFun tab (Try.f73).results.toList K))))) (kBlk 1 (kSeq (fun fr h => X0 (mask (spec_l04Keep_M 0) fr) h) (kBlk 0 (kFun tab (Try.f73).results.toList K))))
def spec_l04Keep_e4 (p1_ : Pt) (p2_ : Pt) (s3_ : Sl) (s4_ : Sl) (p6_ : Pt) (i7_ : Int) : Frame := [U, .ptr p1_, .ptr p2_, .sl s3_, .sl s4_, U, .ptr p6_, .int .i64 i7_, U, U, U, U, U, U, U, U, U, U, U, U, U, U, U, U, U, U, U, U, U, U, U, U, U, U, U, U, U, U, U, U, U, U, U, U, U, U, U, U, U, U, U, U, U, U, U, U, U, U, U, U, U, U, U, U, U, U, U, U, U, U, U, U, U, U, U, U, U, U, U, U, U, U, U, U, U, U, U, U, U, U, U]
def spec_l04Keep_w4 (S : SatT) (K : AVal → H → Prop) (X0 : Frame → H → Prop) : (Frame → H → Prop) → Frame → H → Prop := fun X fr h => cwp S tab spec_l04Keep_M (spec_l04Keep_M 4) (sub [1, 0, 0, 0, 1, 1, 1, 1, 1, 0, 1, 0, 0] (bodyOf Try.f73)) (kSeq (fun fr h => X (mask (spec_l04Keep_M 4) fr) h) (kBlk 4 (spec_l04Keep_ks11 S K X0))) fr h
def spec_l04Keep_L4 (S : SatT) (K : AVal → H → Prop) (X0 : Frame → H → Prop) (p1_ : Pt) (p2_ : Pt) (s3_ : Sl) (s4_ : Sl) (p6_ : Pt) (i7_ : Int) (h : H) : Prop := loopK (spec_l04Keep_w4 S K X0) (spec_l04Keep_e4 p1_ p2_ s3_ s4_ p6_ i7_) h
def spec_l04Keep_C4 (S : SatT) (K : AVal → H → Prop) (X0 : Frame → H → Prop) (p1_ : Pt) (p2_ : Pt) (p6_ : Pt) (h : H) : Prop :=
 isPt p6_ (
 ldS (Pt.add p6_ 0) h fun s0 =>
 isPt p1_ (
 ldS (Pt.add p1_ 0) h fun s1 =>
 bif ((s0.len : Int) == (s1.len : Int)) then
 ldA p6_ 1 h fun cs2 =>
 stN p2_ 1 cs2 h fun h3 =>
 ldA p2_ 1 h3 fun cs4 =>
 K (.agg cs4) h3
 else
 ldA p6_ 1 h fun cs5 =>
 stN p1_ 1 cs5 h fun h6 =>
 X0 (spec_l04Keep_e0 p1_ p2_) h6))
def spec_l04Keep_b4 (S : SatT) (K : AVal → H → Prop) (X0 : Frame → H → Prop) (X4 : Frame → H → Prop) (p1_ : Pt) (p2_ : Pt) (s3_ : Sl) (s4_ : Sl) (p6_ : Pt) (i7_ : Int) (h : H) : Prop :=
 isPt p1_ (
 ldS (Pt.add p1_ 0) h fun s0 =>
 bif (decide (i7_ < (s0.len : Int))) then
 isPt p1_ (
 ldS (Pt.add p1_ 0) h fun s1 =>
 ixS s1 1 i7_ fun p2 =>
 ldS p2 h fun s3 =>
 ixS s3 1 (0) fun p4 =>
 ldI .i64 p4 h fun n5 =>
 callI S .i64 i_spec_l04Find [.sl s4_, .int .i64 n5] h fun n7 h6 =>
 bif (decide (n7 ≥ (0))) then
 isPt p1_ (
 ldS (Pt.add p1_ 0) h6 fun s8 =>
 ixS s8 1 i7_ fun p9 =>
 ldS p9 h6 fun s10 =>
 ixS s10 1 (2) fun p11 =>
 ldI .i64 p11 h6 fun n12 =>
 callI S .i64 i_spec_l04Find [.sl s3_, .int .i64 n12] h6 fun n14 h13 =>
 bif (decide (n14 ≥ (0))) then
 isPt p6_ (
 ldS (Pt.add p6_ 0) h13 fun s15 =>
 isPt p1_ (
 ldS (Pt.add p1_ 0) h13 fun s16 =>
 ixS s16 1 i7_ fun p17 =>
 ldS p17 h13 fun s18 =>
 newS 1 1 [.sl s18] h13 fun s19 h20 =>
(cell h20 (Pt.add p6_ 0) = cell h13 (Pt.add p6_ 0)) ∧ (
 app s15 s19 1 h20 fun s21 h22 =>
 isPt p6_ (
 st1 (Pt.add p6_ 0) (.sl s21) h22 fun h23 =>
 X4 (spec_l04Keep_e4 p1_ p2_ s3_ s4_ p6_ (w64 (i7_ + (1)))) h23))))
 else
 X4 (spec_l04Keep_e4 p1_ p2_ s3_ s4_ p6_ (w64 (i7_ + (1)))) h13)
 else
 X4 (spec_l04Keep_e4 p1_ p2_ s3_ s4_ p6_ (w64 (i7_ + (1)))) h6)
 else
 spec_l04Keep_C4 S K X0 p1_ p2_ p6_ h)
theorem spec_l04Keep_link4 (S : SatT) (K : AVal → H → Prop) (X0 : Frame → H → Prop) (X4 : Frame → H → Prop) (p1_ : Pt) (p2_ : Pt) (s3_ : Sl) (s4_ : Sl) (p6_ : Pt) (i7_ : Int) (h : H) : spec_l04Keep_w4 S K X0 X4 (spec_l04Keep_e4 p1_ p2_ s3_ s4_ p6_ i7_) h = spec_l04Keep_b4 S K X0 X4 p1_ p2_ s3_ s4_ p6_ i7_ h := by kernel_rfl
theorem spec_l04Keep_rule4 (S : SatT) (K : AVal → H → Prop) (X0 : Frame → H → Prop) (p1_ : Pt) (p2_ : Pt) (s3_ : Sl) (s4_ : Sl) (p6_ : Pt) (I_ : Int → H → Prop) (m_ : Int → H → Nat)
    (hs : ∀ (X4 : Frame → H → Prop) (i7_ : Int) (h : H), I_ i7_ h → (∀ (i7_' : Int) (h' : H), I_ i7_' h' → m_ i7_' h' < m_ i7_ h → X4 (spec_l04Keep_e4 p1_ p2_ s3_ s4_ p6_ i7_') h') → spec_l04Keep_b4 S K X0 X4 p1_ p2_ s3_ s4_ p6_ i7_ h) (i7_ : Int) {h : H} (h0 : I_ i7_ h) : spec_l04Keep_L4 S K X0 p1_ p2_ s3_ s4_ p6_ i7_ h :=
  loop_rule (σ := (Int)) (fun s_ => spec_l04Keep_e4 p1_ p2_ s3_ s4_ p6_ (s_)) (fun s_ h => I_ (s_) h) (fun s_ h => m_ (s_) h)
    (fun X s_ h hi hx => (spec_l04Keep_link4 S K X0 X p1_ p2_ s3_ s4_ p6_ (s_) h).mpr (hs X (s_) h hi fun i7_' h' hi' hm' => hx (i7_') h' hi' hm')) (i7_) h0
theorem spec_l04Keep_unroll4 (S : SatT) (K : AVal → H → Prop) (X0 : Frame → H → Prop) (p1_ : Pt) (p2_ : Pt) (s3_ : Sl) (s4_ : Sl) (p6_ : Pt) (i7_ : Int) (h : H) (hb : spec_l04Keep_b4 S K X0 (fun fr h => loopK (spec_l04Keep_w4 S K X0) fr h) p1_ p2_ s3_ s4_ p6_ i7_ h) : spec_l04Keep_L4 S K X0 p1_ p2_ s3_ s4_ p6_ i7_ h := loop_unroll ((spec_l04Keep_link4 S K X0 _ p1_ p2_ s3_ s4_ p6_ i7_ h).mpr hb)
def spec_l04Keep_C2 (S : SatT) (K : AVal → H → Prop) (X0 : Frame → H → Prop) (p1_ : Pt) (p2_ : Pt) (s3_ : Sl) (s4_ : Sl) (h : H) : Prop :=
 callS S i_spec_l04Sorted [.sl s3_] h fun s1 h0 =>
 callS S i_spec_l04Sorted [.sl s4_] h0 fun s3 h2 =>
 newS 0 1 [] h2 fun s4 h5 =>
 newO [.sl Sl.nil] h5 fun p6 h7 =>
 stN p6 1 [.sl s4] h7 fun h8 =>
 spec_l04Keep_L4 S K X0 p1_ p2_ s1 s3 p6 (0) h8
def spec_l04Keep_b2 (S : SatT) (K : AVal → H → Prop) (X0 : Frame → H → Prop) (X2 : Frame → H → Prop) (p1_ : Pt) (p2_ : Pt) (s3_ : Sl) (s4_ : Sl) (i5_ : Int) (h : H) : Prop :=
 isPt p1_ (
 ldS (Pt.add p1_ 0) h fun s0 =>
 bif (decide (i5_ < (s0.len : Int))) then
 isPt p1_ (
 ldS (Pt.add p1_ 0) h fun s1 =>
 ixS s1 1 i5_ fun p2 =>
 ldS p2 h fun s3 =>
 ixS s3 1 (0) fun p4 =>
 ldI .i64 p4 h fun n5 =>
 newS 1 1 [.int .i64 n5] h fun s6 h7 =>
 app s3_ s6 1 h7 fun s8 h9 =>
 isPt p1_ (
 ldS (Pt.add p1_ 0) h9 fun s10 =>
 ixS s10 1 i5_ fun p11 =>
 ldS p11 h9 fun s12 =>
 ixS s12 1 (2) fun p13 =>
 ldI .i64 p13 h9 fun n14 =>
 newS 1 1 [.int .i64 n14] h9 fun s15 h16 =>
 app s4_ s15 1 h16 fun s17 h18 =>
 X2 (spec_l04Keep_e2 p1_ p2_ s8 s17 (w64 (i5_ + (1)))) h18))
 else
 spec_l04Keep_C2 S K X0 p1_ p2_ s3_ s4_ h)
theorem spec_l04Keep_link2 (S : SatT) (K : AVal → H → Prop) (X0 : Frame → H → Prop) (X2 : Frame → H → Prop) (p1_ : Pt) (p2_ : Pt) (s3_ : Sl) (s4_ : Sl) (i5_ : Int) (h : H) : spec_l04Keep_w2 S K X0 X2 (spec_l04Keep_e2 p1_ p2_ s3_ s4_ i5_) h = spec_l04Keep_b2 S K X0 X2 p1_ p2_ s3_ s4_ i5_ h := by kernel_rfl
theorem spec_l04Keep_rule2 (S : SatT) (K : AVal → H → Prop) (X0 : Frame → H → Prop) (p1_ : Pt) (p2_ : Pt) (I_ : Sl → Sl → Int → H → Prop) (m_ : Sl → Sl → Int → H → Nat)
    (hs : ∀ (X2 : Frame → H → Prop) (s3_ : Sl) (s4_ : Sl) (i5_ : Int) (h : H), I_ s3_ s4_ i5_ h → (∀ (s3_' : Sl) (s4_' : Sl) (i5_' : Int) (h' : H), I_ s3_' s4_' i5_' h' → m_ s3_' s4_' i5_' h' < m_ s3_ s4_ i5_ h → X2 (spec_l04Keep_e2 p1_ p2_ s3_' s4_' i5_') h') → spec_l04Keep_b2 S K X0 X2 p1_ p2_ s3_ s4_ i5_ h) (s3_ : Sl) (s4_ : Sl) (i5_ : Int) {h : H} (h0 : I_ s3_ s4_ i5_ h) : spec_l04Keep_L2 S K X0 p1_ p2_ s3_ s4_ i5_ h :=
  loop_rule (σ := (Sl) × (Sl) × (Int)) (fun s_ => spec_l04Keep_e2 p1_ p2_ (s_.1) (s_.2.1) (s_.2.2)) (fun s_ h => I_ (s_.1) (s_.2.1) (s_.2.2) h) (fun s_ h => m_ (s_.1) (s_.2.1) (s_.2.2) h)
    (fun X s_ h hi hx => (spec_l04Keep_link2 S K X0 X p1_ p2_ (s_.1) (s_.2.1) (s_.2.2) h).mpr (hs X (s_.1) (s_.2.1) (s_.2.2) h hi fun s3_' s4_' i5_' h' hi' hm' => hx (s3_', s4_', i5_') h' hi' hm')) (s3_, s4_, i5_) h0
theorem spec_l04Keep_unroll2 (S : SatT) (K : AVal → H → Prop) (X0 : Frame → H → Prop) (p1_ : Pt) (p2_ : Pt) (s3_ : Sl) (s4_ : Sl) (i5_ : Int) (h : H) (hb : spec_l04Keep_b2 S K X0 (fun fr h => loopK (spec_l04Keep_w2 S K X0) fr h) p1_ p2_ s3_ s4_ i5_ h) : spec_l04Keep_L2 S K X0 p1_ p2_ s3_ s4_ i5_ h := loop_unroll ((spec_l04Keep_link2 S K X0 _ p1_ p2_ s3_ s4_ i5_ h).mpr hb)
def spec_l04Keep_b0 (S : SatT) (K : AVal → H → Prop) (X0 : Frame → H → Prop) (p1_ : Pt) (p2_ : Pt) (h : H) : Prop :=
 newS 0 1 [] h fun s0 h1 =>
 newS 0 1 [] h1 fun s2 h3 =>
 spec_l04Keep_L2 S K X0 p1_ p2_ s0 s2 (0) h3
theorem spec_l04Keep_link0 (S : SatT) (K : AVal → H → Prop) (X0 : Frame → H → Prop) (p1_ : Pt) (p2_ : Pt) (h : H) : spec_l04Keep_w0 S K X0 (spec_l04Keep_e0 p1_ p2_) h = spec_l04Keep_b0 S K X0 p1_ p2_ h := by kernel_rfl
theorem spec_l04Keep_rule0 (S : SatT) (K : AVal → H → Prop) (p1_ : Pt) (p2_ : Pt) (I_ : H → Prop) (m_ : H → Nat)
    (hs : ∀ (X0 : Frame → H → Prop) (h : H), I_ h → (∀ (h' : H), I_ h' → m_ h' < m_ h → X0 (spec_l04Keep_e0 p1_ p2_) h') → spec_l04Keep_b0 S K X0 p1_ p2_ h) {h : H} (h0 : I_ h) : spec_l04Keep_L0 S K p1_ p2_ h :=
  loop_rule (σ := Unit) (fun s_ => spec_l04Keep_e0 p1_ p2_) (fun s_ h => I_ h) (fun s_ h => m_ h)
    (fun X s_ h hi hx => (spec_l04Keep_link0 S K X p1_ p2_ h).mpr (hs X h hi fun h' hi' hm' => hx () h' hi' hm')) () h0
theorem spec_l04Keep_unroll0 (S : SatT) (K : AVal → H → Prop) (p1_ : Pt) (p2_ : Pt) (h : H) (hb : spec_l04Keep_b0 S K (fun fr h => loopK (spec_l04Keep_w0 S K) fr h) p1_ p2_ h) : spec_l04Keep_L0 S K p1_ p2_ h := loop_unroll ((spec_l04Keep_link0 S K _ p1_ p2_ h).mpr hb)
def spec_l04Keep_main (S : SatT) (K : AVal → H → Prop) (x0 : List AVal) (h : H) : Prop :=
 newK 1 x0 h fun p0 h1 =>
 newO [.sl Sl.nil] h1 fun p2 h3 =>
 spec_l04Keep_L0 S K p0 p2 h3
theorem spec_l04Keep_main_link (S : SatT) (K : AVal → H → Prop) (x0 : List AVal) (h : H) : cwp S tab spec_l04Keep_M [] (bodyOf Try.f73) (kFun tab Try.f73.results.toList K) (fr0 Try.f73 [.agg x0]) h = spec_l04Keep_main S K x0 h := by kernel_rfl
theorem spec_l04Keep_call (x0 : List AVal) (h : H) (K : List AVal → H → Prop) (hm : spec_l04Keep_main (Sat Try.prog) (fun v h' => ∃ r, v = .agg r ∧ K r h') x0 h) : callA (Sat Try.prog) i_spec_l04Keep [.agg x0] h K := by
  have := Sat.ex tok mixed spec_l04Keep_M Try.func73 (c := bodyOf Try.f73) (by kernel_rfl) (calls_of Try.func73 (c := bodyOf Try.f73) (by kernel_rfl) (by decide)) ((spec_l04Keep_main_link _ _ x0 h).mpr hm)
  obtain ⟨v, h2, h3, r, rfl, h4⟩ := this; exact ⟨r, h2, h3, h4⟩

/-! ### slices.Compact[[]loop.example/g01354/impl.Tile,loop.example/g01354/impl.Tile] -/
def slices_Compact_s_impl_Tile_impl_Tile__M : Nat → List Nat := fun i => bif i == 2 then [0, 3, 4, 5] else bif i == 0 then [0, 3] else []
def slices_Compact_s_impl_Tile_impl_Tile__ks4 (S : SatT) (K : AVal → H → Prop) : Kont := kSeq (cwp S tab slices_Compact_s_impl_Tile_impl_Tile__M [] (sub [1, 1, 1] (bodyOf Try.f52)) (kFun tab (Try.f52).results.toList K)) (kFun tab (Try.f52).results.toList K)
def slices_Compact_s_impl_Tile_impl_Tile__e0 (s0_ : Sl) (i3_ : Int) : Frame := [.sl s0_, U, U, .int .i64 i3_, U, U, U, U, U, U, U, U, U, U, U, U, U, U, U, U, U, U, U, U, U, U, U, U, U, U, U, U, U, U, U, U, U, U, U, U, U, U, U, U, U, U, U, U, U, U, U, U, U, U, U, U, U, U, U, U, U]
def slices_Compact_s_impl_Tile_impl_Tile__w0 (S : SatT) (K : AVal → H → Prop) : (Frame → H → Prop) → Frame → H → Prop := fun X fr h => cwp S tab slices_Compact_s_impl_Tile_impl_Tile__M (slices_Compact_s_impl_Tile_impl_Tile__M 0) (sub [1, 1, 0, 1, 0, 0] (bodyOf Try.f52)) (kSeq (fun fr h => X (mask (slices_Compact_s_impl_Tile_impl_Tile__M 0) fr) h) (kBlk 0 (slices_Compact_s_impl_Tile_impl_Tile__ks4 S K))) fr h
def slices_Compact_s_impl_Tile_impl_Tile__L0 (S : SatT) (K : AVal → H → Prop) (s0_ : Sl) (i3_ : Int) (h : H) : Prop := loopK (slices_Compact_s_impl_Tile_impl_Tile__w0 S K) (slices_Compact_s_impl_Tile_impl_Tile__e0 s0_ i3_) h
def slices_Compact_s_impl_Tile_impl_Tile__ks8 (S : SatT) (K : AVal → H → Prop) (X0 : Frame → H → Prop) : Kont := kSeq (cwp S tab slices_Compact_s_impl_Tile_impl_Tile__M (slices_Compact_s_impl_Tile_impl_Tile__M 0) (sub [1, 1, 0, 1, 0, 0, 1, 1] (bodyOf Try.f52)) (kSeq (fun fr h => X0 (mask (slices_Compact_s_impl_Tile_impl_Tile__M 0) fr) h) (kBlk 0 (slices_Compact_s_impl_Tile_impl_Tile__ks4 S K)))) (kSeq (fun fr h => X0 (mask (slices_Compact_s_impl_Tile_impl_Tile__M 0) fr) h) (kBlk 0 (slices_Compact_s_impl_Tile_impl_Tile__ks4 S K)))
def slices_Compact_s_impl_Tile_impl_Tile__ks11 (S : SatT) (K : AVal → H → Prop) (X0 : Frame → H → Prop) : Kont := kSeq (cwp S tab slices_Compact_s_impl_Tile_impl_Tile__M (slices_Compact_s_impl_Tile_impl_Tile__M 1) (sub [1, 1, 0, 1, 0, 0, 1, 0, 0, 1, 0, 1, 1] (bodyOf Try.f52)) (kBlk 1 (slices_Compact_s_impl_Tile_impl_Tile__ks8 S K X0))) (kBlk 1 (slices_Compact_s_impl_Tile_impl_Tile__ks8 S K X0))
def slices_Compact_s_impl_Tile_impl_Tile__e2 (s0_ : Sl) (i3_ : Int) (s4_ : Sl) (i5_ : Int) : Frame := [.sl s0_, U, U, .int .i64 i3_, .sl s4_, .int .i64 i5_, U, U, U, U, U, U, U, U, U, U, U, U, U, U, U, U, U, U, U, U, U, U, U, U, U, U, U, U, U, U, U, U, U, U, U, U, U, U, U, U, U, U, U, U, U, U, U, U, U, U, U, U, U, U, U]
def slices_Compact_s_impl_Tile_impl_Tile__w2 (S : SatT) (K : AVal → H → Prop) (X0 : Frame → H → Prop) : (Frame → H → Prop) → Frame → H → Prop := fun X fr h => cwp S tab slices_Compact_s_impl_Tile_impl_Tile__M (slices_Compact_s_impl_Tile_impl_Tile__M 2) (sub [1, 1, 0, 1, 0, 0, 1, 0, 0, 1, 0, 1, 0, 1, 0, 0] (bodyOf Try.f52)) (kSeq (fun fr h => X (mask (slices_Compact_s_impl_Tile_impl_Tile__M 2) fr) h) (kBlk 2 (slices_Compact_s_impl_Tile_impl_Tile__ks11 S K X0))) fr h
def slices_Compact_s_impl_Tile_impl_Tile__L2 (S : SatT) (K : AVal → H → Prop) (X0 : Frame → H → Prop) (s0_ : Sl) (i3_ : Int) (s4_ : Sl) (i5_ : Int) (h : H) : Prop := loopK (slices_Compact_s_impl_Tile_impl_Tile__w2 S K X0) (slices_Compact_s_impl_Tile_impl_Tile__e2 s0_ i3_ s4_ i5_) h
def slices_Compact_s_impl_Tile_impl_Tile__C2 (S : SatT) (K : AVal → H → Prop) (X0 : Frame → H → Prop) (s0_ : Sl) (i3_ : Int) (h : H) : Prop :=
 cut s0_ 4 i3_ (s0_.len : Int) h fun s0 =>
 clearS s0 [.int .i64 (0), .int .i64 (0), .int .i64 (0), .int .i64 (0)] h fun h1 =>
 cut s0_ 4 (0) i3_ h1 fun s2 =>
 K (.sl s2) h1
def slices_Compact_s_impl_Tile_impl_Tile__b2 (S : SatT) (K : AVal → H → Prop) (X0 : Frame → H → Prop) (X2 : Frame → H → Prop) (s0_ : Sl) (i3_ : Int) (s4_ : Sl) (i5_ : Int) (h : H) : Prop :=
 bif (decide (i5_ < (s4_.len : Int))) then
 ixS s4_ 4 i5_ fun p0 =>
 ldA p0 4 h fun cs1 =>
 ixS s4_ 4 (w64 (i5_ - (1))) fun p2 =>
 ldA p2 4 h fun cs3 =>
 eqA .i64 4 cs1 cs3 fun b4 =>
 bif (!b4) then
 ixS s4_ 4 i5_ fun p5 =>
 ldA p5 4 h fun cs6 =>
 ixS s0_ 4 i3_ fun p7 =>
 stN p7 4 cs6 h fun h8 =>
 X2 (slices_Compact_s_impl_Tile_impl_Tile__e2 s0_ (w64 (i3_ + (1))) s4_ (w64 (i5_ + (1)))) h8
 else
 X2 (slices_Compact_s_impl_Tile_impl_Tile__e2 s0_ i3_ s4_ (w64 (i5_ + (1)))) h
 else
 slices_Compact_s_impl_Tile_impl_Tile__C2 S K X0 s0_ i3_ h
theorem slices_Compact_s_impl_Tile_impl_Tile__link2 (S : SatT) (K : AVal → H → Prop) (X0 : Frame → H → Prop) (X2 : Frame → H → Prop) (s0_ : Sl) (i3_ : Int) (s4_ : Sl) (i5_ : Int) (h : H) : slices_Compact_s_impl_Tile_impl_Tile__w2 S K X0 X2 (slices_Compact_s_impl_Tile_impl_Tile__e2 s0_ i3_ s4_ i5_) h = slices_Compact_s_impl_Tile_impl_Tile__b2 S K X0 X2 s0_ i3_ s4_ i5_ h := by kernel_rfl
theorem slices_Compact_s_impl_Tile_impl_Tile__rule2 (S : SatT) (K : AVal → H → Prop) (X0 : Frame → H → Prop) (s0_ : Sl) (s4_ : Sl) (I_ : Int → Int → H → Prop) (m_ : Int → Int → H → Nat)
    (hs : ∀ (X2 : Frame → H → Prop) (i3_ : Int) (i5_ : Int) (h : H), I_ i3_ i5_ h → (∀ (i3_' : Int) (i5_' : Int) (h' : H), I_ i3_' i5_' h' → m_ i3_' i5_' h' < m_ i3_ i5_ h → X2 (slices_Compact_s_impl_Tile_impl_Tile__e2 s0_ i3_' s4_ i5_') h') → slices_Compact_s_impl_Tile_impl_Tile__b2 S K X0 X2 s0_ i3_ s4_ i5_ h) (i3_ : Int) (i5_ : Int) {h : H} (h0 : I_ i3_ i5_ h) : slices_Compact_s_impl_Tile_impl_Tile__L2 S K X0 s0_ i3_ s4_ i5_ h :=
  loop_rule (σ := (Int) × (Int)) (fun s_ => slices_Compact_s_impl_Tile_impl_Tile__e2 s0_ (s_.1) s4_ (s_.2)) (fun s_ h => I_ (s_.1) (s_.2) h) (fun s_ h => m_ (s_.1) (s_.2) h)
    (fun X s_ h hi hx => (slices_Compact_s_impl_Tile_impl_Tile__link2 S K X0 X s0_ (s_.1) s4_ (s_.2) h).mpr (hs X (s_.1) (s_.2) h hi fun i3_' i5_' h' hi' hm' => hx (i3_', i5_') h' hi' hm')) (i3_, i5_) h0
theorem slices_Compact_s_impl_Tile_impl_Tile__unroll2 (S : SatT) (K : AVal → H → Prop) (X0 : Frame → H → Prop) (s0_ : Sl) (i3_ : Int) (s4_ : Sl) (i5_ : Int) (h : H) (hb : slices_Compact_s_impl_Tile_impl_Tile__b2 S K X0 (fun fr h => loopK (slices_Compact_s_impl_Tile_impl_Tile__w2 S K X0) fr h) s0_ i3_ s4_ i5_ h) : slices_Compact_s_impl_Tile_impl_Tile__L2 S K X0 s0_ i3_ s4_ i5_ h := loop_unroll ((slices_Compact_s_impl_Tile_impl_Tile__link2 S K X0 _ s0_ i3_ s4_ i5_ h).mpr hb)
def slices_Compact_s_impl_Tile_impl_Tile__C1 (S : SatT) (K : AVal → H → Prop) (X0 : Frame → H → Prop) (s0_ : Sl) (i3_ : Int) (h : H) : Prop :=
 X0 (slices_Compact_s_impl_Tile_impl_Tile__e0 s0_ (w64 (i3_ + (1)))) h
def slices_Compact_s_impl_Tile_impl_Tile__C0 (S : SatT) (K : AVal → H → Prop) (s0_ : Sl) (h : H) : Prop :=
 K (.sl s0_) h
def slices_Compact_s_impl_Tile_impl_Tile__b0 (S : SatT) (K : AVal → H → Prop) (X0 : Frame → H → Prop) (s0_ : Sl) (i3_ : Int) (h : H) : Prop :=
 bif (decide (i3_ < (s0_.len : Int))) then
 ixS s0_ 4 i3_ fun p0 =>
 ldA p0 4 h fun cs1 =>
 ixS s0_ 4 (w64 (i3_ - (1))) fun p2 =>
 ldA p2 4 h fun cs3 =>
 eqA .i64 4 cs1 cs3 fun b4 =>
 bif b4 then
 cut s0_ 4 i3_ (s0_.len : Int) h fun s5 =>
 slices_Compact_s_impl_Tile_impl_Tile__L2 S K X0 s0_ i3_ s5 (1) h
 else
 slices_Compact_s_impl_Tile_impl_Tile__C1 S K X0 s0_ i3_ h
 else
 slices_Compact_s_impl_Tile_impl_Tile__C0 S K s0_ h
theorem slices_Compact_s_impl_Tile_impl_Tile__link0 (S : SatT) (K : AVal → H → Prop) (X0 : Frame → H → Prop) (s0_ : Sl) (i3_ : Int) (h : H) : slices_Compact_s_impl_Tile_impl_Tile__w0 S K X0 (slices_Compact_s_impl_Tile_impl_Tile__e0 s0_ i3_) h = slices_Compact_s_impl_Tile_impl_Tile__b0 S K X0 s0_ i3_ h := by kernel_rfl
theorem slices_Compact_s_impl_Tile_impl_Tile__rule0 (S : SatT) (K : AVal → H → Prop) (s0_ : Sl) (I_ : Int → H → Prop) (m_ : Int → H → Nat)
    (hs : ∀ (X0 : Frame → H → Prop) (i3_ : Int) (h : H), I_ i3_ h → (∀ (i3_' : Int) (h' : H), I_ i3_' h' → m_ i3_' h' < m_ i3_ h → X0 (slices_Compact_s_impl_Tile_impl_Tile__e0 s0_ i3_') h') → slices_Compact_s_impl_Tile_impl_Tile__b0 S K X0 s0_ i3_ h) (i3_ : Int) {h : H} (h0 : I_ i3_ h) : slices_Compact_s_impl_Tile_impl_Tile__L0 S K s0_ i3_ h :=
  loop_rule (σ := (Int)) (fun s_ => slices_Compact_s_impl_Tile_impl_Tile__e0 s0_ (s_)) (fun s_ h => I_ (s_) h) (fun s_ h => m_ (s_) h)
    (fun X s_ h hi hx => (slices_Compact_s_impl_Tile_impl_Tile__link0 S K X s0_ (s_) h).mpr (hs X (s_) h hi fun i3_' h' hi' hm' => hx (i3_') h' hi' hm')) (i3_) h0
theorem slices_Compact_s_impl_Tile_impl_Tile__unroll0 (S : SatT) (K : AVal → H → Prop) (s0_ : Sl) (i3_ : Int) (h : H) (hb : slices_Compact_s_impl_Tile_impl_Tile__b0 S K (fun fr h => loopK (slices_Compact_s_impl_Tile_impl_Tile__w0 S K) fr h) s0_ i3_ h) : slices_Compact_s_impl_Tile_impl_Tile__L0 S K s0_ i3_ h := loop_unroll ((slices_Compact_s_impl_Tile_impl_Tile__link0 S K _ s0_ i3_ h).mpr hb)
def slices_Compact_s_impl_Tile_impl_Tile__main (S : SatT) (K : AVal → H → Prop) (x0 : Sl) (h : H) : Prop :=
 bif (decide ((x0.len : Int) < (2))) then
 K (.sl x0) h
 else
 slices_Compact_s_impl_Tile_impl_Tile__L0 S K x0 (1) h
theorem slices_Compact_s_impl_Tile_impl_Tile__main_link (S : SatT) (K : AVal → H → Prop) (x0 : Sl) (h : H) : cwp S tab slices_Compact_s_impl_Tile_impl_Tile__M [] (bodyOf Try.f52) (kFun tab Try.f52.results.toList K) (fr0 Try.f52 [.sl x0]) h = slices_Compact_s_impl_Tile_impl_Tile__main S K x0 h := by kernel_rfl
theorem slices_Compact_s_impl_Tile_impl_Tile__call (x0 : Sl) (h : H) (K : Sl → H → Prop) (hm : slices_Compact_s_impl_Tile_impl_Tile__main (Sat Try.prog) (fun v h' => ∃ r, v = .sl r ∧ K r h') x0 h) : callS (Sat Try.prog) i_slices_Compact_s_impl_Tile_impl_Tile_ [.sl x0] h K := by
  have := Sat.ex tok mixed slices_Compact_s_impl_Tile_impl_Tile__M Try.func52 (c := bodyOf Try.f52) (by kernel_rfl) (calls_of Try.func52 (c := bodyOf Try.f52) (by kernel_rfl) (by decide)) ((slices_Compact_s_impl_Tile_impl_Tile__main_link _ _ x0 h).mpr hm)
  obtain ⟨v, h2, h3, r, rfl, h4⟩ := this; exact ⟨r, h2, h3, h4⟩

/-! ### loop.example/g01354/impl.stacked -/
def impl_stacked_M : Nat → List Nat := fun i => bif i == 2 then [1, 5, 6, 7, 11, 12, 13, 18, 19, 20] else bif i == 0 then [1, 5, 11, 12, 13] else []
def impl_stacked_ks2 (S : SatT) (K : AVal → H → Prop) : Kont := kSeq (cwp S tab impl_stacked_M [] (sub [1, 1, 1] (bodyOf Try.f40)) (kFun tab (Try.f40).results.toList K)) (kFun tab (Try.f40).results.toList K)
def impl_stacked_e0 (s1_ : Sl) (s5_ : Sl) (s11_ : Sl) (i12_ : Int) (i13_ : Int) : Frame := [U, .sl s1_, U, U, U, .sl s5_, U, U, U, U, U, .sl s11_, .int .i64 i12_, .int .i64 i13_, U, U, U, U, U, U, U, U, U, U, U, U, U, U, U, U, U, U, U, U, U, U, U, U, U]
def impl_stacked_w0 (S : SatT) (K : AVal → H → Prop) : (Frame → H → Prop) → Frame → H → Prop := fun X fr h => cwp S tab impl_stacked_M (impl_stacked_M 0) (sub [1, 1, 0, 1, 0, 0] (bodyOf Try.f40)) (kSeq (fun fr h => X (mask (impl_stacked_M 0) fr) h) (kBlk 0 (impl_stacked_ks2 S K))) fr h
def impl_stacked_L0 (S : SatT) (K : AVal → H → Prop) (s1_ : Sl) (s5_ : Sl) (s11_ : Sl) (i12_ : Int) (i13_ : Int) (h : H) : Prop := loopK (impl_stacked_w0 S K) (impl_stacked_e0 s1_ s5_ s11_ i12_ i13_) h
def impl_stacked_ks6 (S : SatT) (K : AVal → H → Prop) (X0 : Frame → H → Prop) : Kont := kSeq (cwp S tab impl_stacked_M (impl_stacked_M 0) (sub [1, 1, 0, 1, 0, 0, 1, 1, 1] (bodyOf Try.f40)) (kSeq (fun fr h => X0 (mask (impl_stacked_M 0) fr) h) (kBlk 0 (impl_stacked_ks2 S K)))) (kSeq (fun fr h => X0 (mask (impl_stacked_M 0) fr) h) (kBlk 0 (impl_stacked_ks2 S K)))
def impl_stacked_e2 (s1_ : Sl) (s5_ : Sl) (i6_ : Int) (p7_ : Pt) (s11_ : Sl) (i12_ : Int) (i13_ : Int) (s18_ : Sl) (i19_ : Int) (i20_ : Int) : Frame := [U, .sl s1_, U, U, U, .sl s5_, .int .i64 i6_, .ptr p7_, U, U, U, .sl s11_, .int .i64 i12_, .int .i64 i13_, U, U, U, U, .sl s18_, .int .i64 i19_, .int .i64 i20_, U, U, U, U, U, U, U, U, U, U, U, U, U, U, U, U, U, U]
def impl_stacked_w2 (S : SatT) (K : AVal → H → Prop) (X0 : Frame → H → Prop) : (Frame → H → Prop) → Frame → H → Prop := fun X fr h => cwp S tab impl_stacked_M (impl_stacked_M 2) (sub [1, 1, 0, 1, 0, 0, 1, 1, 0, 0, 1, 1, 0, 0] (bodyOf Try.f40)) (kSeq (fun fr h => X (mask (impl_stacked_M 2) fr) h) (kBlk 2 (kBlk 1 (impl_stacked_ks6 S K X0)))) fr h
def impl_stacked_L2 (S : SatT) (K : AVal → H → Prop) (X0 : Frame → H → Prop) (s1_ : Sl) (s5_ : Sl) (i6_ : Int) (p7_ : Pt) (s11_ : Sl) (i12_ : Int) (i13_ : Int) (s18_ : Sl) (i19_ : Int) (i20_ : Int) (h : H) : Prop := loopK (impl_stacked_w2 S K X0) (impl_stacked_e2 s1_ s5_ i6_ p7_ s11_ i12_ i13_ s18_ i19_ i20_) h
def impl_stacked_C1 (S : SatT) (K : AVal → H → Prop) (X0 : Frame → H → Prop) (s1_ : Sl) (s5_ : Sl) (s11_ : Sl) (i12_ : Int) (i13_ : Int) (h : H) : Prop :=
 X0 (impl_stacked_e0 s1_ s5_ s11_ i12_ (w64 (i13_ + (1)))) h
def impl_stacked_C2 (S : SatT) (K : AVal → H → Prop) (X0 : Frame → H → Prop) (s1_ : Sl) (s5_ : Sl) (s11_ : Sl) (i12_ : Int) (i13_ : Int) (h : H) : Prop :=
 impl_stacked_C1 S K X0 s1_ s5_ s11_ i12_ i13_ h
def impl_stacked_b2 (S : SatT) (K : AVal → H → Prop) (X0 : Frame → H → Prop) (X2 : Frame → H → Prop) (s1_ : Sl) (s5_ : Sl) (i6_ : Int) (p7_ : Pt) (s11_ : Sl) (i12_ : Int) (i13_ : Int) (s18_ : Sl) (i19_ : Int) (i20_ : Int) (h : H) : Prop :=
 bif (decide (i20_ < i19_)) then
 ixS s18_ 4 i20_ fun p0 =>
 ldA p0 4 h fun cs1 =>
 newO [.int .i64 (0), .int .i64 (0), .int .i64 (0), .int .i64 (0)] h fun p2 h3 =>
 stN p2 4 cs1 h3 fun h4 =>
 ixA p7_ 4 1 (3) fun p5 =>
 ldI .i64 p5 h4 fun n6 =>
 ixA p2 4 1 (1) fun p7 =>
 ldI .i64 p7 h4 fun n8 =>
 bif (n6 == n8) then
 lenA [.int .i64 i6_, .int .i64 i20_] 2 (
 newS 1 2 (spl [.int .i64 (0), .int .i64 (0)] 0 2 [.int .i64 i6_, .int .i64 i20_]) h4 fun s9 h10 =>
 app s5_ s9 2 h10 fun s11 h12 =>
 X2 (impl_stacked_e2 s1_ s11 i6_ p7_ s11_ i12_ i13_ s18_ i19_ (w64 (i20_ + (1)))) h12)
 else
 X2 (impl_stacked_e2 s1_ s5_ i6_ p7_ s11_ i12_ i13_ s18_ i19_ (w64 (i20_ + (1)))) h4
 else
 impl_stacked_C2 S K X0 s1_ s5_ s11_ i12_ i13_ h
theorem impl_stacked_link2 (S : SatT) (K : AVal → H → Prop) (X0 : Frame → H → Prop) (X2 : Frame → H → Prop) (s1_ : Sl) (s5_ : Sl) (i6_ : Int) (p7_ : Pt) (s11_ : Sl) (i12_ : Int) (i13_ : Int) (s18_ : Sl) (i19_ : Int) (i20_ : Int) (h : H) : impl_stacked_w2 S K X0 X2 (impl_stacked_e2 s1_ s5_ i6_ p7_ s11_ i12_ i13_ s18_ i19_ i20_) h = impl_stacked_b2 S K X0 X2 s1_ s5_ i6_ p7_ s11_ i12_ i13_ s18_ i19_ i20_ h := by kernel_rfl
theorem impl_stacked_rule2 (S : SatT) (K : AVal → H → Prop) (X0 : Frame → H → Prop) (s1_ : Sl) (i6_ : Int) (p7_ : Pt) (s11_ : Sl) (i12_ : Int) (i13_ : Int) (s18_ : Sl) (i19_ : Int) (I_ : Sl → Int → H → Prop) (m_ : Sl → Int → H → Nat)
    (hs : ∀ (X2 : Frame → H → Prop) (s5_ : Sl) (i20_ : Int) (h : H), I_ s5_ i20_ h → (∀ (s5_' : Sl) (i20_' : Int) (h' : H), I_ s5_' i20_' h' → m_ s5_' i20_' h' < m_ s5_ i20_ h → X2 (impl_stacked_e2 s1_ s5_' i6_ p7_ s11_ i12_ i13_ s18_ i19_ i20_') h') → impl_stacked_b2 S K X0 X2 s1_ s5_ i6_ p7_ s11_ i12_ i13_ s18_ i19_ i20_ h) (s5_ : Sl) (i20_ : Int) {h : H} (h0 : I_ s5_ i20_ h) : impl_stacked_L2 S K X0 s1_ s5_ i6_ p7_ s11_ i12_ i13_ s18_ i19_ i20_ h :=
  loop_rule (σ := (Sl) × (Int)) (fun s_ => impl_stacked_e2 s1_ (s_.1) i6_ p7_ s11_ i12_ i13_ s18_ i19_ (s_.2)) (fun s_ h => I_ (s_.1) (s_.2) h) (fun s_ h => m_ (s_.1) (s_.2) h)
    (fun X s_ h hi hx => (impl_stacked_link2 S K X0 X s1_ (s_.1) i6_ p7_ s11_ i12_ i13_ s18_ i19_ (s_.2) h).mpr (hs X (s_.1) (s_.2) h hi fun s5_' i20_' h' hi' hm' => hx (s5_', i20_') h' hi' hm')) (s5_, i20_) h0
theorem impl_stacked_unroll2 (S : SatT) (K : AVal → H → Prop) (X0 : Frame → H → Prop) (s1_ : Sl) (s5_ : Sl) (i6_ : Int) (p7_ : Pt) (s11_ : Sl) (i12_ : Int) (i13_ : Int) (s18_ : Sl) (i19_ : Int) (i20_ : Int) (h : H) (hb : impl_stacked_b2 S K X0 (fun fr h => loopK (impl_stacked_w2 S K X0) fr h) s1_ s5_ i6_ p7_ s11_ i12_ i13_ s18_ i19_ i20_ h) : impl_stacked_L2 S K X0 s1_ s5_ i6_ p7_ s11_ i12_ i13_ s18_ i19_ i20_ h := loop_unroll ((impl_stacked_link2 S K X0 _ s1_ s5_ i6_ p7_ s11_ i12_ i13_ s18_ i19_ i20_ h).mpr hb)
def impl_stacked_C0 (S : SatT) (K : AVal → H → Prop) (s5_ : Sl) (h : H) : Prop :=
 K (.sl s5_) h
def impl_stacked_b0 (S : SatT) (K : AVal → H → Prop) (X0 : Frame → H → Prop) (s1_ : Sl) (s5_ : Sl) (s11_ : Sl) (i12_ : Int) (i13_ : Int) (h : H) : Prop :=
 bif (decide (i13_ < i12_)) then
 ixS s11_ 4 i13_ fun p0 =>
 ldA p0 4 h fun cs1 =>
 newO [.int .i64 (0), .int .i64 (0), .int .i64 (0), .int .i64 (0)] h fun p2 h3 =>
 stN p2 4 cs1 h3 fun h4 =>
 impl_stacked_L2 S K X0 s1_ s5_ i13_ p2 s11_ i12_ i13_ s1_ (s1_.len : Int) (0) h4
 else
 impl_stacked_C0 S K s5_ h
theorem impl_stacked_link0 (S : SatT) (K : AVal → H → Prop) (X0 : Frame → H → Prop) (s1_ : Sl) (s5_ : Sl) (s11_ : Sl) (i12_ : Int) (i13_ : Int) (h : H) : impl_stacked_w0 S K X0 (impl_stacked_e0 s1_ s5_ s11_ i12_ i13_) h = impl_stacked_b0 S K X0 s1_ s5_ s11_ i12_ i13_ h := by kernel_rfl
theorem impl_stacked_rule0 (S : SatT) (K : AVal → H → Prop) (s1_ : Sl) (s11_ : Sl) (i12_ : Int) (I_ : Sl → Int → H → Prop) (m_ : Sl → Int → H → Nat)
    (hs : ∀ (X0 : Frame → H → Prop) (s5_ : Sl) (i13_ : Int) (h : H), I_ s5_ i13_ h → (∀ (s5_' : Sl) (i13_' : Int) (h' : H), I_ s5_' i13_' h' → m_ s5_' i13_' h' < m_ s5_ i13_ h → X0 (impl_stacked_e0 s1_ s5_' s11_ i12_ i13_') h') → impl_stacked_b0 S K X0 s1_ s5_ s11_ i12_ i13_ h) (s5_ : Sl) (i13_ : Int) {h : H} (h0 : I_ s5_ i13_ h) : impl_stacked_L0 S K s1_ s5_ s11_ i12_ i13_ h :=
  loop_rule (σ := (Sl) × (Int)) (fun s_ => impl_stacked_e0 s1_ (s_.1) s11_ i12_ (s_.2)) (fun s_ h => I_ (s_.1) (s_.2) h) (fun s_ h => m_ (s_.1) (s_.2) h)
    (fun X s_ h hi hx => (impl_stacked_link0 S K X s1_ (s_.1) s11_ i12_ (s_.2) h).mpr (hs X (s_.1) (s_.2) h hi fun s5_' i13_' h' hi' hm' => hx (s5_', i13_') h' hi' hm')) (s5_, i13_) h0
theorem impl_stacked_unroll0 (S : SatT) (K : AVal → H → Prop) (s1_ : Sl) (s5_ : Sl) (s11_ : Sl) (i12_ : Int) (i13_ : Int) (h : H) (hb : impl_stacked_b0 S K (fun fr h => loopK (impl_stacked_w0 S K) fr h) s1_ s5_ s11_ i12_ i13_ h) : impl_stacked_L0 S K s1_ s5_ s11_ i12_ i13_ h := loop_unroll ((impl_stacked_link0 S K _ s1_ s5_ s11_ i12_ i13_ h).mpr hb)
def impl_stacked_main (S : SatT) (K : AVal → H → Prop) (x0 : Sl) (x1 : Sl) (h : H) : Prop :=
 newS 0 2 [] h fun s0 h1 =>
 impl_stacked_L0 S K x1 s0 x0 (x0.len : Int) (0) h1
theorem impl_stacked_main_link (S : SatT) (K : AVal → H → Prop) (x0 : Sl) (x1 : Sl) (h : H) : cwp S tab impl_stacked_M [] (bodyOf Try.f40) (kFun tab Try.f40.results.toList K) (fr0 Try.f40 [.sl x0, .sl x1]) h = impl_stacked_main S K x0 x1 h := by kernel_rfl
theorem impl_stacked_call (x0 : Sl) (x1 : Sl) (h : H) (K : Sl → H → Prop) (hm : impl_stacked_main (Sat Try.prog) (fun v h' => ∃ r, v = .sl r ∧ K r h') x0 x1 h) : callS (Sat Try.prog) i_impl_stacked [.sl x0, .sl x1] h K := by
  have := Sat.ex tok mixed impl_stacked_M Try.func40 (c := bodyOf Try.f40) (by kernel_rfl) (calls_of Try.func40 (c := bodyOf Try.f40) (by kernel_rfl) (by decide)) ((impl_stacked_main_link _ _ x0 x1 h).mpr hm)
  obtain ⟨v, h2, h3, r, rfl, h4⟩ := this; exact ⟨r, h2, h3, h4⟩

/-! ### loop.example/g01354/spec.l01Sort -/
def spec_l01Sort_M : Nat → List Nat := fun i => bif i == 2 then [0, 3, 4, 5] else bif i == 0 then [0, 3, 4] else []
def spec_l01Sort_ks2 (S : SatT) (K : AVal → H → Prop) : Kont := kSeq (cwp S tab spec_l01Sort_M [] (sub [1, 1, 1] (bodyOf Try.f60)) (kFun tab (Try.f60).results.toList K)) (kFun tab (Try.f60).results.toList K)
def spec_l01Sort_e0 (s0_ : Sl) (s3_ : Sl) (i4_ : Int) : Frame := [.sl s0_, U, U, .sl s3_, .int .i64 i4_, U, U, U, U, U, U, U, U, U, U, U, U, U, U, U, U, U, U, U, U, U, U, U, U, U, U, U, U, U, U, U, U, U, U, U, U, U, U, U, U, U, U, U, U, U, U, U, U, U, U, U, U, U, U, U, U, U, U]
def spec_l01Sort_w0 (S : SatT) (K : AVal → H → Prop) : (Frame → H → Prop) → Frame → H → Prop := fun X fr h => cwp S tab spec_l01Sort_M (spec_l01Sort_M 0) (sub [1, 1, 0, 1, 0, 0] (bodyOf Try.f60)) (kSeq (fun fr h => X (mask (spec_l01Sort_M 0) fr) h) (kBlk 0 (spec_l01Sort_ks2 S K))) fr h
def spec_l01Sort_L0 (S : SatT) (K : AVal → H → Prop) (s0_ : Sl) (s3_ : Sl) (i4_ : Int) (h : H) : Prop := loopK (spec_l01Sort_w0 S K) (spec_l01Sort_e0 s0_ s3_ i4_) h
def spec_l01Sort_ks6 (S : SatT) (K : AVal → H → Prop) (X0 : Frame → H → Prop) : Kont := kSeq (cwp S tab spec_l01Sort_M (spec_l01Sort_M 0) (sub [1, 1, 0, 1, 0, 0, 1, 1] (bodyOf Try.f60)) (kSeq (fun fr h => X0 (mask (spec_l01Sort_M 0) fr) h) (kBlk 0 (spec_l01Sort_ks2 S K)))) (kSeq (fun fr h => X0 (mask (spec_l01Sort_M 0) fr) h) (kBlk 0 (spec_l01Sort_ks2 S K)))
def spec_l01Sort_ks8 (S : SatT) (K : AVal → H → Prop) (X0 : Frame → H → Prop) : Kont := kSeq (cwp S tab spec_l01Sort_M (spec_l01Sort_M 1) (sub [1, 1, 0, 1, 0, 0, 1, 0, 0, 1, 1] (bodyOf Try.f60)) (kBlk 1 (spec_l01Sort_ks6 S K X0))) (kBlk 1 (spec_l01Sort_ks6 S K X0))
def spec_l01Sort_e2 (s0_ : Sl) (s3_ : Sl) (i4_ : Int) (i5_ : Int) : Frame := [.sl s0_, U, U, .sl s3_, .int .i64 i4_, .int .i64 i5_, U, U, U, U, U, U, U, U, U, U, U, U, U, U, U, U, U, U, U, U, U, U, U, U, U, U, U, U, U, U, U, U, U, U, U, U, U, U, U, U, U, U, U, U, U, U, U, U, U, U, U, U, U, U, U, U, U]
def spec_l01Sort_w2 (S : SatT) (K : AVal → H → Prop) (X0 : Frame → H → Prop) : (Frame → H → Prop) → Frame → H → Prop := fun X fr h => cwp S tab spec_l01Sort_M (spec_l01Sort_M 2) (sub [1, 1, 0, 1, 0, 0, 1, 0, 0, 1, 0, 0, 0] (bodyOf Try.f60)) (kSeq (fun fr h => X (mask (spec_l01Sort_M 2) fr) h) (kBlk 2 (spec_l01Sort_ks8 S K X0))) fr h
def spec_l01Sort_L2 (S : SatT) (K : AVal → H → Prop) (X0 : Frame → H → Prop) (s0_ : Sl) (s3_ : Sl) (i4_ : Int) (i5_ : Int) (h : H) : Prop := loopK (spec_l01Sort_w2 S K X0) (spec_l01Sort_e2 s0_ s3_ i4_ i5_) h
def spec_l01Sort_C1 (S : SatT) (K : AVal → H → Prop) (X0 : Frame → H → Prop) (s0_ : Sl) (s3_ : Sl) (i4_ : Int) (h : H) : Prop :=
 X0 (spec_l01Sort_e0 s0_ s3_ (w64 (i4_ + (1)))) h
def spec_l01Sort_C2 (S : SatT) (K : AVal → H → Prop) (X0 : Frame → H → Prop) (s0_ : Sl) (s3_ : Sl) (i4_ : Int) (i5_ : Int) (h : H) : Prop :=
 bif (decide (i5_ > (0))) then
 ixS s3_ 4 (w64 (i5_ - (1))) fun p0 =>
 ldA p0 4 h fun cs1 =>
 ixS s0_ 4 i4_ fun p2 =>
 ldA p2 4 h fun cs3 =>
 eqA .i64 4 cs1 cs3 fun b4 =>
 bif b4 then
 spec_l01Sort_C1 S K X0 s0_ s3_ i4_ h
 else
 ixS s0_ 4 i4_ fun p5 =>
 ldA p5 4 h fun cs6 =>
 lenA cs6 4 (
 newS 1 4 (spl [.int .i64 (0), .int .i64 (0), .int .i64 (0), .int .i64 (0)] 0 4 cs6) h fun s7 h8 =>
 cut s3_ 4 i5_ (s3_.len : Int) h8 fun s9 =>
 okS h s3_ ∧ (
 app s7 s9 4 h8 fun s10 h11 =>
 newS 0 4 [] h11 fun s12 h13 =>
 cut s3_ 4 (0) i5_ h13 fun s14 =>
 app s12 s14 4 h13 fun s15 h16 =>
 app s15 s10 4 h16 fun s17 h18 =>
 spec_l01Sort_C1 S K X0 s0_ s17 i4_ h18))
 else
 ixS s0_ 4 i4_ fun p19 =>
 ldA p19 4 h fun cs20 =>
 lenA cs20 4 (
 newS 1 4 (spl [.int .i64 (0), .int .i64 (0), .int .i64 (0), .int .i64 (0)] 0 4 cs20) h fun s21 h22 =>
 cut s3_ 4 i5_ (s3_.len : Int) h22 fun s23 =>
 okS h s3_ ∧ (
 app s21 s23 4 h22 fun s24 h25 =>
 newS 0 4 [] h25 fun s26 h27 =>
 cut s3_ 4 (0) i5_ h27 fun s28 =>
 app s26 s28 4 h27 fun s29 h30 =>
 app s29 s24 4 h30 fun s31 h32 =>
 spec_l01Sort_C1 S K X0 s0_ s31 i4_ h32))
def spec_l01Sort_b2 (S : SatT) (K : AVal → H → Prop) (X0 : Frame → H → Prop) (X2 : Frame → H → Prop) (s0_ : Sl) (s3_ : Sl) (i4_ : Int) (i5_ : Int) (h : H) : Prop :=
 bif (decide (i5_ > (0))) then
 ixS s0_ 4 i4_ fun p0 =>
 ldA p0 4 h fun cs1 =>
 ixS s3_ 4 (w64 (i5_ - (1))) fun p2 =>
 ldA p2 4 h fun cs3 =>
 callB S i_spec_l01Before [.agg cs1, .agg cs3] h fun b5 h4 =>
 bif b5 then
 X2 (spec_l01Sort_e2 s0_ s3_ i4_ (w64 (i5_ - (1)))) h4
 else
 spec_l01Sort_C2 S K X0 s0_ s3_ i4_ i5_ h4
 else
 spec_l01Sort_C2 S K X0 s0_ s3_ i4_ i5_ h
theorem spec_l01Sort_link2 (S : SatT) (K : AVal → H → Prop) (X0 : Frame → H → Prop) (X2 : Frame → H → Prop) (s0_ : Sl) (s3_ : Sl) (i4_ : Int) (i5_ : Int) (h : H) : spec_l01Sort_w2 S K X0 X2 (spec_l01Sort_e2 s0_ s3_ i4_ i5_) h = spec_l01Sort_b2 S K X0 X2 s0_ s3_ i4_ i5_ h := by kernel_rfl
theorem spec_l01Sort_rule2 (S : SatT) (K : AVal → H → Prop) (X0 : Frame → H → Prop) (s0_ : Sl) (s3_ : Sl) (i4_ : Int) (I_ : Int → H → Prop) (m_ : Int → H → Nat)
    (hs : ∀ (X2 : Frame → H → Prop) (i5_ : Int) (h : H), I_ i5_ h → (∀ (i5_' : Int) (h' : H), I_ i5_' h' → m_ i5_' h' < m_ i5_ h → X2 (spec_l01Sort_e2 s0_ s3_ i4_ i5_') h') → spec_l01Sort_b2 S K X0 X2 s0_ s3_ i4_ i5_ h) (i5_ : Int) {h : H} (h0 : I_ i5_ h) : spec_l01Sort_L2 S K X0 s0_ s3_ i4_ i5_ h :=
  loop_rule (σ := (Int)) (fun s_ => spec_l01Sort_e2 s0_ s3_ i4_ (s_)) (fun s_ h => I_ (s_) h) (fun s_ h => m_ (s_) h)
    (fun X s_ h hi hx => (spec_l01Sort_link2 S K X0 X s0_ s3_ i4_ (s_) h).mpr (hs X (s_) h hi fun i5_' h' hi' hm' => hx (i5_') h' hi' hm')) (i5_) h0
theorem spec_l01Sort_unroll2 (S : SatT) (K : AVal → H → Prop) (X0 : Frame → H → Prop) (s0_ : Sl) (s3_ : Sl) (i4_ : Int) (i5_ : Int) (h : H) (hb : spec_l01Sort_b2 S K X0 (fun fr h => loopK (spec_l01Sort_w2 S K X0) fr h) s0_ s3_ i4_ i5_ h) : spec_l01Sort_L2 S K X0 s0_ s3_ i4_ i5_ h := loop_unroll ((spec_l01Sort_link2 S K X0 _ s0_ s3_ i4_ i5_ h).mpr hb)
def spec_l01Sort_C0 (S : SatT) (K : AVal → H → Prop) (s3_ : Sl) (h : H) : Prop :=
 K (.sl s3_) h
def spec_l01Sort_b0 (S : SatT) (K : AVal → H → Prop) (X0 : Frame → H → Prop) (s0_ : Sl) (s3_ : Sl) (i4_ : Int) (h : H) : Prop :=
 bif (decide (i4_ < (s0_.len : Int))) then
 spec_l01Sort_L2 S K X0 s0_ s3_ i4_ (s3_.len : Int) h
 else
 spec_l01Sort_C0 S K s3_ h
theorem spec_l01Sort_link0 (S : SatT) (K : AVal → H → Prop) (X0 : Frame → H → Prop) (s0_ : Sl) (s3_ : Sl) (i4_ : Int) (h : H) : spec_l01Sort_w0 S K X0 (spec_l01Sort_e0 s0_ s3_ i4_) h = spec_l01Sort_b0 S K X0 s0_ s3_ i4_ h := by kernel_rfl
theorem spec_l01Sort_rule0 (S : SatT) (K : AVal → H → Prop) (s0_ : Sl) (I_ : Sl → Int → H → Prop) (m_ : Sl → Int → H → Nat)
    (hs : ∀ (X0 : Frame → H → Prop) (s3_ : Sl) (i4_ : Int) (h : H), I_ s3_ i4_ h → (∀ (s3_' : Sl) (i4_' : Int) (h' : H), I_ s3_' i4_' h' → m_ s3_' i4_' h' < m_ s3_ i4_ h → X0 (spec_l01Sort_e0 s0_ s3_' i4_') h') → spec_l01Sort_b0 S K X0 s0_ s3_ i4_ h) (s3_ : Sl) (i4_ : Int) {h : H} (h0 : I_ s3_ i4_ h) : spec_l01Sort_L0 S K s0_ s3_ i4_ h :=
  loop_rule (σ := (Sl) × (Int)) (fun s_ => spec_l01Sort_e0 s0_ (s_.1) (s_.2)) (fun s_ h => I_ (s_.1) (s_.2) h) (fun s_ h => m_ (s_.1) (s_.2) h)
    (fun X s_ h hi hx => (spec_l01Sort_link0 S K X s0_ (s_.1) (s_.2) h).mpr (hs X (s_.1) (s_.2) h hi fun s3_' i4_' h' hi' hm' => hx (s3_', i4_') h' hi' hm')) (s3_, i4_) h0
theorem spec_l01Sort_unroll0 (S : SatT) (K : AVal → H → Prop) (s0_ : Sl) (s3_ : Sl) (i4_ : Int) (h : H) (hb : spec_l01Sort_b0 S K (fun fr h => loopK (spec_l01Sort_w0 S K) fr h) s0_ s3_ i4_ h) : spec_l01Sort_L0 S K s0_ s3_ i4_ h := loop_unroll ((spec_l01Sort_link0 S K _ s0_ s3_ i4_ h).mpr hb)
def spec_l01Sort_main (S : SatT) (K : AVal → H → Prop) (x0 : Sl) (h : H) : Prop :=
 newS 0 4 [] h fun s0 h1 =>
 spec_l01Sort_L0 S K x0 s0 (0) h1
theorem spec_l01Sort_main_link (S : SatT) (K : AVal → H → Prop) (x0 : Sl) (h : H) : cwp S tab spec_l01Sort_M [] (bodyOf Try.f60) (kFun tab Try.f60.results.toList K) (fr0 Try.f60 [.sl x0]) h = spec_l01Sort_main S K x0 h := by kernel_rfl
theorem spec_l01Sort_call (x0 : Sl) (h : H) (K : Sl → H → Prop) (hm : spec_l01Sort_main (Sat Try.prog) (fun v h' => ∃ r, v = .sl r ∧ K r h') x0 h) : callS (Sat Try.prog) i_spec_l01Sort [.sl x0] h K := by
  have := Sat.ex tok mixed spec_l01Sort_M Try.func60 (c := bodyOf Try.f60) (by kernel_rfl) (calls_of Try.func60 (c := bodyOf Try.f60) (by kernel_rfl) (by decide)) ((spec_l01Sort_main_link _ _ x0 h).mpr hm)
  obtain ⟨v, h2, h3, r, rfl, h4⟩ := this; exact ⟨r, h2, h3, h4⟩

/-! ### loop.example/g01354/spec.FailingWidth -/
def spec_FailingWidth_M : Nat → List Nat := fun i => bif i == 0 then [1, 2, 7, 8] else []
def spec_FailingWidth_ks6 (S : SatT) (K : AVal → H → Prop) : Kont := kSeq (cwp S tab spec_FailingWidth_M [] (sub [1, 1, 1, 1] (bodyOf Try.f25)) (kFun tab (Try.f25).results.toList K)) (kFun tab (Try.f25).results.toList K)
def spec_FailingWidth_e0 (i1_ : Int) (p2_ : Pt) (s7_ : Sl) (i8_ : Int) : Frame := [U, .int .i64 i1_, .ptr p2_, U, U, U, U, .sl s7_, .int .i64 i8_, U, U, U, U, U, U, U, U, U, U, U, U, U, U, U, U, U, U, U, U, U, U, U, U, U, U, U, U, U, U, U, U, U, U, U, U, U, U, U, U, U, U, U, U, U]
def spec_FailingWidth_w0 (S : SatT) (K : AVal → H → Prop) : (Frame → H → Prop) → Frame → H → Prop := fun X fr h => cwp S tab spec_FailingWidth_M (spec_FailingWidth_M 0) (sub [1, 1, 1, 0, 1, 0, 0] (bodyOf Try.f25)) (kSeq (fun fr h => X (mask (spec_FailingWidth_M 0) fr) h) (kBlk 0 (spec_FailingWidth_ks6 S K))) fr h
def spec_FailingWidth_L0 (S : SatT) (K : AVal → H → Prop) (i1_ : Int) (p2_ : Pt) (s7_ : Sl) (i8_ : Int) (h : H) : Prop := loopK (spec_FailingWidth_w0 S K) (spec_FailingWidth_e0 i1_ p2_ s7_ i8_) h
def spec_FailingWidth_C0 (S : SatT) (K : AVal → H → Prop) (i1_ : Int) (p2_ : Pt) (s7_ : Sl) (h : H) : Prop :=
 isPt p2_ (
 ldI .i64 (Pt.add p2_ 0) h fun n0 =>
 callA S i_spec_l01Made [.int .i64 n0, .sl s7_] h fun cs2 h1 =>
 callV S i_spec_l04Failing [.agg cs2, .int .i64 i1_] h1 fun v4 h3 =>
 viaT v4 fun vs5 =>
 exI .i64 vs5 0 fun n6 =>
 viaT v4 fun vs7 =>
 exI .i64 vs7 1 fun n8 =>
 K (.tuple [.int .i64 n6, .int .i64 n8]) h3)
def spec_FailingWidth_b0 (S : SatT) (K : AVal → H → Prop) (X0 : Frame → H → Prop) (i1_ : Int) (p2_ : Pt) (s7_ : Sl) (i8_ : Int) (h : H) : Prop :=
 isPt p2_ (
 ldS (Pt.add p2_ 1) h fun s0 =>
 bif (decide (i8_ < (s0.len : Int))) then
 isPt p2_ (
 ldS (Pt.add p2_ 1) h fun s1 =>
 ixS s1 4 i8_ fun p2 =>
 ldA p2 4 h fun cs3 =>
 newO [.int .i64 (0), .int .i64 (0), .int .i64 (0), .int .i64 (0)] h fun p4 h5 =>
 stN p4 4 cs3 h5 fun h6 =>
 ixA p4 4 1 (1) fun p7 =>
 ldI .i64 p7 h6 fun n8 =>
 ixA p4 4 1 (0) fun p9 =>
 ldI .i64 p9 h6 fun n10 =>
 ixA p4 4 1 (3) fun p11 =>
 ldI .i64 p11 h6 fun n12 =>
 ixA p4 4 1 (2) fun p13 =>
 ldI .i64 p13 h6 fun n14 =>
 lenA [.int .i64 n8, .int .i64 n10, .int .i64 n12, .int .i64 n14] 4 (
 newS 1 4 (spl [.int .i64 (0), .int .i64 (0), .int .i64 (0), .int .i64 (0)] 0 4 [.int .i64 n8, .int .i64 n10, .int .i64 n12, .int .i64 n14]) h6 fun s15 h16 =>
 app s7_ s15 4 h16 fun s17 h18 =>
 X0 (spec_FailingWidth_e0 i1_ p2_ s17 (w64 (i8_ + (1)))) h18))
 else
 spec_FailingWidth_C0 S K i1_ p2_ s7_ h)
theorem spec_FailingWidth_link0 (S : SatT) (K : AVal → H → Prop) (X0 : Frame → H → Prop) (i1_ : Int) (p2_ : Pt) (s7_ : Sl) (i8_ : Int) (h : H) : spec_FailingWidth_w0 S K X0 (spec_FailingWidth_e0 i1_ p2_ s7_ i8_) h = spec_FailingWidth_b0 S K X0 i1_ p2_ s7_ i8_ h := by kernel_rfl
theorem spec_FailingWidth_rule0 (S : SatT) (K : AVal → H → Prop) (i1_ : Int) (p2_ : Pt) (I_ : Sl → Int → H → Prop) (m_ : Sl → Int → H → Nat)
    (hs : ∀ (X0 : Frame → H → Prop) (s7_ : Sl) (i8_ : Int) (h : H), I_ s7_ i8_ h → (∀ (s7_' : Sl) (i8_' : Int) (h' : H), I_ s7_' i8_' h' → m_ s7_' i8_' h' < m_ s7_ i8_ h → X0 (spec_FailingWidth_e0 i1_ p2_ s7_' i8_') h') → spec_FailingWidth_b0 S K X0 i1_ p2_ s7_ i8_ h) (s7_ : Sl) (i8_ : Int) {h : H} (h0 : I_ s7_ i8_ h) : spec_FailingWidth_L0 S K i1_ p2_ s7_ i8_ h :=
  loop_rule (σ := (Sl) × (Int)) (fun s_ => spec_FailingWidth_e0 i1_ p2_ (s_.1) (s_.2)) (fun s_ h => I_ (s_.1) (s_.2) h) (fun s_ h => m_ (s_.1) (s_.2) h)
    (fun X s_ h hi hx => (spec_FailingWidth_link0 S K X i1_ p2_ (s_.1) (s_.2) h).mpr (hs X (s_.1) (s_.2) h hi fun s7_' i8_' h' hi' hm' => hx (s7_', i8_') h' hi' hm')) (s7_, i8_) h0
theorem spec_FailingWidth_unroll0 (S : SatT) (K : AVal → H → Prop) (i1_ : Int) (p2_ : Pt) (s7_ : Sl) (i8_ : Int) (h : H) (hb : spec_FailingWidth_b0 S K (fun fr h => loopK (spec_FailingWidth_w0 S K) fr h) i1_ p2_ s7_ i8_ h) : spec_FailingWidth_L0 S K i1_ p2_ s7_ i8_ h := loop_unroll ((spec_FailingWidth_link0 S K _ i1_ p2_ s7_ i8_ h).mpr hb)
def spec_FailingWidth_main (S : SatT) (K : AVal → H → Prop) (x0 : List AVal) (x1 : Int) (h : H) : Prop :=
 newK 2 x0 h fun p0 h1 =>
 ldA p0 2 h1 fun cs2 =>
 callI S .i64 i_spec_l04Code [.agg cs2, .int .i64 x1] h1 fun n4 h3 =>
 bif (n4 != (0)) then
 K (.tuple [.int .i64 (0), .int .i64 n4]) h3
 else
 newS 0 4 [] h3 fun s5 h6 =>
 spec_FailingWidth_L0 S K x1 p0 s5 (0) h6
theorem spec_FailingWidth_main_link (S : SatT) (K : AVal → H → Prop) (x0 : List AVal) (x1 : Int) (h : H) : cwp S tab spec_FailingWidth_M [] (bodyOf Try.f25) (kFun tab Try.f25.results.toList K) (fr0 Try.f25 [.agg x0, .int .i64 x1]) h = spec_FailingWidth_main S K x0 x1 h := by kernel_rfl
theorem spec_FailingWidth_call (x0 : List AVal) (x1 : Int) (h : H) (K : AVal → H → Prop) (hm : spec_FailingWidth_main (Sat Try.prog) (fun v h' => K v h') x0 x1 h) : callV (Sat Try.prog) i_spec_FailingWidth [.agg x0, .int .i64 x1] h K := by
  have := Sat.ex tok mixed spec_FailingWidth_M Try.func25 (c := bodyOf Try.f25) (by kernel_rfl) (calls_of Try.func25 (c := bodyOf Try.f25) (by kernel_rfl) (by decide)) ((spec_FailingWidth_main_link _ _ x0 x1 h).mpr hm)
  exact this

/-! ### slices.Compare[[]int64,int64] -/
def slices_Compare_s_int64_int64__M : Nat → List Nat := fun i => bif i == 0 then [0, 1, 9, 10, 11] else []
def slices_Compare_s_int64_int64__ks1 (S : SatT) (K : AVal → H → Prop) : Kont := kSeq (cwp S tab slices_Compare_s_int64_int64__M [] (sub [1, 1] (bodyOf Try.f79)) (kFun tab (Try.f79).results.toList K)) (kFun tab (Try.f79).results.toList K)
def slices_Compare_s_int64_int64__e0 (s0_ : Sl) (s1_ : Sl) (s9_ : Sl) (i10_ : Int) (i11_ : Int) : Frame := [.sl s0_, .sl s1_, U, U, U, U, U, U, U, .sl s9_, .int .i64 i10_, .int .i64 i11_, U, U, U, U, U, U, U, U, U, U, U, U, U, U, U, U, U, U, U, U, U, U, U, U]
def slices_Compare_s_int64_int64__w0 (S : SatT) (K : AVal → H → Prop) : (Frame → H → Prop) → Frame → H → Prop := fun X fr h => cwp S tab slices_Compare_s_int64_int64__M (slices_Compare_s_int64_int64__M 0) (sub [1, 0, 1, 0, 0] (bodyOf Try.f79)) (kSeq (fun fr h => X (mask (slices_Compare_s_int64_int64__M 0) fr) h) (kBlk 0 (slices_Compare_s_int64_int64__ks1 S K))) fr h
def slices_Compare_s_int64_int64__L0 (S : SatT) (K : AVal → H → Prop) (s0_ : Sl) (s1_ : Sl) (s9_ : Sl) (i10_ : Int) (i11_ : Int) (h : H) : Prop := loopK (slices_Compare_s_int64_int64__w0 S K) (slices_Compare_s_int64_int64__e0 s0_ s1_ s9_ i10_ i11_) h
def slices_Compare_s_int64_int64__C0 (S : SatT) (K : AVal → H → Prop) (s0_ : Sl) (s1_ : Sl) (h : H) : Prop :=
 bif (decide ((s0_.len : Int) < (s1_.len : Int))) then
 K (.int .i64 (-1)) h
 else
 K (.int .i64 (0)) h
def slices_Compare_s_int64_int64__b0 (S : SatT) (K : AVal → H → Prop) (X0 : Frame → H → Prop) (s0_ : Sl) (s1_ : Sl) (s9_ : Sl) (i10_ : Int) (i11_ : Int) (h : H) : Prop :=
 bif (decide (i11_ < i10_)) then
 ixS s9_ 1 i11_ fun p0 =>
 ldI .i64 p0 h fun n1 =>
 bif (decide (i11_ ≥ (s1_.len : Int))) then
 K (.int .i64 (1)) h
 else
 ixS s1_ 1 i11_ fun p2 =>
 ldI .i64 p2 h fun n3 =>
 callI S .i64 i_cmp_Compare_int64_ [.int .i64 n1, .int .i64 n3] h fun n5 h4 =>
 bif (n5 != (0)) then
 K (.int .i64 n5) h4
 else
 X0 (slices_Compare_s_int64_int64__e0 s0_ s1_ s9_ i10_ (w64 (i11_ + (1)))) h4
 else
 slices_Compare_s_int64_int64__C0 S K s0_ s1_ h
theorem slices_Compare_s_int64_int64__link0 (S : SatT) (K : AVal → H → Prop) (X0 : Frame → H → Prop) (s0_ : Sl) (s1_ : Sl) (s9_ : Sl) (i10_ : Int) (i11_ : Int) (h : H) : slices_Compare_s_int64_int64__w0 S K X0 (slices_Compare_s_int64_int64__e0 s0_ s1_ s9_ i10_ i11_) h = slices_Compare_s_int64_int64__b0 S K X0 s0_ s1_ s9_ i10_ i11_ h := by kernel_rfl
theorem slices_Compare_s_int64_int64__rule0 (S : SatT) (K : AVal → H → Prop) (s0_ : Sl) (s1_ : Sl) (s9_ : Sl) (i10_ : Int) (I_ : Int → H → Prop) (m_ : Int → H → Nat)
    (hs : ∀ (X0 : Frame → H → Prop) (i11_ : Int) (h : H), I_ i11_ h → (∀ (i11_' : Int) (h' : H), I_ i11_' h' → m_ i11_' h' < m_ i11_ h → X0 (slices_Compare_s_int64_int64__e0 s0_ s1_ s9_ i10_ i11_') h') → slices_Compare_s_int64_int64__b0 S K X0 s0_ s1_ s9_ i10_ i11_ h) (i11_ : Int) {h : H} (h0 : I_ i11_ h) : slices_Compare_s_int64_int64__L0 S K s0_ s1_ s9_ i10_ i11_ h :=
  loop_rule (σ := (Int)) (fun s_ => slices_Compare_s_int64_int64__e0 s0_ s1_ s9_ i10_ (s_)) (fun s_ h => I_ (s_) h) (fun s_ h => m_ (s_) h)
    (fun X s_ h hi hx => (slices_Compare_s_int64_int64__link0 S K X s0_ s1_ s9_ i10_ (s_) h).mpr (hs X (s_) h hi fun i11_' h' hi' hm' => hx (i11_') h' hi' hm')) (i11_) h0
theorem slices_Compare_s_int64_int64__unroll0 (S : SatT) (K : AVal → H → Prop) (s0_ : Sl) (s1_ : Sl) (s9_ : Sl) (i10_ : Int) (i11_ : Int) (h : H) (hb : slices_Compare_s_int64_int64__b0 S K (fun fr h => loopK (slices_Compare_s_int64_int64__w0 S K) fr h) s0_ s1_ s9_ i10_ i11_ h) : slices_Compare_s_int64_int64__L0 S K s0_ s1_ s9_ i10_ i11_ h := loop_unroll ((slices_Compare_s_int64_int64__link0 S K _ s0_ s1_ s9_ i10_ i11_ h).mpr hb)
def slices_Compare_s_int64_int64__main (S : SatT) (K : AVal → H → Prop) (x0 : Sl) (x1 : Sl) (h : H) : Prop :=
 slices_Compare_s_int64_int64__L0 S K x0 x1 x0 (x0.len : Int) (0) h
theorem slices_Compare_s_int64_int64__main_link (S : SatT) (K : AVal → H → Prop) (x0 : Sl) (x1 : Sl) (h : H) : cwp S tab slices_Compare_s_int64_int64__M [] (bodyOf Try.f79) (kFun tab Try.f79.results.toList K) (fr0 Try.f79 [.sl x0, .sl x1]) h = slices_Compare_s_int64_int64__main S K x0 x1 h := by kernel_rfl
theorem slices_Compare_s_int64_int64__call (x0 : Sl) (x1 : Sl) (h : H) (K : Int → H → Prop) (hm : slices_Compare_s_int64_int64__main (Sat Try.prog) (fun v h' => ∃ r, v = .int .i64 r ∧ K r h') x0 x1 h) : callI (Sat Try.prog) .i64 i_slices_Compare_s_int64_int64_ [.sl x0, .sl x1] h K := by
  have := Sat.ex tok mixed slices_Compare_s_int64_int64__M Try.func79 (c := bodyOf Try.f79) (by kernel_rfl) (calls_of Try.func79 (c := bodyOf Try.f79) (by kernel_rfl) (by decide)) ((slices_Compare_s_int64_int64__main_link _ _ x0 x1 h).mpr hm)
  obtain ⟨v, h2, h3, r, rfl, h4⟩ := this; exact ⟨r, h2, h3, h4⟩

/-! ### (loop.example/g01354/impl.Set).isRow -/
def impl_Set_isRow_M : Nat → List Nat := fun i => bif i == 0 then [1, 2, 7, 8, 9] else []
def impl_Set_isRow_ks1 (S : SatT) (K : AVal → H → Prop) : Kont := kSeq (cwp S tab impl_Set_isRow_M [] (sub [1, 1] (bodyOf Try.f39)) (kFun tab (Try.f39).results.toList K)) (kFun tab (Try.f39).results.toList K)
def impl_Set_isRow_e0 (s1_ : Sl) (p2_ : Pt) (s7_ : Sl) (i8_ : Int) (i9_ : Int) : Frame := [U, .sl s1_, .ptr p2_, U, U, U, U, .sl s7_, .int .i64 i8_, .int .i64 i9_, U, U, U, U, U, U, U, U, U, U, U, U, U, U, U, U, U, U, U, U, U, U, U, U, U, U, U, U, U, U, U, U, U, U, U]
def impl_Set_isRow_w0 (S : SatT) (K : AVal → H → Prop) : (Frame → H → Prop) → Frame → H → Prop := fun X fr h => cwp S tab impl_Set_isRow_M (impl_Set_isRow_M 0) (sub [1, 0, 1, 0, 0] (bodyOf Try.f39)) (kSeq (fun fr h => X (mask (impl_Set_isRow_M 0) fr) h) (kBlk 0 (impl_Set_isRow_ks1 S K))) fr h
def impl_Set_isRow_L0 (S : SatT) (K : AVal → H → Prop) (s1_ : Sl) (p2_ : Pt) (s7_ : Sl) (i8_ : Int) (i9_ : Int) (h : H) : Prop := loopK (impl_Set_isRow_w0 S K) (impl_Set_isRow_e0 s1_ p2_ s7_ i8_ i9_) h
def impl_Set_isRow_C0 (S : SatT) (K : AVal → H → Prop) (s1_ : Sl) (h : H) : Prop :=
 callB S i_impl_within [.int .i64 (s1_.len : Int), .int .i64 (1), .int .i64 (20)] h fun b1 h0 =>
 K (.bool b1) h0
def impl_Set_isRow_b0 (S : SatT) (K : AVal → H → Prop) (X0 : Frame → H → Prop) (s1_ : Sl) (p2_ : Pt) (s7_ : Sl) (i8_ : Int) (i9_ : Int) (h : H) : Prop :=
 bif (decide (i9_ < i8_)) then
 ixS s7_ 1 i9_ fun p0 =>
 ldI .i64 p0 h fun n1 =>
 ldA p2_ 2 h fun cs2 =>
 callB S i_impl_Set_isNumber [.agg cs2, .int .i64 n1] h fun b4 h3 =>
 bif (!b4) then
 K (.bool false) h3
 else
 bif (decide (i9_ > (0))) then
 isPt p2_ (
 ldS (Pt.add p2_ 1) h3 fun s5 =>
 ixS s1_ 1 (w64 (i9_ - (1))) fun p6 =>
 ldI .i64 p6 h3 fun n7 =>
 ixS s5 4 n7 fun p8 =>
 ixA p8 4 1 (2) fun p9 =>
 ldI .i64 p9 h3 fun n10 =>
 isPt p2_ (
 ldS (Pt.add p2_ 1) h3 fun s11 =>
 ixS s11 4 n1 fun p12 =>
 ixA p12 4 1 (0) fun p13 =>
 ldI .i64 p13 h3 fun n14 =>
 bif (n10 != n14) then
 K (.bool false) h3
 else
 X0 (impl_Set_isRow_e0 s1_ p2_ s7_ i8_ (w64 (i9_ + (1)))) h3))
 else
 X0 (impl_Set_isRow_e0 s1_ p2_ s7_ i8_ (w64 (i9_ + (1)))) h3
 else
 impl_Set_isRow_C0 S K s1_ h
theorem impl_Set_isRow_link0 (S : SatT) (K : AVal → H → Prop) (X0 : Frame → H → Prop) (s1_ : Sl) (p2_ : Pt) (s7_ : Sl) (i8_ : Int) (i9_ : Int) (h : H) : impl_Set_isRow_w0 S K X0 (impl_Set_isRow_e0 s1_ p2_ s7_ i8_ i9_) h = impl_Set_isRow_b0 S K X0 s1_ p2_ s7_ i8_ i9_ h := by kernel_rfl
theorem impl_Set_isRow_rule0 (S : SatT) (K : AVal → H → Prop) (s1_ : Sl) (p2_ : Pt) (s7_ : Sl) (i8_ : Int) (I_ : Int → H → Prop) (m_ : Int → H → Nat)
    (hs : ∀ (X0 : Frame → H → Prop) (i9_ : Int) (h : H), I_ i9_ h → (∀ (i9_' : Int) (h' : H), I_ i9_' h' → m_ i9_' h' < m_ i9_ h → X0 (impl_Set_isRow_e0 s1_ p2_ s7_ i8_ i9_') h') → impl_Set_isRow_b0 S K X0 s1_ p2_ s7_ i8_ i9_ h) (i9_ : Int) {h : H} (h0 : I_ i9_ h) : impl_Set_isRow_L0 S K s1_ p2_ s7_ i8_ i9_ h :=
  loop_rule (σ := (Int)) (fun s_ => impl_Set_isRow_e0 s1_ p2_ s7_ i8_ (s_)) (fun s_ h => I_ (s_) h) (fun s_ h => m_ (s_) h)
    (fun X s_ h hi hx => (impl_Set_isRow_link0 S K X s1_ p2_ s7_ i8_ (s_) h).mpr (hs X (s_) h hi fun i9_' h' hi' hm' => hx (i9_') h' hi' hm')) (i9_) h0
theorem impl_Set_isRow_unroll0 (S : SatT) (K : AVal → H → Prop) (s1_ : Sl) (p2_ : Pt) (s7_ : Sl) (i8_ : Int) (i9_ : Int) (h : H) (hb : impl_Set_isRow_b0 S K (fun fr h => loopK (impl_Set_isRow_w0 S K) fr h) s1_ p2_ s7_ i8_ i9_ h) : impl_Set_isRow_L0 S K s1_ p2_ s7_ i8_ i9_ h := loop_unroll ((impl_Set_isRow_link0 S K _ s1_ p2_ s7_ i8_ i9_ h).mpr hb)
def impl_Set_isRow_main (S : SatT) (K : AVal → H → Prop) (x0 : List AVal) (x1 : Sl) (h : H) : Prop :=
 newK 2 x0 h fun p0 h1 =>
 impl_Set_isRow_L0 S K x1 p0 x1 (x1.len : Int) (0) h1
theorem impl_Set_isRow_main_link (S : SatT) (K : AVal → H → Prop) (x0 : List AVal) (x1 : Sl) (h : H) : cwp S tab impl_Set_isRow_M [] (bodyOf Try.f39) (kFun tab Try.f39.results.toList K) (fr0 Try.f39 [.agg x0, .sl x1]) h = impl_Set_isRow_main S K x0 x1 h := by kernel_rfl
theorem impl_Set_isRow_call (x0 : List AVal) (x1 : Sl) (h : H) (K : Bool → H → Prop) (hm : impl_Set_isRow_main (Sat Try.prog) (fun v h' => ∃ r, v = .bool r ∧ K r h') x0 x1 h) : callB (Sat Try.prog) i_impl_Set_isRow [.agg x0, .sl x1] h K := by
  have := Sat.ex tok mixed impl_Set_isRow_M Try.func39 (c := bodyOf Try.f39) (by kernel_rfl) (calls_of Try.func39 (c := bodyOf Try.f39) (by kernel_rfl) (by decide)) ((impl_Set_isRow_main_link _ _ x0 x1 h).mpr hm)
  obtain ⟨v, h2, h3, r, rfl, h4⟩ := this; exact ⟨r, h2, h3, h4⟩

/-! ### loop.example/g01354/laws.heldInt64S -/
def laws_heldInt64S_M : Nat → List Nat := fun i => bif i == 0 then [0, 1, 5] else []
def laws_heldInt64S_ks1 (S : SatT) (K : AVal → H → Prop) : Kont := kSeq (cwp S tab laws_heldInt64S_M [] (sub [1, 1] (bodyOf Try.f20)) (kFun tab (Try.f20).results.toList K)) (kFun tab (Try.f20).results.toList K)
def laws_heldInt64S_e0 (s0_ : Sl) (i1_ : Int) (i5_ : Int) : Frame := [.sl s0_, .int .i64 i1_, U, U, U, .int .i64 i5_, U, U, U, U, U, U, U, U, U, U, U, U, U, U, U]
def laws_heldInt64S_w0 (S : SatT) (K : AVal → H → Prop) : (Frame → H → Prop) → Frame → H → Prop := fun X fr h => cwp S tab laws_heldInt64S_M (laws_heldInt64S_M 0) (sub [1, 0, 1, 0, 0] (bodyOf Try.f20)) (kSeq (fun fr h => X (mask (laws_heldInt64S_M 0) fr) h) (kBlk 0 (laws_heldInt64S_ks1 S K))) fr h
def laws_heldInt64S_L0 (S : SatT) (K : AVal → H → Prop) (s0_ : Sl) (i1_ : Int) (i5_ : Int) (h : H) : Prop := loopK (laws_heldInt64S_w0 S K) (laws_heldInt64S_e0 s0_ i1_ i5_) h
def laws_heldInt64S_C0 (S : SatT) (K : AVal → H → Prop) (i1_ : Int) (h : H) : Prop :=
 K (.int .i64 i1_) h
def laws_heldInt64S_b0 (S : SatT) (K : AVal → H → Prop) (X0 : Frame → H → Prop) (s0_ : Sl) (i1_ : Int) (i5_ : Int) (h : H) : Prop :=
 bif (decide (i5_ < (s0_.len : Int))) then
 ixS s0_ 1 i5_ fun p0 =>
 ldI .i64 p0 h fun n1 =>
 bif (n1 != i1_) then
 K (.int .i64 (-1)) h
 else
 X0 (laws_heldInt64S_e0 s0_ (w64 (i1_ + (1))) (w64 (i5_ + (1)))) h
 else
 laws_heldInt64S_C0 S K i1_ h
theorem laws_heldInt64S_link0 (S : SatT) (K : AVal → H → Prop) (X0 : Frame → H → Prop) (s0_ : Sl) (i1_ : Int) (i5_ : Int) (h : H) : laws_heldInt64S_w0 S K X0 (laws_heldInt64S_e0 s0_ i1_ i5_) h = laws_heldInt64S_b0 S K X0 s0_ i1_ i5_ h := by kernel_rfl
theorem laws_heldInt64S_rule0 (S : SatT) (K : AVal → H → Prop) (s0_ : Sl) (I_ : Int → Int → H → Prop) (m_ : Int → Int → H → Nat)
    (hs : ∀ (X0 : Frame → H → Prop) (i1_ : Int) (i5_ : Int) (h : H), I_ i1_ i5_ h → (∀ (i1_' : Int) (i5_' : Int) (h' : H), I_ i1_' i5_' h' → m_ i1_' i5_' h' < m_ i1_ i5_ h → X0 (laws_heldInt64S_e0 s0_ i1_' i5_') h') → laws_heldInt64S_b0 S K X0 s0_ i1_ i5_ h) (i1_ : Int) (i5_ : Int) {h : H} (h0 : I_ i1_ i5_ h) : laws_heldInt64S_L0 S K s0_ i1_ i5_ h :=
  loop_rule (σ := (Int) × (Int)) (fun s_ => laws_heldInt64S_e0 s0_ (s_.1) (s_.2)) (fun s_ h => I_ (s_.1) (s_.2) h) (fun s_ h => m_ (s_.1) (s_.2) h)
    (fun X s_ h hi hx => (laws_heldInt64S_link0 S K X s0_ (s_.1) (s_.2) h).mpr (hs X (s_.1) (s_.2) h hi fun i1_' i5_' h' hi' hm' => hx (i1_', i5_') h' hi' hm')) (i1_, i5_) h0
theorem laws_heldInt64S_unroll0 (S : SatT) (K : AVal → H → Prop) (s0_ : Sl) (i1_ : Int) (i5_ : Int) (h : H) (hb : laws_heldInt64S_b0 S K (fun fr h => loopK (laws_heldInt64S_w0 S K) fr h) s0_ i1_ i5_ h) : laws_heldInt64S_L0 S K s0_ i1_ i5_ h := loop_unroll ((laws_heldInt64S_link0 S K _ s0_ i1_ i5_ h).mpr hb)
def laws_heldInt64S_main (S : SatT) (K : AVal → H → Prop) (x0 : Sl) (x1 : Int) (h : H) : Prop :=
 laws_heldInt64S_L0 S K x0 x1 (0) h
theorem laws_heldInt64S_main_link (S : SatT) (K : AVal → H → Prop) (x0 : Sl) (x1 : Int) (h : H) : cwp S tab laws_heldInt64S_M [] (bodyOf Try.f20) (kFun tab Try.f20.results.toList K) (fr0 Try.f20 [.sl x0, .int .i64 x1]) h = laws_heldInt64S_main S K x0 x1 h := by kernel_rfl
theorem laws_heldInt64S_call (x0 : Sl) (x1 : Int) (h : H) (K : Int → H → Prop) (hm : laws_heldInt64S_main (Sat Try.prog) (fun v h' => ∃ r, v = .int .i64 r ∧ K r h') x0 x1 h) : callI (Sat Try.prog) .i64 i_laws_heldInt64S [.sl x0, .int .i64 x1] h K := by
  have := Sat.ex tok mixed laws_heldInt64S_M Try.func20 (c := bodyOf Try.f20) (by kernel_rfl) (calls_of Try.func20 (c := bodyOf Try.f20) (by kernel_rfl) (by decide)) ((laws_heldInt64S_main_link _ _ x0 x1 h).mpr hm)
  obtain ⟨v, h2, h3, r, rfl, h4⟩ := this; exact ⟨r, h2, h3, h4⟩

/-! ### loop.example/g01354/spec.l01Tile -/
def spec_l01Tile_M : Nat → List Nat := fun i => bif i == 0 then [0, 3, 5] else []
def spec_l01Tile_ks1 (S : SatT) (K : AVal → H → Prop) : Kont := kSeq (cwp S tab spec_l01Tile_M [] (sub [1, 1] (bodyOf Try.f58)) (kFun tab (Try.f58).results.toList K)) (kFun tab (Try.f58).results.toList K)
def spec_l01Tile_e0 (i0_ : Int) (p3_ : Pt) (i5_ : Int) : Frame := [.int .i64 i0_, U, U, .ptr p3_, U, .int .i64 i5_, U, U, U, U, U, U, U, U, U, U, U]
def spec_l01Tile_w0 (S : SatT) (K : AVal → H → Prop) : (Frame → H → Prop) → Frame → H → Prop := fun X fr h => cwp S tab spec_l01Tile_M (spec_l01Tile_M 0) (sub [1, 0, 1, 0, 0] (bodyOf Try.f58)) (kSeq (fun fr h => X (mask (spec_l01Tile_M 0) fr) h) (kBlk 0 (spec_l01Tile_ks1 S K))) fr h
def spec_l01Tile_L0 (S : SatT) (K : AVal → H → Prop) (i0_ : Int) (p3_ : Pt) (i5_ : Int) (h : H) : Prop := loopK (spec_l01Tile_w0 S K) (spec_l01Tile_e0 i0_ p3_ i5_) h
def spec_l01Tile_C0 (S : SatT) (K : AVal → H → Prop) (h : H) : Prop :=
 K (.bool true) h
def spec_l01Tile_b0 (S : SatT) (K : AVal → H → Prop) (X0 : Frame → H → Prop) (i0_ : Int) (p3_ : Pt) (i5_ : Int) (h : H) : Prop :=
 bif (decide (i5_ < (4))) then
 ixA p3_ 4 1 i5_ fun p0 =>
 ldI .i64 p0 h fun n1 =>
 callB S i_spec_l01In [.int .i64 n1, .int .i64 (0), .int .i64 (w64 (i0_ - (1)))] h fun b3 h2 =>
 bif (!b3) then
 K (.bool false) h2
 else
 X0 (spec_l01Tile_e0 i0_ p3_ (w64 (i5_ + (1)))) h2
 else
 spec_l01Tile_C0 S K h
theorem spec_l01Tile_link0 (S : SatT) (K : AVal → H → Prop) (X0 : Frame → H → Prop) (i0_ : Int) (p3_ : Pt) (i5_ : Int) (h : H) : spec_l01Tile_w0 S K X0 (spec_l01Tile_e0 i0_ p3_ i5_) h = spec_l01Tile_b0 S K X0 i0_ p3_ i5_ h := by kernel_rfl
theorem spec_l01Tile_rule0 (S : SatT) (K : AVal → H → Prop) (i0_ : Int) (p3_ : Pt) (I_ : Int → H → Prop) (m_ : Int → H → Nat)
    (hs : ∀ (X0 : Frame → H → Prop) (i5_ : Int) (h : H), I_ i5_ h → (∀ (i5_' : Int) (h' : H), I_ i5_' h' → m_ i5_' h' < m_ i5_ h → X0 (spec_l01Tile_e0 i0_ p3_ i5_') h') → spec_l01Tile_b0 S K X0 i0_ p3_ i5_ h) (i5_ : Int) {h : H} (h0 : I_ i5_ h) : spec_l01Tile_L0 S K i0_ p3_ i5_ h :=
  loop_rule (σ := (Int)) (fun s_ => spec_l01Tile_e0 i0_ p3_ (s_)) (fun s_ h => I_ (s_) h) (fun s_ h => m_ (s_) h)
    (fun X s_ h hi hx => (spec_l01Tile_link0 S K X i0_ p3_ (s_) h).mpr (hs X (s_) h hi fun i5_' h' hi' hm' => hx (i5_') h' hi' hm')) (i5_) h0
theorem spec_l01Tile_unroll0 (S : SatT) (K : AVal → H → Prop) (i0_ : Int) (p3_ : Pt) (i5_ : Int) (h : H) (hb : spec_l01Tile_b0 S K (fun fr h => loopK (spec_l01Tile_w0 S K) fr h) i0_ p3_ i5_ h) : spec_l01Tile_L0 S K i0_ p3_ i5_ h := loop_unroll ((spec_l01Tile_link0 S K _ i0_ p3_ i5_ h).mpr hb)
def spec_l01Tile_main (S : SatT) (K : AVal → H → Prop) (x0 : Int) (x1 : List AVal) (h : H) : Prop :=
 newK 4 x1 h fun p0 h1 =>
 spec_l01Tile_L0 S K x0 p0 (0) h1
theorem spec_l01Tile_main_link (S : SatT) (K : AVal → H → Prop) (x0 : Int) (x1 : List AVal) (h : H) : cwp S tab spec_l01Tile_M [] (bodyOf Try.f58) (kFun tab Try.f58.results.toList K) (fr0 Try.f58 [.int .i64 x0, .agg x1]) h = spec_l01Tile_main S K x0 x1 h := by kernel_rfl
theorem spec_l01Tile_call (x0 : Int) (x1 : List AVal) (h : H) (K : Bool → H → Prop) (hm : spec_l01Tile_main (Sat Try.prog) (fun v h' => ∃ r, v = .bool r ∧ K r h') x0 x1 h) : callB (Sat Try.prog) i_spec_l01Tile [.int .i64 x0, .agg x1] h K := by
  have := Sat.ex tok mixed spec_l01Tile_M Try.func58 (c := bodyOf Try.f58) (by kernel_rfl) (calls_of Try.func58 (c := bodyOf Try.f58) (by kernel_rfl) (by decide)) ((spec_l01Tile_main_link _ _ x0 x1 h).mpr hm)
  obtain ⟨v, h2, h3, r, rfl, h4⟩ := this; exact ⟨r, h2, h3, h4⟩

/-! ### loop.example/g01354/impl.StackSets -/
def impl_StackSets_M : Nat → List Nat := fun i => []
def impl_StackSets_main (S : SatT) (K : AVal → H → Prop) (x0 : List AVal) (x1 : List AVal) (h : H) : Prop :=
 newK 2 x0 h fun p0 h1 =>
 newK 2 x1 h1 fun p2 h3 =>
 newO [.int .i64 (0), .sl Sl.nil] h3 fun p4 h5 =>
 ldA p0 2 h5 fun cs6 =>
 ldA p2 2 h5 fun cs7 =>
 lenA cs6 2 (
 lenA cs7 2 (
 newS 2 2 (spl (spl [.int .i64 (0), .sl Sl.nil, .int .i64 (0), .sl Sl.nil] 0 2 cs6) 2 2 cs7) h5 fun s8 h9 =>
 callB S i_impl_areSets [.sl s8] h9 fun b11 h10 =>
 bif (!b11) then
 stN p4 2 [.int .i64 (0), .sl Sl.nil] h10 fun h12 =>
 ldA p4 2 h12 fun cs13 =>
 K (.tuple [.agg cs13, .int .i64 (1)]) h12
 else
 ldA p0 2 h10 fun cs14 =>
 ldA p2 2 h10 fun cs15 =>
 callV S i_impl_stack [.agg cs14, .agg cs15] h10 fun v17 h16 =>
 viaT v17 fun vs18 =>
 exA vs18 0 fun cs19 =>
 viaT v17 fun vs20 =>
 exI .i64 vs20 1 fun n21 =>
 stN p4 2 cs19 h16 fun h22 =>
 ldA p4 2 h22 fun cs23 =>
 K (.tuple [.agg cs23, .int .i64 n21]) h22))
theorem impl_StackSets_main_link (S : SatT) (K : AVal → H → Prop) (x0 : List AVal) (x1 : List AVal) (h : H) : cwp S tab impl_StackSets_M [] (bodyOf Try.f11) (kFun tab Try.f11.results.toList K) (fr0 Try.f11 [.agg x0, .agg x1]) h = impl_StackSets_main S K x0 x1 h := by kernel_rfl
theorem impl_StackSets_call (x0 : List AVal) (x1 : List AVal) (h : H) (K : AVal → H → Prop) (hm : impl_StackSets_main (Sat Try.prog) (fun v h' => K v h') x0 x1 h) : callV (Sat Try.prog) i_impl_StackSets [.agg x0, .agg x1] h K := by
  have := Sat.ex tok mixed impl_StackSets_M Try.func11 (c := bodyOf Try.f11) (by kernel_rfl) (calls_of Try.func11 (c := bodyOf Try.f11) (by kernel_rfl) (by decide)) ((impl_StackSets_main_link _ _ x0 x1 h).mpr hm)
  exact this

/-! ### loop.example/g01354/impl.FailingWidth -/
def impl_FailingWidth_M : Nat → List Nat := fun i => []
def impl_FailingWidth_main (S : SatT) (K : AVal → H → Prop) (x0 : List AVal) (x1 : Int) (h : H) : Prop :=
 newK 2 x0 h fun p0 h1 =>
 ldA p0 2 h1 fun cs2 =>
 callV S i_impl_TransposedSet [.agg cs2] h1 fun v4 h3 =>
 viaT v4 fun vs5 =>
 exA vs5 0 fun cs6 =>
 viaT v4 fun vs7 =>
 exI .i64 vs7 1 fun n8 =>
 newO [.int .i64 (0), .sl Sl.nil] h3 fun p9 h10 =>
 stN p9 2 cs6 h10 fun h11 =>
 bif (n8 != (0)) then
 K (.tuple [.int .i64 (0), .int .i64 n8]) h11
 else
 ldA p9 2 h11 fun cs12 =>
 callV S i_impl_FailingHeight [.agg cs12, .int .i64 x1] h11 fun v14 h13 =>
 viaT v14 fun vs15 =>
 exI .i64 vs15 0 fun n16 =>
 viaT v14 fun vs17 =>
 exI .i64 vs17 1 fun n18 =>
 K (.tuple [.int .i64 n16, .int .i64 n18]) h13
theorem impl_FailingWidth_main_link (S : SatT) (K : AVal → H → Prop) (x0 : List AVal) (x1 : Int) (h : H) : cwp S tab impl_FailingWidth_M [] (bodyOf Try.f26) (kFun tab Try.f26.results.toList K) (fr0 Try.f26 [.agg x0, .int .i64 x1]) h = impl_FailingWidth_main S K x0 x1 h := by kernel_rfl
theorem impl_FailingWidth_call (x0 : List AVal) (x1 : Int) (h : H) (K : AVal → H → Prop) (hm : impl_FailingWidth_main (Sat Try.prog) (fun v h' => K v h') x0 x1 h) : callV (Sat Try.prog) i_impl_FailingWidth [.agg x0, .int .i64 x1] h K := by
  have := Sat.ex tok mixed impl_FailingWidth_M Try.func26 (c := bodyOf Try.f26) (by kernel_rfl) (calls_of Try.func26 (c := bodyOf Try.f26) (by kernel_rfl) (by decide)) ((impl_FailingWidth_main_link _ _ x0 x1 h).mpr hm)
  exact this

/-! ### loop.example/g01354/laws.toSet -/
def laws_toSet_M : Nat → List Nat := fun i => []
def laws_toSet_main (S : SatT) (K : AVal → H → Prop) (x0 : List AVal) (h : H) : Prop :=
 newK 2 x0 h fun p0 h1 =>
 newO [.int .i64 (0), .sl Sl.nil] h1 fun p2 h3 =>
 newO [.int .i64 (0), .sl Sl.nil] h3 fun p4 h5 =>
 isPt p0 (
 ldI .i64 (Pt.add p0 0) h5 fun n6 =>
 isPt p4 (
 st1 (Pt.add p4 0) (.int .i64 n6) h5 fun h7 =>
 isPt p0 (
 ldS (Pt.add p0 1) h7 fun s8 =>
 callS S i_laws_toTileS [.sl s8] h7 fun s10 h9 =>
 isPt p4 (
 st1 (Pt.add p4 1) (.sl s10) h9 fun h11 =>
 ldA p4 2 h11 fun cs12 =>
 stN p2 2 cs12 h11 fun h13 =>
 ldA p2 2 h13 fun cs14 =>
 K (.agg cs14) h13))))
theorem laws_toSet_main_link (S : SatT) (K : AVal → H → Prop) (x0 : List AVal) (h : H) : cwp S tab laws_toSet_M [] (bodyOf Try.f10) (kFun tab Try.f10.results.toList K) (fr0 Try.f10 [.agg x0]) h = laws_toSet_main S K x0 h := by kernel_rfl
theorem laws_toSet_call (x0 : List AVal) (h : H) (K : List AVal → H → Prop) (hm : laws_toSet_main (Sat Try.prog) (fun v h' => ∃ r, v = .agg r ∧ K r h') x0 h) : callA (Sat Try.prog) i_laws_toSet [.agg x0] h K := by
  have := Sat.ex tok mixed laws_toSet_M Try.func10 (c := bodyOf Try.f10) (by kernel_rfl) (calls_of Try.func10 (c := bodyOf Try.f10) (by kernel_rfl) (by decide)) ((laws_toSet_main_link _ _ x0 h).mpr hm)
  obtain ⟨v, h2, h3, r, rfl, h4⟩ := this; exact ⟨r, h2, h3, h4⟩

/-! ### loop.example/g01354/impl.TransposedSet$1 -/
def impl_TransposedSet_1_M : Nat → List Nat := fun i => []
def impl_TransposedSet_1_main (S : SatT) (K : AVal → H → Prop) (x0 : List AVal) (h : H) : Prop :=
 newK 4 x0 h fun p0 h1 =>
 newO [.int .i64 (0), .int .i64 (0), .int .i64 (0), .int .i64 (0)] h1 fun p2 h3 =>
 ldA p0 4 h3 fun cs4 =>
 callA S i_impl_Tile_sides [.agg cs4, .int .i64 (1), .int .i64 (0), .int .i64 (3), .int .i64 (2)] h3 fun cs6 h5 =>
 stN p2 4 cs6 h5 fun h7 =>
 ldA p2 4 h7 fun cs8 =>
 K (.agg cs8) h7
theorem impl_TransposedSet_1_main_link (S : SatT) (K : AVal → H → Prop) (x0 : List AVal) (h : H) : cwp S tab impl_TransposedSet_1_M [] (bodyOf Try.f81) (kFun tab Try.f81.results.toList K) (fr0 Try.f81 [.agg x0]) h = impl_TransposedSet_1_main S K x0 h := by kernel_rfl
theorem impl_TransposedSet_1_call (x0 : List AVal) (h : H) (K : List AVal → H → Prop) (hm : impl_TransposedSet_1_main (Sat Try.prog) (fun v h' => ∃ r, v = .agg r ∧ K r h') x0 h) : callA (Sat Try.prog) i_impl_TransposedSet_1 [.agg x0] h K := by
  have := Sat.ex tok mixed impl_TransposedSet_1_M Try.func81 (c := bodyOf Try.f81) (by kernel_rfl) (calls_of Try.func81 (c := bodyOf Try.f81) (by kernel_rfl) (by decide)) ((impl_TransposedSet_1_main_link _ _ x0 h).mpr hm)
  obtain ⟨v, h2, h3, r, rfl, h4⟩ := this; exact ⟨r, h2, h3, h4⟩

/-! ### slices.SortedFunc[loop.example/g01354/impl.Tile] -/
def slices_SortedFunc_impl_Tile__M : Nat → List Nat := fun i => []
def slices_SortedFunc_impl_Tile__main (S : SatT) (K : AVal → H → Prop) (x0 : AVal) (x1 : AVal) (h : H) : Prop :=
 callS S i_slices_Collect_impl_Tile_ [x0] h fun s1 h0 =>
 callV S i_slices_SortFunc_s_impl_Tile_impl_Tile_ [.sl s1, x1] h0 fun v3 h2 =>
 K (.sl s1) h2
theorem slices_SortedFunc_impl_Tile__main_link (S : SatT) (K : AVal → H → Prop) (x0 : AVal) (x1 : AVal) (h : H) : cwp S tab slices_SortedFunc_impl_Tile__M [] (bodyOf Try.f53) (kFun tab Try.f53.results.toList K) (fr0 Try.f53 [x0, x1]) h = slices_SortedFunc_impl_Tile__main S K x0 x1 h := by kernel_rfl
theorem slices_SortedFunc_impl_Tile__call (x0 : AVal) (x1 : AVal) (h : H) (K : Sl → H → Prop) (hm : slices_SortedFunc_impl_Tile__main (Sat Try.prog) (fun v h' => ∃ r, v = .sl r ∧ K r h') x0 x1 h) : callS (Sat Try.prog) i_slices_SortedFunc_impl_Tile_ [x0, x1] h K := by
  have := Sat.ex tok mixed slices_SortedFunc_impl_Tile__M Try.func53 (c := bodyOf Try.f53) (by kernel_rfl) (calls_of Try.func53 (c := bodyOf Try.f53) (by kernel_rfl) (by decide)) ((slices_SortedFunc_impl_Tile__main_link _ _ x0 x1 h).mpr hm)
  obtain ⟨v, h2, h3, r, rfl, h4⟩ := this; exact ⟨r, h2, h3, h4⟩

/-! ### (loop.example/g01354/impl.Set).isNumber -/
def impl_Set_isNumber_M : Nat → List Nat := fun i => []
def impl_Set_isNumber_main (S : SatT) (K : AVal → H → Prop) (x0 : List AVal) (x1 : Int) (h : H) : Prop :=
 newK 2 x0 h fun p0 h1 =>
 isPt p0 (
 ldS (Pt.add p0 1) h1 fun s2 =>
 callB S i_impl_within [.int .i64 x1, .int .i64 (0), .int .i64 (w64 ((s2.len : Int) - (1)))] h1 fun b4 h3 =>
 K (.bool b4) h3)
theorem impl_Set_isNumber_main_link (S : SatT) (K : AVal → H → Prop) (x0 : List AVal) (x1 : Int) (h : H) : cwp S tab impl_Set_isNumber_M [] (bodyOf Try.f69) (kFun tab Try.f69.results.toList K) (fr0 Try.f69 [.agg x0, .int .i64 x1]) h = impl_Set_isNumber_main S K x0 x1 h := by kernel_rfl
theorem impl_Set_isNumber_call (x0 : List AVal) (x1 : Int) (h : H) (K : Bool → H → Prop) (hm : impl_Set_isNumber_main (Sat Try.prog) (fun v h' => ∃ r, v = .bool r ∧ K r h') x0 x1 h) : callB (Sat Try.prog) i_impl_Set_isNumber [.agg x0, .int .i64 x1] h K := by
  have := Sat.ex tok mixed impl_Set_isNumber_M Try.func69 (c := bodyOf Try.f69) (by kernel_rfl) (calls_of Try.func69 (c := bodyOf Try.f69) (by kernel_rfl) (by decide)) ((impl_Set_isNumber_main_link _ _ x0 x1 h).mpr hm)
  obtain ⟨v, h2, h3, r, rfl, h4⟩ := this; exact ⟨r, h2, h3, h4⟩

/-! ### loop.example/g01354/laws.szSet -/
def laws_szSet_M : Nat → List Nat := fun i => []
def laws_szSet_main (S : SatT) (K : AVal → H → Prop) (x0 : List AVal) (x1 : Int) (h : H) : Prop :=
 newK 2 x0 h fun p0 h1 =>
 isPt p0 (
 ldS (Pt.add p0 1) h1 fun s2 =>
 callI S .i64 i_laws_szTileS [.sl s2, .int .i64 x1] h1 fun n4 h3 =>
 bif (decide (n4 < (0))) then
 K (.int .i64 (-1)) h3
 else
 K (.int .i64 n4) h3)
theorem laws_szSet_main_link (S : SatT) (K : AVal → H → Prop) (x0 : List AVal) (x1 : Int) (h : H) : cwp S tab laws_szSet_M [] (bodyOf Try.f8) (kFun tab Try.f8.results.toList K) (fr0 Try.f8 [.agg x0, .int .i64 x1]) h = laws_szSet_main S K x0 x1 h := by kernel_rfl
theorem laws_szSet_call (x0 : List AVal) (x1 : Int) (h : H) (K : Int → H → Prop) (hm : laws_szSet_main (Sat Try.prog) (fun v h' => ∃ r, v = .int .i64 r ∧ K r h') x0 x1 h) : callI (Sat Try.prog) .i64 i_laws_szSet [.agg x0, .int .i64 x1] h K := by
  have := Sat.ex tok mixed laws_szSet_M Try.func8 (c := bodyOf Try.f8) (by kernel_rfl) (calls_of Try.func8 (c := bodyOf Try.f8) (by kernel_rfl) (by decide)) ((laws_szSet_main_link _ _ x0 x1 h).mpr hm)
  obtain ⟨v, h2, h3, r, rfl, h4⟩ := this; exact ⟨r, h2, h3, h4⟩

/-! ### loop.example/g01354/impl.isTile$1 -/
def impl_isTile_1_M : Nat → List Nat := fun i => []
def impl_isTile_1_main (S : SatT) (K : AVal → H → Prop) (x0 : Int) (x1 : Pt) (h : H) : Prop :=
 ldI .i64 x1 h fun n0 =>
 callB S i_impl_within [.int .i64 x0, .int .i64 (0), .int .i64 (w64 (n0 - (1)))] h fun b2 h1 =>
 K (.bool (!b2)) h1
theorem impl_isTile_1_main_link (S : SatT) (K : AVal → H → Prop) (x0 : Int) (x1 : Pt) (h : H) : cwp S tab impl_isTile_1_M [] (bodyOf Try.f93) (kFun tab Try.f93.results.toList K) (fr0 Try.f93 [.int .i64 x0, .ptr x1]) h = impl_isTile_1_main S K x0 x1 h := by kernel_rfl
theorem impl_isTile_1_call (x0 : Int) (x1 : Pt) (h : H) (K : Bool → H → Prop) (hm : impl_isTile_1_main (Sat Try.prog) (fun v h' => ∃ r, v = .bool r ∧ K r h') x0 x1 h) : callB (Sat Try.prog) i_impl_isTile_1 [.int .i64 x0, .ptr x1] h K := by
  have := Sat.ex tok mixed impl_isTile_1_M Try.func93 (c := bodyOf Try.f93) (by kernel_rfl) (calls_of Try.func93 (c := bodyOf Try.f93) (by kernel_rfl) (by decide)) ((impl_isTile_1_main_link _ _ x0 x1 h).mpr hm)
  obtain ⟨v, h2, h3, r, rfl, h4⟩ := this; exact ⟨r, h2, h3, h4⟩

/-! ### loop.example/g01354/impl.areSets$1 -/
def impl_areSets_1_M : Nat → List Nat := fun i => []
def impl_areSets_1_main (S : SatT) (K : AVal → H → Prop) (x0 : List AVal) (h : H) : Prop :=
 newK 2 x0 h fun p0 h1 =>
 ldA p0 2 h1 fun cs2 =>
 callB S i_impl_IsSet [.agg cs2] h1 fun b4 h3 =>
 K (.bool (!b4)) h3
theorem impl_areSets_1_main_link (S : SatT) (K : AVal → H → Prop) (x0 : List AVal) (h : H) : cwp S tab impl_areSets_1_M [] (bodyOf Try.f63) (kFun tab Try.f63.results.toList K) (fr0 Try.f63 [.agg x0]) h = impl_areSets_1_main S K x0 h := by kernel_rfl
theorem impl_areSets_1_call (x0 : List AVal) (h : H) (K : Bool → H → Prop) (hm : impl_areSets_1_main (Sat Try.prog) (fun v h' => ∃ r, v = .bool r ∧ K r h') x0 h) : callB (Sat Try.prog) i_impl_areSets_1 [.agg x0] h K := by
  have := Sat.ex tok mixed impl_areSets_1_M Try.func63 (c := bodyOf Try.f63) (by kernel_rfl) (calls_of Try.func63 (c := bodyOf Try.f63) (by kernel_rfl) (by decide)) ((impl_areSets_1_main_link _ _ x0 h).mpr hm)
  obtain ⟨v, h2, h3, r, rfl, h4⟩ := this; exact ⟨r, h2, h3, h4⟩

/-! ### cmp.isNaN[int64] -/
def cmp_isNaN_int64__M : Nat → List Nat := fun i => []
def cmp_isNaN_int64__main (S : SatT) (K : AVal → H → Prop) (x0 : Int) (h : H) : Prop :=
 K (.bool (x0 != x0)) h
theorem cmp_isNaN_int64__main_link (S : SatT) (K : AVal → H → Prop) (x0 : Int) (h : H) : cwp S tab cmp_isNaN_int64__M [] (bodyOf Try.f105) (kFun tab Try.f105.results.toList K) (fr0 Try.f105 [.int .i64 x0]) h = cmp_isNaN_int64__main S K x0 h := by kernel_rfl
theorem cmp_isNaN_int64__call (x0 : Int) (h : H) (K : Bool → H → Prop) (hm : cmp_isNaN_int64__main (Sat Try.prog) (fun v h' => ∃ r, v = .bool r ∧ K r h') x0 h) : callB (Sat Try.prog) i_cmp_isNaN_int64_ [.int .i64 x0] h K := by
  have := Sat.ex tok mixed cmp_isNaN_int64__M Try.func105 (c := bodyOf Try.f105) (by kernel_rfl) (calls_of Try.func105 (c := bodyOf Try.f105) (by kernel_rfl) (by decide)) ((cmp_isNaN_int64__main_link _ _ x0 h).mpr hm)
  obtain ⟨v, h2, h3, r, rfl, h4⟩ := this; exact ⟨r, h2, h3, h4⟩

end Go.Proofs.Ytlbglfgienklfaa.Cl
