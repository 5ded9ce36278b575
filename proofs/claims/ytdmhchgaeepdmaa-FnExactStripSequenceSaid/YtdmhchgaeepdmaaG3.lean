/- Typed forms of functions of the program, and their links. Printed by program. No claim is stated here. -/
import Derived.Test.YtdmhchgaeepdmaaGTab
set_option linter.unusedVariables false
namespace Go.Proofs.Ytdmhchgaeepdmaa.Cl
open Go
/-! ### loop.example/g01354/impl.reach -/
def impl_reach_M : Nat → List Nat := fun i => bif i == 8 then [3, 9, 10, 38, 39, 43, 44, 48, 49] else bif i == 6 then [3, 9, 38, 39, 43, 44] else bif i == 4 then [3, 38, 39] else bif i == 2 then [3, 6, 13, 14, 15, 20, 21, 22] else bif i == 0 then [3, 13, 14, 15] else []
def impl_reach_ks2 (S : SatT) (K : AVal → H → Prop) : Kont := kSeq (cwp S tab impl_reach_M [] (sub [1, 1, 1] (bodyOf Try.f109)) (kFun tab (Try.f109).results.toList K)) (kFun tab (Try.f109).results.toList K)
def impl_reach_e0 (s3_ : Sl) (s13_ : Sl) (i14_ : Int) (i15_ : Int) : Frame := [U, U, U, .sl s3_, U, U, U, U, U, U, U, U, U, .sl s13_, .int .i64 i14_, .int .i64 i15_, U, U, U, U, U, U, U, U, U, U, U, U, U, U, U, U, U, U, U, U, U, U, U, U, U, U, U, U, U, U, U, U, U, U, U, U, U, U, U, U, U, U, U, U, U, U, U, U, U, U, U, U, U, U, U, U, U, U, U, U, U, U, U, U, U, U, U, U, U, U, U]
def impl_reach_w0 (S : SatT) (K : AVal → H → Prop) : (Frame → H → Prop) → Frame → H → Prop := fun X fr h => cwp S tab impl_reach_M (impl_reach_M 0) (sub [1, 1, 0, 1, 0, 0] (bodyOf Try.f109)) (kSeq (fun fr h => X (mask (impl_reach_M 0) fr) h) (kBlk 0 (impl_reach_ks2 S K))) fr h
def impl_reach_L0 (S : SatT) (K : AVal → H → Prop) (s3_ : Sl) (s13_ : Sl) (i14_ : Int) (i15_ : Int) (h : H) : Prop := loopK (impl_reach_w0 S K) (impl_reach_e0 s3_ s13_ i14_ i15_) h
def impl_reach_ks6 (S : SatT) (K : AVal → H → Prop) (X0 : Frame → H → Prop) : Kont := kSeq (cwp S tab impl_reach_M (impl_reach_M 0) (sub [1, 1, 0, 1, 0, 0, 1, 1, 1] (bodyOf Try.f109)) (kSeq (fun fr h => X0 (mask (impl_reach_M 0) fr) h) (kBlk 0 (impl_reach_ks2 S K)))) (kSeq (fun fr h => X0 (mask (impl_reach_M 0) fr) h) (kBlk 0 (impl_reach_ks2 S K)))
def impl_reach_ks9 (S : SatT) (K : AVal → H → Prop) (X0 : Frame → H → Prop) : Kont := kSeq (cwp S tab impl_reach_M (impl_reach_M 1) (sub [1, 1, 0, 1, 0, 0, 1, 1, 0, 0, 1, 1, 1] (bodyOf Try.f109)) (kBlk 1 (impl_reach_ks6 S K X0))) (kBlk 1 (impl_reach_ks6 S K X0))
def impl_reach_e2 (s3_ : Sl) (s6_ : Sl) (s13_ : Sl) (i14_ : Int) (i15_ : Int) (s20_ : Sl) (i21_ : Int) (i22_ : Int) : Frame := [U, U, U, .sl s3_, U, U, .sl s6_, U, U, U, U, U, U, .sl s13_, .int .i64 i14_, .int .i64 i15_, U, U, U, U, .sl s20_, .int .i64 i21_, .int .i64 i22_, U, U, U, U, U, U, U, U, U, U, U, U, U, U, U, U, U, U, U, U, U, U, U, U, U, U, U, U, U, U, U, U, U, U, U, U, U, U, U, U, U, U, U, U, U, U, U, U, U, U, U, U, U, U, U, U, U, U, U, U, U, U, U, U]
def impl_reach_w2 (S : SatT) (K : AVal → H → Prop) (X0 : Frame → H → Prop) : (Frame → H → Prop) → Frame → H → Prop := fun X fr h => cwp S tab impl_reach_M (impl_reach_M 2) (sub [1, 1, 0, 1, 0, 0, 1, 1, 0, 0, 1, 1, 0, 1, 0, 0] (bodyOf Try.f109)) (kSeq (fun fr h => X (mask (impl_reach_M 2) fr) h) (kBlk 2 (impl_reach_ks9 S K X0))) fr h
def impl_reach_L2 (S : SatT) (K : AVal → H → Prop) (X0 : Frame → H → Prop) (s3_ : Sl) (s6_ : Sl) (s13_ : Sl) (i14_ : Int) (i15_ : Int) (s20_ : Sl) (i21_ : Int) (i22_ : Int) (h : H) : Prop := loopK (impl_reach_w2 S K X0) (impl_reach_e2 s3_ s6_ s13_ i14_ i15_ s20_ i21_ i22_) h
def impl_reach_C1 (S : SatT) (K : AVal → H → Prop) (X0 : Frame → H → Prop) (s3_ : Sl) (s13_ : Sl) (i14_ : Int) (i15_ : Int) (h : H) : Prop :=
 X0 (impl_reach_e0 s3_ s13_ i14_ (w64 (i15_ + (1)))) h
def impl_reach_C2 (S : SatT) (K : AVal → H → Prop) (X0 : Frame → H → Prop) (s3_ : Sl) (s6_ : Sl) (s13_ : Sl) (i14_ : Int) (i15_ : Int) (h : H) : Prop :=
 newS 1 1 [.sl s6_] h fun s0 h1 =>
 app s3_ s0 1 h1 fun s2 h3 =>
 impl_reach_C1 S K X0 s2 s13_ i14_ i15_ h3
def impl_reach_b2 (S : SatT) (K : AVal → H → Prop) (X0 : Frame → H → Prop) (X2 : Frame → H → Prop) (s3_ : Sl) (s6_ : Sl) (s13_ : Sl) (i14_ : Int) (i15_ : Int) (s20_ : Sl) (i21_ : Int) (i22_ : Int) (h : H) : Prop :=
 bif (decide (i22_ < i21_)) then
 ixS s20_ 1 i22_ fun p0 =>
 ldI .i64 p0 h fun n1 =>
 newS 1 1 [.bool (decide (n1 > (0)))] h fun s2 h3 =>
 app s6_ s2 1 h3 fun s4 h5 =>
 X2 (impl_reach_e2 s3_ s4 s13_ i14_ i15_ s20_ i21_ (w64 (i22_ + (1)))) h5
 else
 impl_reach_C2 S K X0 s3_ s6_ s13_ i14_ i15_ h
theorem impl_reach_link2 (S : SatT) (K : AVal → H → Prop) (X0 : Frame → H → Prop) (X2 : Frame → H → Prop) (s3_ : Sl) (s6_ : Sl) (s13_ : Sl) (i14_ : Int) (i15_ : Int) (s20_ : Sl) (i21_ : Int) (i22_ : Int) (h : H) : impl_reach_w2 S K X0 X2 (impl_reach_e2 s3_ s6_ s13_ i14_ i15_ s20_ i21_ i22_) h = impl_reach_b2 S K X0 X2 s3_ s6_ s13_ i14_ i15_ s20_ i21_ i22_ h := by kernel_rfl
theorem impl_reach_rule2 (S : SatT) (K : AVal → H → Prop) (X0 : Frame → H → Prop) (s3_ : Sl) (s13_ : Sl) (i14_ : Int) (i15_ : Int) (s20_ : Sl) (i21_ : Int) (I_ : Sl → Int → H → Prop) (m_ : Sl → Int → H → Nat)
    (hs : ∀ (X2 : Frame → H → Prop) (s6_ : Sl) (i22_ : Int) (h : H), I_ s6_ i22_ h → (∀ (s6_' : Sl) (i22_' : Int) (h' : H), I_ s6_' i22_' h' → m_ s6_' i22_' h' < m_ s6_ i22_ h → X2 (impl_reach_e2 s3_ s6_' s13_ i14_ i15_ s20_ i21_ i22_') h') → impl_reach_b2 S K X0 X2 s3_ s6_ s13_ i14_ i15_ s20_ i21_ i22_ h) (s6_ : Sl) (i22_ : Int) {h : H} (h0 : I_ s6_ i22_ h) : impl_reach_L2 S K X0 s3_ s6_ s13_ i14_ i15_ s20_ i21_ i22_ h :=
  loop_rule (σ := (Sl) × (Int)) (fun s_ => impl_reach_e2 s3_ (s_.1) s13_ i14_ i15_ s20_ i21_ (s_.2)) (fun s_ h => I_ (s_.1) (s_.2) h) (fun s_ h => m_ (s_.1) (s_.2) h)
    (fun X s_ h hi hx => (impl_reach_link2 S K X0 X s3_ (s_.1) s13_ i14_ i15_ s20_ i21_ (s_.2) h).mpr (hs X (s_.1) (s_.2) h hi fun s6_' i22_' h' hi' hm' => hx (s6_', i22_') h' hi' hm')) (s6_, i22_) h0
theorem impl_reach_unroll2 (S : SatT) (K : AVal → H → Prop) (X0 : Frame → H → Prop) (s3_ : Sl) (s6_ : Sl) (s13_ : Sl) (i14_ : Int) (i15_ : Int) (s20_ : Sl) (i21_ : Int) (i22_ : Int) (h : H) (hb : impl_reach_b2 S K X0 (fun fr h => loopK (impl_reach_w2 S K X0) fr h) s3_ s6_ s13_ i14_ i15_ s20_ i21_ i22_ h) : impl_reach_L2 S K X0 s3_ s6_ s13_ i14_ i15_ s20_ i21_ i22_ h := loop_unroll ((impl_reach_link2 S K X0 _ s3_ s6_ s13_ i14_ i15_ s20_ i21_ i22_ h).mpr hb)
def impl_reach_ks15 (S : SatT) (K : AVal → H → Prop) : Kont := kSeq (cwp S tab impl_reach_M [] (sub [1, 1, 1, 1] (bodyOf Try.f109)) (kFun tab (Try.f109).results.toList K)) (kFun tab (Try.f109).results.toList K)
def impl_reach_e4 (s3_ : Sl) (i38_ : Int) (i39_ : Int) : Frame := [U, U, U, .sl s3_, U, U, U, U, U, U, U, U, U, U, U, U, U, U, U, U, U, U, U, U, U, U, U, U, U, U, U, U, U, U, U, U, U, U, .int .i64 i38_, .int .i64 i39_, U, U, U, U, U, U, U, U, U, U, U, U, U, U, U, U, U, U, U, U, U, U, U, U, U, U, U, U, U, U, U, U, U, U, U, U, U, U, U, U, U, U, U, U, U, U, U]
def impl_reach_w4 (S : SatT) (K : AVal → H → Prop) : (Frame → H → Prop) → Frame → H → Prop := fun X fr h => cwp S tab impl_reach_M (impl_reach_M 4) (sub [1, 1, 1, 0, 1, 0, 0] (bodyOf Try.f109)) (kSeq (fun fr h => X (mask (impl_reach_M 4) fr) h) (kBlk 4 (impl_reach_ks15 S K))) fr h
def impl_reach_L4 (S : SatT) (K : AVal → H → Prop) (s3_ : Sl) (i38_ : Int) (i39_ : Int) (h : H) : Prop := loopK (impl_reach_w4 S K) (impl_reach_e4 s3_ i38_ i39_) h
def impl_reach_ks19 (S : SatT) (K : AVal → H → Prop) (X4 : Frame → H → Prop) : Kont := kSeq (cwp S tab impl_reach_M (impl_reach_M 4) (sub [1, 1, 1, 0, 1, 0, 0, 1, 1, 1] (bodyOf Try.f109)) (kSeq (fun fr h => X4 (mask (impl_reach_M 4) fr) h) (kBlk 4 (impl_reach_ks15 S K)))) (kSeq (fun fr h => X4 (mask (impl_reach_M 4) fr) h) (kBlk 4 (impl_reach_ks15 S K)))
def impl_reach_e6 (s3_ : Sl) (i9_ : Int) (i38_ : Int) (i39_ : Int) (i43_ : Int) (i44_ : Int) : Frame := [U, U, U, .sl s3_, U, U, U, U, U, .int .i64 i9_, U, U, U, U, U, U, U, U, U, U, U, U, U, U, U, U, U, U, U, U, U, U, U, U, U, U, U, U, .int .i64 i38_, .int .i64 i39_, U, U, U, .int .i64 i43_, .int .i64 i44_, U, U, U, U, U, U, U, U, U, U, U, U, U, U, U, U, U, U, U, U, U, U, U, U, U, U, U, U, U, U, U, U, U, U, U, U, U, U, U, U, U, U]
def impl_reach_w6 (S : SatT) (K : AVal → H → Prop) (X4 : Frame → H → Prop) : (Frame → H → Prop) → Frame → H → Prop := fun X fr h => cwp S tab impl_reach_M (impl_reach_M 6) (sub [1, 1, 1, 0, 1, 0, 0, 1, 1, 0, 0, 1, 1, 0, 0] (bodyOf Try.f109)) (kSeq (fun fr h => X (mask (impl_reach_M 6) fr) h) (kBlk 6 (kBlk 5 (impl_reach_ks19 S K X4)))) fr h
def impl_reach_L6 (S : SatT) (K : AVal → H → Prop) (X4 : Frame → H → Prop) (s3_ : Sl) (i9_ : Int) (i38_ : Int) (i39_ : Int) (i43_ : Int) (i44_ : Int) (h : H) : Prop := loopK (impl_reach_w6 S K X4) (impl_reach_e6 s3_ i9_ i38_ i39_ i43_ i44_) h
def impl_reach_ks24 (S : SatT) (K : AVal → H → Prop) (X4 : Frame → H → Prop) (X6 : Frame → H → Prop) : Kont := kSeq (cwp S tab impl_reach_M (impl_reach_M 6) (sub [1, 1, 1, 0, 1, 0, 0, 1, 1, 0, 0, 1, 1, 0, 0, 1, 1, 1] (bodyOf Try.f109)) (kSeq (fun fr h => X6 (mask (impl_reach_M 6) fr) h) (kBlk 6 (kBlk 5 (impl_reach_ks19 S K X4))))) (kSeq (fun fr h => X6 (mask (impl_reach_M 6) fr) h) (kBlk 6 (kBlk 5 (impl_reach_ks19 S K X4))))
def impl_reach_e8 (s3_ : Sl) (i9_ : Int) (i10_ : Int) (i38_ : Int) (i39_ : Int) (i43_ : Int) (i44_ : Int) (i48_ : Int) (i49_ : Int) : Frame := [U, U, U, .sl s3_, U, U, U, U, U, .int .i64 i9_, .int .i64 i10_, U, U, U, U, U, U, U, U, U, U, U, U, U, U, U, U, U, U, U, U, U, U, U, U, U, U, U, .int .i64 i38_, .int .i64 i39_, U, U, U, .int .i64 i43_, .int .i64 i44_, U, U, U, .int .i64 i48_, .int .i64 i49_, U, U, U, U, U, U, U, U, U, U, U, U, U, U, U, U, U, U, U, U, U, U, U, U, U, U, U, U, U, U, U, U, U, U, U, U, U]
def impl_reach_w8 (S : SatT) (K : AVal → H → Prop) (X4 : Frame → H → Prop) (X6 : Frame → H → Prop) : (Frame → H → Prop) → Frame → H → Prop := fun X fr h => cwp S tab impl_reach_M (impl_reach_M 8) (sub [1, 1, 1, 0, 1, 0, 0, 1, 1, 0, 0, 1, 1, 0, 0, 1, 1, 0, 0, 1, 1, 0, 0] (bodyOf Try.f109)) (kSeq (fun fr h => X (mask (impl_reach_M 8) fr) h) (kBlk 8 (kBlk 7 (impl_reach_ks24 S K X4 X6)))) fr h
def impl_reach_L8 (S : SatT) (K : AVal → H → Prop) (X4 : Frame → H → Prop) (X6 : Frame → H → Prop) (s3_ : Sl) (i9_ : Int) (i10_ : Int) (i38_ : Int) (i39_ : Int) (i43_ : Int) (i44_ : Int) (i48_ : Int) (i49_ : Int) (h : H) : Prop := loopK (impl_reach_w8 S K X4 X6) (impl_reach_e8 s3_ i9_ i10_ i38_ i39_ i43_ i44_ i48_ i49_) h
def impl_reach_C7 (S : SatT) (K : AVal → H → Prop) (X4 : Frame → H → Prop) (X6 : Frame → H → Prop) (s3_ : Sl) (i9_ : Int) (i38_ : Int) (i39_ : Int) (i43_ : Int) (i44_ : Int) (h : H) : Prop :=
 X6 (impl_reach_e6 s3_ i9_ i38_ i39_ i43_ (w64 (i44_ + (1)))) h
def impl_reach_C8 (S : SatT) (K : AVal → H → Prop) (X4 : Frame → H → Prop) (X6 : Frame → H → Prop) (s3_ : Sl) (i9_ : Int) (i38_ : Int) (i39_ : Int) (i43_ : Int) (i44_ : Int) (h : H) : Prop :=
 impl_reach_C7 S K X4 X6 s3_ i9_ i38_ i39_ i43_ i44_ h
def impl_reach_b8 (S : SatT) (K : AVal → H → Prop) (X4 : Frame → H → Prop) (X6 : Frame → H → Prop) (X8 : Frame → H → Prop) (s3_ : Sl) (i9_ : Int) (i10_ : Int) (i38_ : Int) (i39_ : Int) (i43_ : Int) (i44_ : Int) (i48_ : Int) (i49_ : Int) (h : H) : Prop :=
 bif (decide (i49_ < i48_)) then
 ixS s3_ 1 i10_ fun p0 =>
 ldS p0 h fun s1 =>
 ixS s3_ 1 i10_ fun p2 =>
 ldS p2 h fun s3 =>
 ixS s3 1 i49_ fun p4 =>
 ldB p4 h fun b5 =>
 bif b5 then
 ixS s1 1 i49_ fun p6 =>
 st1 p6 (.bool true) h fun h7 =>
 X8 (impl_reach_e8 s3_ i9_ i10_ i38_ i39_ i43_ i44_ i48_ (w64 (i49_ + (1)))) h7
 else
 ixS s3_ 1 i10_ fun p8 =>
 ldS p8 h fun s9 =>
 ixS s9 1 i9_ fun p10 =>
 ldB p10 h fun b11 =>
 bif b11 then
 ixS s3_ 1 i9_ fun p12 =>
 ldS p12 h fun s13 =>
 ixS s13 1 i49_ fun p14 =>
 ldB p14 h fun b15 =>
 ixS s1 1 i49_ fun p16 =>
 st1 p16 (.bool b15) h fun h17 =>
 X8 (impl_reach_e8 s3_ i9_ i10_ i38_ i39_ i43_ i44_ i48_ (w64 (i49_ + (1)))) h17
 else
 ixS s1 1 i49_ fun p18 =>
 st1 p18 (.bool false) h fun h19 =>
 X8 (impl_reach_e8 s3_ i9_ i10_ i38_ i39_ i43_ i44_ i48_ (w64 (i49_ + (1)))) h19
 else
 impl_reach_C8 S K X4 X6 s3_ i9_ i38_ i39_ i43_ i44_ h
theorem impl_reach_link8 (S : SatT) (K : AVal → H → Prop) (X4 : Frame → H → Prop) (X6 : Frame → H → Prop) (X8 : Frame → H → Prop) (s3_ : Sl) (i9_ : Int) (i10_ : Int) (i38_ : Int) (i39_ : Int) (i43_ : Int) (i44_ : Int) (i48_ : Int) (i49_ : Int) (h : H) : impl_reach_w8 S K X4 X6 X8 (impl_reach_e8 s3_ i9_ i10_ i38_ i39_ i43_ i44_ i48_ i49_) h = impl_reach_b8 S K X4 X6 X8 s3_ i9_ i10_ i38_ i39_ i43_ i44_ i48_ i49_ h := by kernel_rfl
theorem impl_reach_rule8 (S : SatT) (K : AVal → H → Prop) (X4 : Frame → H → Prop) (X6 : Frame → H → Prop) (s3_ : Sl) (i9_ : Int) (i10_ : Int) (i38_ : Int) (i39_ : Int) (i43_ : Int) (i44_ : Int) (i48_ : Int) (I_ : Int → H → Prop) (m_ : Int → H → Nat)
    (hs : ∀ (X8 : Frame → H → Prop) (i49_ : Int) (h : H), I_ i49_ h → (∀ (i49_' : Int) (h' : H), I_ i49_' h' → m_ i49_' h' < m_ i49_ h → X8 (impl_reach_e8 s3_ i9_ i10_ i38_ i39_ i43_ i44_ i48_ i49_') h') → impl_reach_b8 S K X4 X6 X8 s3_ i9_ i10_ i38_ i39_ i43_ i44_ i48_ i49_ h) (i49_ : Int) {h : H} (h0 : I_ i49_ h) : impl_reach_L8 S K X4 X6 s3_ i9_ i10_ i38_ i39_ i43_ i44_ i48_ i49_ h :=
  loop_rule (σ := (Int)) (fun s_ => impl_reach_e8 s3_ i9_ i10_ i38_ i39_ i43_ i44_ i48_ (s_)) (fun s_ h => I_ (s_) h) (fun s_ h => m_ (s_) h)
    (fun X s_ h hi hx => (impl_reach_link8 S K X4 X6 X s3_ i9_ i10_ i38_ i39_ i43_ i44_ i48_ (s_) h).mpr (hs X (s_) h hi fun i49_' h' hi' hm' => hx (i49_') h' hi' hm')) (i49_) h0
theorem impl_reach_unroll8 (S : SatT) (K : AVal → H → Prop) (X4 : Frame → H → Prop) (X6 : Frame → H → Prop) (s3_ : Sl) (i9_ : Int) (i10_ : Int) (i38_ : Int) (i39_ : Int) (i43_ : Int) (i44_ : Int) (i48_ : Int) (i49_ : Int) (h : H) (hb : impl_reach_b8 S K X4 X6 (fun fr h => loopK (impl_reach_w8 S K X4 X6) fr h) s3_ i9_ i10_ i38_ i39_ i43_ i44_ i48_ i49_ h) : impl_reach_L8 S K X4 X6 s3_ i9_ i10_ i38_ i39_ i43_ i44_ i48_ i49_ h := loop_unroll ((impl_reach_link8 S K X4 X6 _ s3_ i9_ i10_ i38_ i39_ i43_ i44_ i48_ i49_ h).mpr hb)
def impl_reach_C5 (S : SatT) (K : AVal → H → Prop) (X4 : Frame → H → Prop) (s3_ : Sl) (i38_ : Int) (i39_ : Int) (h : H) : Prop :=
 X4 (impl_reach_e4 s3_ i38_ (w64 (i39_ + (1)))) h
def impl_reach_C6 (S : SatT) (K : AVal → H → Prop) (X4 : Frame → H → Prop) (s3_ : Sl) (i38_ : Int) (i39_ : Int) (h : H) : Prop :=
 impl_reach_C5 S K X4 s3_ i38_ i39_ h
def impl_reach_b6 (S : SatT) (K : AVal → H → Prop) (X4 : Frame → H → Prop) (X6 : Frame → H → Prop) (s3_ : Sl) (i9_ : Int) (i38_ : Int) (i39_ : Int) (i43_ : Int) (i44_ : Int) (h : H) : Prop :=
 bif (decide (i44_ < i43_)) then
 impl_reach_L8 S K X4 X6 s3_ i9_ i44_ i38_ i39_ i43_ i44_ (s3_.len : Int) (0) h
 else
 impl_reach_C6 S K X4 s3_ i38_ i39_ h
theorem impl_reach_link6 (S : SatT) (K : AVal → H → Prop) (X4 : Frame → H → Prop) (X6 : Frame → H → Prop) (s3_ : Sl) (i9_ : Int) (i38_ : Int) (i39_ : Int) (i43_ : Int) (i44_ : Int) (h : H) : impl_reach_w6 S K X4 X6 (impl_reach_e6 s3_ i9_ i38_ i39_ i43_ i44_) h = impl_reach_b6 S K X4 X6 s3_ i9_ i38_ i39_ i43_ i44_ h := by kernel_rfl
theorem impl_reach_rule6 (S : SatT) (K : AVal → H → Prop) (X4 : Frame → H → Prop) (s3_ : Sl) (i9_ : Int) (i38_ : Int) (i39_ : Int) (i43_ : Int) (I_ : Int → H → Prop) (m_ : Int → H → Nat)
    (hs : ∀ (X6 : Frame → H → Prop) (i44_ : Int) (h : H), I_ i44_ h → (∀ (i44_' : Int) (h' : H), I_ i44_' h' → m_ i44_' h' < m_ i44_ h → X6 (impl_reach_e6 s3_ i9_ i38_ i39_ i43_ i44_') h') → impl_reach_b6 S K X4 X6 s3_ i9_ i38_ i39_ i43_ i44_ h) (i44_ : Int) {h : H} (h0 : I_ i44_ h) : impl_reach_L6 S K X4 s3_ i9_ i38_ i39_ i43_ i44_ h :=
  loop_rule (σ := (Int)) (fun s_ => impl_reach_e6 s3_ i9_ i38_ i39_ i43_ (s_)) (fun s_ h => I_ (s_) h) (fun s_ h => m_ (s_) h)
    (fun X s_ h hi hx => (impl_reach_link6 S K X4 X s3_ i9_ i38_ i39_ i43_ (s_) h).mpr (hs X (s_) h hi fun i44_' h' hi' hm' => hx (i44_') h' hi' hm')) (i44_) h0
theorem impl_reach_unroll6 (S : SatT) (K : AVal → H → Prop) (X4 : Frame → H → Prop) (s3_ : Sl) (i9_ : Int) (i38_ : Int) (i39_ : Int) (i43_ : Int) (i44_ : Int) (h : H) (hb : impl_reach_b6 S K X4 (fun fr h => loopK (impl_reach_w6 S K X4) fr h) s3_ i9_ i38_ i39_ i43_ i44_ h) : impl_reach_L6 S K X4 s3_ i9_ i38_ i39_ i43_ i44_ h := loop_unroll ((impl_reach_link6 S K X4 _ s3_ i9_ i38_ i39_ i43_ i44_ h).mpr hb)
def impl_reach_C4 (S : SatT) (K : AVal → H → Prop) (s3_ : Sl) (h : H) : Prop :=
 K (.sl s3_) h
def impl_reach_b4 (S : SatT) (K : AVal → H → Prop) (X4 : Frame → H → Prop) (s3_ : Sl) (i38_ : Int) (i39_ : Int) (h : H) : Prop :=
 bif (decide (i39_ < i38_)) then
 impl_reach_L6 S K X4 s3_ i39_ i38_ i39_ (s3_.len : Int) (0) h
 else
 impl_reach_C4 S K s3_ h
theorem impl_reach_link4 (S : SatT) (K : AVal → H → Prop) (X4 : Frame → H → Prop) (s3_ : Sl) (i38_ : Int) (i39_ : Int) (h : H) : impl_reach_w4 S K X4 (impl_reach_e4 s3_ i38_ i39_) h = impl_reach_b4 S K X4 s3_ i38_ i39_ h := by kernel_rfl
theorem impl_reach_rule4 (S : SatT) (K : AVal → H → Prop) (s3_ : Sl) (i38_ : Int) (I_ : Int → H → Prop) (m_ : Int → H → Nat)
    (hs : ∀ (X4 : Frame → H → Prop) (i39_ : Int) (h : H), I_ i39_ h → (∀ (i39_' : Int) (h' : H), I_ i39_' h' → m_ i39_' h' < m_ i39_ h → X4 (impl_reach_e4 s3_ i38_ i39_') h') → impl_reach_b4 S K X4 s3_ i38_ i39_ h) (i39_ : Int) {h : H} (h0 : I_ i39_ h) : impl_reach_L4 S K s3_ i38_ i39_ h :=
  loop_rule (σ := (Int)) (fun s_ => impl_reach_e4 s3_ i38_ (s_)) (fun s_ h => I_ (s_) h) (fun s_ h => m_ (s_) h)
    (fun X s_ h hi hx => (impl_reach_link4 S K X s3_ i38_ (s_) h).mpr (hs X (s_) h hi fun i39_' h' hi' hm' => hx (i39_') h' hi' hm')) (i39_) h0
theorem impl_reach_unroll4 (S : SatT) (K : AVal → H → Prop) (s3_ : Sl) (i38_ : Int) (i39_ : Int) (h : H) (hb : impl_reach_b4 S K (fun fr h => loopK (impl_reach_w4 S K) fr h) s3_ i38_ i39_ h) : impl_reach_L4 S K s3_ i38_ i39_ h := loop_unroll ((impl_reach_link4 S K _ s3_ i38_ i39_ h).mpr hb)
def impl_reach_C0 (S : SatT) (K : AVal → H → Prop) (s3_ : Sl) (h : H) : Prop :=
 impl_reach_L4 S K s3_ (s3_.len : Int) (0) h
def impl_reach_b0 (S : SatT) (K : AVal → H → Prop) (X0 : Frame → H → Prop) (s3_ : Sl) (s13_ : Sl) (i14_ : Int) (i15_ : Int) (h : H) : Prop :=
 bif (decide (i15_ < i14_)) then
 ixS s13_ 1 i15_ fun p0 =>
 ldS p0 h fun s1 =>
 newS 0 1 [] h fun s2 h3 =>
 impl_reach_L2 S K X0 s3_ s2 s13_ i14_ i15_ s1 (s1.len : Int) (0) h3
 else
 impl_reach_C0 S K s3_ h
theorem impl_reach_link0 (S : SatT) (K : AVal → H → Prop) (X0 : Frame → H → Prop) (s3_ : Sl) (s13_ : Sl) (i14_ : Int) (i15_ : Int) (h : H) : impl_reach_w0 S K X0 (impl_reach_e0 s3_ s13_ i14_ i15_) h = impl_reach_b0 S K X0 s3_ s13_ i14_ i15_ h := by kernel_rfl
theorem impl_reach_rule0 (S : SatT) (K : AVal → H → Prop) (s13_ : Sl) (i14_ : Int) (I_ : Sl → Int → H → Prop) (m_ : Sl → Int → H → Nat)
    (hs : ∀ (X0 : Frame → H → Prop) (s3_ : Sl) (i15_ : Int) (h : H), I_ s3_ i15_ h → (∀ (s3_' : Sl) (i15_' : Int) (h' : H), I_ s3_' i15_' h' → m_ s3_' i15_' h' < m_ s3_ i15_ h → X0 (impl_reach_e0 s3_' s13_ i14_ i15_') h') → impl_reach_b0 S K X0 s3_ s13_ i14_ i15_ h) (s3_ : Sl) (i15_ : Int) {h : H} (h0 : I_ s3_ i15_ h) : impl_reach_L0 S K s3_ s13_ i14_ i15_ h :=
  loop_rule (σ := (Sl) × (Int)) (fun s_ => impl_reach_e0 (s_.1) s13_ i14_ (s_.2)) (fun s_ h => I_ (s_.1) (s_.2) h) (fun s_ h => m_ (s_.1) (s_.2) h)
    (fun X s_ h hi hx => (impl_reach_link0 S K X (s_.1) s13_ i14_ (s_.2) h).mpr (hs X (s_.1) (s_.2) h hi fun s3_' i15_' h' hi' hm' => hx (s3_', i15_') h' hi' hm')) (s3_, i15_) h0
theorem impl_reach_unroll0 (S : SatT) (K : AVal → H → Prop) (s3_ : Sl) (s13_ : Sl) (i14_ : Int) (i15_ : Int) (h : H) (hb : impl_reach_b0 S K (fun fr h => loopK (impl_reach_w0 S K) fr h) s3_ s13_ i14_ i15_ h) : impl_reach_L0 S K s3_ s13_ i14_ i15_ h := loop_unroll ((impl_reach_link0 S K _ s3_ s13_ i14_ i15_ h).mpr hb)
def impl_reach_main (S : SatT) (K : AVal → H → Prop) (x0 : Sl) (h : H) : Prop :=
 newS 0 1 [] h fun s0 h1 =>
 impl_reach_L0 S K s0 x0 (x0.len : Int) (0) h1
theorem impl_reach_main_link (S : SatT) (K : AVal → H → Prop) (x0 : Sl) (h : H) : cwp S tab impl_reach_M [] (bodyOf Try.f109) (kFun tab Try.f109.results.toList K) (fr0 Try.f109 [.sl x0]) h = impl_reach_main S K x0 h := by kernel_rfl
theorem impl_reach_call (x0 : Sl) (h : H) (K : Sl → H → Prop) (hm : impl_reach_main (Sat Try.prog) (fun v h' => ∃ r, v = .sl r ∧ K r h') x0 h) : callS (Sat Try.prog) i_impl_reach [.sl x0] h K := by
  have := Sat.ex tok mixed impl_reach_M Try.func109 (c := bodyOf Try.f109) (by kernel_rfl) (calls_of Try.func109 (c := bodyOf Try.f109) (by kernel_rfl) (by decide)) ((impl_reach_main_link _ _ x0 h).mpr hm)
  obtain ⟨v, h2, h3, r, rfl, h4⟩ := this; exact ⟨r, h2, h3, h4⟩

/-! ### loop.example/g01354/spec.RecurrenceOf -/
def spec_RecurrenceOf_M : Nat → List Nat := fun i => bif i == 6 then [6, 8, 9, 11, 12, 13, 15, 17] else bif i == 4 then [6, 8, 9, 11, 12, 13, 14, 15, 16] else bif i == 2 then [6, 8, 9, 11, 12, 13] else bif i == 0 then [6, 8, 9, 10] else []
def spec_RecurrenceOf_ks6 (S : SatT) (K : AVal → H → Prop) : Kont := kSeq (cwp S tab spec_RecurrenceOf_M [] (sub [1, 1, 1, 1, 1] (bodyOf Try.f34)) (kFun tab (Try.f34).results.toList K)) (kFun tab (Try.f34).results.toList K)
def spec_RecurrenceOf_e0 (s6_ : Sl) (i8_ : Int) (s9_ : Sl) (i10_ : Int) : Frame := [U, U, U, U, U, U, .sl s6_, U, .int .i64 i8_, .sl s9_, .int .i64 i10_, U, U, U, U, U, U, U, U, U, U, U, U, U, U, U, U, U, U, U, U, U, U, U, U, U, U, U, U, U, U, U, U, U, U, U, U, U, U, U, U, U, U, U, U, U, U, U, U, U, U, U, U, U, U, U, U, U, U, U, U, U, U, U, U, U, U, U, U, U, U, U, U, U, U, U, U, U, U, U, U, U, U, U, U, U, U, U, U, U, U, U, U, U, U, U, U, U, U, U, U, U, U, U, U, U, U, U, U, U, U, U, U, U]
def spec_RecurrenceOf_w0 (S : SatT) (K : AVal → H → Prop) : (Frame → H → Prop) → Frame → H → Prop := fun X fr h => cwp S tab spec_RecurrenceOf_M (spec_RecurrenceOf_M 0) (sub [1, 1, 1, 1, 0, 1, 0, 0] (bodyOf Try.f34)) (kSeq (fun fr h => X (mask (spec_RecurrenceOf_M 0) fr) h) (kBlk 0 (spec_RecurrenceOf_ks6 S K))) fr h
def spec_RecurrenceOf_L0 (S : SatT) (K : AVal → H → Prop) (s6_ : Sl) (i8_ : Int) (s9_ : Sl) (i10_ : Int) (h : H) : Prop := loopK (spec_RecurrenceOf_w0 S K) (spec_RecurrenceOf_e0 s6_ i8_ s9_ i10_) h
def spec_RecurrenceOf_ks16 (S : SatT) (K : AVal → H → Prop) : Kont := kSeq (cwp S tab spec_RecurrenceOf_M [] (sub [1, 1, 1, 1, 1, 1, 1, 1, 1] (bodyOf Try.f34)) (kFun tab (Try.f34).results.toList K)) (kFun tab (Try.f34).results.toList K)
def spec_RecurrenceOf_e2 (s6_ : Sl) (i8_ : Int) (s9_ : Sl) (s11_ : Sl) (s12_ : Sl) (i13_ : Int) : Frame := [U, U, U, U, U, U, .sl s6_, U, .int .i64 i8_, .sl s9_, U, .sl s11_, .sl s12_, .int .i64 i13_, U, U, U, U, U, U, U, U, U, U, U, U, U, U, U, U, U, U, U, U, U, U, U, U, U, U, U, U, U, U, U, U, U, U, U, U, U, U, U, U, U, U, U, U, U, U, U, U, U, U, U, U, U, U, U, U, U, U, U, U, U, U, U, U, U, U, U, U, U, U, U, U, U, U, U, U, U, U, U, U, U, U, U, U, U, U, U, U, U, U, U, U, U, U, U, U, U, U, U, U, U, U, U, U, U, U, U, U, U, U]
def spec_RecurrenceOf_w2 (S : SatT) (K : AVal → H → Prop) : (Frame → H → Prop) → Frame → H → Prop := fun X fr h => cwp S tab spec_RecurrenceOf_M (spec_RecurrenceOf_M 2) (sub [1, 1, 1, 1, 1, 1, 1, 1, 0, 1, 0, 0] (bodyOf Try.f34)) (kSeq (fun fr h => X (mask (spec_RecurrenceOf_M 2) fr) h) (kBlk 2 (spec_RecurrenceOf_ks16 S K))) fr h
def spec_RecurrenceOf_L2 (S : SatT) (K : AVal → H → Prop) (s6_ : Sl) (i8_ : Int) (s9_ : Sl) (s11_ : Sl) (s12_ : Sl) (i13_ : Int) (h : H) : Prop := loopK (spec_RecurrenceOf_w2 S K) (spec_RecurrenceOf_e2 s6_ i8_ s9_ s11_ s12_ i13_) h
def spec_RecurrenceOf_ks20 (S : SatT) (K : AVal → H → Prop) (X2 : Frame → H → Prop) : Kont := kSeq (cwp S tab spec_RecurrenceOf_M (spec_RecurrenceOf_M 2) (sub [1, 1, 1, 1, 1, 1, 1, 1, 0, 1, 0, 0, 1, 1] (bodyOf Try.f34)) (kSeq (fun fr h => X2 (mask (spec_RecurrenceOf_M 2) fr) h) (kBlk 2 (spec_RecurrenceOf_ks16 S K)))) (kSeq (fun fr h => X2 (mask (spec_RecurrenceOf_M 2) fr) h) (kBlk 2 (spec_RecurrenceOf_ks16 S K)))
def spec_RecurrenceOf_ks22 (S : SatT) (K : AVal → H → Prop) (X2 : Frame → H → Prop) : Kont := kSeq (cwp S tab spec_RecurrenceOf_M (spec_RecurrenceOf_M 3) (sub [1, 1, 1, 1, 1, 1, 1, 1, 0, 1, 0, 0, 1, 0, 0, 1, 1] (bodyOf Try.f34)) (kBlk 3 (spec_RecurrenceOf_ks20 S K X2))) (kBlk 3 (spec_RecurrenceOf_ks20 S K X2))
def spec_RecurrenceOf_e4 (s6_ : Sl) (i8_ : Int) (s9_ : Sl) (s11_ : Sl) (s12_ : Sl) (i13_ : Int) (s14_ : Sl) (i15_ : Int) (i16_ : Int) : Frame := [U, U, U, U, U, U, .sl s6_, U, .int .i64 i8_, .sl s9_, U, .sl s11_, .sl s12_, .int .i64 i13_, .sl s14_, .int .i64 i15_, .int .i64 i16_, U, U, U, U, U, U, U, U, U, U, U, U, U, U, U, U, U, U, U, U, U, U, U, U, U, U, U, U, U, U, U, U, U, U, U, U, U, U, U, U, U, U, U, U, U, U, U, U, U, U, U, U, U, U, U, U, U, U, U, U, U, U, U, U, U, U, U, U, U, U, U, U, U, U, U, U, U, U, U, U, U, U, U, U, U, U, U, U, U, U, U, U, U, U, U, U, U, U, U, U, U, U, U, U, U, U, U]
def spec_RecurrenceOf_w4 (S : SatT) (K : AVal → H → Prop) (X2 : Frame → H → Prop) : (Frame → H → Prop) → Frame → H → Prop := fun X fr h => cwp S tab spec_RecurrenceOf_M (spec_RecurrenceOf_M 4) (sub [1, 1, 1, 1, 1, 1, 1, 1, 0, 1, 0, 0, 1, 0, 0, 1, 0, 1, 0, 0] (bodyOf Try.f34)) (kSeq (fun fr h => X (mask (spec_RecurrenceOf_M 4) fr) h) (kBlk 4 (spec_RecurrenceOf_ks22 S K X2))) fr h
def spec_RecurrenceOf_L4 (S : SatT) (K : AVal → H → Prop) (X2 : Frame → H → Prop) (s6_ : Sl) (i8_ : Int) (s9_ : Sl) (s11_ : Sl) (s12_ : Sl) (i13_ : Int) (s14_ : Sl) (i15_ : Int) (i16_ : Int) (h : H) : Prop := loopK (spec_RecurrenceOf_w4 S K X2) (spec_RecurrenceOf_e4 s6_ i8_ s9_ s11_ s12_ i13_ s14_ i15_ i16_) h
def spec_RecurrenceOf_ks28 (S : SatT) (K : AVal → H → Prop) (X2 : Frame → H → Prop) : Kont := kSeq (cwp S tab spec_RecurrenceOf_M (spec_RecurrenceOf_M 3) (sub [1, 1, 1, 1, 1, 1, 1, 1, 0, 1, 0, 0, 1, 0, 0, 1, 1, 1, 1] (bodyOf Try.f34)) (kBlk 3 (spec_RecurrenceOf_ks20 S K X2))) (kBlk 3 (spec_RecurrenceOf_ks20 S K X2))
def spec_RecurrenceOf_e6 (s6_ : Sl) (i8_ : Int) (s9_ : Sl) (s11_ : Sl) (s12_ : Sl) (i13_ : Int) (i15_ : Int) (i17_ : Int) : Frame := [U, U, U, U, U, U, .sl s6_, U, .int .i64 i8_, .sl s9_, U, .sl s11_, .sl s12_, .int .i64 i13_, U, .int .i64 i15_, U, .int .i64 i17_, U, U, U, U, U, U, U, U, U, U, U, U, U, U, U, U, U, U, U, U, U, U, U, U, U, U, U, U, U, U, U, U, U, U, U, U, U, U, U, U, U, U, U, U, U, U, U, U, U, U, U, U, U, U, U, U, U, U, U, U, U, U, U, U, U, U, U, U, U, U, U, U, U, U, U, U, U, U, U, U, U, U, U, U, U, U, U, U, U, U, U, U, U, U, U, U, U, U, U, U, U, U, U, U, U, U]
def spec_RecurrenceOf_w6 (S : SatT) (K : AVal → H → Prop) (X2 : Frame → H → Prop) : (Frame → H → Prop) → Frame → H → Prop := fun X fr h => cwp S tab spec_RecurrenceOf_M (spec_RecurrenceOf_M 6) (sub [1, 1, 1, 1, 1, 1, 1, 1, 0, 1, 0, 0, 1, 0, 0, 1, 1, 1, 0, 1, 0, 0] (bodyOf Try.f34)) (kSeq (fun fr h => X (mask (spec_RecurrenceOf_M 6) fr) h) (kBlk 6 (spec_RecurrenceOf_ks28 S K X2))) fr h
def spec_RecurrenceOf_L6 (S : SatT) (K : AVal → H → Prop) (X2 : Frame → H → Prop) (s6_ : Sl) (i8_ : Int) (s9_ : Sl) (s11_ : Sl) (s12_ : Sl) (i13_ : Int) (i15_ : Int) (i17_ : Int) (h : H) : Prop := loopK (spec_RecurrenceOf_w6 S K X2) (spec_RecurrenceOf_e6 s6_ i8_ s9_ s11_ s12_ i13_ i15_ i17_) h
def spec_RecurrenceOf_C3 (S : SatT) (K : AVal → H → Prop) (X2 : Frame → H → Prop) (s6_ : Sl) (i8_ : Int) (s9_ : Sl) (s11_ : Sl) (s12_ : Sl) (i13_ : Int) (h : H) : Prop :=
 X2 (spec_RecurrenceOf_e2 s6_ i8_ s9_ s11_ s12_ (w64 (i13_ + (1)))) h
def spec_RecurrenceOf_C6 (S : SatT) (K : AVal → H → Prop) (X2 : Frame → H → Prop) (s6_ : Sl) (i8_ : Int) (s9_ : Sl) (s11_ : Sl) (s12_ : Sl) (i13_ : Int) (i15_ : Int) (h : H) : Prop :=
 newS 1 1 [.int .i64 i15_] h fun s0 h1 =>
 app s12_ s0 1 h1 fun s2 h3 =>
 spec_RecurrenceOf_C3 S K X2 s6_ i8_ s9_ s11_ s2 i13_ h3
def spec_RecurrenceOf_b6 (S : SatT) (K : AVal → H → Prop) (X2 : Frame → H → Prop) (X6 : Frame → H → Prop) (s6_ : Sl) (i8_ : Int) (s9_ : Sl) (s11_ : Sl) (s12_ : Sl) (i13_ : Int) (i15_ : Int) (i17_ : Int) (h : H) : Prop :=
 bif (decide (i17_ < (s11_.len : Int))) then
 ixS s11_ 1 i17_ fun p0 =>
 ldI .i64 p0 h fun n1 =>
 nz (10007) (
 X6 (spec_RecurrenceOf_e6 s6_ i8_ s9_ s11_ s12_ i13_ (Int.tmod (w64 (i15_ + n1)) (10007)) (w64 (i17_ + (1)))) h)
 else
 spec_RecurrenceOf_C6 S K X2 s6_ i8_ s9_ s11_ s12_ i13_ i15_ h
theorem spec_RecurrenceOf_link6 (S : SatT) (K : AVal → H → Prop) (X2 : Frame → H → Prop) (X6 : Frame → H → Prop) (s6_ : Sl) (i8_ : Int) (s9_ : Sl) (s11_ : Sl) (s12_ : Sl) (i13_ : Int) (i15_ : Int) (i17_ : Int) (h : H) : spec_RecurrenceOf_w6 S K X2 X6 (spec_RecurrenceOf_e6 s6_ i8_ s9_ s11_ s12_ i13_ i15_ i17_) h = spec_RecurrenceOf_b6 S K X2 X6 s6_ i8_ s9_ s11_ s12_ i13_ i15_ i17_ h := by kernel_rfl
theorem spec_RecurrenceOf_rule6 (S : SatT) (K : AVal → H → Prop) (X2 : Frame → H → Prop) (s6_ : Sl) (i8_ : Int) (s9_ : Sl) (s11_ : Sl) (s12_ : Sl) (i13_ : Int) (I_ : Int → Int → H → Prop) (m_ : Int → Int → H → Nat)
    (hs : ∀ (X6 : Frame → H → Prop) (i15_ : Int) (i17_ : Int) (h : H), I_ i15_ i17_ h → (∀ (i15_' : Int) (i17_' : Int) (h' : H), I_ i15_' i17_' h' → m_ i15_' i17_' h' < m_ i15_ i17_ h → X6 (spec_RecurrenceOf_e6 s6_ i8_ s9_ s11_ s12_ i13_ i15_' i17_') h') → spec_RecurrenceOf_b6 S K X2 X6 s6_ i8_ s9_ s11_ s12_ i13_ i15_ i17_ h) (i15_ : Int) (i17_ : Int) {h : H} (h0 : I_ i15_ i17_ h) : spec_RecurrenceOf_L6 S K X2 s6_ i8_ s9_ s11_ s12_ i13_ i15_ i17_ h :=
  loop_rule (σ := (Int) × (Int)) (fun s_ => spec_RecurrenceOf_e6 s6_ i8_ s9_ s11_ s12_ i13_ (s_.1) (s_.2)) (fun s_ h => I_ (s_.1) (s_.2) h) (fun s_ h => m_ (s_.1) (s_.2) h)
    (fun X s_ h hi hx => (spec_RecurrenceOf_link6 S K X2 X s6_ i8_ s9_ s11_ s12_ i13_ (s_.1) (s_.2) h).mpr (hs X (s_.1) (s_.2) h hi fun i15_' i17_' h' hi' hm' => hx (i15_', i17_') h' hi' hm')) (i15_, i17_) h0
theorem spec_RecurrenceOf_unroll6 (S : SatT) (K : AVal → H → Prop) (X2 : Frame → H → Prop) (s6_ : Sl) (i8_ : Int) (s9_ : Sl) (s11_ : Sl) (s12_ : Sl) (i13_ : Int) (i15_ : Int) (i17_ : Int) (h : H) (hb : spec_RecurrenceOf_b6 S K X2 (fun fr h => loopK (spec_RecurrenceOf_w6 S K X2) fr h) s6_ i8_ s9_ s11_ s12_ i13_ i15_ i17_ h) : spec_RecurrenceOf_L6 S K X2 s6_ i8_ s9_ s11_ s12_ i13_ i15_ i17_ h := loop_unroll ((spec_RecurrenceOf_link6 S K X2 _ s6_ i8_ s9_ s11_ s12_ i13_ i15_ i17_ h).mpr hb)
def spec_RecurrenceOf_C4 (S : SatT) (K : AVal → H → Prop) (X2 : Frame → H → Prop) (s6_ : Sl) (i8_ : Int) (s9_ : Sl) (s12_ : Sl) (i13_ : Int) (s14_ : Sl) (i15_ : Int) (h : H) : Prop :=
 spec_RecurrenceOf_L6 S K X2 s6_ i8_ s9_ s14_ s12_ i13_ i15_ (0) h
def spec_RecurrenceOf_b4 (S : SatT) (K : AVal → H → Prop) (X2 : Frame → H → Prop) (X4 : Frame → H → Prop) (s6_ : Sl) (i8_ : Int) (s9_ : Sl) (s11_ : Sl) (s12_ : Sl) (i13_ : Int) (s14_ : Sl) (i15_ : Int) (i16_ : Int) (h : H) : Prop :=
 bif (decide (i16_ < (s6_.len : Int))) then
 ixS s6_ 1 i16_ fun p0 =>
 ldS p0 h fun s1 =>
 ixS s1 1 (1) fun p2 =>
 ldI .i64 p2 h fun n3 =>
 ixS s6_ 1 i16_ fun p4 =>
 ldS p4 h fun s5 =>
 ixS s5 1 (1) fun p6 =>
 ldI .i64 p6 h fun n7 =>
 ixS s14_ 1 n7 fun p8 =>
 ldI .i64 p8 h fun n9 =>
 ixS s6_ 1 i16_ fun p10 =>
 ldS p10 h fun s11 =>
 ixS s11 1 (0) fun p12 =>
 ldI .i64 p12 h fun n13 =>
 ixS s11_ 1 n13 fun p14 =>
 ldI .i64 p14 h fun n15 =>
 nz (10007) (
 ixS s14_ 1 n3 fun p16 =>
 st1 p16 (.int .i64 (Int.tmod (w64 (n9 + n15)) (10007))) h fun h17 =>
 X4 (spec_RecurrenceOf_e4 s6_ i8_ s9_ s11_ s12_ i13_ s14_ i15_ (w64 (i16_ + (1)))) h17)
 else
 spec_RecurrenceOf_C4 S K X2 s6_ i8_ s9_ s12_ i13_ s14_ i15_ h
theorem spec_RecurrenceOf_link4 (S : SatT) (K : AVal → H → Prop) (X2 : Frame → H → Prop) (X4 : Frame → H → Prop) (s6_ : Sl) (i8_ : Int) (s9_ : Sl) (s11_ : Sl) (s12_ : Sl) (i13_ : Int) (s14_ : Sl) (i15_ : Int) (i16_ : Int) (h : H) : spec_RecurrenceOf_w4 S K X2 X4 (spec_RecurrenceOf_e4 s6_ i8_ s9_ s11_ s12_ i13_ s14_ i15_ i16_) h = spec_RecurrenceOf_b4 S K X2 X4 s6_ i8_ s9_ s11_ s12_ i13_ s14_ i15_ i16_ h := by kernel_rfl
theorem spec_RecurrenceOf_rule4 (S : SatT) (K : AVal → H → Prop) (X2 : Frame → H → Prop) (s6_ : Sl) (i8_ : Int) (s9_ : Sl) (s11_ : Sl) (s12_ : Sl) (i13_ : Int) (s14_ : Sl) (i15_ : Int) (I_ : Int → H → Prop) (m_ : Int → H → Nat)
    (hs : ∀ (X4 : Frame → H → Prop) (i16_ : Int) (h : H), I_ i16_ h → (∀ (i16_' : Int) (h' : H), I_ i16_' h' → m_ i16_' h' < m_ i16_ h → X4 (spec_RecurrenceOf_e4 s6_ i8_ s9_ s11_ s12_ i13_ s14_ i15_ i16_') h') → spec_RecurrenceOf_b4 S K X2 X4 s6_ i8_ s9_ s11_ s12_ i13_ s14_ i15_ i16_ h) (i16_ : Int) {h : H} (h0 : I_ i16_ h) : spec_RecurrenceOf_L4 S K X2 s6_ i8_ s9_ s11_ s12_ i13_ s14_ i15_ i16_ h :=
  loop_rule (σ := (Int)) (fun s_ => spec_RecurrenceOf_e4 s6_ i8_ s9_ s11_ s12_ i13_ s14_ i15_ (s_)) (fun s_ h => I_ (s_) h) (fun s_ h => m_ (s_) h)
    (fun X s_ h hi hx => (spec_RecurrenceOf_link4 S K X2 X s6_ i8_ s9_ s11_ s12_ i13_ s14_ i15_ (s_) h).mpr (hs X (s_) h hi fun i16_' h' hi' hm' => hx (i16_') h' hi' hm')) (i16_) h0
theorem spec_RecurrenceOf_unroll4 (S : SatT) (K : AVal → H → Prop) (X2 : Frame → H → Prop) (s6_ : Sl) (i8_ : Int) (s9_ : Sl) (s11_ : Sl) (s12_ : Sl) (i13_ : Int) (s14_ : Sl) (i15_ : Int) (i16_ : Int) (h : H) (hb : spec_RecurrenceOf_b4 S K X2 (fun fr h => loopK (spec_RecurrenceOf_w4 S K X2) fr h) s6_ i8_ s9_ s11_ s12_ i13_ s14_ i15_ i16_ h) : spec_RecurrenceOf_L4 S K X2 s6_ i8_ s9_ s11_ s12_ i13_ s14_ i15_ i16_ h := loop_unroll ((spec_RecurrenceOf_link4 S K X2 _ s6_ i8_ s9_ s11_ s12_ i13_ s14_ i15_ i16_ h).mpr hb)
def spec_RecurrenceOf_C2 (S : SatT) (K : AVal → H → Prop) (s12_ : Sl) (h : H) : Prop :=
 callS S i_spec_l06Shortest [.sl s12_] h fun s1 h0 =>
 K (.tuple [.sl s1, .int .i64 (0)]) h0
def spec_RecurrenceOf_b2 (S : SatT) (K : AVal → H → Prop) (X2 : Frame → H → Prop) (s6_ : Sl) (i8_ : Int) (s9_ : Sl) (s11_ : Sl) (s12_ : Sl) (i13_ : Int) (h : H) : Prop :=
 bif (decide (i13_ < (w64 ((w64 ((2) * (s9_.len : Int))) + (2))))) then
 mkS i8_ [.int .i64 (0)] h fun s0 h1 =>
 spec_RecurrenceOf_L4 S K X2 s6_ i8_ s9_ s11_ s12_ i13_ s0 (0) (0) h1
 else
 spec_RecurrenceOf_C2 S K s12_ h
theorem spec_RecurrenceOf_link2 (S : SatT) (K : AVal → H → Prop) (X2 : Frame → H → Prop) (s6_ : Sl) (i8_ : Int) (s9_ : Sl) (s11_ : Sl) (s12_ : Sl) (i13_ : Int) (h : H) : spec_RecurrenceOf_w2 S K X2 (spec_RecurrenceOf_e2 s6_ i8_ s9_ s11_ s12_ i13_) h = spec_RecurrenceOf_b2 S K X2 s6_ i8_ s9_ s11_ s12_ i13_ h := by kernel_rfl
theorem spec_RecurrenceOf_rule2 (S : SatT) (K : AVal → H → Prop) (s6_ : Sl) (i8_ : Int) (s9_ : Sl) (I_ : Sl → Sl → Int → H → Prop) (m_ : Sl → Sl → Int → H → Nat)
    (hs : ∀ (X2 : Frame → H → Prop) (s11_ : Sl) (s12_ : Sl) (i13_ : Int) (h : H), I_ s11_ s12_ i13_ h → (∀ (s11_' : Sl) (s12_' : Sl) (i13_' : Int) (h' : H), I_ s11_' s12_' i13_' h' → m_ s11_' s12_' i13_' h' < m_ s11_ s12_ i13_ h → X2 (spec_RecurrenceOf_e2 s6_ i8_ s9_ s11_' s12_' i13_') h') → spec_RecurrenceOf_b2 S K X2 s6_ i8_ s9_ s11_ s12_ i13_ h) (s11_ : Sl) (s12_ : Sl) (i13_ : Int) {h : H} (h0 : I_ s11_ s12_ i13_ h) : spec_RecurrenceOf_L2 S K s6_ i8_ s9_ s11_ s12_ i13_ h :=
  loop_rule (σ := (Sl) × (Sl) × (Int)) (fun s_ => spec_RecurrenceOf_e2 s6_ i8_ s9_ (s_.1) (s_.2.1) (s_.2.2)) (fun s_ h => I_ (s_.1) (s_.2.1) (s_.2.2) h) (fun s_ h => m_ (s_.1) (s_.2.1) (s_.2.2) h)
    (fun X s_ h hi hx => (spec_RecurrenceOf_link2 S K X s6_ i8_ s9_ (s_.1) (s_.2.1) (s_.2.2) h).mpr (hs X (s_.1) (s_.2.1) (s_.2.2) h hi fun s11_' s12_' i13_' h' hi' hm' => hx (s11_', s12_', i13_') h' hi' hm')) (s11_, s12_, i13_) h0
theorem spec_RecurrenceOf_unroll2 (S : SatT) (K : AVal → H → Prop) (s6_ : Sl) (i8_ : Int) (s9_ : Sl) (s11_ : Sl) (s12_ : Sl) (i13_ : Int) (h : H) (hb : spec_RecurrenceOf_b2 S K (fun fr h => loopK (spec_RecurrenceOf_w2 S K) fr h) s6_ i8_ s9_ s11_ s12_ i13_ h) : spec_RecurrenceOf_L2 S K s6_ i8_ s9_ s11_ s12_ i13_ h := loop_unroll ((spec_RecurrenceOf_link2 S K _ s6_ i8_ s9_ s11_ s12_ i13_ h).mpr hb)
def spec_RecurrenceOf_C0 (S : SatT) (K : AVal → H → Prop) (s6_ : Sl) (i8_ : Int) (s9_ : Sl) (h : H) : Prop :=
 callS S i_spec_l04Sorted [.sl s9_] h fun s1 h0 =>
 bif (decide ((s1.len : Int) > (40))) then
 K (.tuple [.sl Sl.nil, .int .i64 (3)]) h0
 else
 callS S i_spec_l02Each [.int .i64 i8_] h0 fun s3 h2 =>
 newS 0 1 [] h2 fun s4 h5 =>
 spec_RecurrenceOf_L2 S K s6_ i8_ s1 s3 s4 (0) h5
def spec_RecurrenceOf_b0 (S : SatT) (K : AVal → H → Prop) (X0 : Frame → H → Prop) (s6_ : Sl) (i8_ : Int) (s9_ : Sl) (i10_ : Int) (h : H) : Prop :=
 bif (decide (i10_ < (s6_.len : Int))) then
 ixS s6_ 1 i10_ fun p0 =>
 ldS p0 h fun s1 =>
 ixS s1 1 (0) fun p2 =>
 ldI .i64 p2 h fun n3 =>
 ixS s6_ 1 i10_ fun p4 =>
 ldS p4 h fun s5 =>
 ixS s5 1 (1) fun p6 =>
 ldI .i64 p6 h fun n7 =>
 newS 2 1 [.int .i64 n3, .int .i64 n7] h fun s8 h9 =>
 app s9_ s8 1 h9 fun s10 h11 =>
 X0 (spec_RecurrenceOf_e0 s6_ i8_ s10 (w64 (i10_ + (1)))) h11
 else
 spec_RecurrenceOf_C0 S K s6_ i8_ s9_ h
theorem spec_RecurrenceOf_link0 (S : SatT) (K : AVal → H → Prop) (X0 : Frame → H → Prop) (s6_ : Sl) (i8_ : Int) (s9_ : Sl) (i10_ : Int) (h : H) : spec_RecurrenceOf_w0 S K X0 (spec_RecurrenceOf_e0 s6_ i8_ s9_ i10_) h = spec_RecurrenceOf_b0 S K X0 s6_ i8_ s9_ i10_ h := by kernel_rfl
theorem spec_RecurrenceOf_rule0 (S : SatT) (K : AVal → H → Prop) (s6_ : Sl) (i8_ : Int) (I_ : Sl → Int → H → Prop) (m_ : Sl → Int → H → Nat)
    (hs : ∀ (X0 : Frame → H → Prop) (s9_ : Sl) (i10_ : Int) (h : H), I_ s9_ i10_ h → (∀ (s9_' : Sl) (i10_' : Int) (h' : H), I_ s9_' i10_' h' → m_ s9_' i10_' h' < m_ s9_ i10_ h → X0 (spec_RecurrenceOf_e0 s6_ i8_ s9_' i10_') h') → spec_RecurrenceOf_b0 S K X0 s6_ i8_ s9_ i10_ h) (s9_ : Sl) (i10_ : Int) {h : H} (h0 : I_ s9_ i10_ h) : spec_RecurrenceOf_L0 S K s6_ i8_ s9_ i10_ h :=
  loop_rule (σ := (Sl) × (Int)) (fun s_ => spec_RecurrenceOf_e0 s6_ i8_ (s_.1) (s_.2)) (fun s_ h => I_ (s_.1) (s_.2) h) (fun s_ h => m_ (s_.1) (s_.2) h)
    (fun X s_ h hi hx => (spec_RecurrenceOf_link0 S K X s6_ i8_ (s_.1) (s_.2) h).mpr (hs X (s_.1) (s_.2) h hi fun s9_' i10_' h' hi' hm' => hx (s9_', i10_') h' hi' hm')) (s9_, i10_) h0
theorem spec_RecurrenceOf_unroll0 (S : SatT) (K : AVal → H → Prop) (s6_ : Sl) (i8_ : Int) (s9_ : Sl) (i10_ : Int) (h : H) (hb : spec_RecurrenceOf_b0 S K (fun fr h => loopK (spec_RecurrenceOf_w0 S K) fr h) s6_ i8_ s9_ i10_ h) : spec_RecurrenceOf_L0 S K s6_ i8_ s9_ i10_ h := loop_unroll ((spec_RecurrenceOf_link0 S K _ s6_ i8_ s9_ i10_ h).mpr hb)
def spec_RecurrenceOf_main (S : SatT) (K : AVal → H → Prop) (x0 : List AVal) (x1 : Int) (h : H) : Prop :=
 newK 2 x0 h fun p0 h1 =>
 ldA p0 2 h1 fun cs2 =>
 callV S i_spec_l06Code [.agg cs2, .int .i64 x1] h1 fun v4 h3 =>
 viaT v4 fun vs5 =>
 exS vs5 0 fun s6 =>
 viaT v4 fun vs7 =>
 exI .i64 vs7 1 fun n8 =>
 bif (n8 != (0)) then
 K (.tuple [.sl Sl.nil, .int .i64 n8]) h3
 else
 ldA p0 2 h3 fun cs9 =>
 callI S .i64 i_spec_l06Size [.agg cs9, .int .i64 x1] h3 fun n11 h10 =>
 newS 0 1 [] h10 fun s12 h13 =>
 spec_RecurrenceOf_L0 S K s6 n11 s12 (0) h13
theorem spec_RecurrenceOf_main_link (S : SatT) (K : AVal → H → Prop) (x0 : List AVal) (x1 : Int) (h : H) : cwp S tab spec_RecurrenceOf_M [] (bodyOf Try.f34) (kFun tab Try.f34.results.toList K) (fr0 Try.f34 [.agg x0, .int .i64 x1]) h = spec_RecurrenceOf_main S K x0 x1 h := by kernel_rfl
theorem spec_RecurrenceOf_call (x0 : List AVal) (x1 : Int) (h : H) (K : AVal → H → Prop) (hm : spec_RecurrenceOf_main (Sat Try.prog) (fun v h' => K v h') x0 x1 h) : callV (Sat Try.prog) i_spec_RecurrenceOf [.agg x0, .int .i64 x1] h K := by
  have := Sat.ex tok mixed spec_RecurrenceOf_M Try.func34 (c := bodyOf Try.f34) (by kernel_rfl) (calls_of Try.func34 (c := bodyOf Try.f34) (by kernel_rfl) (by decide)) ((spec_RecurrenceOf_main_link _ _ x0 x1 h).mpr hm)
  exact this

/-! ### loop.example/g01354/spec.l02Lasting -/
def spec_l02Lasting_M : Nat → List Nat := fun i => bif i == 6 then [1, 3, 5, 6, 7, 8, 9] else bif i == 4 then [1, 3, 5, 6] else bif i == 2 then [1, 3, 5] else bif i == 0 then [1, 3, 4] else []
def spec_l02Lasting_ks2 (S : SatT) (K : AVal → H → Prop) : Kont := kSeq (cwp S tab spec_l02Lasting_M [] (sub [1, 1, 1] (bodyOf Try.f57)) (kFun tab (Try.f57).results.toList K)) (kFun tab (Try.f57).results.toList K)
def spec_l02Lasting_e0 (p1_ : Pt) (s3_ : Sl) (i4_ : Int) : Frame := [U, .ptr p1_, U, .sl s3_, .int .i64 i4_, U, U, U, U, U, U, U, U, U, U, U, U, U, U, U, U, U, U, U, U, U, U, U, U, U, U, U, U, U, U, U, U, U, U, U, U, U, U, U, U, U, U, U, U, U, U, U, U, U, U, U, U, U, U, U, U, U, U, U, U, U, U, U, U, U, U, U, U, U, U, U, U, U, U, U, U, U, U, U, U, U, U, U, U, U, U, U, U, U, U]
def spec_l02Lasting_w0 (S : SatT) (K : AVal → H → Prop) : (Frame → H → Prop) → Frame → H → Prop := fun X fr h => cwp S tab spec_l02Lasting_M (spec_l02Lasting_M 0) (sub [1, 1, 0, 1, 0, 0] (bodyOf Try.f57)) (kSeq (fun fr h => X (mask (spec_l02Lasting_M 0) fr) h) (kBlk 0 (spec_l02Lasting_ks2 S K))) fr h
def spec_l02Lasting_L0 (S : SatT) (K : AVal → H → Prop) (p1_ : Pt) (s3_ : Sl) (i4_ : Int) (h : H) : Prop := loopK (spec_l02Lasting_w0 S K) (spec_l02Lasting_e0 p1_ s3_ i4_) h
def spec_l02Lasting_ks7 (S : SatT) (K : AVal → H → Prop) : Kont := kSeq (cwp S tab spec_l02Lasting_M [] (sub [1, 1, 1, 1] (bodyOf Try.f57)) (kFun tab (Try.f57).results.toList K)) (kFun tab (Try.f57).results.toList K)
def spec_l02Lasting_e2 (p1_ : Pt) (s3_ : Sl) (b5_ : Bool) : Frame := [U, .ptr p1_, U, .sl s3_, U, .bool b5_, U, U, U, U, U, U, U, U, U, U, U, U, U, U, U, U, U, U, U, U, U, U, U, U, U, U, U, U, U, U, U, U, U, U, U, U, U, U, U, U, U, U, U, U, U, U, U, U, U, U, U, U, U, U, U, U, U, U, U, U, U, U, U, U, U, U, U, U, U, U, U, U, U, U, U, U, U, U, U, U, U, U, U, U, U, U, U, U, U]
def spec_l02Lasting_w2 (S : SatT) (K : AVal → H → Prop) : (Frame → H → Prop) → Frame → H → Prop := fun X fr h => cwp S tab spec_l02Lasting_M (spec_l02Lasting_M 2) (sub [1, 1, 1, 0, 1, 0, 0] (bodyOf Try.f57)) (kSeq (fun fr h => X (mask (spec_l02Lasting_M 2) fr) h) (kBlk 2 (spec_l02Lasting_ks7 S K))) fr h
def spec_l02Lasting_L2 (S : SatT) (K : AVal → H → Prop) (p1_ : Pt) (s3_ : Sl) (b5_ : Bool) (h : H) : Prop := loopK (spec_l02Lasting_w2 S K) (spec_l02Lasting_e2 p1_ s3_ b5_) h
def spec_l02Lasting_e4 (p1_ : Pt) (s3_ : Sl) (b5_ : Bool) (i6_ : Int) : Frame := [U, .ptr p1_, U, .sl s3_, U, .bool b5_, .int .i64 i6_, U, U, U, U, U, U, U, U, U, U, U, U, U, U, U, U, U, U, U, U, U, U, U, U, U, U, U, U, U, U, U, U, U, U, U, U, U, U, U, U, U, U, U, U, U, U, U, U, U, U, U, U, U, U, U, U, U, U, U, U, U, U, U, U, U, U, U, U, U, U, U, U, U, U, U, U, U, U, U, U, U, U, U, U, U, U, U, U]
def spec_l02Lasting_w4 (S : SatT) (K : AVal → H → Prop) (X2 : Frame → H → Prop) : (Frame → H → Prop) → Frame → H → Prop := fun X fr h => cwp S tab spec_l02Lasting_M (spec_l02Lasting_M 4) (sub [1, 1, 1, 0, 1, 0, 0, 1, 0, 1, 1, 0, 0] (bodyOf Try.f57)) (kSeq (fun fr h => X (mask (spec_l02Lasting_M 4) fr) h) (kBlk 4 (kBlk 3 (kSeq (fun fr h => X2 (mask (spec_l02Lasting_M 2) fr) h) (kBlk 2 (spec_l02Lasting_ks7 S K)))))) fr h
def spec_l02Lasting_L4 (S : SatT) (K : AVal → H → Prop) (X2 : Frame → H → Prop) (p1_ : Pt) (s3_ : Sl) (b5_ : Bool) (i6_ : Int) (h : H) : Prop := loopK (spec_l02Lasting_w4 S K X2) (spec_l02Lasting_e4 p1_ s3_ b5_ i6_) h
def spec_l02Lasting_ks15 (S : SatT) (K : AVal → H → Prop) (X2 : Frame → H → Prop) (X4 : Frame → H → Prop) : Kont := kSeq (cwp S tab spec_l02Lasting_M (spec_l02Lasting_M 4) (sub [1, 1, 1, 0, 1, 0, 0, 1, 0, 1, 1, 0, 0, 1, 1] (bodyOf Try.f57)) (kSeq (fun fr h => X4 (mask (spec_l02Lasting_M 4) fr) h) (kBlk 4 (kBlk 3 (kSeq (fun fr h => X2 (mask (spec_l02Lasting_M 2) fr) h) (kBlk 2 (spec_l02Lasting_ks7 S K))))))) (kSeq (fun fr h => X4 (mask (spec_l02Lasting_M 4) fr) h) (kBlk 4 (kBlk 3 (kSeq (fun fr h => X2 (mask (spec_l02Lasting_M 2) fr) h) (kBlk 2 (spec_l02Lasting_ks7 S K))))))
def spec_l02Lasting_ks17 (S : SatT) (K : AVal → H → Prop) (X2 : Frame → H → Prop) (X4 : Frame → H → Prop) : Kont := kSeq (cwp S tab spec_l02Lasting_M (spec_l02Lasting_M 5) (sub [1, 1, 1, 0, 1, 0, 0, 1, 0, 1, 1, 0, 0, 1, 0, 0, 1, 1] (bodyOf Try.f57)) (kBlk 5 (spec_l02Lasting_ks15 S K X2 X4))) (kBlk 5 (spec_l02Lasting_ks15 S K X2 X4))
def spec_l02Lasting_e6 (p1_ : Pt) (s3_ : Sl) (b5_ : Bool) (i6_ : Int) (b7_ : Bool) (b8_ : Bool) (i9_ : Int) : Frame := [U, .ptr p1_, U, .sl s3_, U, .bool b5_, .int .i64 i6_, .bool b7_, .bool b8_, .int .i64 i9_, U, U, U, U, U, U, U, U, U, U, U, U, U, U, U, U, U, U, U, U, U, U, U, U, U, U, U, U, U, U, U, U, U, U, U, U, U, U, U, U, U, U, U, U, U, U, U, U, U, U, U, U, U, U, U, U, U, U, U, U, U, U, U, U, U, U, U, U, U, U, U, U, U, U, U, U, U, U, U, U, U, U, U, U, U]
def spec_l02Lasting_w6 (S : SatT) (K : AVal → H → Prop) (X2 : Frame → H → Prop) (X4 : Frame → H → Prop) : (Frame → H → Prop) → Frame → H → Prop := fun X fr h => cwp S tab spec_l02Lasting_M (spec_l02Lasting_M 6) (sub [1, 1, 1, 0, 1, 0, 0, 1, 0, 1, 1, 0, 0, 1, 0, 0, 1, 0, 1, 0, 0] (bodyOf Try.f57)) (kSeq (fun fr h => X (mask (spec_l02Lasting_M 6) fr) h) (kBlk 6 (spec_l02Lasting_ks17 S K X2 X4))) fr h
def spec_l02Lasting_L6 (S : SatT) (K : AVal → H → Prop) (X2 : Frame → H → Prop) (X4 : Frame → H → Prop) (p1_ : Pt) (s3_ : Sl) (b5_ : Bool) (i6_ : Int) (b7_ : Bool) (b8_ : Bool) (i9_ : Int) (h : H) : Prop := loopK (spec_l02Lasting_w6 S K X2 X4) (spec_l02Lasting_e6 p1_ s3_ b5_ i6_ b7_ b8_ i9_) h
def spec_l02Lasting_C5 (S : SatT) (K : AVal → H → Prop) (X2 : Frame → H → Prop) (X4 : Frame → H → Prop) (p1_ : Pt) (s3_ : Sl) (b5_ : Bool) (i6_ : Int) (h : H) : Prop :=
 X4 (spec_l02Lasting_e4 p1_ s3_ b5_ (w64 (i6_ + (1)))) h
def spec_l02Lasting_C6 (S : SatT) (K : AVal → H → Prop) (X2 : Frame → H → Prop) (X4 : Frame → H → Prop) (p1_ : Pt) (s3_ : Sl) (b5_ : Bool) (i6_ : Int) (b7_ : Bool) (b8_ : Bool) (h : H) : Prop :=
 ixS s3_ 1 i6_ fun p0 =>
 ldB p0 h fun b1 =>
 bif b1 then
 bif b7_ then
 bif (!b8_) then
 ixS s3_ 1 i6_ fun p2 =>
 st1 p2 (.bool false) h fun h3 =>
 spec_l02Lasting_C5 S K X2 X4 p1_ s3_ true i6_ h3
 else
 spec_l02Lasting_C5 S K X2 X4 p1_ s3_ b5_ i6_ h
 else
 ixS s3_ 1 i6_ fun p4 =>
 st1 p4 (.bool false) h fun h5 =>
 spec_l02Lasting_C5 S K X2 X4 p1_ s3_ true i6_ h5
 else
 spec_l02Lasting_C5 S K X2 X4 p1_ s3_ b5_ i6_ h
def spec_l02Lasting_b6 (S : SatT) (K : AVal → H → Prop) (X2 : Frame → H → Prop) (X4 : Frame → H → Prop) (X6 : Frame → H → Prop) (p1_ : Pt) (s3_ : Sl) (b5_ : Bool) (i6_ : Int) (b7_ : Bool) (b8_ : Bool) (i9_ : Int) (h : H) : Prop :=
 bif (decide (i9_ < (s3_.len : Int))) then
 bif b7_ then
 bif b8_ then
 X6 (spec_l02Lasting_e6 p1_ s3_ b5_ i6_ true true (w64 (i9_ + (1)))) h
 else
 ixS s3_ 1 i9_ fun p0 =>
 ldB p0 h fun b1 =>
 bif b1 then
 isPt p1_ (
 ldS (Pt.add p1_ 1) h fun s2 =>
 ixS s2 4 i9_ fun p3 =>
 ixA p3 4 1 (0) fun p4 =>
 ldI .i64 p4 h fun n5 =>
 isPt p1_ (
 ldS (Pt.add p1_ 1) h fun s6 =>
 ixS s6 4 i6_ fun p7 =>
 ixA p7 4 1 (2) fun p8 =>
 ldI .i64 p8 h fun n9 =>
 X6 (spec_l02Lasting_e6 p1_ s3_ b5_ i6_ true (n5 == n9) (w64 (i9_ + (1)))) h))
 else
 X6 (spec_l02Lasting_e6 p1_ s3_ b5_ i6_ true false (w64 (i9_ + (1)))) h
 else
 ixS s3_ 1 i9_ fun p10 =>
 ldB p10 h fun b11 =>
 bif b11 then
 isPt p1_ (
 ldS (Pt.add p1_ 1) h fun s12 =>
 ixS s12 4 i9_ fun p13 =>
 ixA p13 4 1 (2) fun p14 =>
 ldI .i64 p14 h fun n15 =>
 isPt p1_ (
 ldS (Pt.add p1_ 1) h fun s16 =>
 ixS s16 4 i6_ fun p17 =>
 ixA p17 4 1 (0) fun p18 =>
 ldI .i64 p18 h fun n19 =>
 bif b8_ then
 X6 (spec_l02Lasting_e6 p1_ s3_ b5_ i6_ (n15 == n19) true (w64 (i9_ + (1)))) h
 else
 ixS s3_ 1 i9_ fun p20 =>
 ldB p20 h fun b21 =>
 bif b21 then
 isPt p1_ (
 ldS (Pt.add p1_ 1) h fun s22 =>
 ixS s22 4 i9_ fun p23 =>
 ixA p23 4 1 (0) fun p24 =>
 ldI .i64 p24 h fun n25 =>
 isPt p1_ (
 ldS (Pt.add p1_ 1) h fun s26 =>
 ixS s26 4 i6_ fun p27 =>
 ixA p27 4 1 (2) fun p28 =>
 ldI .i64 p28 h fun n29 =>
 X6 (spec_l02Lasting_e6 p1_ s3_ b5_ i6_ (n15 == n19) (n25 == n29) (w64 (i9_ + (1)))) h))
 else
 X6 (spec_l02Lasting_e6 p1_ s3_ b5_ i6_ (n15 == n19) false (w64 (i9_ + (1)))) h))
 else
 bif b8_ then
 X6 (spec_l02Lasting_e6 p1_ s3_ b5_ i6_ false true (w64 (i9_ + (1)))) h
 else
 ixS s3_ 1 i9_ fun p30 =>
 ldB p30 h fun b31 =>
 bif b31 then
 isPt p1_ (
 ldS (Pt.add p1_ 1) h fun s32 =>
 ixS s32 4 i9_ fun p33 =>
 ixA p33 4 1 (0) fun p34 =>
 ldI .i64 p34 h fun n35 =>
 isPt p1_ (
 ldS (Pt.add p1_ 1) h fun s36 =>
 ixS s36 4 i6_ fun p37 =>
 ixA p37 4 1 (2) fun p38 =>
 ldI .i64 p38 h fun n39 =>
 X6 (spec_l02Lasting_e6 p1_ s3_ b5_ i6_ false (n35 == n39) (w64 (i9_ + (1)))) h))
 else
 X6 (spec_l02Lasting_e6 p1_ s3_ b5_ i6_ false false (w64 (i9_ + (1)))) h
 else
 spec_l02Lasting_C6 S K X2 X4 p1_ s3_ b5_ i6_ b7_ b8_ h
theorem spec_l02Lasting_link6 (S : SatT) (K : AVal → H → Prop) (X2 : Frame → H → Prop) (X4 : Frame → H → Prop) (X6 : Frame → H → Prop) (p1_ : Pt) (s3_ : Sl) (b5_ : Bool) (i6_ : Int) (b7_ : Bool) (b8_ : Bool) (i9_ : Int) (h : H) : spec_l02Lasting_w6 S K X2 X4 X6 (spec_l02Lasting_e6 p1_ s3_ b5_ i6_ b7_ b8_ i9_) h = spec_l02Lasting_b6 S K X2 X4 X6 p1_ s3_ b5_ i6_ b7_ b8_ i9_ h := by kernel_rfl
theorem spec_l02Lasting_rule6 (S : SatT) (K : AVal → H → Prop) (X2 : Frame → H → Prop) (X4 : Frame → H → Prop) (p1_ : Pt) (s3_ : Sl) (b5_ : Bool) (i6_ : Int) (I_ : Bool → Bool → Int → H → Prop) (m_ : Bool → Bool → Int → H → Nat)
    (hs : ∀ (X6 : Frame → H → Prop) (b7_ : Bool) (b8_ : Bool) (i9_ : Int) (h : H), I_ b7_ b8_ i9_ h → (∀ (b7_' : Bool) (b8_' : Bool) (i9_' : Int) (h' : H), I_ b7_' b8_' i9_' h' → m_ b7_' b8_' i9_' h' < m_ b7_ b8_ i9_ h → X6 (spec_l02Lasting_e6 p1_ s3_ b5_ i6_ b7_' b8_' i9_') h') → spec_l02Lasting_b6 S K X2 X4 X6 p1_ s3_ b5_ i6_ b7_ b8_ i9_ h) (b7_ : Bool) (b8_ : Bool) (i9_ : Int) {h : H} (h0 : I_ b7_ b8_ i9_ h) : spec_l02Lasting_L6 S K X2 X4 p1_ s3_ b5_ i6_ b7_ b8_ i9_ h :=
  loop_rule (σ := (Bool) × (Bool) × (Int)) (fun s_ => spec_l02Lasting_e6 p1_ s3_ b5_ i6_ (s_.1) (s_.2.1) (s_.2.2)) (fun s_ h => I_ (s_.1) (s_.2.1) (s_.2.2) h) (fun s_ h => m_ (s_.1) (s_.2.1) (s_.2.2) h)
    (fun X s_ h hi hx => (spec_l02Lasting_link6 S K X2 X4 X p1_ s3_ b5_ i6_ (s_.1) (s_.2.1) (s_.2.2) h).mpr (hs X (s_.1) (s_.2.1) (s_.2.2) h hi fun b7_' b8_' i9_' h' hi' hm' => hx (b7_', b8_', i9_') h' hi' hm')) (b7_, b8_, i9_) h0
theorem spec_l02Lasting_unroll6 (S : SatT) (K : AVal → H → Prop) (X2 : Frame → H → Prop) (X4 : Frame → H → Prop) (p1_ : Pt) (s3_ : Sl) (b5_ : Bool) (i6_ : Int) (b7_ : Bool) (b8_ : Bool) (i9_ : Int) (h : H) (hb : spec_l02Lasting_b6 S K X2 X4 (fun fr h => loopK (spec_l02Lasting_w6 S K X2 X4) fr h) p1_ s3_ b5_ i6_ b7_ b8_ i9_ h) : spec_l02Lasting_L6 S K X2 X4 p1_ s3_ b5_ i6_ b7_ b8_ i9_ h := loop_unroll ((spec_l02Lasting_link6 S K X2 X4 _ p1_ s3_ b5_ i6_ b7_ b8_ i9_ h).mpr hb)
def spec_l02Lasting_C4 (S : SatT) (K : AVal → H → Prop) (X2 : Frame → H → Prop) (p1_ : Pt) (s3_ : Sl) (b5_ : Bool) (h : H) : Prop :=
 X2 (spec_l02Lasting_e2 p1_ s3_ b5_) h
def spec_l02Lasting_b4 (S : SatT) (K : AVal → H → Prop) (X2 : Frame → H → Prop) (X4 : Frame → H → Prop) (p1_ : Pt) (s3_ : Sl) (b5_ : Bool) (i6_ : Int) (h : H) : Prop :=
 bif (decide (i6_ < (s3_.len : Int))) then
 spec_l02Lasting_L6 S K X2 X4 p1_ s3_ b5_ i6_ false false (0) h
 else
 spec_l02Lasting_C4 S K X2 p1_ s3_ b5_ h
theorem spec_l02Lasting_link4 (S : SatT) (K : AVal → H → Prop) (X2 : Frame → H → Prop) (X4 : Frame → H → Prop) (p1_ : Pt) (s3_ : Sl) (b5_ : Bool) (i6_ : Int) (h : H) : spec_l02Lasting_w4 S K X2 X4 (spec_l02Lasting_e4 p1_ s3_ b5_ i6_) h = spec_l02Lasting_b4 S K X2 X4 p1_ s3_ b5_ i6_ h := by kernel_rfl
theorem spec_l02Lasting_rule4 (S : SatT) (K : AVal → H → Prop) (X2 : Frame → H → Prop) (p1_ : Pt) (s3_ : Sl) (I_ : Bool → Int → H → Prop) (m_ : Bool → Int → H → Nat)
    (hs : ∀ (X4 : Frame → H → Prop) (b5_ : Bool) (i6_ : Int) (h : H), I_ b5_ i6_ h → (∀ (b5_' : Bool) (i6_' : Int) (h' : H), I_ b5_' i6_' h' → m_ b5_' i6_' h' < m_ b5_ i6_ h → X4 (spec_l02Lasting_e4 p1_ s3_ b5_' i6_') h') → spec_l02Lasting_b4 S K X2 X4 p1_ s3_ b5_ i6_ h) (b5_ : Bool) (i6_ : Int) {h : H} (h0 : I_ b5_ i6_ h) : spec_l02Lasting_L4 S K X2 p1_ s3_ b5_ i6_ h :=
  loop_rule (σ := (Bool) × (Int)) (fun s_ => spec_l02Lasting_e4 p1_ s3_ (s_.1) (s_.2)) (fun s_ h => I_ (s_.1) (s_.2) h) (fun s_ h => m_ (s_.1) (s_.2) h)
    (fun X s_ h hi hx => (spec_l02Lasting_link4 S K X2 X p1_ s3_ (s_.1) (s_.2) h).mpr (hs X (s_.1) (s_.2) h hi fun b5_' i6_' h' hi' hm' => hx (b5_', i6_') h' hi' hm')) (b5_, i6_) h0
theorem spec_l02Lasting_unroll4 (S : SatT) (K : AVal → H → Prop) (X2 : Frame → H → Prop) (p1_ : Pt) (s3_ : Sl) (b5_ : Bool) (i6_ : Int) (h : H) (hb : spec_l02Lasting_b4 S K X2 (fun fr h => loopK (spec_l02Lasting_w4 S K X2) fr h) p1_ s3_ b5_ i6_ h) : spec_l02Lasting_L4 S K X2 p1_ s3_ b5_ i6_ h := loop_unroll ((spec_l02Lasting_link4 S K X2 _ p1_ s3_ b5_ i6_ h).mpr hb)
def spec_l02Lasting_C2 (S : SatT) (K : AVal → H → Prop) (s3_ : Sl) (h : H) : Prop :=
 K (.sl s3_) h
def spec_l02Lasting_b2 (S : SatT) (K : AVal → H → Prop) (X2 : Frame → H → Prop) (p1_ : Pt) (s3_ : Sl) (b5_ : Bool) (h : H) : Prop :=
 bif b5_ then
 spec_l02Lasting_L4 S K X2 p1_ s3_ false (0) h
 else
 spec_l02Lasting_C2 S K s3_ h
theorem spec_l02Lasting_link2 (S : SatT) (K : AVal → H → Prop) (X2 : Frame → H → Prop) (p1_ : Pt) (s3_ : Sl) (b5_ : Bool) (h : H) : spec_l02Lasting_w2 S K X2 (spec_l02Lasting_e2 p1_ s3_ b5_) h = spec_l02Lasting_b2 S K X2 p1_ s3_ b5_ h := by kernel_rfl
theorem spec_l02Lasting_rule2 (S : SatT) (K : AVal → H → Prop) (p1_ : Pt) (s3_ : Sl) (I_ : Bool → H → Prop) (m_ : Bool → H → Nat)
    (hs : ∀ (X2 : Frame → H → Prop) (b5_ : Bool) (h : H), I_ b5_ h → (∀ (b5_' : Bool) (h' : H), I_ b5_' h' → m_ b5_' h' < m_ b5_ h → X2 (spec_l02Lasting_e2 p1_ s3_ b5_') h') → spec_l02Lasting_b2 S K X2 p1_ s3_ b5_ h) (b5_ : Bool) {h : H} (h0 : I_ b5_ h) : spec_l02Lasting_L2 S K p1_ s3_ b5_ h :=
  loop_rule (σ := (Bool)) (fun s_ => spec_l02Lasting_e2 p1_ s3_ (s_)) (fun s_ h => I_ (s_) h) (fun s_ h => m_ (s_) h)
    (fun X s_ h hi hx => (spec_l02Lasting_link2 S K X p1_ s3_ (s_) h).mpr (hs X (s_) h hi fun b5_' h' hi' hm' => hx (b5_') h' hi' hm')) (b5_) h0
theorem spec_l02Lasting_unroll2 (S : SatT) (K : AVal → H → Prop) (p1_ : Pt) (s3_ : Sl) (b5_ : Bool) (h : H) (hb : spec_l02Lasting_b2 S K (fun fr h => loopK (spec_l02Lasting_w2 S K) fr h) p1_ s3_ b5_ h) : spec_l02Lasting_L2 S K p1_ s3_ b5_ h := loop_unroll ((spec_l02Lasting_link2 S K _ p1_ s3_ b5_ h).mpr hb)
def spec_l02Lasting_C0 (S : SatT) (K : AVal → H → Prop) (p1_ : Pt) (s3_ : Sl) (h : H) : Prop :=
 spec_l02Lasting_L2 S K p1_ s3_ true h
def spec_l02Lasting_b0 (S : SatT) (K : AVal → H → Prop) (X0 : Frame → H → Prop) (p1_ : Pt) (s3_ : Sl) (i4_ : Int) (h : H) : Prop :=
 bif (decide (i4_ < (s3_.len : Int))) then
 ixS s3_ 1 i4_ fun p0 =>
 st1 p0 (.bool true) h fun h1 =>
 X0 (spec_l02Lasting_e0 p1_ s3_ (w64 (i4_ + (1)))) h1
 else
 spec_l02Lasting_C0 S K p1_ s3_ h
theorem spec_l02Lasting_link0 (S : SatT) (K : AVal → H → Prop) (X0 : Frame → H → Prop) (p1_ : Pt) (s3_ : Sl) (i4_ : Int) (h : H) : spec_l02Lasting_w0 S K X0 (spec_l02Lasting_e0 p1_ s3_ i4_) h = spec_l02Lasting_b0 S K X0 p1_ s3_ i4_ h := by kernel_rfl
theorem spec_l02Lasting_rule0 (S : SatT) (K : AVal → H → Prop) (p1_ : Pt) (s3_ : Sl) (I_ : Int → H → Prop) (m_ : Int → H → Nat)
    (hs : ∀ (X0 : Frame → H → Prop) (i4_ : Int) (h : H), I_ i4_ h → (∀ (i4_' : Int) (h' : H), I_ i4_' h' → m_ i4_' h' < m_ i4_ h → X0 (spec_l02Lasting_e0 p1_ s3_ i4_') h') → spec_l02Lasting_b0 S K X0 p1_ s3_ i4_ h) (i4_ : Int) {h : H} (h0 : I_ i4_ h) : spec_l02Lasting_L0 S K p1_ s3_ i4_ h :=
  loop_rule (σ := (Int)) (fun s_ => spec_l02Lasting_e0 p1_ s3_ (s_)) (fun s_ h => I_ (s_) h) (fun s_ h => m_ (s_) h)
    (fun X s_ h hi hx => (spec_l02Lasting_link0 S K X p1_ s3_ (s_) h).mpr (hs X (s_) h hi fun i4_' h' hi' hm' => hx (i4_') h' hi' hm')) (i4_) h0
theorem spec_l02Lasting_unroll0 (S : SatT) (K : AVal → H → Prop) (p1_ : Pt) (s3_ : Sl) (i4_ : Int) (h : H) (hb : spec_l02Lasting_b0 S K (fun fr h => loopK (spec_l02Lasting_w0 S K) fr h) p1_ s3_ i4_ h) : spec_l02Lasting_L0 S K p1_ s3_ i4_ h := loop_unroll ((spec_l02Lasting_link0 S K _ p1_ s3_ i4_ h).mpr hb)
def spec_l02Lasting_main (S : SatT) (K : AVal → H → Prop) (x0 : List AVal) (h : H) : Prop :=
 newK 2 x0 h fun p0 h1 =>
 isPt p0 (
 ldS (Pt.add p0 1) h1 fun s2 =>
 mkS (s2.len : Int) [.bool false] h1 fun s3 h4 =>
 spec_l02Lasting_L0 S K p0 s3 (0) h4)
theorem spec_l02Lasting_main_link (S : SatT) (K : AVal → H → Prop) (x0 : List AVal) (h : H) : cwp S tab spec_l02Lasting_M [] (bodyOf Try.f57) (kFun tab Try.f57.results.toList K) (fr0 Try.f57 [.agg x0]) h = spec_l02Lasting_main S K x0 h := by kernel_rfl
theorem spec_l02Lasting_call (x0 : List AVal) (h : H) (K : Sl → H → Prop) (hm : spec_l02Lasting_main (Sat Try.prog) (fun v h' => ∃ r, v = .sl r ∧ K r h') x0 h) : callS (Sat Try.prog) i_spec_l02Lasting [.agg x0] h K := by
  have := Sat.ex tok mixed spec_l02Lasting_M Try.func57 (c := bodyOf Try.f57) (by kernel_rfl) (calls_of Try.func57 (c := bodyOf Try.f57) (by kernel_rfl) (by decide)) ((spec_l02Lasting_main_link _ _ x0 h).mpr hm)
  obtain ⟨v, h2, h3, r, rfl, h4⟩ := this; exact ⟨r, h2, h3, h4⟩

/-! ### loop.example/g01354/spec.l06Lasting -/
def spec_l06Lasting_M : Nat → List Nat := fun i => bif i == 4 then [7, 9, 11, 13] else bif i == 2 then [7, 9, 11, 12] else bif i == 0 then [7, 9, 10] else []
def spec_l06Lasting_ks7 (S : SatT) (K : AVal → H → Prop) : Kont := kSeq (cwp S tab spec_l06Lasting_M [] (sub [1, 1, 1, 1, 1, 1] (bodyOf Try.f72)) (kFun tab (Try.f72).results.toList K)) (kFun tab (Try.f72).results.toList K)
def spec_l06Lasting_e0 (s7_ : Sl) (s9_ : Sl) (i10_ : Int) : Frame := [U, U, U, U, U, U, U, .sl s7_, U, .sl s9_, .int .i64 i10_, U, U, U, U, U, U, U, U, U, U, U, U, U, U, U, U, U, U, U, U, U, U, U, U, U, U, U, U, U, U, U, U, U, U, U, U, U, U, U, U, U, U, U, U, U, U, U, U, U, U, U, U, U, U, U, U, U, U, U, U, U, U, U, U, U, U, U, U, U, U, U, U, U, U, U, U, U, U, U, U, U, U, U, U, U, U, U, U, U, U]
def spec_l06Lasting_w0 (S : SatT) (K : AVal → H → Prop) : (Frame → H → Prop) → Frame → H → Prop := fun X fr h => cwp S tab spec_l06Lasting_M (spec_l06Lasting_M 0) (sub [1, 1, 1, 1, 1, 0, 1, 0, 0] (bodyOf Try.f72)) (kSeq (fun fr h => X (mask (spec_l06Lasting_M 0) fr) h) (kBlk 0 (spec_l06Lasting_ks7 S K))) fr h
def spec_l06Lasting_L0 (S : SatT) (K : AVal → H → Prop) (s7_ : Sl) (s9_ : Sl) (i10_ : Int) (h : H) : Prop := loopK (spec_l06Lasting_w0 S K) (spec_l06Lasting_e0 s7_ s9_ i10_) h
def spec_l06Lasting_ks17 (S : SatT) (K : AVal → H → Prop) : Kont := kSeq (cwp S tab spec_l06Lasting_M [] (sub [1, 1, 1, 1, 1, 1, 1, 1, 1, 1] (bodyOf Try.f72)) (kFun tab (Try.f72).results.toList K)) (kFun tab (Try.f72).results.toList K)
def spec_l06Lasting_e2 (s7_ : Sl) (s9_ : Sl) (s11_ : Sl) (i12_ : Int) : Frame := [U, U, U, U, U, U, U, .sl s7_, U, .sl s9_, U, .sl s11_, .int .i64 i12_, U, U, U, U, U, U, U, U, U, U, U, U, U, U, U, U, U, U, U, U, U, U, U, U, U, U, U, U, U, U, U, U, U, U, U, U, U, U, U, U, U, U, U, U, U, U, U, U, U, U, U, U, U, U, U, U, U, U, U, U, U, U, U, U, U, U, U, U, U, U, U, U, U, U, U, U, U, U, U, U, U, U, U, U, U, U, U, U]
def spec_l06Lasting_w2 (S : SatT) (K : AVal → H → Prop) : (Frame → H → Prop) → Frame → H → Prop := fun X fr h => cwp S tab spec_l06Lasting_M (spec_l06Lasting_M 2) (sub [1, 1, 1, 1, 1, 1, 1, 1, 1, 0, 1, 0, 0] (bodyOf Try.f72)) (kSeq (fun fr h => X (mask (spec_l06Lasting_M 2) fr) h) (kBlk 2 (spec_l06Lasting_ks17 S K))) fr h
def spec_l06Lasting_L2 (S : SatT) (K : AVal → H → Prop) (s7_ : Sl) (s9_ : Sl) (s11_ : Sl) (i12_ : Int) (h : H) : Prop := loopK (spec_l06Lasting_w2 S K) (spec_l06Lasting_e2 s7_ s9_ s11_ i12_) h
def spec_l06Lasting_ks22 (S : SatT) (K : AVal → H → Prop) : Kont := kSeq (cwp S tab spec_l06Lasting_M [] (sub [1, 1, 1, 1, 1, 1, 1, 1, 1, 1, 1] (bodyOf Try.f72)) (kFun tab (Try.f72).results.toList K)) (kFun tab (Try.f72).results.toList K)
def spec_l06Lasting_e4 (s7_ : Sl) (s9_ : Sl) (s11_ : Sl) (i13_ : Int) : Frame := [U, U, U, U, U, U, U, .sl s7_, U, .sl s9_, U, .sl s11_, U, .int .i64 i13_, U, U, U, U, U, U, U, U, U, U, U, U, U, U, U, U, U, U, U, U, U, U, U, U, U, U, U, U, U, U, U, U, U, U, U, U, U, U, U, U, U, U, U, U, U, U, U, U, U, U, U, U, U, U, U, U, U, U, U, U, U, U, U, U, U, U, U, U, U, U, U, U, U, U, U, U, U, U, U, U, U, U, U, U, U, U, U]
def spec_l06Lasting_w4 (S : SatT) (K : AVal → H → Prop) : (Frame → H → Prop) → Frame → H → Prop := fun X fr h => cwp S tab spec_l06Lasting_M (spec_l06Lasting_M 4) (sub [1, 1, 1, 1, 1, 1, 1, 1, 1, 1, 0, 1, 0, 0] (bodyOf Try.f72)) (kSeq (fun fr h => X (mask (spec_l06Lasting_M 4) fr) h) (kBlk 4 (spec_l06Lasting_ks22 S K))) fr h
def spec_l06Lasting_L4 (S : SatT) (K : AVal → H → Prop) (s7_ : Sl) (s9_ : Sl) (s11_ : Sl) (i13_ : Int) (h : H) : Prop := loopK (spec_l06Lasting_w4 S K) (spec_l06Lasting_e4 s7_ s9_ s11_ i13_) h
def spec_l06Lasting_C4 (S : SatT) (K : AVal → H → Prop) (s9_ : Sl) (s11_ : Sl) (h : H) : Prop :=
 K (.tuple [.sl s9_, .sl s11_, .int .i64 (0)]) h
def spec_l06Lasting_b4 (S : SatT) (K : AVal → H → Prop) (X4 : Frame → H → Prop) (s7_ : Sl) (s9_ : Sl) (s11_ : Sl) (i13_ : Int) (h : H) : Prop :=
 bif (decide (i13_ < (s7_.len : Int))) then
 ixS s7_ 1 i13_ fun p0 =>
 ldS p0 h fun s1 =>
 ixS s1 1 (0) fun p2 =>
 ldI .i64 p2 h fun n3 =>
 callI S .i64 i_spec_l04Find [.sl s9_, .int .i64 n3] h fun n5 h4 =>
 ixS s11_ 1 n5 fun p6 =>
 ldS p6 h4 fun s7 =>
 ixS s7_ 1 i13_ fun p8 =>
 ldS p8 h4 fun s9 =>
 ixS s9 1 (1) fun p10 =>
 ldI .i64 p10 h4 fun n11 =>
 callI S .i64 i_spec_l04Find [.sl s9_, .int .i64 n11] h4 fun n13 h12 =>
 ixS s7 1 n13 fun p14 =>
 ldI .i64 p14 h12 fun n15 =>
 ixS s7 1 n13 fun p16 =>
 st1 p16 (.int .i64 (w64 (n15 + (1)))) h12 fun h17 =>
 X4 (spec_l06Lasting_e4 s7_ s9_ s11_ (w64 (i13_ + (1)))) h17
 else
 spec_l06Lasting_C4 S K s9_ s11_ h
theorem spec_l06Lasting_link4 (S : SatT) (K : AVal → H → Prop) (X4 : Frame → H → Prop) (s7_ : Sl) (s9_ : Sl) (s11_ : Sl) (i13_ : Int) (h : H) : spec_l06Lasting_w4 S K X4 (spec_l06Lasting_e4 s7_ s9_ s11_ i13_) h = spec_l06Lasting_b4 S K X4 s7_ s9_ s11_ i13_ h := by kernel_rfl
theorem spec_l06Lasting_rule4 (S : SatT) (K : AVal → H → Prop) (s7_ : Sl) (s9_ : Sl) (s11_ : Sl) (I_ : Int → H → Prop) (m_ : Int → H → Nat)
    (hs : ∀ (X4 : Frame → H → Prop) (i13_ : Int) (h : H), I_ i13_ h → (∀ (i13_' : Int) (h' : H), I_ i13_' h' → m_ i13_' h' < m_ i13_ h → X4 (spec_l06Lasting_e4 s7_ s9_ s11_ i13_') h') → spec_l06Lasting_b4 S K X4 s7_ s9_ s11_ i13_ h) (i13_ : Int) {h : H} (h0 : I_ i13_ h) : spec_l06Lasting_L4 S K s7_ s9_ s11_ i13_ h :=
  loop_rule (σ := (Int)) (fun s_ => spec_l06Lasting_e4 s7_ s9_ s11_ (s_)) (fun s_ h => I_ (s_) h) (fun s_ h => m_ (s_) h)
    (fun X s_ h hi hx => (spec_l06Lasting_link4 S K X s7_ s9_ s11_ (s_) h).mpr (hs X (s_) h hi fun i13_' h' hi' hm' => hx (i13_') h' hi' hm')) (i13_) h0
theorem spec_l06Lasting_unroll4 (S : SatT) (K : AVal → H → Prop) (s7_ : Sl) (s9_ : Sl) (s11_ : Sl) (i13_ : Int) (h : H) (hb : spec_l06Lasting_b4 S K (fun fr h => loopK (spec_l06Lasting_w4 S K) fr h) s7_ s9_ s11_ i13_ h) : spec_l06Lasting_L4 S K s7_ s9_ s11_ i13_ h := loop_unroll ((spec_l06Lasting_link4 S K _ s7_ s9_ s11_ i13_ h).mpr hb)
def spec_l06Lasting_C2 (S : SatT) (K : AVal → H → Prop) (s7_ : Sl) (s9_ : Sl) (s11_ : Sl) (h : H) : Prop :=
 spec_l06Lasting_L4 S K s7_ s9_ s11_ (0) h
def spec_l06Lasting_b2 (S : SatT) (K : AVal → H → Prop) (X2 : Frame → H → Prop) (s7_ : Sl) (s9_ : Sl) (s11_ : Sl) (i12_ : Int) (h : H) : Prop :=
 bif (decide (i12_ < (s9_.len : Int))) then
 mkS (s9_.len : Int) [.int .i64 (0)] h fun s0 h1 =>
 newS 1 1 [.sl s0] h1 fun s2 h3 =>
 app s11_ s2 1 h3 fun s4 h5 =>
 X2 (spec_l06Lasting_e2 s7_ s9_ s4 (w64 (i12_ + (1)))) h5
 else
 spec_l06Lasting_C2 S K s7_ s9_ s11_ h
theorem spec_l06Lasting_link2 (S : SatT) (K : AVal → H → Prop) (X2 : Frame → H → Prop) (s7_ : Sl) (s9_ : Sl) (s11_ : Sl) (i12_ : Int) (h : H) : spec_l06Lasting_w2 S K X2 (spec_l06Lasting_e2 s7_ s9_ s11_ i12_) h = spec_l06Lasting_b2 S K X2 s7_ s9_ s11_ i12_ h := by kernel_rfl
theorem spec_l06Lasting_rule2 (S : SatT) (K : AVal → H → Prop) (s7_ : Sl) (s9_ : Sl) (I_ : Sl → Int → H → Prop) (m_ : Sl → Int → H → Nat)
    (hs : ∀ (X2 : Frame → H → Prop) (s11_ : Sl) (i12_ : Int) (h : H), I_ s11_ i12_ h → (∀ (s11_' : Sl) (i12_' : Int) (h' : H), I_ s11_' i12_' h' → m_ s11_' i12_' h' < m_ s11_ i12_ h → X2 (spec_l06Lasting_e2 s7_ s9_ s11_' i12_') h') → spec_l06Lasting_b2 S K X2 s7_ s9_ s11_ i12_ h) (s11_ : Sl) (i12_ : Int) {h : H} (h0 : I_ s11_ i12_ h) : spec_l06Lasting_L2 S K s7_ s9_ s11_ i12_ h :=
  loop_rule (σ := (Sl) × (Int)) (fun s_ => spec_l06Lasting_e2 s7_ s9_ (s_.1) (s_.2)) (fun s_ h => I_ (s_.1) (s_.2) h) (fun s_ h => m_ (s_.1) (s_.2) h)
    (fun X s_ h hi hx => (spec_l06Lasting_link2 S K X s7_ s9_ (s_.1) (s_.2) h).mpr (hs X (s_.1) (s_.2) h hi fun s11_' i12_' h' hi' hm' => hx (s11_', i12_') h' hi' hm')) (s11_, i12_) h0
theorem spec_l06Lasting_unroll2 (S : SatT) (K : AVal → H → Prop) (s7_ : Sl) (s9_ : Sl) (s11_ : Sl) (i12_ : Int) (h : H) (hb : spec_l06Lasting_b2 S K (fun fr h => loopK (spec_l06Lasting_w2 S K) fr h) s7_ s9_ s11_ i12_ h) : spec_l06Lasting_L2 S K s7_ s9_ s11_ i12_ h := loop_unroll ((spec_l06Lasting_link2 S K _ s7_ s9_ s11_ i12_ h).mpr hb)
def spec_l06Lasting_C0 (S : SatT) (K : AVal → H → Prop) (s7_ : Sl) (s9_ : Sl) (h : H) : Prop :=
 callS S i_spec_l04Sorted [.sl s9_] h fun s1 h0 =>
 bif (decide ((s1.len : Int) > (40))) then
 K (.tuple [.sl Sl.nil, .sl Sl.nil, .int .i64 (3)]) h0
 else
 newS 0 1 [] h0 fun s2 h3 =>
 spec_l06Lasting_L2 S K s7_ s1 s2 (0) h3
def spec_l06Lasting_b0 (S : SatT) (K : AVal → H → Prop) (X0 : Frame → H → Prop) (s7_ : Sl) (s9_ : Sl) (i10_ : Int) (h : H) : Prop :=
 bif (decide (i10_ < (s7_.len : Int))) then
 ixS s7_ 1 i10_ fun p0 =>
 ldS p0 h fun s1 =>
 ixS s1 1 (0) fun p2 =>
 ldI .i64 p2 h fun n3 =>
 ixS s7_ 1 i10_ fun p4 =>
 ldS p4 h fun s5 =>
 ixS s5 1 (1) fun p6 =>
 ldI .i64 p6 h fun n7 =>
 newS 2 1 [.int .i64 n3, .int .i64 n7] h fun s8 h9 =>
 app s9_ s8 1 h9 fun s10 h11 =>
 X0 (spec_l06Lasting_e0 s7_ s10 (w64 (i10_ + (1)))) h11
 else
 spec_l06Lasting_C0 S K s7_ s9_ h
theorem spec_l06Lasting_link0 (S : SatT) (K : AVal → H → Prop) (X0 : Frame → H → Prop) (s7_ : Sl) (s9_ : Sl) (i10_ : Int) (h : H) : spec_l06Lasting_w0 S K X0 (spec_l06Lasting_e0 s7_ s9_ i10_) h = spec_l06Lasting_b0 S K X0 s7_ s9_ i10_ h := by kernel_rfl
theorem spec_l06Lasting_rule0 (S : SatT) (K : AVal → H → Prop) (s7_ : Sl) (I_ : Sl → Int → H → Prop) (m_ : Sl → Int → H → Nat)
    (hs : ∀ (X0 : Frame → H → Prop) (s9_ : Sl) (i10_ : Int) (h : H), I_ s9_ i10_ h → (∀ (s9_' : Sl) (i10_' : Int) (h' : H), I_ s9_' i10_' h' → m_ s9_' i10_' h' < m_ s9_ i10_ h → X0 (spec_l06Lasting_e0 s7_ s9_' i10_') h') → spec_l06Lasting_b0 S K X0 s7_ s9_ i10_ h) (s9_ : Sl) (i10_ : Int) {h : H} (h0 : I_ s9_ i10_ h) : spec_l06Lasting_L0 S K s7_ s9_ i10_ h :=
  loop_rule (σ := (Sl) × (Int)) (fun s_ => spec_l06Lasting_e0 s7_ (s_.1) (s_.2)) (fun s_ h => I_ (s_.1) (s_.2) h) (fun s_ h => m_ (s_.1) (s_.2) h)
    (fun X s_ h hi hx => (spec_l06Lasting_link0 S K X s7_ (s_.1) (s_.2) h).mpr (hs X (s_.1) (s_.2) h hi fun s9_' i10_' h' hi' hm' => hx (s9_', i10_') h' hi' hm')) (s9_, i10_) h0
theorem spec_l06Lasting_unroll0 (S : SatT) (K : AVal → H → Prop) (s7_ : Sl) (s9_ : Sl) (i10_ : Int) (h : H) (hb : spec_l06Lasting_b0 S K (fun fr h => loopK (spec_l06Lasting_w0 S K) fr h) s7_ s9_ i10_ h) : spec_l06Lasting_L0 S K s7_ s9_ i10_ h := loop_unroll ((spec_l06Lasting_link0 S K _ s7_ s9_ i10_ h).mpr hb)
def spec_l06Lasting_main (S : SatT) (K : AVal → H → Prop) (x0 : List AVal) (x1 : Int) (h : H) : Prop :=
 newK 2 x0 h fun p0 h1 =>
 ldA p0 2 h1 fun cs2 =>
 callV S i_spec_l06Code [.agg cs2, .int .i64 x1] h1 fun v4 h3 =>
 viaT v4 fun vs5 =>
 exS vs5 0 fun s6 =>
 viaT v4 fun vs7 =>
 exI .i64 vs7 1 fun n8 =>
 bif (n8 != (0)) then
 K (.tuple [.sl Sl.nil, .sl Sl.nil, .int .i64 n8]) h3
 else
 ldA p0 2 h3 fun cs9 =>
 callI S .i64 i_spec_l06Size [.agg cs9, .int .i64 x1] h3 fun n11 h10 =>
 callS S i_spec_l06Keep [.sl s6, .int .i64 n11] h10 fun s13 h12 =>
 newS 0 1 [] h12 fun s14 h15 =>
 spec_l06Lasting_L0 S K s13 s14 (0) h15
theorem spec_l06Lasting_main_link (S : SatT) (K : AVal → H → Prop) (x0 : List AVal) (x1 : Int) (h : H) : cwp S tab spec_l06Lasting_M [] (bodyOf Try.f72) (kFun tab Try.f72.results.toList K) (fr0 Try.f72 [.agg x0, .int .i64 x1]) h = spec_l06Lasting_main S K x0 x1 h := by kernel_rfl
theorem spec_l06Lasting_call (x0 : List AVal) (x1 : Int) (h : H) (K : AVal → H → Prop) (hm : spec_l06Lasting_main (Sat Try.prog) (fun v h' => K v h') x0 x1 h) : callV (Sat Try.prog) i_spec_l06Lasting [.agg x0, .int .i64 x1] h K := by
  have := Sat.ex tok mixed spec_l06Lasting_M Try.func72 (c := bodyOf Try.f72) (by kernel_rfl) (calls_of Try.func72 (c := bodyOf Try.f72) (by kernel_rfl) (by decide)) ((spec_l06Lasting_main_link _ _ x0 x1 h).mpr hm)
  exact this

/-! ### loop.example/g01354/impl.ColumnWords -/
def impl_ColumnWords_M : Nat → List Nat := fun i => bif i == 2 then [1, 6, 10, 12, 13, 14, 27, 28, 29] else bif i == 0 then [1, 6, 10, 27, 28, 29] else []
def impl_ColumnWords_ks6 (S : SatT) (K : AVal → H → Prop) : Kont := kSeq (cwp S tab impl_ColumnWords_M [] (sub [1, 1, 1, 1, 1] (bodyOf Try.f33)) (kFun tab (Try.f33).results.toList K)) (kFun tab (Try.f33).results.toList K)
def impl_ColumnWords_e0 (i1_ : Int) (p6_ : Pt) (s10_ : Sl) (s27_ : Sl) (i28_ : Int) (i29_ : Int) : Frame := [U, .int .i64 i1_, U, U, U, U, .ptr p6_, U, U, U, .sl s10_, U, U, U, U, U, U, U, U, U, U, U, U, U, U, U, U, .sl s27_, .int .i64 i28_, .int .i64 i29_, U, U, U, U, U, U, U, U, U, U, U, U, U, U, U, U, U, U, U, U, U, U, U, U, U, U, U, U, U, U, U, U, U, U]
def impl_ColumnWords_w0 (S : SatT) (K : AVal → H → Prop) : (Frame → H → Prop) → Frame → H → Prop := fun X fr h => cwp S tab impl_ColumnWords_M (impl_ColumnWords_M 0) (sub [1, 1, 1, 1, 0, 1, 0, 0] (bodyOf Try.f33)) (kSeq (fun fr h => X (mask (impl_ColumnWords_M 0) fr) h) (kBlk 0 (impl_ColumnWords_ks6 S K))) fr h
def impl_ColumnWords_L0 (S : SatT) (K : AVal → H → Prop) (i1_ : Int) (p6_ : Pt) (s10_ : Sl) (s27_ : Sl) (i28_ : Int) (i29_ : Int) (h : H) : Prop := loopK (impl_ColumnWords_w0 S K) (impl_ColumnWords_e0 i1_ p6_ s10_ s27_ i28_ i29_) h
def impl_ColumnWords_ks10 (S : SatT) (K : AVal → H → Prop) (X0 : Frame → H → Prop) : Kont := kSeq (cwp S tab impl_ColumnWords_M (impl_ColumnWords_M 0) (sub [1, 1, 1, 1, 0, 1, 0, 0, 1, 1, 1] (bodyOf Try.f33)) (kSeq (fun fr h => X0 (mask (impl_ColumnWords_M 0) fr) h) (kBlk 0 (impl_ColumnWords_ks6 S K)))) (kSeq (fun fr h => X0 (mask (impl_ColumnWords_M 0) fr) h) (kBlk 0 (impl_ColumnWords_ks6 S K)))
def impl_ColumnWords_ks13 (S : SatT) (K : AVal → H → Prop) (X0 : Frame → H → Prop) : Kont := kSeq (cwp S tab impl_ColumnWords_M (impl_ColumnWords_M 1) (sub [1, 1, 1, 1, 0, 1, 0, 0, 1, 1, 0, 0, 1, 1, 1] (bodyOf Try.f33)) (kBlk 1 (impl_ColumnWords_ks10 S K X0))) (kBlk 1 (impl_ColumnWords_ks10 S K X0))
def impl_ColumnWords_e2 (i1_ : Int) (p6_ : Pt) (s10_ : Sl) (i12_ : Int) (s13_ : Sl) (i14_ : Int) (s27_ : Sl) (i28_ : Int) (i29_ : Int) : Frame := [U, .int .i64 i1_, U, U, U, U, .ptr p6_, U, U, U, .sl s10_, U, .int .i64 i12_, .sl s13_, .int .i64 i14_, U, U, U, U, U, U, U, U, U, U, U, U, .sl s27_, .int .i64 i28_, .int .i64 i29_, U, U, U, U, U, U, U, U, U, U, U, U, U, U, U, U, U, U, U, U, U, U, U, U, U, U, U, U, U, U, U, U, U, U]
def impl_ColumnWords_w2 (S : SatT) (K : AVal → H → Prop) (X0 : Frame → H → Prop) : (Frame → H → Prop) → Frame → H → Prop := fun X fr h => cwp S tab impl_ColumnWords_M (impl_ColumnWords_M 2) (sub [1, 1, 1, 1, 0, 1, 0, 0, 1, 1, 0, 0, 1, 1, 0, 1, 0, 0] (bodyOf Try.f33)) (kSeq (fun fr h => X (mask (impl_ColumnWords_M 2) fr) h) (kBlk 2 (impl_ColumnWords_ks13 S K X0))) fr h
def impl_ColumnWords_L2 (S : SatT) (K : AVal → H → Prop) (X0 : Frame → H → Prop) (i1_ : Int) (p6_ : Pt) (s10_ : Sl) (i12_ : Int) (s13_ : Sl) (i14_ : Int) (s27_ : Sl) (i28_ : Int) (i29_ : Int) (h : H) : Prop := loopK (impl_ColumnWords_w2 S K X0) (impl_ColumnWords_e2 i1_ p6_ s10_ i12_ s13_ i14_ s27_ i28_ i29_) h
def impl_ColumnWords_C1 (S : SatT) (K : AVal → H → Prop) (X0 : Frame → H → Prop) (i1_ : Int) (p6_ : Pt) (s10_ : Sl) (s27_ : Sl) (i28_ : Int) (i29_ : Int) (h : H) : Prop :=
 X0 (impl_ColumnWords_e0 i1_ p6_ s10_ s27_ i28_ (w64 (i29_ + (1)))) h
def impl_ColumnWords_C2 (S : SatT) (K : AVal → H → Prop) (X0 : Frame → H → Prop) (i1_ : Int) (p6_ : Pt) (s10_ : Sl) (s13_ : Sl) (s27_ : Sl) (i28_ : Int) (i29_ : Int) (h : H) : Prop :=
 newS 1 1 [.sl s13_] h fun s0 h1 =>
 app s10_ s0 1 h1 fun s2 h3 =>
 impl_ColumnWords_C1 S K X0 i1_ p6_ s2 s27_ i28_ i29_ h3
def impl_ColumnWords_b2 (S : SatT) (K : AVal → H → Prop) (X0 : Frame → H → Prop) (X2 : Frame → H → Prop) (i1_ : Int) (p6_ : Pt) (s10_ : Sl) (i12_ : Int) (s13_ : Sl) (i14_ : Int) (s27_ : Sl) (i28_ : Int) (i29_ : Int) (h : H) : Prop :=
 bif (decide (i14_ ≥ (0))) then
 nilC (.ptr p6_) (
 isPt p6_ (
 isPt (Pt.add p6_ 0) (
 ldI .i64 (Pt.add (Pt.add p6_ 0) 0) h fun n0 =>
 nz n0 (
 ixS s13_ 1 i14_ fun p1 =>
 st1 p1 (.int .i64 (Int.tmod i12_ n0)) h fun h2 =>
 nilC (.ptr p6_) (
 isPt p6_ (
 isPt (Pt.add p6_ 0) (
 ldI .i64 (Pt.add (Pt.add p6_ 0) 0) h2 fun n3 =>
 nz n3 (
 X2 (impl_ColumnWords_e2 i1_ p6_ s10_ (w64 (Int.tdiv i12_ n3)) s13_ (w64 (i14_ - (1))) s27_ i28_ i29_) h2))))))))
 else
 impl_ColumnWords_C2 S K X0 i1_ p6_ s10_ s13_ s27_ i28_ i29_ h
theorem impl_ColumnWords_link2 (S : SatT) (K : AVal → H → Prop) (X0 : Frame → H → Prop) (X2 : Frame → H → Prop) (i1_ : Int) (p6_ : Pt) (s10_ : Sl) (i12_ : Int) (s13_ : Sl) (i14_ : Int) (s27_ : Sl) (i28_ : Int) (i29_ : Int) (h : H) : impl_ColumnWords_w2 S K X0 X2 (impl_ColumnWords_e2 i1_ p6_ s10_ i12_ s13_ i14_ s27_ i28_ i29_) h = impl_ColumnWords_b2 S K X0 X2 i1_ p6_ s10_ i12_ s13_ i14_ s27_ i28_ i29_ h := by kernel_rfl
theorem impl_ColumnWords_rule2 (S : SatT) (K : AVal → H → Prop) (X0 : Frame → H → Prop) (i1_ : Int) (p6_ : Pt) (s10_ : Sl) (s13_ : Sl) (s27_ : Sl) (i28_ : Int) (i29_ : Int) (I_ : Int → Int → H → Prop) (m_ : Int → Int → H → Nat)
    (hs : ∀ (X2 : Frame → H → Prop) (i12_ : Int) (i14_ : Int) (h : H), I_ i12_ i14_ h → (∀ (i12_' : Int) (i14_' : Int) (h' : H), I_ i12_' i14_' h' → m_ i12_' i14_' h' < m_ i12_ i14_ h → X2 (impl_ColumnWords_e2 i1_ p6_ s10_ i12_' s13_ i14_' s27_ i28_ i29_) h') → impl_ColumnWords_b2 S K X0 X2 i1_ p6_ s10_ i12_ s13_ i14_ s27_ i28_ i29_ h) (i12_ : Int) (i14_ : Int) {h : H} (h0 : I_ i12_ i14_ h) : impl_ColumnWords_L2 S K X0 i1_ p6_ s10_ i12_ s13_ i14_ s27_ i28_ i29_ h :=
  loop_rule (σ := (Int) × (Int)) (fun s_ => impl_ColumnWords_e2 i1_ p6_ s10_ (s_.1) s13_ (s_.2) s27_ i28_ i29_) (fun s_ h => I_ (s_.1) (s_.2) h) (fun s_ h => m_ (s_.1) (s_.2) h)
    (fun X s_ h hi hx => (impl_ColumnWords_link2 S K X0 X i1_ p6_ s10_ (s_.1) s13_ (s_.2) s27_ i28_ i29_ h).mpr (hs X (s_.1) (s_.2) h hi fun i12_' i14_' h' hi' hm' => hx (i12_', i14_') h' hi' hm')) (i12_, i14_) h0
theorem impl_ColumnWords_unroll2 (S : SatT) (K : AVal → H → Prop) (X0 : Frame → H → Prop) (i1_ : Int) (p6_ : Pt) (s10_ : Sl) (i12_ : Int) (s13_ : Sl) (i14_ : Int) (s27_ : Sl) (i28_ : Int) (i29_ : Int) (h : H) (hb : impl_ColumnWords_b2 S K X0 (fun fr h => loopK (impl_ColumnWords_w2 S K X0) fr h) i1_ p6_ s10_ i12_ s13_ i14_ s27_ i28_ i29_ h) : impl_ColumnWords_L2 S K X0 i1_ p6_ s10_ i12_ s13_ i14_ s27_ i28_ i29_ h := loop_unroll ((impl_ColumnWords_link2 S K X0 _ i1_ p6_ s10_ i12_ s13_ i14_ s27_ i28_ i29_ h).mpr hb)
def impl_ColumnWords_C0 (S : SatT) (K : AVal → H → Prop) (s10_ : Sl) (h : H) : Prop :=
 K (.tuple [.sl s10_, .int .i64 (0)]) h
def impl_ColumnWords_b0 (S : SatT) (K : AVal → H → Prop) (X0 : Frame → H → Prop) (i1_ : Int) (p6_ : Pt) (s10_ : Sl) (s27_ : Sl) (i28_ : Int) (i29_ : Int) (h : H) : Prop :=
 bif (decide (i29_ < i28_)) then
 ixS s27_ 1 i29_ fun p0 =>
 ldI .i64 p0 h fun n1 =>
 mkS i1_ [.int .i64 (0)] h fun s2 h3 =>
 impl_ColumnWords_L2 S K X0 i1_ p6_ s10_ n1 s2 (w64 (i1_ - (1))) s27_ i28_ i29_ h3
 else
 impl_ColumnWords_C0 S K s10_ h
theorem impl_ColumnWords_link0 (S : SatT) (K : AVal → H → Prop) (X0 : Frame → H → Prop) (i1_ : Int) (p6_ : Pt) (s10_ : Sl) (s27_ : Sl) (i28_ : Int) (i29_ : Int) (h : H) : impl_ColumnWords_w0 S K X0 (impl_ColumnWords_e0 i1_ p6_ s10_ s27_ i28_ i29_) h = impl_ColumnWords_b0 S K X0 i1_ p6_ s10_ s27_ i28_ i29_ h := by kernel_rfl
theorem impl_ColumnWords_rule0 (S : SatT) (K : AVal → H → Prop) (i1_ : Int) (p6_ : Pt) (s27_ : Sl) (i28_ : Int) (I_ : Sl → Int → H → Prop) (m_ : Sl → Int → H → Nat)
    (hs : ∀ (X0 : Frame → H → Prop) (s10_ : Sl) (i29_ : Int) (h : H), I_ s10_ i29_ h → (∀ (s10_' : Sl) (i29_' : Int) (h' : H), I_ s10_' i29_' h' → m_ s10_' i29_' h' < m_ s10_ i29_ h → X0 (impl_ColumnWords_e0 i1_ p6_ s10_' s27_ i28_ i29_') h') → impl_ColumnWords_b0 S K X0 i1_ p6_ s10_ s27_ i28_ i29_ h) (s10_ : Sl) (i29_ : Int) {h : H} (h0 : I_ s10_ i29_ h) : impl_ColumnWords_L0 S K i1_ p6_ s10_ s27_ i28_ i29_ h :=
  loop_rule (σ := (Sl) × (Int)) (fun s_ => impl_ColumnWords_e0 i1_ p6_ (s_.1) s27_ i28_ (s_.2)) (fun s_ h => I_ (s_.1) (s_.2) h) (fun s_ h => m_ (s_.1) (s_.2) h)
    (fun X s_ h hi hx => (impl_ColumnWords_link0 S K X i1_ p6_ (s_.1) s27_ i28_ (s_.2) h).mpr (hs X (s_.1) (s_.2) h hi fun s10_' i29_' h' hi' hm' => hx (s10_', i29_') h' hi' hm')) (s10_, i29_) h0
theorem impl_ColumnWords_unroll0 (S : SatT) (K : AVal → H → Prop) (i1_ : Int) (p6_ : Pt) (s10_ : Sl) (s27_ : Sl) (i28_ : Int) (i29_ : Int) (h : H) (hb : impl_ColumnWords_b0 S K (fun fr h => loopK (impl_ColumnWords_w0 S K) fr h) i1_ p6_ s10_ s27_ i28_ i29_ h) : impl_ColumnWords_L0 S K i1_ p6_ s10_ s27_ i28_ i29_ h := loop_unroll ((impl_ColumnWords_link0 S K _ i1_ p6_ s10_ s27_ i28_ i29_ h).mpr hb)
def impl_ColumnWords_main (S : SatT) (K : AVal → H → Prop) (x0 : List AVal) (x1 : Int) (h : H) : Prop :=
 newK 2 x0 h fun p0 h1 =>
 ldA p0 2 h1 fun cs2 =>
 callV S i_impl_lastingOf [.agg cs2, .int .i64 x1] h1 fun v4 h3 =>
 viaT v4 fun vs5 =>
 exP vs5 0 fun p6 =>
 viaT v4 fun vs7 =>
 exS vs7 1 fun s8 =>
 viaT v4 fun vs9 =>
 exS vs9 2 fun s10 =>
 viaT v4 fun vs11 =>
 exI .i64 vs11 3 fun n12 =>
 bif (n12 != (0)) then
 K (.tuple [.sl Sl.nil, .int .i64 n12]) h3
 else
 newS 0 1 [] h3 fun s13 h14 =>
 impl_ColumnWords_L0 S K x1 p6 s13 s8 (s8.len : Int) (0) h14
theorem impl_ColumnWords_main_link (S : SatT) (K : AVal → H → Prop) (x0 : List AVal) (x1 : Int) (h : H) : cwp S tab impl_ColumnWords_M [] (bodyOf Try.f33) (kFun tab Try.f33.results.toList K) (fr0 Try.f33 [.agg x0, .int .i64 x1]) h = impl_ColumnWords_main S K x0 x1 h := by kernel_rfl
theorem impl_ColumnWords_call (x0 : List AVal) (x1 : Int) (h : H) (K : AVal → H → Prop) (hm : impl_ColumnWords_main (Sat Try.prog) (fun v h' => K v h') x0 x1 h) : callV (Sat Try.prog) i_impl_ColumnWords [.agg x0, .int .i64 x1] h K := by
  have := Sat.ex tok mixed impl_ColumnWords_M Try.func33 (c := bodyOf Try.f33) (by kernel_rfl) (calls_of Try.func33 (c := bodyOf Try.f33) (by kernel_rfl) (by decide)) ((impl_ColumnWords_main_link _ _ x0 x1 h).mpr hm)
  exact this

/-! ### (*loop.example/g01354/impl.strip).endless -/
def impl_strip_endless_M : Nat → List Nat := fun i => bif i == 2 then [0, 1, 2, 7, 8, 25, 26, 27] else bif i == 0 then [0, 1, 2, 7] else []
def impl_strip_endless_e0 (p0_ : Pt) (i1_ : Int) (i2_ : Int) (s7_ : Sl) : Frame := [.ptr p0_, .int .i64 i1_, .int .i64 i2_, U, U, U, U, .sl s7_, U, U, U, U, U, U, U, U, U, U, U, U, U, U, U, U, U, U, U, U, U, U, U, U, U, U, U, U, U, U, U, U, U, U, U, U, U, U, U, U, U, U, U, U, U, U, U, U]
def impl_strip_endless_w0 (S : SatT) (K : AVal → H → Prop) : (Frame → H → Prop) → Frame → H → Prop := fun X fr h => cwp S tab impl_strip_endless_M (impl_strip_endless_M 0) (sub [1, 1, 0, 0] (bodyOf Try.f121)) (kSeq (fun fr h => X (mask (impl_strip_endless_M 0) fr) h) (kBlk 0 (kFun tab (Try.f121).results.toList K))) fr h
def impl_strip_endless_L0 (S : SatT) (K : AVal → H → Prop) (p0_ : Pt) (i1_ : Int) (i2_ : Int) (s7_ : Sl) (h : H) : Prop := loopK (impl_strip_endless_w0 S K) (impl_strip_endless_e0 p0_ i1_ i2_ s7_) h
def impl_strip_endless_ks3 (S : SatT) (K : AVal → H → Prop) (X0 : Frame → H → Prop) : Kont := kSeq (cwp S tab impl_strip_endless_M (impl_strip_endless_M 1) (sub [1, 1, 0, 0, 0, 1, 1] (bodyOf Try.f121)) (kBlk 1 (kSeq (fun fr h => X0 (mask (impl_strip_endless_M 0) fr) h) (kBlk 0 (kFun tab (Try.f121).results.toList K))))) (kBlk 1 (kSeq (fun fr h => X0 (mask (impl_strip_endless_M 0) fr) h) (kBlk 0 (kFun tab (Try.f121).results.toList K))))
def impl_strip_endless_e2 (p0_ : Pt) (i1_ : Int) (i2_ : Int) (s7_ : Sl) (s8_ : Sl) (s25_ : Sl) (i26_ : Int) (i27_ : Int) : Frame := [.ptr p0_, .int .i64 i1_, .int .i64 i2_, U, U, U, U, .sl s7_, .sl s8_, U, U, U, U, U, U, U, U, U, U, U, U, U, U, U, U, .sl s25_, .int .i64 i26_, .int .i64 i27_, U, U, U, U, U, U, U, U, U, U, U, U, U, U, U, U, U, U, U, U, U, U, U, U, U, U, U, U]
def impl_strip_endless_w2 (S : SatT) (K : AVal → H → Prop) (X0 : Frame → H → Prop) : (Frame → H → Prop) → Frame → H → Prop := fun X fr h => cwp S tab impl_strip_endless_M (impl_strip_endless_M 2) (sub [1, 1, 0, 0, 0, 1, 0, 1, 0, 0] (bodyOf Try.f121)) (kSeq (fun fr h => X (mask (impl_strip_endless_M 2) fr) h) (kBlk 2 (impl_strip_endless_ks3 S K X0))) fr h
def impl_strip_endless_L2 (S : SatT) (K : AVal → H → Prop) (X0 : Frame → H → Prop) (p0_ : Pt) (i1_ : Int) (i2_ : Int) (s7_ : Sl) (s8_ : Sl) (s25_ : Sl) (i26_ : Int) (i27_ : Int) (h : H) : Prop := loopK (impl_strip_endless_w2 S K X0) (impl_strip_endless_e2 p0_ i1_ i2_ s7_ s8_ s25_ i26_ i27_) h
def impl_strip_endless_C2 (S : SatT) (K : AVal → H → Prop) (X0 : Frame → H → Prop) (p0_ : Pt) (i1_ : Int) (i2_ : Int) (s7_ : Sl) (s8_ : Sl) (h : H) : Prop :=
 callB S i_slices_Equal_s_bool_bool_ [.sl s8_, .sl s7_] h fun b1 h0 =>
 bif b1 then
 K (.sl s7_) h0
 else
 X0 (impl_strip_endless_e0 p0_ i1_ i2_ s8_) h0
def impl_strip_endless_b2 (S : SatT) (K : AVal → H → Prop) (X0 : Frame → H → Prop) (X2 : Frame → H → Prop) (p0_ : Pt) (i1_ : Int) (i2_ : Int) (s7_ : Sl) (s8_ : Sl) (s25_ : Sl) (i26_ : Int) (i27_ : Int) (h : H) : Prop :=
 bif (decide (i27_ < i26_)) then
 ixS s25_ 3 i27_ fun p0 =>
 ldA p0 3 h fun cs1 =>
 newO [.int .i64 (0), .int .i64 (0), .int .i64 (0)] h fun p2 h3 =>
 stN p2 3 cs1 h3 fun h4 =>
 ixA p2 3 1 i1_ fun p5 =>
 ldI .i64 p5 h4 fun n6 =>
 ixA p2 3 1 i1_ fun p7 =>
 ldI .i64 p7 h4 fun n8 =>
 ixS s8_ 1 n8 fun p9 =>
 ldB p9 h4 fun b10 =>
 bif b10 then
 ixS s8_ 1 n6 fun p11 =>
 st1 p11 (.bool true) h4 fun h12 =>
 X2 (impl_strip_endless_e2 p0_ i1_ i2_ s7_ s8_ s25_ i26_ (w64 (i27_ + (1)))) h12
 else
 ixA p2 3 1 i2_ fun p13 =>
 ldI .i64 p13 h4 fun n14 =>
 ixS s7_ 1 n14 fun p15 =>
 ldB p15 h4 fun b16 =>
 ixS s8_ 1 n6 fun p17 =>
 st1 p17 (.bool b16) h4 fun h18 =>
 X2 (impl_strip_endless_e2 p0_ i1_ i2_ s7_ s8_ s25_ i26_ (w64 (i27_ + (1)))) h18
 else
 impl_strip_endless_C2 S K X0 p0_ i1_ i2_ s7_ s8_ h
theorem impl_strip_endless_link2 (S : SatT) (K : AVal → H → Prop) (X0 : Frame → H → Prop) (X2 : Frame → H → Prop) (p0_ : Pt) (i1_ : Int) (i2_ : Int) (s7_ : Sl) (s8_ : Sl) (s25_ : Sl) (i26_ : Int) (i27_ : Int) (h : H) : impl_strip_endless_w2 S K X0 X2 (impl_strip_endless_e2 p0_ i1_ i2_ s7_ s8_ s25_ i26_ i27_) h = impl_strip_endless_b2 S K X0 X2 p0_ i1_ i2_ s7_ s8_ s25_ i26_ i27_ h := by kernel_rfl
theorem impl_strip_endless_rule2 (S : SatT) (K : AVal → H → Prop) (X0 : Frame → H → Prop) (p0_ : Pt) (i1_ : Int) (i2_ : Int) (s7_ : Sl) (s8_ : Sl) (s25_ : Sl) (i26_ : Int) (I_ : Int → H → Prop) (m_ : Int → H → Nat)
    (hs : ∀ (X2 : Frame → H → Prop) (i27_ : Int) (h : H), I_ i27_ h → (∀ (i27_' : Int) (h' : H), I_ i27_' h' → m_ i27_' h' < m_ i27_ h → X2 (impl_strip_endless_e2 p0_ i1_ i2_ s7_ s8_ s25_ i26_ i27_') h') → impl_strip_endless_b2 S K X0 X2 p0_ i1_ i2_ s7_ s8_ s25_ i26_ i27_ h) (i27_ : Int) {h : H} (h0 : I_ i27_ h) : impl_strip_endless_L2 S K X0 p0_ i1_ i2_ s7_ s8_ s25_ i26_ i27_ h :=
  loop_rule (σ := (Int)) (fun s_ => impl_strip_endless_e2 p0_ i1_ i2_ s7_ s8_ s25_ i26_ (s_)) (fun s_ h => I_ (s_) h) (fun s_ h => m_ (s_) h)
    (fun X s_ h hi hx => (impl_strip_endless_link2 S K X0 X p0_ i1_ i2_ s7_ s8_ s25_ i26_ (s_) h).mpr (hs X (s_) h hi fun i27_' h' hi' hm' => hx (i27_') h' hi' hm')) (i27_) h0
theorem impl_strip_endless_unroll2 (S : SatT) (K : AVal → H → Prop) (X0 : Frame → H → Prop) (p0_ : Pt) (i1_ : Int) (i2_ : Int) (s7_ : Sl) (s8_ : Sl) (s25_ : Sl) (i26_ : Int) (i27_ : Int) (h : H) (hb : impl_strip_endless_b2 S K X0 (fun fr h => loopK (impl_strip_endless_w2 S K X0) fr h) p0_ i1_ i2_ s7_ s8_ s25_ i26_ i27_ h) : impl_strip_endless_L2 S K X0 p0_ i1_ i2_ s7_ s8_ s25_ i26_ i27_ h := loop_unroll ((impl_strip_endless_link2 S K X0 _ p0_ i1_ i2_ s7_ s8_ s25_ i26_ i27_ h).mpr hb)
def impl_strip_endless_b0 (S : SatT) (K : AVal → H → Prop) (X0 : Frame → H → Prop) (p0_ : Pt) (i1_ : Int) (i2_ : Int) (s7_ : Sl) (h : H) : Prop :=
 nilC (.ptr p0_) (
 isPt p0_ (
 ldI .i64 (Pt.add p0_ 3) h fun n0 =>
 mkS n0 [.bool false] h fun s1 h2 =>
 nilC (.ptr p0_) (
 isPt p0_ (
 ldS (Pt.add p0_ 4) h2 fun s3 =>
 impl_strip_endless_L2 S K X0 p0_ i1_ i2_ s7_ s1 s3 (s3.len : Int) (0) h2))))
theorem impl_strip_endless_link0 (S : SatT) (K : AVal → H → Prop) (X0 : Frame → H → Prop) (p0_ : Pt) (i1_ : Int) (i2_ : Int) (s7_ : Sl) (h : H) : impl_strip_endless_w0 S K X0 (impl_strip_endless_e0 p0_ i1_ i2_ s7_) h = impl_strip_endless_b0 S K X0 p0_ i1_ i2_ s7_ h := by kernel_rfl
theorem impl_strip_endless_rule0 (S : SatT) (K : AVal → H → Prop) (p0_ : Pt) (i1_ : Int) (i2_ : Int) (I_ : Sl → H → Prop) (m_ : Sl → H → Nat)
    (hs : ∀ (X0 : Frame → H → Prop) (s7_ : Sl) (h : H), I_ s7_ h → (∀ (s7_' : Sl) (h' : H), I_ s7_' h' → m_ s7_' h' < m_ s7_ h → X0 (impl_strip_endless_e0 p0_ i1_ i2_ s7_') h') → impl_strip_endless_b0 S K X0 p0_ i1_ i2_ s7_ h) (s7_ : Sl) {h : H} (h0 : I_ s7_ h) : impl_strip_endless_L0 S K p0_ i1_ i2_ s7_ h :=
  loop_rule (σ := (Sl)) (fun s_ => impl_strip_endless_e0 p0_ i1_ i2_ (s_)) (fun s_ h => I_ (s_) h) (fun s_ h => m_ (s_) h)
    (fun X s_ h hi hx => (impl_strip_endless_link0 S K X p0_ i1_ i2_ (s_) h).mpr (hs X (s_) h hi fun s7_' h' hi' hm' => hx (s7_') h' hi' hm')) (s7_) h0
theorem impl_strip_endless_unroll0 (S : SatT) (K : AVal → H → Prop) (p0_ : Pt) (i1_ : Int) (i2_ : Int) (s7_ : Sl) (h : H) (hb : impl_strip_endless_b0 S K (fun fr h => loopK (impl_strip_endless_w0 S K) fr h) p0_ i1_ i2_ s7_ h) : impl_strip_endless_L0 S K p0_ i1_ i2_ s7_ h := loop_unroll ((impl_strip_endless_link0 S K _ p0_ i1_ i2_ s7_ h).mpr hb)
def impl_strip_endless_main (S : SatT) (K : AVal → H → Prop) (x0 : Pt) (x1 : Int) (x2 : Int) (h : H) : Prop :=
 newS 1 1 [.bool true] h fun s0 h1 =>
 nilC (.ptr x0) (
 isPt x0 (
 ldI .i64 (Pt.add x0 3) h1 fun n2 =>
 callS S i_slices_Repeat_s_bool_bool_ [.sl s0, .int .i64 n2] h1 fun s4 h3 =>
 impl_strip_endless_L0 S K x0 x1 x2 s4 h3))
theorem impl_strip_endless_main_link (S : SatT) (K : AVal → H → Prop) (x0 : Pt) (x1 : Int) (x2 : Int) (h : H) : cwp S tab impl_strip_endless_M [] (bodyOf Try.f121) (kFun tab Try.f121.results.toList K) (fr0 Try.f121 [.ptr x0, .int .i64 x1, .int .i64 x2]) h = impl_strip_endless_main S K x0 x1 x2 h := by kernel_rfl
theorem impl_strip_endless_call (x0 : Pt) (x1 : Int) (x2 : Int) (h : H) (K : Sl → H → Prop) (hm : impl_strip_endless_main (Sat Try.prog) (fun v h' => ∃ r, v = .sl r ∧ K r h') x0 x1 x2 h) : callS (Sat Try.prog) i_impl_strip_endless [.ptr x0, .int .i64 x1, .int .i64 x2] h K := by
  have := Sat.ex tok mixed impl_strip_endless_M Try.func121 (c := bodyOf Try.f121) (by kernel_rfl) (calls_of Try.func121 (c := bodyOf Try.f121) (by kernel_rfl) (by decide)) ((impl_strip_endless_main_link _ _ x0 x1 x2 h).mpr hm)
  obtain ⟨v, h2, h3, r, rfl, h4⟩ := this; exact ⟨r, h2, h3, h4⟩

/-! ### loop.example/g01354/spec.l04Sorted -/
def spec_l04Sorted_M : Nat → List Nat := fun i => bif i == 0 then [4, 5, 6, 7, 8] else []
def spec_l04Sorted_ks6 (S : SatT) (K : AVal → H → Prop) : Kont := kSeq (cwp S tab spec_l04Sorted_M [] (sub [1, 1, 1, 1, 1] (bodyOf Try.f75)) (kFun tab (Try.f75).results.toList K)) (kFun tab (Try.f75).results.toList K)
def spec_l04Sorted_e0 (s4_ : Sl) (s5_ : Sl) (s6_ : Sl) (i7_ : Int) (i8_ : Int) : Frame := [U, U, U, U, .sl s4_, .sl s5_, .sl s6_, .int .i64 i7_, .int .i64 i8_, U, U, U, U, U, U, U, U, U, U, U, U, U, U, U, U, U, U, U, U, U, U, U, U, U, U, U, U, U, U, U, U, U, U, U, U, U, U, U, U, U, U, U, U, U, U, U, U, U, U, U, U, U, U, U, U, U, U, U, U, U, U, U, U, U, U, U, U, U, U, U, U, U, U, U, U, U, U, U, U, U, U, U, U, U]
def spec_l04Sorted_w0 (S : SatT) (K : AVal → H → Prop) : (Frame → H → Prop) → Frame → H → Prop := fun X fr h => cwp S tab spec_l04Sorted_M (spec_l04Sorted_M 0) (sub [1, 1, 1, 1, 0, 1, 0, 0] (bodyOf Try.f75)) (kSeq (fun fr h => X (mask (spec_l04Sorted_M 0) fr) h) (kBlk 0 (spec_l04Sorted_ks6 S K))) fr h
def spec_l04Sorted_L0 (S : SatT) (K : AVal → H → Prop) (s4_ : Sl) (s5_ : Sl) (s6_ : Sl) (i7_ : Int) (i8_ : Int) (h : H) : Prop := loopK (spec_l04Sorted_w0 S K) (spec_l04Sorted_e0 s4_ s5_ s6_ i7_ i8_) h
def spec_l04Sorted_C0 (S : SatT) (K : AVal → H → Prop) (s6_ : Sl) (h : H) : Prop :=
 K (.sl s6_) h
def spec_l04Sorted_b0 (S : SatT) (K : AVal → H → Prop) (X0 : Frame → H → Prop) (s4_ : Sl) (s5_ : Sl) (s6_ : Sl) (i7_ : Int) (i8_ : Int) (h : H) : Prop :=
 bif (decide (i7_ < (s4_.len : Int))) then
 bif (i8_ == (s5_.len : Int)) then
 ixS s4_ 1 i7_ fun p0 =>
 ldI .i64 p0 h fun n1 =>
 newS 1 1 [.int .i64 n1] h fun s2 h3 =>
 app s6_ s2 1 h3 fun s4 h5 =>
 X0 (spec_l04Sorted_e0 s4_ s5_ s4 (w64 (i7_ + (1))) i8_) h5
 else
 bif (decide (i7_ < (s4_.len : Int))) then
 ixS s4_ 1 i7_ fun p6 =>
 ldI .i64 p6 h fun n7 =>
 ixS s5_ 1 i8_ fun p8 =>
 ldI .i64 p8 h fun n9 =>
 bif (decide (n7 < n9)) then
 ixS s4_ 1 i7_ fun p10 =>
 ldI .i64 p10 h fun n11 =>
 newS 1 1 [.int .i64 n11] h fun s12 h13 =>
 app s6_ s12 1 h13 fun s14 h15 =>
 X0 (spec_l04Sorted_e0 s4_ s5_ s14 (w64 (i7_ + (1))) i8_) h15
 else
 bif (i7_ == (s4_.len : Int)) then
 ixS s5_ 1 i8_ fun p16 =>
 ldI .i64 p16 h fun n17 =>
 newS 1 1 [.int .i64 n17] h fun s18 h19 =>
 app s6_ s18 1 h19 fun s20 h21 =>
 X0 (spec_l04Sorted_e0 s4_ s5_ s20 i7_ (w64 (i8_ + (1)))) h21
 else
 ixS s5_ 1 i8_ fun p22 =>
 ldI .i64 p22 h fun n23 =>
 ixS s4_ 1 i7_ fun p24 =>
 ldI .i64 p24 h fun n25 =>
 bif (decide (n23 < n25)) then
 ixS s5_ 1 i8_ fun p26 =>
 ldI .i64 p26 h fun n27 =>
 newS 1 1 [.int .i64 n27] h fun s28 h29 =>
 app s6_ s28 1 h29 fun s30 h31 =>
 X0 (spec_l04Sorted_e0 s4_ s5_ s30 i7_ (w64 (i8_ + (1)))) h31
 else
 X0 (spec_l04Sorted_e0 s4_ s5_ s6_ (w64 (i7_ + (1))) i8_) h
 else
 bif (i7_ == (s4_.len : Int)) then
 ixS s5_ 1 i8_ fun p32 =>
 ldI .i64 p32 h fun n33 =>
 newS 1 1 [.int .i64 n33] h fun s34 h35 =>
 app s6_ s34 1 h35 fun s36 h37 =>
 X0 (spec_l04Sorted_e0 s4_ s5_ s36 i7_ (w64 (i8_ + (1)))) h37
 else
 ixS s5_ 1 i8_ fun p38 =>
 ldI .i64 p38 h fun n39 =>
 ixS s4_ 1 i7_ fun p40 =>
 ldI .i64 p40 h fun n41 =>
 bif (decide (n39 < n41)) then
 ixS s5_ 1 i8_ fun p42 =>
 ldI .i64 p42 h fun n43 =>
 newS 1 1 [.int .i64 n43] h fun s44 h45 =>
 app s6_ s44 1 h45 fun s46 h47 =>
 X0 (spec_l04Sorted_e0 s4_ s5_ s46 i7_ (w64 (i8_ + (1)))) h47
 else
 X0 (spec_l04Sorted_e0 s4_ s5_ s6_ (w64 (i7_ + (1))) i8_) h
 else
 bif (decide (i8_ < (s5_.len : Int))) then
 bif (i8_ == (s5_.len : Int)) then
 ixS s4_ 1 i7_ fun p48 =>
 ldI .i64 p48 h fun n49 =>
 newS 1 1 [.int .i64 n49] h fun s50 h51 =>
 app s6_ s50 1 h51 fun s52 h53 =>
 X0 (spec_l04Sorted_e0 s4_ s5_ s52 (w64 (i7_ + (1))) i8_) h53
 else
 bif (decide (i7_ < (s4_.len : Int))) then
 ixS s4_ 1 i7_ fun p54 =>
 ldI .i64 p54 h fun n55 =>
 ixS s5_ 1 i8_ fun p56 =>
 ldI .i64 p56 h fun n57 =>
 bif (decide (n55 < n57)) then
 ixS s4_ 1 i7_ fun p58 =>
 ldI .i64 p58 h fun n59 =>
 newS 1 1 [.int .i64 n59] h fun s60 h61 =>
 app s6_ s60 1 h61 fun s62 h63 =>
 X0 (spec_l04Sorted_e0 s4_ s5_ s62 (w64 (i7_ + (1))) i8_) h63
 else
 bif (i7_ == (s4_.len : Int)) then
 ixS s5_ 1 i8_ fun p64 =>
 ldI .i64 p64 h fun n65 =>
 newS 1 1 [.int .i64 n65] h fun s66 h67 =>
 app s6_ s66 1 h67 fun s68 h69 =>
 X0 (spec_l04Sorted_e0 s4_ s5_ s68 i7_ (w64 (i8_ + (1)))) h69
 else
 ixS s5_ 1 i8_ fun p70 =>
 ldI .i64 p70 h fun n71 =>
 ixS s4_ 1 i7_ fun p72 =>
 ldI .i64 p72 h fun n73 =>
 bif (decide (n71 < n73)) then
 ixS s5_ 1 i8_ fun p74 =>
 ldI .i64 p74 h fun n75 =>
 newS 1 1 [.int .i64 n75] h fun s76 h77 =>
 app s6_ s76 1 h77 fun s78 h79 =>
 X0 (spec_l04Sorted_e0 s4_ s5_ s78 i7_ (w64 (i8_ + (1)))) h79
 else
 X0 (spec_l04Sorted_e0 s4_ s5_ s6_ (w64 (i7_ + (1))) i8_) h
 else
 bif (i7_ == (s4_.len : Int)) then
 ixS s5_ 1 i8_ fun p80 =>
 ldI .i64 p80 h fun n81 =>
 newS 1 1 [.int .i64 n81] h fun s82 h83 =>
 app s6_ s82 1 h83 fun s84 h85 =>
 X0 (spec_l04Sorted_e0 s4_ s5_ s84 i7_ (w64 (i8_ + (1)))) h85
 else
 ixS s5_ 1 i8_ fun p86 =>
 ldI .i64 p86 h fun n87 =>
 ixS s4_ 1 i7_ fun p88 =>
 ldI .i64 p88 h fun n89 =>
 bif (decide (n87 < n89)) then
 ixS s5_ 1 i8_ fun p90 =>
 ldI .i64 p90 h fun n91 =>
 newS 1 1 [.int .i64 n91] h fun s92 h93 =>
 app s6_ s92 1 h93 fun s94 h95 =>
 X0 (spec_l04Sorted_e0 s4_ s5_ s94 i7_ (w64 (i8_ + (1)))) h95
 else
 X0 (spec_l04Sorted_e0 s4_ s5_ s6_ (w64 (i7_ + (1))) i8_) h
 else
 spec_l04Sorted_C0 S K s6_ h
theorem spec_l04Sorted_link0 (S : SatT) (K : AVal → H → Prop) (X0 : Frame → H → Prop) (s4_ : Sl) (s5_ : Sl) (s6_ : Sl) (i7_ : Int) (i8_ : Int) (h : H) : spec_l04Sorted_w0 S K X0 (spec_l04Sorted_e0 s4_ s5_ s6_ i7_ i8_) h = spec_l04Sorted_b0 S K X0 s4_ s5_ s6_ i7_ i8_ h := by kernel_rfl
theorem spec_l04Sorted_rule0 (S : SatT) (K : AVal → H → Prop) (s4_ : Sl) (s5_ : Sl) (I_ : Sl → Int → Int → H → Prop) (m_ : Sl → Int → Int → H → Nat)
    (hs : ∀ (X0 : Frame → H → Prop) (s6_ : Sl) (i7_ : Int) (i8_ : Int) (h : H), I_ s6_ i7_ i8_ h → (∀ (s6_' : Sl) (i7_' : Int) (i8_' : Int) (h' : H), I_ s6_' i7_' i8_' h' → m_ s6_' i7_' i8_' h' < m_ s6_ i7_ i8_ h → X0 (spec_l04Sorted_e0 s4_ s5_ s6_' i7_' i8_') h') → spec_l04Sorted_b0 S K X0 s4_ s5_ s6_ i7_ i8_ h) (s6_ : Sl) (i7_ : Int) (i8_ : Int) {h : H} (h0 : I_ s6_ i7_ i8_ h) : spec_l04Sorted_L0 S K s4_ s5_ s6_ i7_ i8_ h :=
  loop_rule (σ := (Sl) × (Int) × (Int)) (fun s_ => spec_l04Sorted_e0 s4_ s5_ (s_.1) (s_.2.1) (s_.2.2)) (fun s_ h => I_ (s_.1) (s_.2.1) (s_.2.2) h) (fun s_ h => m_ (s_.1) (s_.2.1) (s_.2.2) h)
    (fun X s_ h hi hx => (spec_l04Sorted_link0 S K X s4_ s5_ (s_.1) (s_.2.1) (s_.2.2) h).mpr (hs X (s_.1) (s_.2.1) (s_.2.2) h hi fun s6_' i7_' i8_' h' hi' hm' => hx (s6_', i7_', i8_') h' hi' hm')) (s6_, i7_, i8_) h0
theorem spec_l04Sorted_unroll0 (S : SatT) (K : AVal → H → Prop) (s4_ : Sl) (s5_ : Sl) (s6_ : Sl) (i7_ : Int) (i8_ : Int) (h : H) (hb : spec_l04Sorted_b0 S K (fun fr h => loopK (spec_l04Sorted_w0 S K) fr h) s4_ s5_ s6_ i7_ i8_ h) : spec_l04Sorted_L0 S K s4_ s5_ s6_ i7_ i8_ h := loop_unroll ((spec_l04Sorted_link0 S K _ s4_ s5_ s6_ i7_ i8_ h).mpr hb)
def spec_l04Sorted_main (S : SatT) (K : AVal → H → Prop) (x0 : Sl) (h : H) : Prop :=
 bif (decide ((x0.len : Int) < (2))) then
 K (.sl x0) h
 else
 nz (2) (
 slotK 12 h fun h0 =>
 cut x0 1 (0) (w64 (Int.tdiv (x0.len : Int) (2))) h0 fun s1 =>
 callS S i_spec_l04Sorted [.sl s1] h0 fun s3 h2 =>
 cut x0 1 (w64 (Int.tdiv (x0.len : Int) (2))) (x0.len : Int) h2 fun s4 =>
 okS h0 x0 ∧ (
 callS S i_spec_l04Sorted [.sl s4] h2 fun s6 h5 =>
 newSat 0 1 [] h5 (h.length + 8) fun s7 h8 =>
 okS h5 x0 ∧ (
 okS h5 x0 ∧ (
 okS h8 x0 ∧ (
 okS h8 x0 ∧ (
 spec_l04Sorted_L0 S K s3 s6 s7 (0) (0) h8))))))
theorem spec_l04Sorted_main_link (S : SatT) (K : AVal → H → Prop) (x0 : Sl) (h : H) : cwp S tab spec_l04Sorted_M [] (bodyOf Try.f75) (kFun tab Try.f75.results.toList K) (fr0 Try.f75 [.sl x0]) h = spec_l04Sorted_main S K x0 h := by kernel_rfl
theorem spec_l04Sorted_call (x0 : Sl) (h : H) (K : Sl → H → Prop) (hm : spec_l04Sorted_main (Sat Try.prog) (fun v h' => ∃ r, v = .sl r ∧ K r h') x0 h) : callS (Sat Try.prog) i_spec_l04Sorted [.sl x0] h K := by
  have := Sat.ex tok mixed spec_l04Sorted_M Try.func75 (c := bodyOf Try.f75) (by kernel_rfl) (calls_of Try.func75 (c := bodyOf Try.f75) (by kernel_rfl) (by decide)) ((spec_l04Sorted_main_link _ _ x0 h).mpr hm)
  obtain ⟨v, h2, h3, r, rfl, h4⟩ := this; exact ⟨r, h2, h3, h4⟩

/-! ### slices.Compare[[]int64,int64] -/
def slices_Compare_s_int64_int64__M : Nat → List Nat := fun i => bif i == 0 then [0, 1, 9, 10, 11] else []
def slices_Compare_s_int64_int64__ks1 (S : SatT) (K : AVal → H → Prop) : Kont := kSeq (cwp S tab slices_Compare_s_int64_int64__M [] (sub [1, 1] (bodyOf Try.f119)) (kFun tab (Try.f119).results.toList K)) (kFun tab (Try.f119).results.toList K)
def slices_Compare_s_int64_int64__e0 (s0_ : Sl) (s1_ : Sl) (s9_ : Sl) (i10_ : Int) (i11_ : Int) : Frame := [.sl s0_, .sl s1_, U, U, U, U, U, U, U, .sl s9_, .int .i64 i10_, .int .i64 i11_, U, U, U, U, U, U, U, U, U, U, U, U, U, U, U, U, U, U, U, U, U, U, U, U]
def slices_Compare_s_int64_int64__w0 (S : SatT) (K : AVal → H → Prop) : (Frame → H → Prop) → Frame → H → Prop := fun X fr h => cwp S tab slices_Compare_s_int64_int64__M (slices_Compare_s_int64_int64__M 0) (sub [1, 0, 1, 0, 0] (bodyOf Try.f119)) (kSeq (fun fr h => X (mask (slices_Compare_s_int64_int64__M 0) fr) h) (kBlk 0 (slices_Compare_s_int64_int64__ks1 S K))) fr h
def slices_Compare_s_int64_int64__L0 (S : SatT) (K : AVal → H → Prop) (s0_ : Sl) (s1_ : Sl) (s9_ : Sl) (i10_ : Int) (i11_ : Int) (h : H) : Prop := loopK (slices_Compare_s_int64_int64__w0 S K) (slices_Compare_s_int64_int64__e0 s0_ s1_ s9_ i10_ i11_) h
def slices_Compare_s_int64_int64__C0 (S : SatT) (K : AVal → H → Prop) (s0_ : Sl) (s1_ : Sl) (h : H) : Prop :=
 bif (decide ((s0_.len : Int) < (s1_.len : Int))) then
 K (.int .i64 (-1)) h
 else
 K (.int .i64 (0)) h
def slices_Compare_s_int64_int64__b0 (S : SatT) (K : AVal → H → Prop) (X0 : Frame → H → Prop) (s0_ : Sl) (s1_ : Sl) (s9_ : Sl) (i10_ : Int) (i11_ : Int) (h : H) : Prop :=
 bif (decide (i11_ < i10_)) then
 ixS s9_ 1 i11_ fun p0 =>
 ldI .i64 p0 h fun n1 =>
 bif (decide (i11_ ≥ (s1_.len : Int))) then
 K (.int .i64 (1)) h
 else
 ixS s1_ 1 i11_ fun p2 =>
 ldI .i64 p2 h fun n3 =>
 callI S .i64 i_cmp_Compare_int64_ [.int .i64 n1, .int .i64 n3] h fun n5 h4 =>
 bif (n5 != (0)) then
 K (.int .i64 n5) h4
 else
 X0 (slices_Compare_s_int64_int64__e0 s0_ s1_ s9_ i10_ (w64 (i11_ + (1)))) h4
 else
 slices_Compare_s_int64_int64__C0 S K s0_ s1_ h
theorem slices_Compare_s_int64_int64__link0 (S : SatT) (K : AVal → H → Prop) (X0 : Frame → H → Prop) (s0_ : Sl) (s1_ : Sl) (s9_ : Sl) (i10_ : Int) (i11_ : Int) (h : H) : slices_Compare_s_int64_int64__w0 S K X0 (slices_Compare_s_int64_int64__e0 s0_ s1_ s9_ i10_ i11_) h = slices_Compare_s_int64_int64__b0 S K X0 s0_ s1_ s9_ i10_ i11_ h := by kernel_rfl
theorem slices_Compare_s_int64_int64__rule0 (S : SatT) (K : AVal → H → Prop) (s0_ : Sl) (s1_ : Sl) (s9_ : Sl) (i10_ : Int) (I_ : Int → H → Prop) (m_ : Int → H → Nat)
    (hs : ∀ (X0 : Frame → H → Prop) (i11_ : Int) (h : H), I_ i11_ h → (∀ (i11_' : Int) (h' : H), I_ i11_' h' → m_ i11_' h' < m_ i11_ h → X0 (slices_Compare_s_int64_int64__e0 s0_ s1_ s9_ i10_ i11_') h') → slices_Compare_s_int64_int64__b0 S K X0 s0_ s1_ s9_ i10_ i11_ h) (i11_ : Int) {h : H} (h0 : I_ i11_ h) : slices_Compare_s_int64_int64__L0 S K s0_ s1_ s9_ i10_ i11_ h :=
  loop_rule (σ := (Int)) (fun s_ => slices_Compare_s_int64_int64__e0 s0_ s1_ s9_ i10_ (s_)) (fun s_ h => I_ (s_) h) (fun s_ h => m_ (s_) h)
    (fun X s_ h hi hx => (slices_Compare_s_int64_int64__link0 S K X s0_ s1_ s9_ i10_ (s_) h).mpr (hs X (s_) h hi fun i11_' h' hi' hm' => hx (i11_') h' hi' hm')) (i11_) h0
theorem slices_Compare_s_int64_int64__unroll0 (S : SatT) (K : AVal → H → Prop) (s0_ : Sl) (s1_ : Sl) (s9_ : Sl) (i10_ : Int) (i11_ : Int) (h : H) (hb : slices_Compare_s_int64_int64__b0 S K (fun fr h => loopK (slices_Compare_s_int64_int64__w0 S K) fr h) s0_ s1_ s9_ i10_ i11_ h) : slices_Compare_s_int64_int64__L0 S K s0_ s1_ s9_ i10_ i11_ h := loop_unroll ((slices_Compare_s_int64_int64__link0 S K _ s0_ s1_ s9_ i10_ i11_ h).mpr hb)
def slices_Compare_s_int64_int64__main (S : SatT) (K : AVal → H → Prop) (x0 : Sl) (x1 : Sl) (h : H) : Prop :=
 slices_Compare_s_int64_int64__L0 S K x0 x1 x0 (x0.len : Int) (0) h
theorem slices_Compare_s_int64_int64__main_link (S : SatT) (K : AVal → H → Prop) (x0 : Sl) (x1 : Sl) (h : H) : cwp S tab slices_Compare_s_int64_int64__M [] (bodyOf Try.f119) (kFun tab Try.f119.results.toList K) (fr0 Try.f119 [.sl x0, .sl x1]) h = slices_Compare_s_int64_int64__main S K x0 x1 h := by kernel_rfl
theorem slices_Compare_s_int64_int64__call (x0 : Sl) (x1 : Sl) (h : H) (K : Int → H → Prop) (hm : slices_Compare_s_int64_int64__main (Sat Try.prog) (fun v h' => ∃ r, v = .int .i64 r ∧ K r h') x0 x1 h) : callI (Sat Try.prog) .i64 i_slices_Compare_s_int64_int64_ [.sl x0, .sl x1] h K := by
  have := Sat.ex tok mixed slices_Compare_s_int64_int64__M Try.func119 (c := bodyOf Try.f119) (by kernel_rfl) (calls_of Try.func119 (c := bodyOf Try.f119) (by kernel_rfl) (by decide)) ((slices_Compare_s_int64_int64__main_link _ _ x0 x1 h).mpr hm)
  obtain ⟨v, h2, h3, r, rfl, h4⟩ := this; exact ⟨r, h2, h3, h4⟩

/-! ### slices.IndexFunc[[]int64,int64] -/
def slices_IndexFunc_s_int64_int64__M : Nat → List Nat := fun i => bif i == 0 then [0, 1, 7, 8] else []
def slices_IndexFunc_s_int64_int64__ks1 (S : SatT) (K : AVal → H → Prop) : Kont := kSeq (cwp S tab slices_IndexFunc_s_int64_int64__M [] (sub [1, 1] (bodyOf Try.f125)) (kFun tab (Try.f125).results.toList K)) (kFun tab (Try.f125).results.toList K)
def slices_IndexFunc_s_int64_int64__e0 (s0_ : Sl) (f1_ : AVal) (i7_ : Int) (i8_ : Int) : Frame := [.sl s0_, f1_, U, U, U, U, U, .int .i64 i7_, .int .i64 i8_, U, U, U, U, U, U, U, U, U, U]
def slices_IndexFunc_s_int64_int64__w0 (S : SatT) (K : AVal → H → Prop) : (Frame → H → Prop) → Frame → H → Prop := fun X fr h => cwp S tab slices_IndexFunc_s_int64_int64__M (slices_IndexFunc_s_int64_int64__M 0) (sub [1, 0, 1, 0, 0] (bodyOf Try.f125)) (kSeq (fun fr h => X (mask (slices_IndexFunc_s_int64_int64__M 0) fr) h) (kBlk 0 (slices_IndexFunc_s_int64_int64__ks1 S K))) fr h
def slices_IndexFunc_s_int64_int64__L0 (S : SatT) (K : AVal → H → Prop) (s0_ : Sl) (f1_ : AVal) (i7_ : Int) (i8_ : Int) (h : H) : Prop := loopK (slices_IndexFunc_s_int64_int64__w0 S K) (slices_IndexFunc_s_int64_int64__e0 s0_ f1_ i7_ i8_) h
def slices_IndexFunc_s_int64_int64__C0 (S : SatT) (K : AVal → H → Prop) (h : H) : Prop :=
 K (.int .i64 (-1)) h
def slices_IndexFunc_s_int64_int64__b0 (S : SatT) (K : AVal → H → Prop) (X0 : Frame → H → Prop) (s0_ : Sl) (f1_ : AVal) (i7_ : Int) (i8_ : Int) (h : H) : Prop :=
 bif (decide (i8_ < i7_)) then
 ixS s0_ 1 i8_ fun p0 =>
 ldI .i64 p0 h fun n1 =>
 viaF f1_ [.int .i64 n1] fun g2 ys3 =>
 callB S g2 ys3 h fun b5 h4 =>
 bif b5 then
 K (.int .i64 i8_) h4
 else
 X0 (slices_IndexFunc_s_int64_int64__e0 s0_ f1_ i7_ (w64 (i8_ + (1)))) h4
 else
 slices_IndexFunc_s_int64_int64__C0 S K h
theorem slices_IndexFunc_s_int64_int64__link0 (S : SatT) (K : AVal → H → Prop) (X0 : Frame → H → Prop) (s0_ : Sl) (f1_ : AVal) (i7_ : Int) (i8_ : Int) (h : H) : slices_IndexFunc_s_int64_int64__w0 S K X0 (slices_IndexFunc_s_int64_int64__e0 s0_ f1_ i7_ i8_) h = slices_IndexFunc_s_int64_int64__b0 S K X0 s0_ f1_ i7_ i8_ h := by kernel_rfl
theorem slices_IndexFunc_s_int64_int64__rule0 (S : SatT) (K : AVal → H → Prop) (s0_ : Sl) (f1_ : AVal) (i7_ : Int) (I_ : Int → H → Prop) (m_ : Int → H → Nat)
    (hs : ∀ (X0 : Frame → H → Prop) (i8_ : Int) (h : H), I_ i8_ h → (∀ (i8_' : Int) (h' : H), I_ i8_' h' → m_ i8_' h' < m_ i8_ h → X0 (slices_IndexFunc_s_int64_int64__e0 s0_ f1_ i7_ i8_') h') → slices_IndexFunc_s_int64_int64__b0 S K X0 s0_ f1_ i7_ i8_ h) (i8_ : Int) {h : H} (h0 : I_ i8_ h) : slices_IndexFunc_s_int64_int64__L0 S K s0_ f1_ i7_ i8_ h :=
  loop_rule (σ := (Int)) (fun s_ => slices_IndexFunc_s_int64_int64__e0 s0_ f1_ i7_ (s_)) (fun s_ h => I_ (s_) h) (fun s_ h => m_ (s_) h)
    (fun X s_ h hi hx => (slices_IndexFunc_s_int64_int64__link0 S K X s0_ f1_ i7_ (s_) h).mpr (hs X (s_) h hi fun i8_' h' hi' hm' => hx (i8_') h' hi' hm')) (i8_) h0
theorem slices_IndexFunc_s_int64_int64__unroll0 (S : SatT) (K : AVal → H → Prop) (s0_ : Sl) (f1_ : AVal) (i7_ : Int) (i8_ : Int) (h : H) (hb : slices_IndexFunc_s_int64_int64__b0 S K (fun fr h => loopK (slices_IndexFunc_s_int64_int64__w0 S K) fr h) s0_ f1_ i7_ i8_ h) : slices_IndexFunc_s_int64_int64__L0 S K s0_ f1_ i7_ i8_ h := loop_unroll ((slices_IndexFunc_s_int64_int64__link0 S K _ s0_ f1_ i7_ i8_ h).mpr hb)
def slices_IndexFunc_s_int64_int64__main (S : SatT) (K : AVal → H → Prop) (x0 : Sl) (x1 : AVal) (h : H) : Prop :=
 slices_IndexFunc_s_int64_int64__L0 S K x0 x1 (x0.len : Int) (0) h
theorem slices_IndexFunc_s_int64_int64__main_link (S : SatT) (K : AVal → H → Prop) (x0 : Sl) (x1 : AVal) (h : H) : cwp S tab slices_IndexFunc_s_int64_int64__M [] (bodyOf Try.f125) (kFun tab Try.f125.results.toList K) (fr0 Try.f125 [.sl x0, x1]) h = slices_IndexFunc_s_int64_int64__main S K x0 x1 h := by kernel_rfl
theorem slices_IndexFunc_s_int64_int64__call (x0 : Sl) (x1 : AVal) (h : H) (K : Int → H → Prop) (hm : slices_IndexFunc_s_int64_int64__main (Sat Try.prog) (fun v h' => ∃ r, v = .int .i64 r ∧ K r h') x0 x1 h) : callI (Sat Try.prog) .i64 i_slices_IndexFunc_s_int64_int64_ [.sl x0, x1] h K := by
  have := Sat.ex tok mixed slices_IndexFunc_s_int64_int64__M Try.func125 (c := bodyOf Try.f125) (by kernel_rfl) (calls_of Try.func125 (c := bodyOf Try.f125) (by kernel_rfl) (by decide)) ((slices_IndexFunc_s_int64_int64__main_link _ _ x0 x1 h).mpr hm)
  obtain ⟨v, h2, h3, r, rfl, h4⟩ := this; exact ⟨r, h2, h3, h4⟩

/-! ### slices.Equal[[]bool,bool] -/
def slices_Equal_s_bool_bool__M : Nat → List Nat := fun i => bif i == 0 then [0, 1, 12, 13] else []
def slices_Equal_s_bool_bool__ks4 (S : SatT) (K : AVal → H → Prop) : Kont := kSeq (cwp S tab slices_Equal_s_bool_bool__M [] (sub [1, 1, 1] (bodyOf Try.f129)) (kFun tab (Try.f129).results.toList K)) (kFun tab (Try.f129).results.toList K)
def slices_Equal_s_bool_bool__e0 (s0_ : Sl) (s1_ : Sl) (i12_ : Int) (i13_ : Int) : Frame := [.sl s0_, .sl s1_, U, U, U, U, U, U, U, U, U, U, .int .i64 i12_, .int .i64 i13_, U, U, U, U, U, U, U, U, U, U, U, U]
def slices_Equal_s_bool_bool__w0 (S : SatT) (K : AVal → H → Prop) : (Frame → H → Prop) → Frame → H → Prop := fun X fr h => cwp S tab slices_Equal_s_bool_bool__M (slices_Equal_s_bool_bool__M 0) (sub [1, 1, 0, 1, 0, 0] (bodyOf Try.f129)) (kSeq (fun fr h => X (mask (slices_Equal_s_bool_bool__M 0) fr) h) (kBlk 0 (slices_Equal_s_bool_bool__ks4 S K))) fr h
def slices_Equal_s_bool_bool__L0 (S : SatT) (K : AVal → H → Prop) (s0_ : Sl) (s1_ : Sl) (i12_ : Int) (i13_ : Int) (h : H) : Prop := loopK (slices_Equal_s_bool_bool__w0 S K) (slices_Equal_s_bool_bool__e0 s0_ s1_ i12_ i13_) h
def slices_Equal_s_bool_bool__C0 (S : SatT) (K : AVal → H → Prop) (h : H) : Prop :=
 K (.bool true) h
def slices_Equal_s_bool_bool__b0 (S : SatT) (K : AVal → H → Prop) (X0 : Frame → H → Prop) (s0_ : Sl) (s1_ : Sl) (i12_ : Int) (i13_ : Int) (h : H) : Prop :=
 bif (decide (i13_ < i12_)) then
 ixS s0_ 1 i13_ fun p0 =>
 ldB p0 h fun b1 =>
 ixS s1_ 1 i13_ fun p2 =>
 ldB p2 h fun b3 =>
 bif (b1 != b3) then
 K (.bool false) h
 else
 X0 (slices_Equal_s_bool_bool__e0 s0_ s1_ i12_ (w64 (i13_ + (1)))) h
 else
 slices_Equal_s_bool_bool__C0 S K h
theorem slices_Equal_s_bool_bool__link0 (S : SatT) (K : AVal → H → Prop) (X0 : Frame → H → Prop) (s0_ : Sl) (s1_ : Sl) (i12_ : Int) (i13_ : Int) (h : H) : slices_Equal_s_bool_bool__w0 S K X0 (slices_Equal_s_bool_bool__e0 s0_ s1_ i12_ i13_) h = slices_Equal_s_bool_bool__b0 S K X0 s0_ s1_ i12_ i13_ h := by kernel_rfl
theorem slices_Equal_s_bool_bool__rule0 (S : SatT) (K : AVal → H → Prop) (s0_ : Sl) (s1_ : Sl) (i12_ : Int) (I_ : Int → H → Prop) (m_ : Int → H → Nat)
    (hs : ∀ (X0 : Frame → H → Prop) (i13_ : Int) (h : H), I_ i13_ h → (∀ (i13_' : Int) (h' : H), I_ i13_' h' → m_ i13_' h' < m_ i13_ h → X0 (slices_Equal_s_bool_bool__e0 s0_ s1_ i12_ i13_') h') → slices_Equal_s_bool_bool__b0 S K X0 s0_ s1_ i12_ i13_ h) (i13_ : Int) {h : H} (h0 : I_ i13_ h) : slices_Equal_s_bool_bool__L0 S K s0_ s1_ i12_ i13_ h :=
  loop_rule (σ := (Int)) (fun s_ => slices_Equal_s_bool_bool__e0 s0_ s1_ i12_ (s_)) (fun s_ h => I_ (s_) h) (fun s_ h => m_ (s_) h)
    (fun X s_ h hi hx => (slices_Equal_s_bool_bool__link0 S K X s0_ s1_ i12_ (s_) h).mpr (hs X (s_) h hi fun i13_' h' hi' hm' => hx (i13_') h' hi' hm')) (i13_) h0
theorem slices_Equal_s_bool_bool__unroll0 (S : SatT) (K : AVal → H → Prop) (s0_ : Sl) (s1_ : Sl) (i12_ : Int) (i13_ : Int) (h : H) (hb : slices_Equal_s_bool_bool__b0 S K (fun fr h => loopK (slices_Equal_s_bool_bool__w0 S K) fr h) s0_ s1_ i12_ i13_ h) : slices_Equal_s_bool_bool__L0 S K s0_ s1_ i12_ i13_ h := loop_unroll ((slices_Equal_s_bool_bool__link0 S K _ s0_ s1_ i12_ i13_ h).mpr hb)
def slices_Equal_s_bool_bool__main (S : SatT) (K : AVal → H → Prop) (x0 : Sl) (x1 : Sl) (h : H) : Prop :=
 bif ((x0.len : Int) != (x1.len : Int)) then
 K (.bool false) h
 else
 slices_Equal_s_bool_bool__L0 S K x0 x1 (x0.len : Int) (0) h
theorem slices_Equal_s_bool_bool__main_link (S : SatT) (K : AVal → H → Prop) (x0 : Sl) (x1 : Sl) (h : H) : cwp S tab slices_Equal_s_bool_bool__M [] (bodyOf Try.f129) (kFun tab Try.f129.results.toList K) (fr0 Try.f129 [.sl x0, .sl x1]) h = slices_Equal_s_bool_bool__main S K x0 x1 h := by kernel_rfl
theorem slices_Equal_s_bool_bool__call (x0 : Sl) (x1 : Sl) (h : H) (K : Bool → H → Prop) (hm : slices_Equal_s_bool_bool__main (Sat Try.prog) (fun v h' => ∃ r, v = .bool r ∧ K r h') x0 x1 h) : callB (Sat Try.prog) i_slices_Equal_s_bool_bool_ [.sl x0, .sl x1] h K := by
  have := Sat.ex tok mixed slices_Equal_s_bool_bool__M Try.func129 (c := bodyOf Try.f129) (by kernel_rfl) (calls_of Try.func129 (c := bodyOf Try.f129) (by kernel_rfl) (by decide)) ((slices_Equal_s_bool_bool__main_link _ _ x0 x1 h).mpr hm)
  obtain ⟨v, h2, h3, r, rfl, h4⟩ := this; exact ⟨r, h2, h3, h4⟩

/-! ### loop.example/g01354/spec.l06Inverse -/
def spec_l06Inverse_M : Nat → List Nat := fun i => bif i == 0 then [3, 4, 5] else []
def spec_l06Inverse_ks2 (S : SatT) (K : AVal → H → Prop) : Kont := kSeq (cwp S tab spec_l06Inverse_M [] (sub [1, 1, 1] (bodyOf Try.f104)) (kFun tab (Try.f104).results.toList K)) (kFun tab (Try.f104).results.toList K)
def spec_l06Inverse_e0 (i3_ : Int) (i4_ : Int) (i5_ : Int) : Frame := [U, U, U, .int .i64 i3_, .int .i64 i4_, .int .i64 i5_, U, U, U, U, U, U, U, U, U, U, U, U, U, U, U, U, U]
def spec_l06Inverse_w0 (S : SatT) (K : AVal → H → Prop) : (Frame → H → Prop) → Frame → H → Prop := fun X fr h => cwp S tab spec_l06Inverse_M (spec_l06Inverse_M 0) (sub [1, 1, 0, 1, 0, 0] (bodyOf Try.f104)) (kSeq (fun fr h => X (mask (spec_l06Inverse_M 0) fr) h) (kBlk 0 (spec_l06Inverse_ks2 S K))) fr h
def spec_l06Inverse_L0 (S : SatT) (K : AVal → H → Prop) (i3_ : Int) (i4_ : Int) (i5_ : Int) (h : H) : Prop := loopK (spec_l06Inverse_w0 S K) (spec_l06Inverse_e0 i3_ i4_ i5_) h
def spec_l06Inverse_C0 (S : SatT) (K : AVal → H → Prop) (i3_ : Int) (h : H) : Prop :=
 K (.int .i64 i3_) h
def spec_l06Inverse_b0 (S : SatT) (K : AVal → H → Prop) (X0 : Frame → H → Prop) (i3_ : Int) (i4_ : Int) (i5_ : Int) (h : H) : Prop :=
 bif (decide (i5_ > (0))) then
 nz (2) (
 bif ((Int.tmod i5_ (2)) == (1)) then
 nz (10007) (
 nz (10007) (
 nz (2) (
 X0 (spec_l06Inverse_e0 (Int.tmod (w64 (i3_ * i4_)) (10007)) (Int.tmod (w64 (i4_ * i4_)) (10007)) (w64 (Int.tdiv i5_ (2)))) h)))
 else
 nz (10007) (
 nz (2) (
 X0 (spec_l06Inverse_e0 i3_ (Int.tmod (w64 (i4_ * i4_)) (10007)) (w64 (Int.tdiv i5_ (2)))) h)))
 else
 spec_l06Inverse_C0 S K i3_ h
theorem spec_l06Inverse_link0 (S : SatT) (K : AVal → H → Prop) (X0 : Frame → H → Prop) (i3_ : Int) (i4_ : Int) (i5_ : Int) (h : H) : spec_l06Inverse_w0 S K X0 (spec_l06Inverse_e0 i3_ i4_ i5_) h = spec_l06Inverse_b0 S K X0 i3_ i4_ i5_ h := by kernel_rfl
theorem spec_l06Inverse_rule0 (S : SatT) (K : AVal → H → Prop) (I_ : Int → Int → Int → H → Prop) (m_ : Int → Int → Int → H → Nat)
    (hs : ∀ (X0 : Frame → H → Prop) (i3_ : Int) (i4_ : Int) (i5_ : Int) (h : H), I_ i3_ i4_ i5_ h → (∀ (i3_' : Int) (i4_' : Int) (i5_' : Int) (h' : H), I_ i3_' i4_' i5_' h' → m_ i3_' i4_' i5_' h' < m_ i3_ i4_ i5_ h → X0 (spec_l06Inverse_e0 i3_' i4_' i5_') h') → spec_l06Inverse_b0 S K X0 i3_ i4_ i5_ h) (i3_ : Int) (i4_ : Int) (i5_ : Int) {h : H} (h0 : I_ i3_ i4_ i5_ h) : spec_l06Inverse_L0 S K i3_ i4_ i5_ h :=
  loop_rule (σ := (Int) × (Int) × (Int)) (fun s_ => spec_l06Inverse_e0 (s_.1) (s_.2.1) (s_.2.2)) (fun s_ h => I_ (s_.1) (s_.2.1) (s_.2.2) h) (fun s_ h => m_ (s_.1) (s_.2.1) (s_.2.2) h)
    (fun X s_ h hi hx => (spec_l06Inverse_link0 S K X (s_.1) (s_.2.1) (s_.2.2) h).mpr (hs X (s_.1) (s_.2.1) (s_.2.2) h hi fun i3_' i4_' i5_' h' hi' hm' => hx (i3_', i4_', i5_') h' hi' hm')) (i3_, i4_, i5_) h0
theorem spec_l06Inverse_unroll0 (S : SatT) (K : AVal → H → Prop) (i3_ : Int) (i4_ : Int) (i5_ : Int) (h : H) (hb : spec_l06Inverse_b0 S K (fun fr h => loopK (spec_l06Inverse_w0 S K) fr h) i3_ i4_ i5_ h) : spec_l06Inverse_L0 S K i3_ i4_ i5_ h := loop_unroll ((spec_l06Inverse_link0 S K _ i3_ i4_ i5_ h).mpr hb)
def spec_l06Inverse_main (S : SatT) (K : AVal → H → Prop) (x0 : Int) (h : H) : Prop :=
 spec_l06Inverse_L0 S K (1) x0 (10005) h
theorem spec_l06Inverse_main_link (S : SatT) (K : AVal → H → Prop) (x0 : Int) (h : H) : cwp S tab spec_l06Inverse_M [] (bodyOf Try.f104) (kFun tab Try.f104.results.toList K) (fr0 Try.f104 [.int .i64 x0]) h = spec_l06Inverse_main S K x0 h := by kernel_rfl
theorem spec_l06Inverse_call (x0 : Int) (h : H) (K : Int → H → Prop) (hm : spec_l06Inverse_main (Sat Try.prog) (fun v h' => ∃ r, v = .int .i64 r ∧ K r h') x0 h) : callI (Sat Try.prog) .i64 i_spec_l06Inverse [.int .i64 x0] h K := by
  have := Sat.ex tok mixed spec_l06Inverse_M Try.func104 (c := bodyOf Try.f104) (by kernel_rfl) (calls_of Try.func104 (c := bodyOf Try.f104) (by kernel_rfl) (by decide)) ((spec_l06Inverse_main_link _ _ x0 h).mpr hm)
  obtain ⟨v, h2, h3, r, rfl, h4⟩ := this; exact ⟨r, h2, h3, h4⟩

/-! ### loop.example/g01354/spec.l01From -/
def spec_l01From_M : Nat → List Nat := fun i => bif i == 0 then [0, 3, 4] else []
def spec_l01From_ks2 (S : SatT) (K : AVal → H → Prop) : Kont := kSeq (cwp S tab spec_l01From_M [] (sub [1, 1, 1] (bodyOf Try.f113)) (kFun tab (Try.f113).results.toList K)) (kFun tab (Try.f113).results.toList K)
def spec_l01From_e0 (s0_ : Sl) (p3_ : Pt) (i4_ : Int) : Frame := [.sl s0_, U, U, .ptr p3_, .int .i64 i4_, U, U, U, U, U, U, U, U, U, U, U, U, U, U, U, U, U, U, U, U, U, U, U, U, U, U, U, U, U, U, U, U, U]
def spec_l01From_w0 (S : SatT) (K : AVal → H → Prop) : (Frame → H → Prop) → Frame → H → Prop := fun X fr h => cwp S tab spec_l01From_M (spec_l01From_M 0) (sub [1, 1, 0, 1, 0, 0] (bodyOf Try.f113)) (kSeq (fun fr h => X (mask (spec_l01From_M 0) fr) h) (kBlk 0 (spec_l01From_ks2 S K))) fr h
def spec_l01From_L0 (S : SatT) (K : AVal → H → Prop) (s0_ : Sl) (p3_ : Pt) (i4_ : Int) (h : H) : Prop := loopK (spec_l01From_w0 S K) (spec_l01From_e0 s0_ p3_ i4_) h
def spec_l01From_C0 (S : SatT) (K : AVal → H → Prop) (p3_ : Pt) (h : H) : Prop :=
 K (.ptr p3_) h
def spec_l01From_b0 (S : SatT) (K : AVal → H → Prop) (X0 : Frame → H → Prop) (s0_ : Sl) (p3_ : Pt) (i4_ : Int) (h : H) : Prop :=
 bif (decide (i4_ < (s0_.len : Int))) then
 bif (decide (i4_ < (4096))) then
 nilC (.ptr p3_) (
 isPt p3_ (
 ldI .u64 (Pt.add p3_ 2) h fun n0 =>
 ixS s0_ 1 i4_ fun p1 =>
 ldI .u8 p1 h fun n2 =>
 nilC (.ptr p3_) (
 isPt p3_ (
 st1 (Pt.add p3_ 2) (.int .u64 (IntKind.wrap .u64 ((IntKind.wrap .u64 ((IntKind.wrap .u64 (n0 * (1099511628211))) + (IntKind.wrap .u64 (n2)))) + (191)))) h fun h3 =>
 X0 (spec_l01From_e0 s0_ p3_ (w64 (i4_ + (1)))) h3))))
 else
 spec_l01From_C0 S K p3_ h
 else
 spec_l01From_C0 S K p3_ h
theorem spec_l01From_link0 (S : SatT) (K : AVal → H → Prop) (X0 : Frame → H → Prop) (s0_ : Sl) (p3_ : Pt) (i4_ : Int) (h : H) : spec_l01From_w0 S K X0 (spec_l01From_e0 s0_ p3_ i4_) h = spec_l01From_b0 S K X0 s0_ p3_ i4_ h := by kernel_rfl
theorem spec_l01From_rule0 (S : SatT) (K : AVal → H → Prop) (s0_ : Sl) (p3_ : Pt) (I_ : Int → H → Prop) (m_ : Int → H → Nat)
    (hs : ∀ (X0 : Frame → H → Prop) (i4_ : Int) (h : H), I_ i4_ h → (∀ (i4_' : Int) (h' : H), I_ i4_' h' → m_ i4_' h' < m_ i4_ h → X0 (spec_l01From_e0 s0_ p3_ i4_') h') → spec_l01From_b0 S K X0 s0_ p3_ i4_ h) (i4_ : Int) {h : H} (h0 : I_ i4_ h) : spec_l01From_L0 S K s0_ p3_ i4_ h :=
  loop_rule (σ := (Int)) (fun s_ => spec_l01From_e0 s0_ p3_ (s_)) (fun s_ h => I_ (s_) h) (fun s_ h => m_ (s_) h)
    (fun X s_ h hi hx => (spec_l01From_link0 S K X s0_ p3_ (s_) h).mpr (hs X (s_) h hi fun i4_' h' hi' hm' => hx (i4_') h' hi' hm')) (i4_) h0
theorem spec_l01From_unroll0 (S : SatT) (K : AVal → H → Prop) (s0_ : Sl) (p3_ : Pt) (i4_ : Int) (h : H) (hb : spec_l01From_b0 S K (fun fr h => loopK (spec_l01From_w0 S K) fr h) s0_ p3_ i4_ h) : spec_l01From_L0 S K s0_ p3_ i4_ h := loop_unroll ((spec_l01From_link0 S K _ s0_ p3_ i4_ h).mpr hb)
def spec_l01From_main (S : SatT) (K : AVal → H → Prop) (x0 : Sl) (h : H) : Prop :=
 newK 3 [.sl x0, .int .i64 (0), .int .u64 (IntKind.wrap .u64 ((13541) + (IntKind.wrap .u64 ((x0.len : Int)))))] h fun p0 h1 =>
 spec_l01From_L0 S K x0 p0 (0) h1
theorem spec_l01From_main_link (S : SatT) (K : AVal → H → Prop) (x0 : Sl) (h : H) : cwp S tab spec_l01From_M [] (bodyOf Try.f113) (kFun tab Try.f113.results.toList K) (fr0 Try.f113 [.sl x0]) h = spec_l01From_main S K x0 h := by kernel_rfl
theorem spec_l01From_call (x0 : Sl) (h : H) (K : Pt → H → Prop) (hm : spec_l01From_main (Sat Try.prog) (fun v h' => ∃ r, v = .ptr r ∧ K r h') x0 h) : callP (Sat Try.prog) i_spec_l01From [.sl x0] h K := by
  have := Sat.ex tok mixed spec_l01From_M Try.func113 (c := bodyOf Try.f113) (by kernel_rfl) (calls_of Try.func113 (c := bodyOf Try.f113) (by kernel_rfl) (by decide)) ((spec_l01From_main_link _ _ x0 h).mpr hm)
  obtain ⟨v, h2, h3, r, rfl, h4⟩ := this; exact ⟨r, h2, h3, h4⟩

/-! ### loop.example/g01354/spec.l01Before -/
def spec_l01Before_M : Nat → List Nat := fun i => bif i == 0 then [2, 3, 5] else []
def spec_l01Before_ks1 (S : SatT) (K : AVal → H → Prop) : Kont := kSeq (cwp S tab spec_l01Before_M [] (sub [1, 1] (bodyOf Try.f95)) (kFun tab (Try.f95).results.toList K)) (kFun tab (Try.f95).results.toList K)
def spec_l01Before_e0 (p2_ : Pt) (p3_ : Pt) (i5_ : Int) : Frame := [U, U, .ptr p2_, .ptr p3_, U, .int .i64 i5_, U, U, U, U, U, U, U, U, U, U, U, U, U, U, U, U, U, U]
def spec_l01Before_w0 (S : SatT) (K : AVal → H → Prop) : (Frame → H → Prop) → Frame → H → Prop := fun X fr h => cwp S tab spec_l01Before_M (spec_l01Before_M 0) (sub [1, 0, 1, 0, 0] (bodyOf Try.f95)) (kSeq (fun fr h => X (mask (spec_l01Before_M 0) fr) h) (kBlk 0 (spec_l01Before_ks1 S K))) fr h
def spec_l01Before_L0 (S : SatT) (K : AVal → H → Prop) (p2_ : Pt) (p3_ : Pt) (i5_ : Int) (h : H) : Prop := loopK (spec_l01Before_w0 S K) (spec_l01Before_e0 p2_ p3_ i5_) h
def spec_l01Before_C0 (S : SatT) (K : AVal → H → Prop) (h : H) : Prop :=
 K (.bool false) h
def spec_l01Before_b0 (S : SatT) (K : AVal → H → Prop) (X0 : Frame → H → Prop) (p2_ : Pt) (p3_ : Pt) (i5_ : Int) (h : H) : Prop :=
 bif (decide (i5_ < (4))) then
 ixA p2_ 4 1 i5_ fun p0 =>
 ldI .i64 p0 h fun n1 =>
 ixA p3_ 4 1 i5_ fun p2 =>
 ldI .i64 p2 h fun n3 =>
 bif (n1 != n3) then
 ixA p2_ 4 1 i5_ fun p4 =>
 ldI .i64 p4 h fun n5 =>
 ixA p3_ 4 1 i5_ fun p6 =>
 ldI .i64 p6 h fun n7 =>
 K (.bool (decide (n5 < n7))) h
 else
 X0 (spec_l01Before_e0 p2_ p3_ (w64 (i5_ + (1)))) h
 else
 spec_l01Before_C0 S K h
theorem spec_l01Before_link0 (S : SatT) (K : AVal → H → Prop) (X0 : Frame → H → Prop) (p2_ : Pt) (p3_ : Pt) (i5_ : Int) (h : H) : spec_l01Before_w0 S K X0 (spec_l01Before_e0 p2_ p3_ i5_) h = spec_l01Before_b0 S K X0 p2_ p3_ i5_ h := by kernel_rfl
theorem spec_l01Before_rule0 (S : SatT) (K : AVal → H → Prop) (p2_ : Pt) (p3_ : Pt) (I_ : Int → H → Prop) (m_ : Int → H → Nat)
    (hs : ∀ (X0 : Frame → H → Prop) (i5_ : Int) (h : H), I_ i5_ h → (∀ (i5_' : Int) (h' : H), I_ i5_' h' → m_ i5_' h' < m_ i5_ h → X0 (spec_l01Before_e0 p2_ p3_ i5_') h') → spec_l01Before_b0 S K X0 p2_ p3_ i5_ h) (i5_ : Int) {h : H} (h0 : I_ i5_ h) : spec_l01Before_L0 S K p2_ p3_ i5_ h :=
  loop_rule (σ := (Int)) (fun s_ => spec_l01Before_e0 p2_ p3_ (s_)) (fun s_ h => I_ (s_) h) (fun s_ h => m_ (s_) h)
    (fun X s_ h hi hx => (spec_l01Before_link0 S K X p2_ p3_ (s_) h).mpr (hs X (s_) h hi fun i5_' h' hi' hm' => hx (i5_') h' hi' hm')) (i5_) h0
theorem spec_l01Before_unroll0 (S : SatT) (K : AVal → H → Prop) (p2_ : Pt) (p3_ : Pt) (i5_ : Int) (h : H) (hb : spec_l01Before_b0 S K (fun fr h => loopK (spec_l01Before_w0 S K) fr h) p2_ p3_ i5_ h) : spec_l01Before_L0 S K p2_ p3_ i5_ h := loop_unroll ((spec_l01Before_link0 S K _ p2_ p3_ i5_ h).mpr hb)
def spec_l01Before_main (S : SatT) (K : AVal → H → Prop) (x0 : List AVal) (x1 : List AVal) (h : H) : Prop :=
 newK 4 x0 h fun p0 h1 =>
 newK 4 x1 h1 fun p2 h3 =>
 spec_l01Before_L0 S K p0 p2 (0) h3
theorem spec_l01Before_main_link (S : SatT) (K : AVal → H → Prop) (x0 : List AVal) (x1 : List AVal) (h : H) : cwp S tab spec_l01Before_M [] (bodyOf Try.f95) (kFun tab Try.f95.results.toList K) (fr0 Try.f95 [.agg x0, .agg x1]) h = spec_l01Before_main S K x0 x1 h := by kernel_rfl
theorem spec_l01Before_call (x0 : List AVal) (x1 : List AVal) (h : H) (K : Bool → H → Prop) (hm : spec_l01Before_main (Sat Try.prog) (fun v h' => ∃ r, v = .bool r ∧ K r h') x0 x1 h) : callB (Sat Try.prog) i_spec_l01Before [.agg x0, .agg x1] h K := by
  have := Sat.ex tok mixed spec_l01Before_M Try.func95 (c := bodyOf Try.f95) (by kernel_rfl) (calls_of Try.func95 (c := bodyOf Try.f95) (by kernel_rfl) (by decide)) ((spec_l01Before_main_link _ _ x0 x1 h).mpr hm)
  obtain ⟨v, h2, h3, r, rfl, h4⟩ := this; exact ⟨r, h2, h3, h4⟩

/-! ### loop.example/g01354/laws.eqInt64SS -/
def laws_eqInt64SS_M : Nat → List Nat := fun i => bif i == 0 then [0, 1, 5] else []
def laws_eqInt64SS_ks4 (S : SatT) (K : AVal → H → Prop) : Kont := kSeq (cwp S tab laws_eqInt64SS_M [] (sub [1, 1, 1] (bodyOf Try.f29)) (kFun tab (Try.f29).results.toList K)) (kFun tab (Try.f29).results.toList K)
def laws_eqInt64SS_e0 (s0_ : Sl) (s1_ : Sl) (i5_ : Int) : Frame := [.sl s0_, .sl s1_, U, U, U, .int .i64 i5_, U, U, U, U, U, U, U, U, U, U, U, U, U, U, U, U, U, U, U, U, U]
def laws_eqInt64SS_w0 (S : SatT) (K : AVal → H → Prop) : (Frame → H → Prop) → Frame → H → Prop := fun X fr h => cwp S tab laws_eqInt64SS_M (laws_eqInt64SS_M 0) (sub [1, 1, 0, 1, 0, 0] (bodyOf Try.f29)) (kSeq (fun fr h => X (mask (laws_eqInt64SS_M 0) fr) h) (kBlk 0 (laws_eqInt64SS_ks4 S K))) fr h
def laws_eqInt64SS_L0 (S : SatT) (K : AVal → H → Prop) (s0_ : Sl) (s1_ : Sl) (i5_ : Int) (h : H) : Prop := loopK (laws_eqInt64SS_w0 S K) (laws_eqInt64SS_e0 s0_ s1_ i5_) h
def laws_eqInt64SS_C0 (S : SatT) (K : AVal → H → Prop) (h : H) : Prop :=
 K (.bool true) h
def laws_eqInt64SS_b0 (S : SatT) (K : AVal → H → Prop) (X0 : Frame → H → Prop) (s0_ : Sl) (s1_ : Sl) (i5_ : Int) (h : H) : Prop :=
 bif (decide (i5_ < (s0_.len : Int))) then
 ixS s0_ 1 i5_ fun p0 =>
 ldS p0 h fun s1 =>
 ixS s1_ 1 i5_ fun p2 =>
 ldS p2 h fun s3 =>
 callB S i_laws_eqInt64S [.sl s1, .sl s3] h fun b5 h4 =>
 bif (!b5) then
 K (.bool false) h4
 else
 X0 (laws_eqInt64SS_e0 s0_ s1_ (w64 (i5_ + (1)))) h4
 else
 laws_eqInt64SS_C0 S K h
theorem laws_eqInt64SS_link0 (S : SatT) (K : AVal → H → Prop) (X0 : Frame → H → Prop) (s0_ : Sl) (s1_ : Sl) (i5_ : Int) (h : H) : laws_eqInt64SS_w0 S K X0 (laws_eqInt64SS_e0 s0_ s1_ i5_) h = laws_eqInt64SS_b0 S K X0 s0_ s1_ i5_ h := by kernel_rfl
theorem laws_eqInt64SS_rule0 (S : SatT) (K : AVal → H → Prop) (s0_ : Sl) (s1_ : Sl) (I_ : Int → H → Prop) (m_ : Int → H → Nat)
    (hs : ∀ (X0 : Frame → H → Prop) (i5_ : Int) (h : H), I_ i5_ h → (∀ (i5_' : Int) (h' : H), I_ i5_' h' → m_ i5_' h' < m_ i5_ h → X0 (laws_eqInt64SS_e0 s0_ s1_ i5_') h') → laws_eqInt64SS_b0 S K X0 s0_ s1_ i5_ h) (i5_ : Int) {h : H} (h0 : I_ i5_ h) : laws_eqInt64SS_L0 S K s0_ s1_ i5_ h :=
  loop_rule (σ := (Int)) (fun s_ => laws_eqInt64SS_e0 s0_ s1_ (s_)) (fun s_ h => I_ (s_) h) (fun s_ h => m_ (s_) h)
    (fun X s_ h hi hx => (laws_eqInt64SS_link0 S K X s0_ s1_ (s_) h).mpr (hs X (s_) h hi fun i5_' h' hi' hm' => hx (i5_') h' hi' hm')) (i5_) h0
theorem laws_eqInt64SS_unroll0 (S : SatT) (K : AVal → H → Prop) (s0_ : Sl) (s1_ : Sl) (i5_ : Int) (h : H) (hb : laws_eqInt64SS_b0 S K (fun fr h => loopK (laws_eqInt64SS_w0 S K) fr h) s0_ s1_ i5_ h) : laws_eqInt64SS_L0 S K s0_ s1_ i5_ h := loop_unroll ((laws_eqInt64SS_link0 S K _ s0_ s1_ i5_ h).mpr hb)
def laws_eqInt64SS_main (S : SatT) (K : AVal → H → Prop) (x0 : Sl) (x1 : Sl) (h : H) : Prop :=
 bif ((x0.len : Int) != (x1.len : Int)) then
 K (.bool false) h
 else
 laws_eqInt64SS_L0 S K x0 x1 (0) h
theorem laws_eqInt64SS_main_link (S : SatT) (K : AVal → H → Prop) (x0 : Sl) (x1 : Sl) (h : H) : cwp S tab laws_eqInt64SS_M [] (bodyOf Try.f29) (kFun tab Try.f29.results.toList K) (fr0 Try.f29 [.sl x0, .sl x1]) h = laws_eqInt64SS_main S K x0 x1 h := by kernel_rfl
theorem laws_eqInt64SS_call (x0 : Sl) (x1 : Sl) (h : H) (K : Bool → H → Prop) (hm : laws_eqInt64SS_main (Sat Try.prog) (fun v h' => ∃ r, v = .bool r ∧ K r h') x0 x1 h) : callB (Sat Try.prog) i_laws_eqInt64SS [.sl x0, .sl x1] h K := by
  have := Sat.ex tok mixed laws_eqInt64SS_M Try.func29 (c := bodyOf Try.f29) (by kernel_rfl) (calls_of Try.func29 (c := bodyOf Try.f29) (by kernel_rfl) (by decide)) ((laws_eqInt64SS_main_link _ _ x0 x1 h).mpr hm)
  obtain ⟨v, h2, h3, r, rfl, h4⟩ := this; exact ⟨r, h2, h3, h4⟩

/-! ### loop.example/g01354/spec.l01Tile -/
def spec_l01Tile_M : Nat → List Nat := fun i => bif i == 0 then [0, 3, 5] else []
def spec_l01Tile_ks1 (S : SatT) (K : AVal → H → Prop) : Kont := kSeq (cwp S tab spec_l01Tile_M [] (sub [1, 1] (bodyOf Try.f94)) (kFun tab (Try.f94).results.toList K)) (kFun tab (Try.f94).results.toList K)
def spec_l01Tile_e0 (i0_ : Int) (p3_ : Pt) (i5_ : Int) : Frame := [.int .i64 i0_, U, U, .ptr p3_, U, .int .i64 i5_, U, U, U, U, U, U, U, U, U, U, U]
def spec_l01Tile_w0 (S : SatT) (K : AVal → H → Prop) : (Frame → H → Prop) → Frame → H → Prop := fun X fr h => cwp S tab spec_l01Tile_M (spec_l01Tile_M 0) (sub [1, 0, 1, 0, 0] (bodyOf Try.f94)) (kSeq (fun fr h => X (mask (spec_l01Tile_M 0) fr) h) (kBlk 0 (spec_l01Tile_ks1 S K))) fr h
def spec_l01Tile_L0 (S : SatT) (K : AVal → H → Prop) (i0_ : Int) (p3_ : Pt) (i5_ : Int) (h : H) : Prop := loopK (spec_l01Tile_w0 S K) (spec_l01Tile_e0 i0_ p3_ i5_) h
def spec_l01Tile_C0 (S : SatT) (K : AVal → H → Prop) (h : H) : Prop :=
 K (.bool true) h
def spec_l01Tile_b0 (S : SatT) (K : AVal → H → Prop) (X0 : Frame → H → Prop) (i0_ : Int) (p3_ : Pt) (i5_ : Int) (h : H) : Prop :=
 bif (decide (i5_ < (4))) then
 ixA p3_ 4 1 i5_ fun p0 =>
 ldI .i64 p0 h fun n1 =>
 callB S i_spec_l01In [.int .i64 n1, .int .i64 (0), .int .i64 (w64 (i0_ - (1)))] h fun b3 h2 =>
 bif (!b3) then
 K (.bool false) h2
 else
 X0 (spec_l01Tile_e0 i0_ p3_ (w64 (i5_ + (1)))) h2
 else
 spec_l01Tile_C0 S K h
theorem spec_l01Tile_link0 (S : SatT) (K : AVal → H → Prop) (X0 : Frame → H → Prop) (i0_ : Int) (p3_ : Pt) (i5_ : Int) (h : H) : spec_l01Tile_w0 S K X0 (spec_l01Tile_e0 i0_ p3_ i5_) h = spec_l01Tile_b0 S K X0 i0_ p3_ i5_ h := by kernel_rfl
theorem spec_l01Tile_rule0 (S : SatT) (K : AVal → H → Prop) (i0_ : Int) (p3_ : Pt) (I_ : Int → H → Prop) (m_ : Int → H → Nat)
    (hs : ∀ (X0 : Frame → H → Prop) (i5_ : Int) (h : H), I_ i5_ h → (∀ (i5_' : Int) (h' : H), I_ i5_' h' → m_ i5_' h' < m_ i5_ h → X0 (spec_l01Tile_e0 i0_ p3_ i5_') h') → spec_l01Tile_b0 S K X0 i0_ p3_ i5_ h) (i5_ : Int) {h : H} (h0 : I_ i5_ h) : spec_l01Tile_L0 S K i0_ p3_ i5_ h :=
  loop_rule (σ := (Int)) (fun s_ => spec_l01Tile_e0 i0_ p3_ (s_)) (fun s_ h => I_ (s_) h) (fun s_ h => m_ (s_) h)
    (fun X s_ h hi hx => (spec_l01Tile_link0 S K X i0_ p3_ (s_) h).mpr (hs X (s_) h hi fun i5_' h' hi' hm' => hx (i5_') h' hi' hm')) (i5_) h0
theorem spec_l01Tile_unroll0 (S : SatT) (K : AVal → H → Prop) (i0_ : Int) (p3_ : Pt) (i5_ : Int) (h : H) (hb : spec_l01Tile_b0 S K (fun fr h => loopK (spec_l01Tile_w0 S K) fr h) i0_ p3_ i5_ h) : spec_l01Tile_L0 S K i0_ p3_ i5_ h := loop_unroll ((spec_l01Tile_link0 S K _ i0_ p3_ i5_ h).mpr hb)
def spec_l01Tile_main (S : SatT) (K : AVal → H → Prop) (x0 : Int) (x1 : List AVal) (h : H) : Prop :=
 newK 4 x1 h fun p0 h1 =>
 spec_l01Tile_L0 S K x0 p0 (0) h1
theorem spec_l01Tile_main_link (S : SatT) (K : AVal → H → Prop) (x0 : Int) (x1 : List AVal) (h : H) : cwp S tab spec_l01Tile_M [] (bodyOf Try.f94) (kFun tab Try.f94.results.toList K) (fr0 Try.f94 [.int .i64 x0, .agg x1]) h = spec_l01Tile_main S K x0 x1 h := by kernel_rfl
theorem spec_l01Tile_call (x0 : Int) (x1 : List AVal) (h : H) (K : Bool → H → Prop) (hm : spec_l01Tile_main (Sat Try.prog) (fun v h' => ∃ r, v = .bool r ∧ K r h') x0 x1 h) : callB (Sat Try.prog) i_spec_l01Tile [.int .i64 x0, .agg x1] h K := by
  have := Sat.ex tok mixed spec_l01Tile_M Try.func94 (c := bodyOf Try.f94) (by kernel_rfl) (calls_of Try.func94 (c := bodyOf Try.f94) (by kernel_rfl) (by decide)) ((spec_l01Tile_main_link _ _ x0 x1 h).mpr hm)
  obtain ⟨v, h2, h3, r, rfl, h4⟩ := this; exact ⟨r, h2, h3, h4⟩

/-! ### loop.example/g01354/laws.rows9 -/
def laws_rows9_M : Nat → List Nat := fun i => bif i == 0 then [0, 1, 5] else []
def laws_rows9_ks4 (S : SatT) (K : AVal → H → Prop) : Kont := kSeq (cwp S tab laws_rows9_M [] (sub [1, 1, 1] (bodyOf Try.f44)) (kFun tab (Try.f44).results.toList K)) (kFun tab (Try.f44).results.toList K)
def laws_rows9_e0 (s0_ : Sl) (s1_ : Sl) (i5_ : Int) : Frame := [.sl s0_, .sl s1_, U, U, U, .int .i64 i5_, U, U, U, U, U, U, U, U, U, U, U, U, U, U, U, U, U, U, U, U, U]
def laws_rows9_w0 (S : SatT) (K : AVal → H → Prop) : (Frame → H → Prop) → Frame → H → Prop := fun X fr h => cwp S tab laws_rows9_M (laws_rows9_M 0) (sub [1, 1, 0, 1, 0, 0] (bodyOf Try.f44)) (kSeq (fun fr h => X (mask (laws_rows9_M 0) fr) h) (kBlk 0 (laws_rows9_ks4 S K))) fr h
def laws_rows9_L0 (S : SatT) (K : AVal → H → Prop) (s0_ : Sl) (s1_ : Sl) (i5_ : Int) (h : H) : Prop := loopK (laws_rows9_w0 S K) (laws_rows9_e0 s0_ s1_ i5_) h
def laws_rows9_C0 (S : SatT) (K : AVal → H → Prop) (h : H) : Prop :=
 K (.bool true) h
def laws_rows9_b0 (S : SatT) (K : AVal → H → Prop) (X0 : Frame → H → Prop) (s0_ : Sl) (s1_ : Sl) (i5_ : Int) (h : H) : Prop :=
 bif (decide (i5_ < (s0_.len : Int))) then
 ixS s0_ 1 i5_ fun p0 =>
 ldS p0 h fun s1 =>
 ixS s1_ 1 i5_ fun p2 =>
 ldS p2 h fun s3 =>
 callB S i_laws_likeInts [.sl s1, .sl s3] h fun b5 h4 =>
 bif (!b5) then
 K (.bool false) h4
 else
 X0 (laws_rows9_e0 s0_ s1_ (w64 (i5_ + (1)))) h4
 else
 laws_rows9_C0 S K h
theorem laws_rows9_link0 (S : SatT) (K : AVal → H → Prop) (X0 : Frame → H → Prop) (s0_ : Sl) (s1_ : Sl) (i5_ : Int) (h : H) : laws_rows9_w0 S K X0 (laws_rows9_e0 s0_ s1_ i5_) h = laws_rows9_b0 S K X0 s0_ s1_ i5_ h := by kernel_rfl
theorem laws_rows9_rule0 (S : SatT) (K : AVal → H → Prop) (s0_ : Sl) (s1_ : Sl) (I_ : Int → H → Prop) (m_ : Int → H → Nat)
    (hs : ∀ (X0 : Frame → H → Prop) (i5_ : Int) (h : H), I_ i5_ h → (∀ (i5_' : Int) (h' : H), I_ i5_' h' → m_ i5_' h' < m_ i5_ h → X0 (laws_rows9_e0 s0_ s1_ i5_') h') → laws_rows9_b0 S K X0 s0_ s1_ i5_ h) (i5_ : Int) {h : H} (h0 : I_ i5_ h) : laws_rows9_L0 S K s0_ s1_ i5_ h :=
  loop_rule (σ := (Int)) (fun s_ => laws_rows9_e0 s0_ s1_ (s_)) (fun s_ h => I_ (s_) h) (fun s_ h => m_ (s_) h)
    (fun X s_ h hi hx => (laws_rows9_link0 S K X s0_ s1_ (s_) h).mpr (hs X (s_) h hi fun i5_' h' hi' hm' => hx (i5_') h' hi' hm')) (i5_) h0
theorem laws_rows9_unroll0 (S : SatT) (K : AVal → H → Prop) (s0_ : Sl) (s1_ : Sl) (i5_ : Int) (h : H) (hb : laws_rows9_b0 S K (fun fr h => loopK (laws_rows9_w0 S K) fr h) s0_ s1_ i5_ h) : laws_rows9_L0 S K s0_ s1_ i5_ h := loop_unroll ((laws_rows9_link0 S K _ s0_ s1_ i5_ h).mpr hb)
def laws_rows9_main (S : SatT) (K : AVal → H → Prop) (x0 : Sl) (x1 : Sl) (h : H) : Prop :=
 bif ((x0.len : Int) != (x1.len : Int)) then
 K (.bool false) h
 else
 laws_rows9_L0 S K x0 x1 (0) h
theorem laws_rows9_main_link (S : SatT) (K : AVal → H → Prop) (x0 : Sl) (x1 : Sl) (h : H) : cwp S tab laws_rows9_M [] (bodyOf Try.f44) (kFun tab Try.f44.results.toList K) (fr0 Try.f44 [.sl x0, .sl x1]) h = laws_rows9_main S K x0 x1 h := by kernel_rfl
theorem laws_rows9_call (x0 : Sl) (x1 : Sl) (h : H) (K : Bool → H → Prop) (hm : laws_rows9_main (Sat Try.prog) (fun v h' => ∃ r, v = .bool r ∧ K r h') x0 x1 h) : callB (Sat Try.prog) i_laws_rows9 [.sl x0, .sl x1] h K := by
  have := Sat.ex tok mixed laws_rows9_M Try.func44 (c := bodyOf Try.f44) (by kernel_rfl) (calls_of Try.func44 (c := bodyOf Try.f44) (by kernel_rfl) (by decide)) ((laws_rows9_main_link _ _ x0 x1 h).mpr hm)
  obtain ⟨v, h2, h3, r, rfl, h4⟩ := this; exact ⟨r, h2, h3, h4⟩

/-! ### loop.example/g01354/laws.FnExactColumnTable -/
def laws_FnExactColumnTable_M : Nat → List Nat := fun i => []
def laws_FnExactColumnTable_main (S : SatT) (K : AVal → H → Prop) (x0 : List AVal) (x1 : Int) (h : H) : Prop :=
 newK 2 x0 h fun p0 h1 =>
 ldA p0 2 h1 fun cs2 =>
 callI S .i64 i_laws_szSet [.agg cs2, .int .i64 (1048576)] h1 fun n4 h3 =>
 bif (decide (n4 < (0))) then
 K (.bool true) h3
 else
 ldA p0 2 h3 fun cs5 =>
 callA S i_laws_toSet [.agg cs5] h3 fun cs7 h6 =>
 callV S i_spec_ColumnTable [.agg cs7, .int .i64 x1] h6 fun v9 h8 =>
 viaT v9 fun vs10 =>
 exS vs10 0 fun s11 =>
 viaT v9 fun vs12 =>
 exI .i64 vs12 1 fun n13 =>
 ldA p0 2 h8 fun cs14 =>
 callA S i_laws_toSet [.agg cs14] h8 fun cs16 h15 =>
 newO [.int .i64 (0), .sl Sl.nil] h15 fun p17 h18 =>
 stN p17 2 cs16 h18 fun h19 =>
 ldA p17 2 h19 fun cs20 =>
 callV S i_impl_ColumnTable [.agg cs20, .int .i64 x1] h19 fun v22 h21 =>
 viaT v22 fun vs23 =>
 exS vs23 0 fun s24 =>
 viaT v22 fun vs25 =>
 exI .i64 vs25 1 fun n26 =>
 callB S i_laws_eqInt64SS [.sl s24, .sl s11] h21 fun b28 h27 =>
 bif (!b28) then
 K (.bool false) h27
 else
 bif (n26 != n13) then
 K (.bool false) h27
 else
 ldA p17 2 h27 fun cs29 =>
 ldA p0 2 h27 fun cs30 =>
 callA S i_laws_toSet [.agg cs30] h27 fun cs32 h31 =>
(range h31 p17.o p17.n p17.off 2 = range h27 p17.o p17.n p17.off 2) ∧ (
 callB S i_laws_eqSet [.agg cs29, .agg cs32] h31 fun b34 h33 =>
 bif (!b34) then
 K (.bool false) h33
 else
 ldA p17 2 h33 fun cs35 =>
 callI S .i64 i_laws_markSet [.agg cs35, .int .i64 (1)] h33 fun n37 h36 =>
 bif (decide (n37 < (0))) then
 K (.bool false) h36
 else
 callB S i_laws_eqInt64SS [.sl s24, .sl s11] h36 fun b39 h38 =>
 bif (!b39) then
 K (.bool false) h38
 else
 bif (n26 != n13) then
 K (.bool false) h38
 else
 callI S .i64 i_laws_markInt64SS [.sl s24, .int .i64 (1)] h38 fun n41 h40 =>
 callI S .i64 i_laws_heldInt64SS [.sl s24, .int .i64 (1)] h40 fun n43 h42 =>
 bif (decide (n43 < (0))) then
 K (.bool false) h42
 else
 bif (n43 != n41) then
 K (.bool false) h42
 else
 ldA p0 2 h42 fun cs44 =>
 callA S i_laws_toSet [.agg cs44] h42 fun cs46 h45 =>
 callV S i_impl_ColumnTable [.agg cs46, .int .i64 x1] h45 fun v48 h47 =>
 viaT v48 fun vs49 =>
 exS vs49 0 fun s50 =>
 viaT v48 fun vs51 =>
 exI .i64 vs51 1 fun n52 =>
 callB S i_laws_eqInt64SS [.sl s50, .sl s11] h47 fun b54 h53 =>
 bif (!b54) then
 K (.bool false) h53
 else
 bif (n52 != n13) then
 K (.bool false) h53
 else
 callI S .i64 i_laws_heldInt64SS [.sl s24, .int .i64 (1)] h53 fun n56 h55 =>
 bif (decide (n56 < (0))) then
 K (.bool false) h55
 else
 bif (n56 != n41) then
 K (.bool false) h55
 else
 K (.bool true) h55)
theorem laws_FnExactColumnTable_main_link (S : SatT) (K : AVal → H → Prop) (x0 : List AVal) (x1 : Int) (h : H) : cwp S tab laws_FnExactColumnTable_M [] (bodyOf Try.f6) (kFun tab Try.f6.results.toList K) (fr0 Try.f6 [.agg x0, .int .i64 x1]) h = laws_FnExactColumnTable_main S K x0 x1 h := by kernel_rfl
theorem laws_FnExactColumnTable_call (x0 : List AVal) (x1 : Int) (h : H) (K : Bool → H → Prop) (hm : laws_FnExactColumnTable_main (Sat Try.prog) (fun v h' => ∃ r, v = .bool r ∧ K r h') x0 x1 h) : callB (Sat Try.prog) i_laws_FnExactColumnTable [.agg x0, .int .i64 x1] h K := by
  have := Sat.ex tok mixed laws_FnExactColumnTable_M Try.func6 (c := bodyOf Try.f6) (by kernel_rfl) (calls_of Try.func6 (c := bodyOf Try.f6) (by kernel_rfl) (by decide)) ((laws_FnExactColumnTable_main_link _ _ x0 x1 h).mpr hm)
  obtain ⟨v, h2, h3, r, rfl, h4⟩ := this; exact ⟨r, h2, h3, h4⟩

/-! ### loop.example/g01354/impl.divisor -/
def impl_divisor_M : Nat → List Nat := fun i => bif i == 0 then [0, 1] else []
def impl_divisor_ks1 (S : SatT) (K : AVal → H → Prop) : Kont := kSeq (cwp S tab impl_divisor_M [] (sub [1, 1] (bodyOf Try.f111)) (kFun tab (Try.f111).results.toList K)) (kFun tab (Try.f111).results.toList K)
def impl_divisor_e0 (i0_ : Int) (i1_ : Int) : Frame := [.int .i64 i0_, .int .i64 i1_, U, U, U, U, U, U, U, U, U, U]
def impl_divisor_w0 (S : SatT) (K : AVal → H → Prop) : (Frame → H → Prop) → Frame → H → Prop := fun X fr h => cwp S tab impl_divisor_M (impl_divisor_M 0) (sub [1, 0, 0, 0] (bodyOf Try.f111)) (kSeq (fun fr h => X (mask (impl_divisor_M 0) fr) h) (kBlk 0 (impl_divisor_ks1 S K))) fr h
def impl_divisor_L0 (S : SatT) (K : AVal → H → Prop) (i0_ : Int) (i1_ : Int) (h : H) : Prop := loopK (impl_divisor_w0 S K) (impl_divisor_e0 i0_ i1_) h
def impl_divisor_C0 (S : SatT) (K : AVal → H → Prop) (i0_ : Int) (h : H) : Prop :=
 K (.int .i64 i0_) h
def impl_divisor_b0 (S : SatT) (K : AVal → H → Prop) (X0 : Frame → H → Prop) (i0_ : Int) (i1_ : Int) (h : H) : Prop :=
 bif (i1_ != (0)) then
 nz i1_ (
 X0 (impl_divisor_e0 i1_ (Int.tmod i0_ i1_)) h)
 else
 impl_divisor_C0 S K i0_ h
theorem impl_divisor_link0 (S : SatT) (K : AVal → H → Prop) (X0 : Frame → H → Prop) (i0_ : Int) (i1_ : Int) (h : H) : impl_divisor_w0 S K X0 (impl_divisor_e0 i0_ i1_) h = impl_divisor_b0 S K X0 i0_ i1_ h := by kernel_rfl
theorem impl_divisor_rule0 (S : SatT) (K : AVal → H → Prop) (I_ : Int → Int → H → Prop) (m_ : Int → Int → H → Nat)
    (hs : ∀ (X0 : Frame → H → Prop) (i0_ : Int) (i1_ : Int) (h : H), I_ i0_ i1_ h → (∀ (i0_' : Int) (i1_' : Int) (h' : H), I_ i0_' i1_' h' → m_ i0_' i1_' h' < m_ i0_ i1_ h → X0 (impl_divisor_e0 i0_' i1_') h') → impl_divisor_b0 S K X0 i0_ i1_ h) (i0_ : Int) (i1_ : Int) {h : H} (h0 : I_ i0_ i1_ h) : impl_divisor_L0 S K i0_ i1_ h :=
  loop_rule (σ := (Int) × (Int)) (fun s_ => impl_divisor_e0 (s_.1) (s_.2)) (fun s_ h => I_ (s_.1) (s_.2) h) (fun s_ h => m_ (s_.1) (s_.2) h)
    (fun X s_ h hi hx => (impl_divisor_link0 S K X (s_.1) (s_.2) h).mpr (hs X (s_.1) (s_.2) h hi fun i0_' i1_' h' hi' hm' => hx (i0_', i1_') h' hi' hm')) (i0_, i1_) h0
theorem impl_divisor_unroll0 (S : SatT) (K : AVal → H → Prop) (i0_ : Int) (i1_ : Int) (h : H) (hb : impl_divisor_b0 S K (fun fr h => loopK (impl_divisor_w0 S K) fr h) i0_ i1_ h) : impl_divisor_L0 S K i0_ i1_ h := loop_unroll ((impl_divisor_link0 S K _ i0_ i1_ h).mpr hb)
def impl_divisor_main (S : SatT) (K : AVal → H → Prop) (x0 : Int) (x1 : Int) (h : H) : Prop :=
 impl_divisor_L0 S K x0 x1 h
theorem impl_divisor_main_link (S : SatT) (K : AVal → H → Prop) (x0 : Int) (x1 : Int) (h : H) : cwp S tab impl_divisor_M [] (bodyOf Try.f111) (kFun tab Try.f111.results.toList K) (fr0 Try.f111 [.int .i64 x0, .int .i64 x1]) h = impl_divisor_main S K x0 x1 h := by kernel_rfl
theorem impl_divisor_call (x0 : Int) (x1 : Int) (h : H) (K : Int → H → Prop) (hm : impl_divisor_main (Sat Try.prog) (fun v h' => ∃ r, v = .int .i64 r ∧ K r h') x0 x1 h) : callI (Sat Try.prog) .i64 i_impl_divisor [.int .i64 x0, .int .i64 x1] h K := by
  have := Sat.ex tok mixed impl_divisor_M Try.func111 (c := bodyOf Try.f111) (by kernel_rfl) (calls_of Try.func111 (c := bodyOf Try.f111) (by kernel_rfl) (by decide)) ((impl_divisor_main_link _ _ x0 x1 h).mpr hm)
  obtain ⟨v, h2, h3, r, rfl, h4⟩ := this; exact ⟨r, h2, h3, h4⟩

/-! ### loop.example/g01354/spec.l01Small -/
def spec_l01Small_M : Nat → List Nat := fun i => []
def spec_l01Small_main (S : SatT) (K : AVal → H → Prop) (x0 : Pt) (h : H) : Prop :=
 newO [.int .i64 (0), .sl Sl.nil] h fun p0 h1 =>
 callI S .i64 i_spec_l01Next [.ptr x0, .int .i64 (3)] h1 fun n3 h2 =>
 bif (n3 == (0)) then
 callS S i_spec_l01Names [] h2 fun s5 h4 =>
 callI S .i64 i_spec_l01Next [.ptr x0, .int .i64 (s5.len : Int)] h4 fun n7 h6 =>
 ixS s5 1 n7 fun p8 =>
 ldV p8 h6 fun v9 =>
 callV S i_spec_l01Named [v9] h6 fun v11 h10 =>
 viaT v11 fun vs12 =>
 exA vs12 0 fun cs13 =>
 viaT v11 fun vs14 =>
 exB vs14 1 fun b15 =>
 newO [.int .i64 (0), .sl Sl.nil] h10 fun p16 h17 =>
 stN p16 2 cs13 h17 fun h18 =>
 ldA p16 2 h18 fun cs19 =>
 isPt p16 (
 ldI .i64 (Pt.add p16 0) h18 fun n20 =>
 callS S i_spec_l01DrawOrder [.ptr x0, .int .i64 n20] h18 fun s22 h21 =>
(range h21 p16.o p16.n p16.off 2 = range h18 p16.o p16.n p16.off 2) ∧ (
 callA S i_spec_l01Renamed [.agg cs19, .sl s22] h21 fun cs24 h23 =>
 stN p0 2 cs24 h23 fun h25 =>
 ldA p0 2 h25 fun cs26 =>
 K (.agg cs26) h25))
 else
 newS 5 1 [.int .i64 (1), .int .i64 (2), .int .i64 (2), .int .i64 (2), .int .i64 (3)] h2 fun s27 h28 =>
 callI S .i64 i_spec_l01Pick [.ptr x0, .sl s27] h28 fun n30 h29 =>
 newS 3 1 [.int .i64 (3), .int .i64 (6), .int .i64 (9)] h29 fun s31 h32 =>
 callI S .i64 i_spec_l01Pick [.ptr x0, .sl s31] h32 fun n34 h33 =>
 callI S .i64 i_spec_l01Next [.ptr x0, .int .i64 n34] h33 fun n36 h35 =>
 callA S i_spec_l01DrawOf [.ptr x0, .int .i64 n30, .int .i64 n36] h35 fun cs38 h37 =>
 stN p0 2 cs38 h37 fun h39 =>
 ldA p0 2 h39 fun cs40 =>
 K (.agg cs40) h39
theorem spec_l01Small_main_link (S : SatT) (K : AVal → H → Prop) (x0 : Pt) (h : H) : cwp S tab spec_l01Small_M [] (bodyOf Try.f124) (kFun tab Try.f124.results.toList K) (fr0 Try.f124 [.ptr x0]) h = spec_l01Small_main S K x0 h := by kernel_rfl
theorem spec_l01Small_call (x0 : Pt) (h : H) (K : List AVal → H → Prop) (hm : spec_l01Small_main (Sat Try.prog) (fun v h' => ∃ r, v = .agg r ∧ K r h') x0 h) : callA (Sat Try.prog) i_spec_l01Small [.ptr x0] h K := by
  have := Sat.ex tok mixed spec_l01Small_M Try.func124 (c := bodyOf Try.f124) (by kernel_rfl) (calls_of Try.func124 (c := bodyOf Try.f124) (by kernel_rfl) (by decide)) ((spec_l01Small_main_link _ _ x0 h).mpr hm)
  obtain ⟨v, h2, h3, r, rfl, h4⟩ := this; exact ⟨r, h2, h3, h4⟩

/-! ### loop.example/g01354/laws.FnExactPeriodOfHeight -/
def laws_FnExactPeriodOfHeight_M : Nat → List Nat := fun i => []
def laws_FnExactPeriodOfHeight_main (S : SatT) (K : AVal → H → Prop) (x0 : List AVal) (x1 : Int) (h : H) : Prop :=
 newK 2 x0 h fun p0 h1 =>
 ldA p0 2 h1 fun cs2 =>
 callI S .i64 i_laws_szSet [.agg cs2, .int .i64 (1048576)] h1 fun n4 h3 =>
 bif (decide (n4 < (0))) then
 K (.bool true) h3
 else
 ldA p0 2 h3 fun cs5 =>
 callA S i_laws_toSet [.agg cs5] h3 fun cs7 h6 =>
 callV S i_spec_PeriodOfHeight [.agg cs7, .int .i64 x1] h6 fun v9 h8 =>
 viaT v9 fun vs10 =>
 exI .i64 vs10 0 fun n11 =>
 viaT v9 fun vs12 =>
 exI .i64 vs12 1 fun n13 =>
 ldA p0 2 h8 fun cs14 =>
 callA S i_laws_toSet [.agg cs14] h8 fun cs16 h15 =>
 newO [.int .i64 (0), .sl Sl.nil] h15 fun p17 h18 =>
 stN p17 2 cs16 h18 fun h19 =>
 ldA p17 2 h19 fun cs20 =>
 callV S i_impl_PeriodOfHeight [.agg cs20, .int .i64 x1] h19 fun v22 h21 =>
 viaT v22 fun vs23 =>
 exI .i64 vs23 0 fun n24 =>
 viaT v22 fun vs25 =>
 exI .i64 vs25 1 fun n26 =>
 bif (n24 != n11) then
 K (.bool false) h21
 else
 bif (n26 != n13) then
 K (.bool false) h21
 else
 ldA p17 2 h21 fun cs27 =>
 ldA p0 2 h21 fun cs28 =>
 callA S i_laws_toSet [.agg cs28] h21 fun cs30 h29 =>
(range h29 p17.o p17.n p17.off 2 = range h21 p17.o p17.n p17.off 2) ∧ (
 callB S i_laws_eqSet [.agg cs27, .agg cs30] h29 fun b32 h31 =>
 bif (!b32) then
 K (.bool false) h31
 else
 K (.bool true) h31)
theorem laws_FnExactPeriodOfHeight_main_link (S : SatT) (K : AVal → H → Prop) (x0 : List AVal) (x1 : Int) (h : H) : cwp S tab laws_FnExactPeriodOfHeight_M [] (bodyOf Try.f11) (kFun tab Try.f11.results.toList K) (fr0 Try.f11 [.agg x0, .int .i64 x1]) h = laws_FnExactPeriodOfHeight_main S K x0 x1 h := by kernel_rfl
theorem laws_FnExactPeriodOfHeight_call (x0 : List AVal) (x1 : Int) (h : H) (K : Bool → H → Prop) (hm : laws_FnExactPeriodOfHeight_main (Sat Try.prog) (fun v h' => ∃ r, v = .bool r ∧ K r h') x0 x1 h) : callB (Sat Try.prog) i_laws_FnExactPeriodOfHeight [.agg x0, .int .i64 x1] h K := by
  have := Sat.ex tok mixed laws_FnExactPeriodOfHeight_M Try.func11 (c := bodyOf Try.f11) (by kernel_rfl) (calls_of Try.func11 (c := bodyOf Try.f11) (by kernel_rfl) (by decide)) ((laws_FnExactPeriodOfHeight_main_link _ _ x0 x1 h).mpr hm)
  obtain ⟨v, h2, h3, r, rfl, h4⟩ := this; exact ⟨r, h2, h3, h4⟩

/-! ### loop.example/g01354/impl.StripSequence -/
def impl_StripSequence_M : Nat → List Nat := fun i => []
def impl_StripSequence_main (S : SatT) (K : AVal → H → Prop) (x0 : List AVal) (x1 : Int) (x2 : Int) (h : H) : Prop :=
 newK 2 x0 h fun p0 h1 =>
 newO [.int .i64 x1] h1 fun p2 h3 =>
 newO [.int .i64 x2] h3 fun p4 h5 =>
 ldA p0 2 h5 fun cs6 =>
 callI S .i64 i_impl_setCode [.agg cs6, .func 67 [.ptr p2, .ptr p4]] h5 fun n8 h7 =>
 bif (n8 != (0)) then
 K (.tuple [.sl Sl.nil, .int .i64 n8]) h7
 else
 ldA p0 2 h7 fun cs9 =>
 ldI .i64 p2 h7 fun n10 =>
 callV S i_impl_stripOf [.agg cs9, .int .i64 n10] h7 fun v12 h11 =>
 viaT v12 fun vs13 =>
 exP vs13 0 fun p14 =>
 viaT v12 fun vs15 =>
 exI .i64 vs15 1 fun n16 =>
 bif (n16 != (0)) then
 K (.tuple [.sl Sl.nil, .int .i64 n16]) h11
 else
 newS 0 1 [] h11 fun s17 h18 =>
 newO [.sl Sl.nil] h18 fun p19 h20 =>
 newO [.bool false] h20 fun p21 h22 =>
 st1 p19 (.sl s17) h22 fun h23 =>
 st1 p21 (.bool true) h23 fun h24 =>
 callV S i_impl_strip_sequence [.ptr p14, .func 70 [], .func 71 [.ptr p19, .ptr p21, .ptr p4]] h24 fun v26 h25 =>
 ldB p21 h25 fun b27 =>
 bif (!b27) then
 K (.tuple [.sl Sl.nil, .int .i64 (3)]) h25
 else
 ldS p19 h25 fun s28 =>
 K (.tuple [.sl s28, .int .i64 (0)]) h25
theorem impl_StripSequence_main_link (S : SatT) (K : AVal → H → Prop) (x0 : List AVal) (x1 : Int) (x2 : Int) (h : H) : cwp S tab impl_StripSequence_M [] (bodyOf Try.f26) (kFun tab Try.f26.results.toList K) (fr0 Try.f26 [.agg x0, .int .i64 x1, .int .i64 x2]) h = impl_StripSequence_main S K x0 x1 x2 h := by kernel_rfl
theorem impl_StripSequence_call (x0 : List AVal) (x1 : Int) (x2 : Int) (h : H) (K : AVal → H → Prop) (hm : impl_StripSequence_main (Sat Try.prog) (fun v h' => K v h') x0 x1 x2 h) : callV (Sat Try.prog) i_impl_StripSequence [.agg x0, .int .i64 x1, .int .i64 x2] h K := by
  have := Sat.ex tok mixed impl_StripSequence_M Try.func26 (c := bodyOf Try.f26) (by kernel_rfl) (calls_of Try.func26 (c := bodyOf Try.f26) (by kernel_rfl) (by decide)) ((impl_StripSequence_main_link _ _ x0 x1 x2 h).mpr hm)
  exact this

/-! ### math/bits.Mul64 -/
def math_bits_Mul64_M : Nat → List Nat := fun i => []
def math_bits_Mul64_main (S : SatT) (K : AVal → H → Prop) (x0 : Int) (x1 : Int) (h : H) : Prop :=
 nn (32) (
 nn (32) (
 nn (32) (
 nn (32) (
 nn (32) (
 K (.tuple [.int .u64 (IntKind.wrap .u64 ((IntKind.wrap .u64 ((IntKind.wrap .u64 ((shrI .u64 x0 (32)) * (shrI .u64 x1 (32)))) + (shrI .u64 (IntKind.wrap .u64 ((IntKind.wrap .u64 ((shrI .u64 x0 (32)) * (bitsOp .and .u64 x1 (4294967295)))) + (shrI .u64 (IntKind.wrap .u64 ((bitsOp .and .u64 x0 (4294967295)) * (bitsOp .and .u64 x1 (4294967295)))) (32)))) (32)))) + (shrI .u64 (IntKind.wrap .u64 ((bitsOp .and .u64 (IntKind.wrap .u64 ((IntKind.wrap .u64 ((shrI .u64 x0 (32)) * (bitsOp .and .u64 x1 (4294967295)))) + (shrI .u64 (IntKind.wrap .u64 ((bitsOp .and .u64 x0 (4294967295)) * (bitsOp .and .u64 x1 (4294967295)))) (32)))) (4294967295)) + (IntKind.wrap .u64 ((bitsOp .and .u64 x0 (4294967295)) * (shrI .u64 x1 (32)))))) (32)))), .int .u64 (IntKind.wrap .u64 (x0 * x1))]) h)))))
theorem math_bits_Mul64_main_link (S : SatT) (K : AVal → H → Prop) (x0 : Int) (x1 : Int) (h : H) : cwp S tab math_bits_Mul64_M [] (bodyOf Try.f128) (kFun tab Try.f128.results.toList K) (fr0 Try.f128 [.int .u64 x0, .int .u64 x1]) h = math_bits_Mul64_main S K x0 x1 h := by kernel_rfl
theorem math_bits_Mul64_call (x0 : Int) (x1 : Int) (h : H) (K : AVal → H → Prop) (hm : math_bits_Mul64_main (Sat Try.prog) (fun v h' => K v h') x0 x1 h) : callV (Sat Try.prog) i_math_bits_Mul64 [.int .u64 x0, .int .u64 x1] h K := by
  have := Sat.ex tok mixed math_bits_Mul64_M Try.func128 (c := bodyOf Try.f128) (by kernel_rfl) (calls_of Try.func128 (c := bodyOf Try.f128) (by kernel_rfl) (by decide)) ((math_bits_Mul64_main_link _ _ x0 x1 h).mpr hm)
  exact this

/-! ### loop.example/g01354/impl.lastingOf -/
def impl_lastingOf_M : Nat → List Nat := fun i => []
def impl_lastingOf_main (S : SatT) (K : AVal → H → Prop) (x0 : List AVal) (x1 : Int) (h : H) : Prop :=
 newK 2 x0 h fun p0 h1 =>
 ldA p0 2 h1 fun cs2 =>
 callV S i_impl_stripOf [.agg cs2, .int .i64 x1] h1 fun v4 h3 =>
 viaT v4 fun vs5 =>
 exP vs5 0 fun p6 =>
 viaT v4 fun vs7 =>
 exI .i64 vs7 1 fun n8 =>
 bif (n8 != (0)) then
 K (.tuple [.ptr Pt.nil, .sl Sl.nil, .sl Sl.nil, .int .i64 n8]) h3
 else
 callV S i_impl_strip_lasting [.ptr p6] h3 fun v10 h9 =>
 viaT v10 fun vs11 =>
 exS vs11 0 fun s12 =>
 viaT v10 fun vs13 =>
 exS vs13 1 fun s14 =>
 bif (decide ((s12.len : Int) > (40))) then
 K (.tuple [.ptr Pt.nil, .sl Sl.nil, .sl Sl.nil, .int .i64 (3)]) h9
 else
 K (.tuple [.ptr p6, .sl s12, .sl s14, .int .i64 (0)]) h9
theorem impl_lastingOf_main_link (S : SatT) (K : AVal → H → Prop) (x0 : List AVal) (x1 : Int) (h : H) : cwp S tab impl_lastingOf_M [] (bodyOf Try.f73) (kFun tab Try.f73.results.toList K) (fr0 Try.f73 [.agg x0, .int .i64 x1]) h = impl_lastingOf_main S K x0 x1 h := by kernel_rfl
theorem impl_lastingOf_call (x0 : List AVal) (x1 : Int) (h : H) (K : AVal → H → Prop) (hm : impl_lastingOf_main (Sat Try.prog) (fun v h' => K v h') x0 x1 h) : callV (Sat Try.prog) i_impl_lastingOf [.agg x0, .int .i64 x1] h K := by
  have := Sat.ex tok mixed impl_lastingOf_M Try.func73 (c := bodyOf Try.f73) (by kernel_rfl) (calls_of Try.func73 (c := bodyOf Try.f73) (by kernel_rfl) (by decide)) ((impl_lastingOf_main_link _ _ x0 x1 h).mpr hm)
  exact this

/-! ### loop.example/g01354/impl.stripOf -/
def impl_stripOf_M : Nat → List Nat := fun i => []
def impl_stripOf_main (S : SatT) (K : AVal → H → Prop) (x0 : List AVal) (x1 : Int) (h : H) : Prop :=
 newK 2 x0 h fun p0 h1 =>
 newO [.int .i64 x1] h1 fun p2 h3 =>
 ldA p0 2 h3 fun cs4 =>
 callI S .i64 i_impl_setCode [.agg cs4, .func 91 [.ptr p2]] h3 fun n6 h5 =>
 bif (n6 != (0)) then
 K (.tuple [.ptr Pt.nil, .int .i64 n6]) h5
 else
 ldA p0 2 h5 fun cs7 =>
 ldI .i64 p2 h5 fun n8 =>
 callV S i_impl_newStrip [.agg cs7, .int .i64 n8] h5 fun v10 h9 =>
 viaT v10 fun vs11 =>
 exP vs11 0 fun p12 =>
 viaT v10 fun vs13 =>
 exB vs13 1 fun b14 =>
 bif (!b14) then
 K (.tuple [.ptr Pt.nil, .int .i64 (3)]) h9
 else
 K (.tuple [.ptr p12, .int .i64 (0)]) h9
theorem impl_stripOf_main_link (S : SatT) (K : AVal → H → Prop) (x0 : List AVal) (x1 : Int) (h : H) : cwp S tab impl_stripOf_M [] (bodyOf Try.f54) (kFun tab Try.f54.results.toList K) (fr0 Try.f54 [.agg x0, .int .i64 x1]) h = impl_stripOf_main S K x0 x1 h := by kernel_rfl
theorem impl_stripOf_call (x0 : List AVal) (x1 : Int) (h : H) (K : AVal → H → Prop) (hm : impl_stripOf_main (Sat Try.prog) (fun v h' => K v h') x0 x1 h) : callV (Sat Try.prog) i_impl_stripOf [.agg x0, .int .i64 x1] h K := by
  have := Sat.ex tok mixed impl_stripOf_M Try.func54 (c := bodyOf Try.f54) (by kernel_rfl) (calls_of Try.func54 (c := bodyOf Try.f54) (by kernel_rfl) (by decide)) ((impl_stripOf_main_link _ _ x0 x1 h).mpr hm)
  exact this

/-! ### loop.example/g01354/laws.eqSet -/
def laws_eqSet_M : Nat → List Nat := fun i => []
def laws_eqSet_main (S : SatT) (K : AVal → H → Prop) (x0 : List AVal) (x1 : List AVal) (h : H) : Prop :=
 newK 2 x0 h fun p0 h1 =>
 newK 2 x1 h1 fun p2 h3 =>
 isPt p0 (
 ldI .i64 (Pt.add p0 0) h3 fun n4 =>
 isPt p2 (
 ldI .i64 (Pt.add p2 0) h3 fun n5 =>
 bif (n4 != n5) then
 K (.bool false) h3
 else
 isPt p0 (
 ldS (Pt.add p0 1) h3 fun s6 =>
 isPt p2 (
 ldS (Pt.add p2 1) h3 fun s7 =>
 callB S i_laws_eqTileS [.sl s6, .sl s7] h3 fun b9 h8 =>
 bif (!b9) then
 K (.bool false) h8
 else
 K (.bool true) h8))))
theorem laws_eqSet_main_link (S : SatT) (K : AVal → H → Prop) (x0 : List AVal) (x1 : List AVal) (h : H) : cwp S tab laws_eqSet_M [] (bodyOf Try.f18) (kFun tab Try.f18.results.toList K) (fr0 Try.f18 [.agg x0, .agg x1]) h = laws_eqSet_main S K x0 x1 h := by kernel_rfl
theorem laws_eqSet_call (x0 : List AVal) (x1 : List AVal) (h : H) (K : Bool → H → Prop) (hm : laws_eqSet_main (Sat Try.prog) (fun v h' => ∃ r, v = .bool r ∧ K r h') x0 x1 h) : callB (Sat Try.prog) i_laws_eqSet [.agg x0, .agg x1] h K := by
  have := Sat.ex tok mixed laws_eqSet_M Try.func18 (c := bodyOf Try.f18) (by kernel_rfl) (calls_of Try.func18 (c := bodyOf Try.f18) (by kernel_rfl) (by decide)) ((laws_eqSet_main_link _ _ x0 x1 h).mpr hm)
  obtain ⟨v, h2, h3, r, rfl, h4⟩ := this; exact ⟨r, h2, h3, h4⟩

/-! ### loop.example/g01354/impl.ColumnTable -/
def impl_ColumnTable_M : Nat → List Nat := fun i => []
def impl_ColumnTable_main (S : SatT) (K : AVal → H → Prop) (x0 : List AVal) (x1 : Int) (h : H) : Prop :=
 newK 2 x0 h fun p0 h1 =>
 ldA p0 2 h1 fun cs2 =>
 callV S i_impl_lastingOf [.agg cs2, .int .i64 x1] h1 fun v4 h3 =>
 viaT v4 fun vs5 =>
 exP vs5 0 fun p6 =>
 viaT v4 fun vs7 =>
 exS vs7 1 fun s8 =>
 viaT v4 fun vs9 =>
 exS vs9 2 fun s10 =>
 viaT v4 fun vs11 =>
 exI .i64 vs11 3 fun n12 =>
 bif (n12 != (0)) then
 K (.tuple [.sl Sl.nil, .int .i64 n12]) h3
 else
 K (.tuple [.sl s10, .int .i64 (0)]) h3
theorem impl_ColumnTable_main_link (S : SatT) (K : AVal → H → Prop) (x0 : List AVal) (x1 : Int) (h : H) : cwp S tab impl_ColumnTable_M [] (bodyOf Try.f28) (kFun tab Try.f28.results.toList K) (fr0 Try.f28 [.agg x0, .int .i64 x1]) h = impl_ColumnTable_main S K x0 x1 h := by kernel_rfl
theorem impl_ColumnTable_call (x0 : List AVal) (x1 : Int) (h : H) (K : AVal → H → Prop) (hm : impl_ColumnTable_main (Sat Try.prog) (fun v h' => K v h') x0 x1 h) : callV (Sat Try.prog) i_impl_ColumnTable [.agg x0, .int .i64 x1] h K := by
  have := Sat.ex tok mixed impl_ColumnTable_M Try.func28 (c := bodyOf Try.f28) (by kernel_rfl) (calls_of Try.func28 (c := bodyOf Try.f28) (by kernel_rfl) (by decide)) ((impl_ColumnTable_main_link _ _ x0 x1 h).mpr hm)
  exact this

/-! ### slices.ContainsFunc[[]int64,int64] -/
def slices_ContainsFunc_s_int64_int64__M : Nat → List Nat := fun i => []
def slices_ContainsFunc_s_int64_int64__main (S : SatT) (K : AVal → H → Prop) (x0 : Sl) (x1 : AVal) (h : H) : Prop :=
 callI S .i64 i_slices_IndexFunc_s_int64_int64_ [.sl x0, x1] h fun n1 h0 =>
 K (.bool (decide (n1 ≥ (0)))) h0
theorem slices_ContainsFunc_s_int64_int64__main_link (S : SatT) (K : AVal → H → Prop) (x0 : Sl) (x1 : AVal) (h : H) : cwp S tab slices_ContainsFunc_s_int64_int64__M [] (bodyOf Try.f117) (kFun tab Try.f117.results.toList K) (fr0 Try.f117 [.sl x0, x1]) h = slices_ContainsFunc_s_int64_int64__main S K x0 x1 h := by kernel_rfl
theorem slices_ContainsFunc_s_int64_int64__call (x0 : Sl) (x1 : AVal) (h : H) (K : Bool → H → Prop) (hm : slices_ContainsFunc_s_int64_int64__main (Sat Try.prog) (fun v h' => ∃ r, v = .bool r ∧ K r h') x0 x1 h) : callB (Sat Try.prog) i_slices_ContainsFunc_s_int64_int64_ [.sl x0, x1] h K := by
  have := Sat.ex tok mixed slices_ContainsFunc_s_int64_int64__M Try.func117 (c := bodyOf Try.f117) (by kernel_rfl) (calls_of Try.func117 (c := bodyOf Try.f117) (by kernel_rfl) (by decide)) ((slices_ContainsFunc_s_int64_int64__main_link _ _ x0 x1 h).mpr hm)
  obtain ⟨v, h2, h3, r, rfl, h4⟩ := this; exact ⟨r, h2, h3, h4⟩

/-! ### loop.example/g01354/spec.DrawRecurrenceOf -/
def spec_DrawRecurrenceOf_M : Nat → List Nat := fun i => []
def spec_DrawRecurrenceOf_main (S : SatT) (K : AVal → H → Prop) (x0 : Sl) (h : H) : Prop :=
 newO [.int .i64 (0), .sl Sl.nil] h fun p0 h1 =>
 callV S i_spec_DrawCountColumns [.sl x0] h1 fun v3 h2 =>
 viaT v3 fun vs4 =>
 exA vs4 0 fun cs5 =>
 viaT v3 fun vs6 =>
 exI .i64 vs6 1 fun n7 =>
 stN p0 2 cs5 h2 fun h8 =>
 ldA p0 2 h8 fun cs9 =>
 K (.tuple [.agg cs9, .int .i64 n7]) h8
theorem spec_DrawRecurrenceOf_main_link (S : SatT) (K : AVal → H → Prop) (x0 : Sl) (h : H) : cwp S tab spec_DrawRecurrenceOf_M [] (bodyOf Try.f50) (kFun tab Try.f50.results.toList K) (fr0 Try.f50 [.sl x0]) h = spec_DrawRecurrenceOf_main S K x0 h := by kernel_rfl
theorem spec_DrawRecurrenceOf_call (x0 : Sl) (h : H) (K : AVal → H → Prop) (hm : spec_DrawRecurrenceOf_main (Sat Try.prog) (fun v h' => K v h') x0 h) : callV (Sat Try.prog) i_spec_DrawRecurrenceOf [.sl x0] h K := by
  have := Sat.ex tok mixed spec_DrawRecurrenceOf_M Try.func50 (c := bodyOf Try.f50) (by kernel_rfl) (calls_of Try.func50 (c := bodyOf Try.f50) (by kernel_rfl) (by decide)) ((spec_DrawRecurrenceOf_main_link _ _ x0 h).mpr hm)
  exact this

/-! ### loop.example/g01354/spec.DrawColumnTable -/
def spec_DrawColumnTable_M : Nat → List Nat := fun i => []
def spec_DrawColumnTable_main (S : SatT) (K : AVal → H → Prop) (x0 : Sl) (h : H) : Prop :=
 newO [.int .i64 (0), .sl Sl.nil] h fun p0 h1 =>
 callV S i_spec_DrawCountColumns [.sl x0] h1 fun v3 h2 =>
 viaT v3 fun vs4 =>
 exA vs4 0 fun cs5 =>
 viaT v3 fun vs6 =>
 exI .i64 vs6 1 fun n7 =>
 stN p0 2 cs5 h2 fun h8 =>
 ldA p0 2 h8 fun cs9 =>
 K (.tuple [.agg cs9, .int .i64 n7]) h8
theorem spec_DrawColumnTable_main_link (S : SatT) (K : AVal → H → Prop) (x0 : Sl) (h : H) : cwp S tab spec_DrawColumnTable_M [] (bodyOf Try.f43) (kFun tab Try.f43.results.toList K) (fr0 Try.f43 [.sl x0]) h = spec_DrawColumnTable_main S K x0 h := by kernel_rfl
theorem spec_DrawColumnTable_call (x0 : Sl) (h : H) (K : AVal → H → Prop) (hm : spec_DrawColumnTable_main (Sat Try.prog) (fun v h' => K v h') x0 h) : callV (Sat Try.prog) i_spec_DrawColumnTable [.sl x0] h K := by
  have := Sat.ex tok mixed spec_DrawColumnTable_M Try.func43 (c := bodyOf Try.f43) (by kernel_rfl) (calls_of Try.func43 (c := bodyOf Try.f43) (by kernel_rfl) (by decide)) ((spec_DrawColumnTable_main_link _ _ x0 h).mpr hm)
  exact this

/-! ### loop.example/g01354/spec.l01Made -/
def spec_l01Made_M : Nat → List Nat := fun i => []
def spec_l01Made_main (S : SatT) (K : AVal → H → Prop) (x0 : Int) (x1 : Sl) (h : H) : Prop :=
 newO [.int .i64 (0), .sl Sl.nil] h fun p0 h1 =>
 callS S i_spec_l01Sort [.sl x1] h1 fun s3 h2 =>
 stN p0 2 [.int .i64 x0, .sl s3] h2 fun h4 =>
 ldA p0 2 h4 fun cs5 =>
 K (.agg cs5) h4
theorem spec_l01Made_main_link (S : SatT) (K : AVal → H → Prop) (x0 : Int) (x1 : Sl) (h : H) : cwp S tab spec_l01Made_M [] (bodyOf Try.f139) (kFun tab Try.f139.results.toList K) (fr0 Try.f139 [.int .i64 x0, .sl x1]) h = spec_l01Made_main S K x0 x1 h := by kernel_rfl
theorem spec_l01Made_call (x0 : Int) (x1 : Sl) (h : H) (K : List AVal → H → Prop) (hm : spec_l01Made_main (Sat Try.prog) (fun v h' => ∃ r, v = .agg r ∧ K r h') x0 x1 h) : callA (Sat Try.prog) i_spec_l01Made [.int .i64 x0, .sl x1] h K := by
  have := Sat.ex tok mixed spec_l01Made_M Try.func139 (c := bodyOf Try.f139) (by kernel_rfl) (calls_of Try.func139 (c := bodyOf Try.f139) (by kernel_rfl) (by decide)) ((spec_l01Made_main_link _ _ x0 x1 h).mpr hm)
  obtain ⟨v, h2, h3, r, rfl, h4⟩ := this; exact ⟨r, h2, h3, h4⟩

/-! ### loop.example/g01354/impl.within -/
def impl_within_M : Nat → List Nat := fun i => []
def impl_within_main (S : SatT) (K : AVal → H → Prop) (x0 : Int) (x1 : Int) (x2 : Int) (h : H) : Prop :=
 bif (decide (x0 ≥ x1)) then
 K (.bool (decide (x0 ≤ x2))) h
 else
 K (.bool false) h
theorem impl_within_main_link (S : SatT) (K : AVal → H → Prop) (x0 : Int) (x1 : Int) (x2 : Int) (h : H) : cwp S tab impl_within_M [] (bodyOf Try.f68) (kFun tab Try.f68.results.toList K) (fr0 Try.f68 [.int .i64 x0, .int .i64 x1, .int .i64 x2]) h = impl_within_main S K x0 x1 x2 h := by kernel_rfl
theorem impl_within_call (x0 : Int) (x1 : Int) (x2 : Int) (h : H) (K : Bool → H → Prop) (hm : impl_within_main (Sat Try.prog) (fun v h' => ∃ r, v = .bool r ∧ K r h') x0 x1 x2 h) : callB (Sat Try.prog) i_impl_within [.int .i64 x0, .int .i64 x1, .int .i64 x2] h K := by
  have := Sat.ex tok mixed impl_within_M Try.func68 (c := bodyOf Try.f68) (by kernel_rfl) (calls_of Try.func68 (c := bodyOf Try.f68) (by kernel_rfl) (by decide)) ((impl_within_main_link _ _ x0 x1 x2 h).mpr hm)
  obtain ⟨v, h2, h3, r, rfl, h4⟩ := this; exact ⟨r, h2, h3, h4⟩

/-! ### math/bits.Mul -/
def math_bits_Mul_M : Nat → List Nat := fun i => []
def math_bits_Mul_main (S : SatT) (K : AVal → H → Prop) (x0 : Int) (x1 : Int) (h : H) : Prop :=
 callV S i_math_bits_Mul64 [.int .u64 x0, .int .u64 x1] h fun v1 h0 =>
 viaT v1 fun vs2 =>
 exI .u64 vs2 0 fun n3 =>
 viaT v1 fun vs4 =>
 exI .u64 vs4 1 fun n5 =>
 K (.tuple [.int .u64 n3, .int .u64 n5]) h0
theorem math_bits_Mul_main_link (S : SatT) (K : AVal → H → Prop) (x0 : Int) (x1 : Int) (h : H) : cwp S tab math_bits_Mul_M [] (bodyOf Try.f120) (kFun tab Try.f120.results.toList K) (fr0 Try.f120 [.int .u64 x0, .int .u64 x1]) h = math_bits_Mul_main S K x0 x1 h := by kernel_rfl
theorem math_bits_Mul_call (x0 : Int) (x1 : Int) (h : H) (K : AVal → H → Prop) (hm : math_bits_Mul_main (Sat Try.prog) (fun v h' => K v h') x0 x1 h) : callV (Sat Try.prog) i_math_bits_Mul [.int .u64 x0, .int .u64 x1] h K := by
  have := Sat.ex tok mixed math_bits_Mul_M Try.func120 (c := bodyOf Try.f120) (by kernel_rfl) (calls_of Try.func120 (c := bodyOf Try.f120) (by kernel_rfl) (by decide)) ((math_bits_Mul_main_link _ _ x0 x1 h).mpr hm)
  exact this

/-! ### loop.example/g01354/impl.counted -/
def impl_counted_M : Nat → List Nat := fun i => []
def impl_counted_main (S : SatT) (K : AVal → H → Prop) (x0 : Int) (h : H) : Prop :=
 bif (decide (x0 > (1000000000000000))) then
 K (.tuple [.int .i64 (0), .int .i64 (3)]) h
 else
 K (.tuple [.int .i64 x0, .int .i64 (0)]) h
theorem impl_counted_main_link (S : SatT) (K : AVal → H → Prop) (x0 : Int) (h : H) : cwp S tab impl_counted_M [] (bodyOf Try.f88) (kFun tab Try.f88.results.toList K) (fr0 Try.f88 [.int .i64 x0]) h = impl_counted_main S K x0 h := by kernel_rfl
theorem impl_counted_call (x0 : Int) (h : H) (K : AVal → H → Prop) (hm : impl_counted_main (Sat Try.prog) (fun v h' => K v h') x0 h) : callV (Sat Try.prog) i_impl_counted [.int .i64 x0] h K := by
  have := Sat.ex tok mixed impl_counted_M Try.func88 (c := bodyOf Try.f88) (by kernel_rfl) (calls_of Try.func88 (c := bodyOf Try.f88) (by kernel_rfl) (by decide)) ((impl_counted_main_link _ _ x0 h).mpr hm)
  exact this

/-! ### cmp.isNaN[int64] -/
def cmp_isNaN_int64__M : Nat → List Nat := fun i => []
def cmp_isNaN_int64__main (S : SatT) (K : AVal → H → Prop) (x0 : Int) (h : H) : Prop :=
 K (.bool (x0 != x0)) h
theorem cmp_isNaN_int64__main_link (S : SatT) (K : AVal → H → Prop) (x0 : Int) (h : H) : cwp S tab cmp_isNaN_int64__M [] (bodyOf Try.f137) (kFun tab Try.f137.results.toList K) (fr0 Try.f137 [.int .i64 x0]) h = cmp_isNaN_int64__main S K x0 h := by kernel_rfl
theorem cmp_isNaN_int64__call (x0 : Int) (h : H) (K : Bool → H → Prop) (hm : cmp_isNaN_int64__main (Sat Try.prog) (fun v h' => ∃ r, v = .bool r ∧ K r h') x0 h) : callB (Sat Try.prog) i_cmp_isNaN_int64_ [.int .i64 x0] h K := by
  have := Sat.ex tok mixed cmp_isNaN_int64__M Try.func137 (c := bodyOf Try.f137) (by kernel_rfl) (calls_of Try.func137 (c := bodyOf Try.f137) (by kernel_rfl) (by decide)) ((cmp_isNaN_int64__main_link _ _ x0 h).mpr hm)
  obtain ⟨v, h2, h3, r, rfl, h4⟩ := this; exact ⟨r, h2, h3, h4⟩

end Go.Proofs.Ytdmhchgaeepdmaa.Cl
