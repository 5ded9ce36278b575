/- Typed forms of functions, and their links. No claim is stated here. -/
import Derived.Test.YtekfmmcolgjdmaaFT
/- Typed forms of functions of the program, and their links. Printed by program. No claim is stated here. -/
set_option linter.unusedVariables false
namespace Go.Proofs.Ytekfmmcolgjdmaa.Cl
open Go
/-! ### loop.example/g01354/spec.l07Search -/
def spec_l07Search_M : Nat → List Nat := fun i => bif i == 4 then [0, 1, 2, 3, 4, 5, 6, 15, 16, 17, 18, 19, 20, 22] else bif i == 2 then [0, 1, 2, 3, 4, 5, 6, 15, 16, 17, 18, 19, 20, 21] else bif i == 0 then [0, 1, 2, 3, 4, 5, 6, 15, 16, 17, 18, 19] else []
def spec_l07Search_ks6 (S : SatT) (K : AVal → H → Prop) : Kont := kSeq (cwp S tab spec_l07Search_M [] (sub [1, 1, 1, 1, 1] (bodyOf Try.f88)) (kFun tab (Try.f88).results.toList K)) (kFun tab (Try.f88).results.toList K)
def spec_l07Search_e0 (s0_ : Sl) (i1_ : Int) (i2_ : Int) (i3_ : Int) (s4_ : Sl) (s5_ : Sl) (i6_ : Int) (i15_ : Int) (i16_ : Int) (i17_ : Int) (s18_ : Sl) (i19_ : Int) : Frame := [.sl s0_, .int .i64 i1_, .int .i64 i2_, .int .i64 i3_, .sl s4_, .sl s5_, .int .i64 i6_, U, U, U, U, U, U, U, U, .int .i64 i15_, .int .i64 i16_, .int .i64 i17_, .sl s18_, .int .i64 i19_, U, U, U, U, U, U, U, U, U, U, U, U, U, U, U, U, U, U, U, U, U, U, U, U, U, U, U, U, U, U, U, U, U, U, U, U, U, U, U, U, U, U, U, U, U, U, U, U, U, U, U, U, U, U, U, U, U, U, U, U, U, U, U, U, U, U, U, U, U, U, U, U, U, U, U, U, U, U, U, U, U, U, U, U, U, U, U, U, U, U, U, U, U, U, U, U, U, U, U, U, U, U, U, U, U, U, U, U]
def spec_l07Search_w0 (S : SatT) (K : AVal → H → Prop) : (Frame → H → Prop) → Frame → H → Prop := fun X fr h => cwp S tab spec_l07Search_M (spec_l07Search_M 0) (sub [1, 1, 1, 1, 0, 1, 0, 0] (bodyOf Try.f88)) (kSeq (fun fr h => X (mask (spec_l07Search_M 0) fr) h) (kBlk 0 (spec_l07Search_ks6 S K))) fr h
def spec_l07Search_L0 (S : SatT) (K : AVal → H → Prop) (s0_ : Sl) (i1_ : Int) (i2_ : Int) (i3_ : Int) (s4_ : Sl) (s5_ : Sl) (i6_ : Int) (i15_ : Int) (i16_ : Int) (i17_ : Int) (s18_ : Sl) (i19_ : Int) (h : H) : Prop := loopK (spec_l07Search_w0 S K) (spec_l07Search_e0 s0_ i1_ i2_ i3_ s4_ s5_ i6_ i15_ i16_ i17_ s18_ i19_) h
def spec_l07Search_ks10 (S : SatT) (K : AVal → H → Prop) (X0 : Frame → H → Prop) : Kont := kSeq (cwp S tab spec_l07Search_M (spec_l07Search_M 0) (sub [1, 1, 1, 1, 0, 1, 0, 0, 1, 1] (bodyOf Try.f88)) (kSeq (fun fr h => X0 (mask (spec_l07Search_M 0) fr) h) (kBlk 0 (spec_l07Search_ks6 S K)))) (kSeq (fun fr h => X0 (mask (spec_l07Search_M 0) fr) h) (kBlk 0 (spec_l07Search_ks6 S K)))
def spec_l07Search_ks12 (S : SatT) (K : AVal → H → Prop) (X0 : Frame → H → Prop) : Kont := kSeq (cwp S tab spec_l07Search_M (spec_l07Search_M 1) (sub [1, 1, 1, 1, 0, 1, 0, 0, 1, 0, 0, 1, 1] (bodyOf Try.f88)) (kBlk 1 (spec_l07Search_ks10 S K X0))) (kBlk 1 (spec_l07Search_ks10 S K X0))
def spec_l07Search_e2 (s0_ : Sl) (i1_ : Int) (i2_ : Int) (i3_ : Int) (s4_ : Sl) (s5_ : Sl) (i6_ : Int) (i15_ : Int) (i16_ : Int) (i17_ : Int) (s18_ : Sl) (i19_ : Int) (b20_ : Bool) (i21_ : Int) : Frame := [.sl s0_, .int .i64 i1_, .int .i64 i2_, .int .i64 i3_, .sl s4_, .sl s5_, .int .i64 i6_, U, U, U, U, U, U, U, U, .int .i64 i15_, .int .i64 i16_, .int .i64 i17_, .sl s18_, .int .i64 i19_, .bool b20_, .int .i64 i21_, U, U, U, U, U, U, U, U, U, U, U, U, U, U, U, U, U, U, U, U, U, U, U, U, U, U, U, U, U, U, U, U, U, U, U, U, U, U, U, U, U, U, U, U, U, U, U, U, U, U, U, U, U, U, U, U, U, U, U, U, U, U, U, U, U, U, U, U, U, U, U, U, U, U, U, U, U, U, U, U, U, U, U, U, U, U, U, U, U, U, U, U, U, U, U, U, U, U, U, U, U, U, U, U, U, U]
def spec_l07Search_w2 (S : SatT) (K : AVal → H → Prop) (X0 : Frame → H → Prop) : (Frame → H → Prop) → Frame → H → Prop := fun X fr h => cwp S tab spec_l07Search_M (spec_l07Search_M 2) (sub [1, 1, 1, 1, 0, 1, 0, 0, 1, 0, 0, 1, 0, 1, 0, 0] (bodyOf Try.f88)) (kSeq (fun fr h => X (mask (spec_l07Search_M 2) fr) h) (kBlk 2 (spec_l07Search_ks12 S K X0))) fr h
def spec_l07Search_L2 (S : SatT) (K : AVal → H → Prop) (X0 : Frame → H → Prop) (s0_ : Sl) (i1_ : Int) (i2_ : Int) (i3_ : Int) (s4_ : Sl) (s5_ : Sl) (i6_ : Int) (i15_ : Int) (i16_ : Int) (i17_ : Int) (s18_ : Sl) (i19_ : Int) (b20_ : Bool) (i21_ : Int) (h : H) : Prop := loopK (spec_l07Search_w2 S K X0) (spec_l07Search_e2 s0_ i1_ i2_ i3_ s4_ s5_ i6_ i15_ i16_ i17_ s18_ i19_ b20_ i21_) h
def spec_l07Search_e4 (s0_ : Sl) (i1_ : Int) (i2_ : Int) (i3_ : Int) (s4_ : Sl) (s5_ : Sl) (i6_ : Int) (i15_ : Int) (i16_ : Int) (i17_ : Int) (s18_ : Sl) (i19_ : Int) (b20_ : Bool) (i22_ : Int) : Frame := [.sl s0_, .int .i64 i1_, .int .i64 i2_, .int .i64 i3_, .sl s4_, .sl s5_, .int .i64 i6_, U, U, U, U, U, U, U, U, .int .i64 i15_, .int .i64 i16_, .int .i64 i17_, .sl s18_, .int .i64 i19_, .bool b20_, U, .int .i64 i22_, U, U, U, U, U, U, U, U, U, U, U, U, U, U, U, U, U, U, U, U, U, U, U, U, U, U, U, U, U, U, U, U, U, U, U, U, U, U, U, U, U, U, U, U, U, U, U, U, U, U, U, U, U, U, U, U, U, U, U, U, U, U, U, U, U, U, U, U, U, U, U, U, U, U, U, U, U, U, U, U, U, U, U, U, U, U, U, U, U, U, U, U, U, U, U, U, U, U, U, U, U, U, U, U, U]
def spec_l07Search_w4 (S : SatT) (K : AVal → H → Prop) (X0 : Frame → H → Prop) : (Frame → H → Prop) → Frame → H → Prop := fun X fr h => cwp S tab spec_l07Search_M (spec_l07Search_M 4) (sub [1, 1, 1, 1, 0, 1, 0, 0, 1, 0, 0, 1, 1, 1, 0, 0] (bodyOf Try.f88)) (kSeq (fun fr h => X (mask (spec_l07Search_M 4) fr) h) (kBlk 4 (kBlk 1 (spec_l07Search_ks10 S K X0)))) fr h
def spec_l07Search_L4 (S : SatT) (K : AVal → H → Prop) (X0 : Frame → H → Prop) (s0_ : Sl) (i1_ : Int) (i2_ : Int) (i3_ : Int) (s4_ : Sl) (s5_ : Sl) (i6_ : Int) (i15_ : Int) (i16_ : Int) (i17_ : Int) (s18_ : Sl) (i19_ : Int) (b20_ : Bool) (i22_ : Int) (h : H) : Prop := loopK (spec_l07Search_w4 S K X0) (spec_l07Search_e4 s0_ i1_ i2_ i3_ s4_ s5_ i6_ i15_ i16_ i17_ s18_ i19_ b20_ i22_) h
def spec_l07Search_C1 (S : SatT) (K : AVal → H → Prop) (X0 : Frame → H → Prop) (s0_ : Sl) (i1_ : Int) (i2_ : Int) (i3_ : Int) (s4_ : Sl) (s5_ : Sl) (i6_ : Int) (i15_ : Int) (i16_ : Int) (i17_ : Int) (s18_ : Sl) (i19_ : Int) (h : H) : Prop :=
 X0 (spec_l07Search_e0 s0_ i1_ i2_ i3_ s4_ s5_ i6_ i15_ i16_ i17_ s18_ (w64 (i19_ + (1)))) h
def spec_l07Search_C4 (S : SatT) (K : AVal → H → Prop) (X0 : Frame → H → Prop) (s0_ : Sl) (i1_ : Int) (i2_ : Int) (i3_ : Int) (s4_ : Sl) (s5_ : Sl) (i6_ : Int) (i15_ : Int) (i16_ : Int) (i17_ : Int) (s18_ : Sl) (i19_ : Int) (h : H) : Prop :=
 spec_l07Search_C1 S K X0 s0_ i1_ i2_ i3_ s4_ s5_ i6_ i15_ i16_ i17_ s18_ i19_ h
def spec_l07Search_b4 (S : SatT) (K : AVal → H → Prop) (X0 : Frame → H → Prop) (X4 : Frame → H → Prop) (s0_ : Sl) (i1_ : Int) (i2_ : Int) (i3_ : Int) (s4_ : Sl) (s5_ : Sl) (i6_ : Int) (i15_ : Int) (i16_ : Int) (i17_ : Int) (s18_ : Sl) (i19_ : Int) (b20_ : Bool) (i22_ : Int) (h : H) : Prop :=
 bif (decide (i22_ < (4))) then
 bif (!b20_) then
 bif (decide ((s18_.len : Int) < i6_)) then
 ixS s0_ 4 i19_ fun p0 =>
 ldA p0 4 h fun cs1 =>
 callA S i_spec_l07Turn [.agg cs1, .int .i64 i22_] h fun cs3 h2 =>
 newO [.int .i64 (0), .int .i64 (0), .int .i64 (0), .int .i64 (0)] h2 fun p4 h5 =>
 stN p4 4 cs3 h5 fun h6 =>
 ldA p4 4 h6 fun cs7 =>
 callB S i_spec_l07Fits [.sl s5_, .int .i64 i1_, .int .i64 i16_, .int .i64 i17_, .int .i64 i2_, .int .i64 i3_, .agg cs7] h6 fun b9 h8 =>
 bif (!b9) then
 X4 (spec_l07Search_e4 s0_ i1_ i2_ i3_ s4_ s5_ i6_ i15_ i16_ i17_ s18_ i19_ b20_ (w64 (i22_ + (1)))) h8
 else
 ixS s5_ 1 i16_ fun p10 =>
 ldS p10 h8 fun s11 =>
 ldA p4 4 h8 fun cs12 =>
 ixS s11 4 i17_ fun p13 =>
 stN p13 4 cs12 h8 fun h14 =>
 newS 0 2 [] h14 fun s15 h16 =>
 app s15 s4_ 2 h16 fun s17 h18 =>
 lenA [.int .i64 i19_, .int .i64 i22_] 2 (
 newS 1 2 (spl [.int .i64 (0), .int .i64 (0)] 0 2 [.int .i64 i19_, .int .i64 i22_]) h18 fun s19 h20 =>
 app s17 s19 2 h20 fun s21 h22 =>
 callS S i_spec_l07Search [.sl s0_, .int .i64 i1_, .int .i64 i2_, .int .i64 i3_, .sl s21, .sl s5_, .int .i64 (w64 (i6_ - (s18_.len : Int)))] h22 fun s24 h23 =>
 app s18_ s24 1 h23 fun s25 h26 =>
 X4 (spec_l07Search_e4 s0_ i1_ i2_ i3_ s4_ s5_ i6_ i15_ i16_ i17_ s25 i19_ b20_ (w64 (i22_ + (1)))) h26)
 else
 spec_l07Search_C4 S K X0 s0_ i1_ i2_ i3_ s4_ s5_ i6_ i15_ i16_ i17_ s18_ i19_ h
 else
 spec_l07Search_C4 S K X0 s0_ i1_ i2_ i3_ s4_ s5_ i6_ i15_ i16_ i17_ s18_ i19_ h
 else
 spec_l07Search_C4 S K X0 s0_ i1_ i2_ i3_ s4_ s5_ i6_ i15_ i16_ i17_ s18_ i19_ h
theorem spec_l07Search_link4 (S : SatT) (K : AVal → H → Prop) (X0 : Frame → H → Prop) (X4 : Frame → H → Prop) (s0_ : Sl) (i1_ : Int) (i2_ : Int) (i3_ : Int) (s4_ : Sl) (s5_ : Sl) (i6_ : Int) (i15_ : Int) (i16_ : Int) (i17_ : Int) (s18_ : Sl) (i19_ : Int) (b20_ : Bool) (i22_ : Int) (h : H) : spec_l07Search_w4 S K X0 X4 (spec_l07Search_e4 s0_ i1_ i2_ i3_ s4_ s5_ i6_ i15_ i16_ i17_ s18_ i19_ b20_ i22_) h = spec_l07Search_b4 S K X0 X4 s0_ i1_ i2_ i3_ s4_ s5_ i6_ i15_ i16_ i17_ s18_ i19_ b20_ i22_ h := by kernel_rfl
theorem spec_l07Search_rule4 (S : SatT) (K : AVal → H → Prop) (X0 : Frame → H → Prop) (s0_ : Sl) (i1_ : Int) (i2_ : Int) (i3_ : Int) (s4_ : Sl) (s5_ : Sl) (i6_ : Int) (i15_ : Int) (i16_ : Int) (i17_ : Int) (i19_ : Int) (b20_ : Bool) (I_ : Sl → Int → H → Prop) (m_ : Sl → Int → H → Nat)
    (hs : ∀ (X4 : Frame → H → Prop) (s18_ : Sl) (i22_ : Int) (h : H), I_ s18_ i22_ h → (∀ (s18_' : Sl) (i22_' : Int) (h' : H), I_ s18_' i22_' h' → m_ s18_' i22_' h' < m_ s18_ i22_ h → X4 (spec_l07Search_e4 s0_ i1_ i2_ i3_ s4_ s5_ i6_ i15_ i16_ i17_ s18_' i19_ b20_ i22_') h') → spec_l07Search_b4 S K X0 X4 s0_ i1_ i2_ i3_ s4_ s5_ i6_ i15_ i16_ i17_ s18_ i19_ b20_ i22_ h) (s18_ : Sl) (i22_ : Int) {h : H} (h0 : I_ s18_ i22_ h) : spec_l07Search_L4 S K X0 s0_ i1_ i2_ i3_ s4_ s5_ i6_ i15_ i16_ i17_ s18_ i19_ b20_ i22_ h :=
  loop_rule (σ := (Sl) × (Int)) (fun s_ => spec_l07Search_e4 s0_ i1_ i2_ i3_ s4_ s5_ i6_ i15_ i16_ i17_ (s_.1) i19_ b20_ (s_.2)) (fun s_ h => I_ (s_.1) (s_.2) h) (fun s_ h => m_ (s_.1) (s_.2) h)
    (fun X s_ h hi hx => (spec_l07Search_link4 S K X0 X s0_ i1_ i2_ i3_ s4_ s5_ i6_ i15_ i16_ i17_ (s_.1) i19_ b20_ (s_.2) h).mpr (hs X (s_.1) (s_.2) h hi fun s18_' i22_' h' hi' hm' => hx (s18_', i22_') h' hi' hm')) (s18_, i22_) h0
theorem spec_l07Search_unroll4 (S : SatT) (K : AVal → H → Prop) (X0 : Frame → H → Prop) (s0_ : Sl) (i1_ : Int) (i2_ : Int) (i3_ : Int) (s4_ : Sl) (s5_ : Sl) (i6_ : Int) (i15_ : Int) (i16_ : Int) (i17_ : Int) (s18_ : Sl) (i19_ : Int) (b20_ : Bool) (i22_ : Int) (h : H) (hb : spec_l07Search_b4 S K X0 (fun fr h => loopK (spec_l07Search_w4 S K X0) fr h) s0_ i1_ i2_ i3_ s4_ s5_ i6_ i15_ i16_ i17_ s18_ i19_ b20_ i22_ h) : spec_l07Search_L4 S K X0 s0_ i1_ i2_ i3_ s4_ s5_ i6_ i15_ i16_ i17_ s18_ i19_ b20_ i22_ h := loop_unroll ((spec_l07Search_link4 S K X0 _ s0_ i1_ i2_ i3_ s4_ s5_ i6_ i15_ i16_ i17_ s18_ i19_ b20_ i22_ h).mpr hb)
def spec_l07Search_C2 (S : SatT) (K : AVal → H → Prop) (X0 : Frame → H → Prop) (s0_ : Sl) (i1_ : Int) (i2_ : Int) (i3_ : Int) (s4_ : Sl) (s5_ : Sl) (i6_ : Int) (i15_ : Int) (i16_ : Int) (i17_ : Int) (s18_ : Sl) (i19_ : Int) (b20_ : Bool) (h : H) : Prop :=
 spec_l07Search_L4 S K X0 s0_ i1_ i2_ i3_ s4_ s5_ i6_ i15_ i16_ i17_ s18_ i19_ b20_ (0) h
def spec_l07Search_b2 (S : SatT) (K : AVal → H → Prop) (X0 : Frame → H → Prop) (X2 : Frame → H → Prop) (s0_ : Sl) (i1_ : Int) (i2_ : Int) (i3_ : Int) (s4_ : Sl) (s5_ : Sl) (i6_ : Int) (i15_ : Int) (i16_ : Int) (i17_ : Int) (s18_ : Sl) (i19_ : Int) (b20_ : Bool) (i21_ : Int) (h : H) : Prop :=
 bif (decide (i21_ < i15_)) then
 bif b20_ then
 X2 (spec_l07Search_e2 s0_ i1_ i2_ i3_ s4_ s5_ i6_ i15_ i16_ i17_ s18_ i19_ true (w64 (i21_ + (1)))) h
 else
 ixS s4_ 2 i21_ fun p0 =>
 isPt p0 (
 ldI .i64 (Pt.add p0 0) h fun n1 =>
 X2 (spec_l07Search_e2 s0_ i1_ i2_ i3_ s4_ s5_ i6_ i15_ i16_ i17_ s18_ i19_ (n1 == i19_) (w64 (i21_ + (1)))) h)
 else
 spec_l07Search_C2 S K X0 s0_ i1_ i2_ i3_ s4_ s5_ i6_ i15_ i16_ i17_ s18_ i19_ b20_ h
theorem spec_l07Search_link2 (S : SatT) (K : AVal → H → Prop) (X0 : Frame → H → Prop) (X2 : Frame → H → Prop) (s0_ : Sl) (i1_ : Int) (i2_ : Int) (i3_ : Int) (s4_ : Sl) (s5_ : Sl) (i6_ : Int) (i15_ : Int) (i16_ : Int) (i17_ : Int) (s18_ : Sl) (i19_ : Int) (b20_ : Bool) (i21_ : Int) (h : H) : spec_l07Search_w2 S K X0 X2 (spec_l07Search_e2 s0_ i1_ i2_ i3_ s4_ s5_ i6_ i15_ i16_ i17_ s18_ i19_ b20_ i21_) h = spec_l07Search_b2 S K X0 X2 s0_ i1_ i2_ i3_ s4_ s5_ i6_ i15_ i16_ i17_ s18_ i19_ b20_ i21_ h := by kernel_rfl
theorem spec_l07Search_rule2 (S : SatT) (K : AVal → H → Prop) (X0 : Frame → H → Prop) (s0_ : Sl) (i1_ : Int) (i2_ : Int) (i3_ : Int) (s4_ : Sl) (s5_ : Sl) (i6_ : Int) (i15_ : Int) (i16_ : Int) (i17_ : Int) (s18_ : Sl) (i19_ : Int) (I_ : Bool → Int → H → Prop) (m_ : Bool → Int → H → Nat)
    (hs : ∀ (X2 : Frame → H → Prop) (b20_ : Bool) (i21_ : Int) (h : H), I_ b20_ i21_ h → (∀ (b20_' : Bool) (i21_' : Int) (h' : H), I_ b20_' i21_' h' → m_ b20_' i21_' h' < m_ b20_ i21_ h → X2 (spec_l07Search_e2 s0_ i1_ i2_ i3_ s4_ s5_ i6_ i15_ i16_ i17_ s18_ i19_ b20_' i21_') h') → spec_l07Search_b2 S K X0 X2 s0_ i1_ i2_ i3_ s4_ s5_ i6_ i15_ i16_ i17_ s18_ i19_ b20_ i21_ h) (b20_ : Bool) (i21_ : Int) {h : H} (h0 : I_ b20_ i21_ h) : spec_l07Search_L2 S K X0 s0_ i1_ i2_ i3_ s4_ s5_ i6_ i15_ i16_ i17_ s18_ i19_ b20_ i21_ h :=
  loop_rule (σ := (Bool) × (Int)) (fun s_ => spec_l07Search_e2 s0_ i1_ i2_ i3_ s4_ s5_ i6_ i15_ i16_ i17_ s18_ i19_ (s_.1) (s_.2)) (fun s_ h => I_ (s_.1) (s_.2) h) (fun s_ h => m_ (s_.1) (s_.2) h)
    (fun X s_ h hi hx => (spec_l07Search_link2 S K X0 X s0_ i1_ i2_ i3_ s4_ s5_ i6_ i15_ i16_ i17_ s18_ i19_ (s_.1) (s_.2) h).mpr (hs X (s_.1) (s_.2) h hi fun b20_' i21_' h' hi' hm' => hx (b20_', i21_') h' hi' hm')) (b20_, i21_) h0
theorem spec_l07Search_unroll2 (S : SatT) (K : AVal → H → Prop) (X0 : Frame → H → Prop) (s0_ : Sl) (i1_ : Int) (i2_ : Int) (i3_ : Int) (s4_ : Sl) (s5_ : Sl) (i6_ : Int) (i15_ : Int) (i16_ : Int) (i17_ : Int) (s18_ : Sl) (i19_ : Int) (b20_ : Bool) (i21_ : Int) (h : H) (hb : spec_l07Search_b2 S K X0 (fun fr h => loopK (spec_l07Search_w2 S K X0) fr h) s0_ i1_ i2_ i3_ s4_ s5_ i6_ i15_ i16_ i17_ s18_ i19_ b20_ i21_ h) : spec_l07Search_L2 S K X0 s0_ i1_ i2_ i3_ s4_ s5_ i6_ i15_ i16_ i17_ s18_ i19_ b20_ i21_ h := loop_unroll ((spec_l07Search_link2 S K X0 _ s0_ i1_ i2_ i3_ s4_ s5_ i6_ i15_ i16_ i17_ s18_ i19_ b20_ i21_ h).mpr hb)
def spec_l07Search_C0 (S : SatT) (K : AVal → H → Prop) (s18_ : Sl) (h : H) : Prop :=
 K (.sl s18_) h
def spec_l07Search_b0 (S : SatT) (K : AVal → H → Prop) (X0 : Frame → H → Prop) (s0_ : Sl) (i1_ : Int) (i2_ : Int) (i3_ : Int) (s4_ : Sl) (s5_ : Sl) (i6_ : Int) (i15_ : Int) (i16_ : Int) (i17_ : Int) (s18_ : Sl) (i19_ : Int) (h : H) : Prop :=
 bif (decide (i19_ < (s0_.len : Int))) then
 bif (decide ((s18_.len : Int) < i6_)) then
 spec_l07Search_L2 S K X0 s0_ i1_ i2_ i3_ s4_ s5_ i6_ i15_ i16_ i17_ s18_ i19_ false (0) h
 else
 spec_l07Search_C0 S K s18_ h
 else
 spec_l07Search_C0 S K s18_ h
theorem spec_l07Search_link0 (S : SatT) (K : AVal → H → Prop) (X0 : Frame → H → Prop) (s0_ : Sl) (i1_ : Int) (i2_ : Int) (i3_ : Int) (s4_ : Sl) (s5_ : Sl) (i6_ : Int) (i15_ : Int) (i16_ : Int) (i17_ : Int) (s18_ : Sl) (i19_ : Int) (h : H) : spec_l07Search_w0 S K X0 (spec_l07Search_e0 s0_ i1_ i2_ i3_ s4_ s5_ i6_ i15_ i16_ i17_ s18_ i19_) h = spec_l07Search_b0 S K X0 s0_ i1_ i2_ i3_ s4_ s5_ i6_ i15_ i16_ i17_ s18_ i19_ h := by kernel_rfl
theorem spec_l07Search_rule0 (S : SatT) (K : AVal → H → Prop) (s0_ : Sl) (i1_ : Int) (i2_ : Int) (i3_ : Int) (s4_ : Sl) (s5_ : Sl) (i6_ : Int) (i15_ : Int) (i16_ : Int) (i17_ : Int) (I_ : Sl → Int → H → Prop) (m_ : Sl → Int → H → Nat)
    (hs : ∀ (X0 : Frame → H → Prop) (s18_ : Sl) (i19_ : Int) (h : H), I_ s18_ i19_ h → (∀ (s18_' : Sl) (i19_' : Int) (h' : H), I_ s18_' i19_' h' → m_ s18_' i19_' h' < m_ s18_ i19_ h → X0 (spec_l07Search_e0 s0_ i1_ i2_ i3_ s4_ s5_ i6_ i15_ i16_ i17_ s18_' i19_') h') → spec_l07Search_b0 S K X0 s0_ i1_ i2_ i3_ s4_ s5_ i6_ i15_ i16_ i17_ s18_ i19_ h) (s18_ : Sl) (i19_ : Int) {h : H} (h0 : I_ s18_ i19_ h) : spec_l07Search_L0 S K s0_ i1_ i2_ i3_ s4_ s5_ i6_ i15_ i16_ i17_ s18_ i19_ h :=
  loop_rule (σ := (Sl) × (Int)) (fun s_ => spec_l07Search_e0 s0_ i1_ i2_ i3_ s4_ s5_ i6_ i15_ i16_ i17_ (s_.1) (s_.2)) (fun s_ h => I_ (s_.1) (s_.2) h) (fun s_ h => m_ (s_.1) (s_.2) h)
    (fun X s_ h hi hx => (spec_l07Search_link0 S K X s0_ i1_ i2_ i3_ s4_ s5_ i6_ i15_ i16_ i17_ (s_.1) (s_.2) h).mpr (hs X (s_.1) (s_.2) h hi fun s18_' i19_' h' hi' hm' => hx (s18_', i19_') h' hi' hm')) (s18_, i19_) h0
theorem spec_l07Search_unroll0 (S : SatT) (K : AVal → H → Prop) (s0_ : Sl) (i1_ : Int) (i2_ : Int) (i3_ : Int) (s4_ : Sl) (s5_ : Sl) (i6_ : Int) (i15_ : Int) (i16_ : Int) (i17_ : Int) (s18_ : Sl) (i19_ : Int) (h : H) (hb : spec_l07Search_b0 S K (fun fr h => loopK (spec_l07Search_w0 S K) fr h) s0_ i1_ i2_ i3_ s4_ s5_ i6_ i15_ i16_ i17_ s18_ i19_ h) : spec_l07Search_L0 S K s0_ i1_ i2_ i3_ s4_ s5_ i6_ i15_ i16_ i17_ s18_ i19_ h := loop_unroll ((spec_l07Search_link0 S K _ s0_ i1_ i2_ i3_ s4_ s5_ i6_ i15_ i16_ i17_ s18_ i19_ h).mpr hb)
def spec_l07Search_main (S : SatT) (K : AVal → H → Prop) (x0 : Sl) (x1 : Int) (x2 : Int) (x3 : Int) (x4 : Sl) (x5 : Sl) (x6 : Int) (h : H) : Prop :=
 bif ((x4.len : Int) == (w64 (x2 * x3))) then
 newS 1 1 [.sl x4] h fun s0 h1 =>
 K (.sl s0) h1
 else
 nz x3 (
 nz x3 (
 newS 0 1 [] h fun s2 h3 =>
 spec_l07Search_L0 S K x0 x1 x2 x3 x4 x5 x6 (x4.len : Int) (w64 (Int.tdiv (x4.len : Int) x3)) (Int.tmod (x4.len : Int) x3) s2 (0) h3))
theorem spec_l07Search_main_link (S : SatT) (K : AVal → H → Prop) (x0 : Sl) (x1 : Int) (x2 : Int) (x3 : Int) (x4 : Sl) (x5 : Sl) (x6 : Int) (h : H) : cwp S tab spec_l07Search_M [] (bodyOf Try.f88) (kFun tab Try.f88.results.toList K) (fr0 Try.f88 [.sl x0, .int .i64 x1, .int .i64 x2, .int .i64 x3, .sl x4, .sl x5, .int .i64 x6]) h = spec_l07Search_main S K x0 x1 x2 x3 x4 x5 x6 h := by kernel_rfl
theorem spec_l07Search_call (x0 : Sl) (x1 : Int) (x2 : Int) (x3 : Int) (x4 : Sl) (x5 : Sl) (x6 : Int) (h : H) (K : Sl → H → Prop) (hm : spec_l07Search_main (Sat Try.prog) (fun v h' => ∃ r, v = .sl r ∧ K r h') x0 x1 x2 x3 x4 x5 x6 h) : callS (Sat Try.prog) i_spec_l07Search [.sl x0, .int .i64 x1, .int .i64 x2, .int .i64 x3, .sl x4, .sl x5, .int .i64 x6] h K := by
  have := Sat.ex tok mixed spec_l07Search_M Try.func88 (c := bodyOf Try.f88) (by kernel_rfl) (calls_of Try.func88 (c := bodyOf Try.f88) (by kernel_rfl) (by decide)) ((spec_l07Search_main_link _ _ x0 x1 x2 x3 x4 x5 x6 h).mpr hm)
  obtain ⟨v, h2, h3, r, rfl, h4⟩ := this; exact ⟨r, h2, h3, h4⟩

/-! ### loop.example/g01354/laws.heldTileS -/
def laws_heldTileS_M : Nat → List Nat := fun i => bif i == 2 then [0, 1, 5, 6] else bif i == 0 then [0, 1, 5] else []
def laws_heldTileS_ks1 (S : SatT) (K : AVal → H → Prop) : Kont := kSeq (cwp S tab laws_heldTileS_M [] (sub [1, 1] (bodyOf Try.f19)) (kFun tab (Try.f19).results.toList K)) (kFun tab (Try.f19).results.toList K)
def laws_heldTileS_e0 (s0_ : Sl) (i1_ : Int) (i5_ : Int) : Frame := [.sl s0_, .int .i64 i1_, U, U, U, .int .i64 i5_, U, U, U, U, U, U, U, U, U, U, U, U, U, U, U, U, U, U, U, U, U, U]
def laws_heldTileS_w0 (S : SatT) (K : AVal → H → Prop) : (Frame → H → Prop) → Frame → H → Prop := fun X fr h => cwp S tab laws_heldTileS_M (laws_heldTileS_M 0) (sub [1, 0, 1, 0, 0] (bodyOf Try.f19)) (kSeq (fun fr h => X (mask (laws_heldTileS_M 0) fr) h) (kBlk 0 (laws_heldTileS_ks1 S K))) fr h
def laws_heldTileS_L0 (S : SatT) (K : AVal → H → Prop) (s0_ : Sl) (i1_ : Int) (i5_ : Int) (h : H) : Prop := loopK (laws_heldTileS_w0 S K) (laws_heldTileS_e0 s0_ i1_ i5_) h
def laws_heldTileS_ks5 (S : SatT) (K : AVal → H → Prop) (X0 : Frame → H → Prop) : Kont := kSeq (cwp S tab laws_heldTileS_M (laws_heldTileS_M 0) (sub [1, 0, 1, 0, 0, 1, 1] (bodyOf Try.f19)) (kSeq (fun fr h => X0 (mask (laws_heldTileS_M 0) fr) h) (kBlk 0 (laws_heldTileS_ks1 S K)))) (kSeq (fun fr h => X0 (mask (laws_heldTileS_M 0) fr) h) (kBlk 0 (laws_heldTileS_ks1 S K)))
def laws_heldTileS_e2 (s0_ : Sl) (i1_ : Int) (i5_ : Int) (i6_ : Int) : Frame := [.sl s0_, .int .i64 i1_, U, U, U, .int .i64 i5_, .int .i64 i6_, U, U, U, U, U, U, U, U, U, U, U, U, U, U, U, U, U, U, U, U, U]
def laws_heldTileS_w2 (S : SatT) (K : AVal → H → Prop) (X0 : Frame → H → Prop) : (Frame → H → Prop) → Frame → H → Prop := fun X fr h => cwp S tab laws_heldTileS_M (laws_heldTileS_M 2) (sub [1, 0, 1, 0, 0, 1, 0, 0, 1, 0, 0] (bodyOf Try.f19)) (kSeq (fun fr h => X (mask (laws_heldTileS_M 2) fr) h) (kBlk 2 (kBlk 1 (laws_heldTileS_ks5 S K X0)))) fr h
def laws_heldTileS_L2 (S : SatT) (K : AVal → H → Prop) (X0 : Frame → H → Prop) (s0_ : Sl) (i1_ : Int) (i5_ : Int) (i6_ : Int) (h : H) : Prop := loopK (laws_heldTileS_w2 S K X0) (laws_heldTileS_e2 s0_ i1_ i5_ i6_) h
def laws_heldTileS_C1 (S : SatT) (K : AVal → H → Prop) (X0 : Frame → H → Prop) (s0_ : Sl) (i1_ : Int) (i5_ : Int) (h : H) : Prop :=
 X0 (laws_heldTileS_e0 s0_ i1_ (w64 (i5_ + (1)))) h
def laws_heldTileS_C2 (S : SatT) (K : AVal → H → Prop) (X0 : Frame → H → Prop) (s0_ : Sl) (i1_ : Int) (i5_ : Int) (h : H) : Prop :=
 laws_heldTileS_C1 S K X0 s0_ i1_ i5_ h
def laws_heldTileS_b2 (S : SatT) (K : AVal → H → Prop) (X0 : Frame → H → Prop) (X2 : Frame → H → Prop) (s0_ : Sl) (i1_ : Int) (i5_ : Int) (i6_ : Int) (h : H) : Prop :=
 bif (decide (i6_ < (4))) then
 ixS s0_ 4 i5_ fun p0 =>
 ixA p0 4 1 i6_ fun p1 =>
 ldI .i64 p1 h fun n2 =>
 bif (n2 != i1_) then
 K (.int .i64 (-1)) h
 else
 X2 (laws_heldTileS_e2 s0_ (w64 (i1_ + (1))) i5_ (w64 (i6_ + (1)))) h
 else
 laws_heldTileS_C2 S K X0 s0_ i1_ i5_ h
theorem laws_heldTileS_link2 (S : SatT) (K : AVal → H → Prop) (X0 : Frame → H → Prop) (X2 : Frame → H → Prop) (s0_ : Sl) (i1_ : Int) (i5_ : Int) (i6_ : Int) (h : H) : laws_heldTileS_w2 S K X0 X2 (laws_heldTileS_e2 s0_ i1_ i5_ i6_) h = laws_heldTileS_b2 S K X0 X2 s0_ i1_ i5_ i6_ h := by kernel_rfl
theorem laws_heldTileS_rule2 (S : SatT) (K : AVal → H → Prop) (X0 : Frame → H → Prop) (s0_ : Sl) (i5_ : Int) (I_ : Int → Int → H → Prop) (m_ : Int → Int → H → Nat)
    (hs : ∀ (X2 : Frame → H → Prop) (i1_ : Int) (i6_ : Int) (h : H), I_ i1_ i6_ h → (∀ (i1_' : Int) (i6_' : Int) (h' : H), I_ i1_' i6_' h' → m_ i1_' i6_' h' < m_ i1_ i6_ h → X2 (laws_heldTileS_e2 s0_ i1_' i5_ i6_') h') → laws_heldTileS_b2 S K X0 X2 s0_ i1_ i5_ i6_ h) (i1_ : Int) (i6_ : Int) {h : H} (h0 : I_ i1_ i6_ h) : laws_heldTileS_L2 S K X0 s0_ i1_ i5_ i6_ h :=
  loop_rule (σ := (Int) × (Int)) (fun s_ => laws_heldTileS_e2 s0_ (s_.1) i5_ (s_.2)) (fun s_ h => I_ (s_.1) (s_.2) h) (fun s_ h => m_ (s_.1) (s_.2) h)
    (fun X s_ h hi hx => (laws_heldTileS_link2 S K X0 X s0_ (s_.1) i5_ (s_.2) h).mpr (hs X (s_.1) (s_.2) h hi fun i1_' i6_' h' hi' hm' => hx (i1_', i6_') h' hi' hm')) (i1_, i6_) h0
theorem laws_heldTileS_unroll2 (S : SatT) (K : AVal → H → Prop) (X0 : Frame → H → Prop) (s0_ : Sl) (i1_ : Int) (i5_ : Int) (i6_ : Int) (h : H) (hb : laws_heldTileS_b2 S K X0 (fun fr h => loopK (laws_heldTileS_w2 S K X0) fr h) s0_ i1_ i5_ i6_ h) : laws_heldTileS_L2 S K X0 s0_ i1_ i5_ i6_ h := loop_unroll ((laws_heldTileS_link2 S K X0 _ s0_ i1_ i5_ i6_ h).mpr hb)
def laws_heldTileS_C0 (S : SatT) (K : AVal → H → Prop) (i1_ : Int) (h : H) : Prop :=
 K (.int .i64 i1_) h
def laws_heldTileS_b0 (S : SatT) (K : AVal → H → Prop) (X0 : Frame → H → Prop) (s0_ : Sl) (i1_ : Int) (i5_ : Int) (h : H) : Prop :=
 bif (decide (i5_ < (s0_.len : Int))) then
 laws_heldTileS_L2 S K X0 s0_ i1_ i5_ (0) h
 else
 laws_heldTileS_C0 S K i1_ h
theorem laws_heldTileS_link0 (S : SatT) (K : AVal → H → Prop) (X0 : Frame → H → Prop) (s0_ : Sl) (i1_ : Int) (i5_ : Int) (h : H) : laws_heldTileS_w0 S K X0 (laws_heldTileS_e0 s0_ i1_ i5_) h = laws_heldTileS_b0 S K X0 s0_ i1_ i5_ h := by kernel_rfl
theorem laws_heldTileS_rule0 (S : SatT) (K : AVal → H → Prop) (s0_ : Sl) (I_ : Int → Int → H → Prop) (m_ : Int → Int → H → Nat)
    (hs : ∀ (X0 : Frame → H → Prop) (i1_ : Int) (i5_ : Int) (h : H), I_ i1_ i5_ h → (∀ (i1_' : Int) (i5_' : Int) (h' : H), I_ i1_' i5_' h' → m_ i1_' i5_' h' < m_ i1_ i5_ h → X0 (laws_heldTileS_e0 s0_ i1_' i5_') h') → laws_heldTileS_b0 S K X0 s0_ i1_ i5_ h) (i1_ : Int) (i5_ : Int) {h : H} (h0 : I_ i1_ i5_ h) : laws_heldTileS_L0 S K s0_ i1_ i5_ h :=
  loop_rule (σ := (Int) × (Int)) (fun s_ => laws_heldTileS_e0 s0_ (s_.1) (s_.2)) (fun s_ h => I_ (s_.1) (s_.2) h) (fun s_ h => m_ (s_.1) (s_.2) h)
    (fun X s_ h hi hx => (laws_heldTileS_link0 S K X s0_ (s_.1) (s_.2) h).mpr (hs X (s_.1) (s_.2) h hi fun i1_' i5_' h' hi' hm' => hx (i1_', i5_') h' hi' hm')) (i1_, i5_) h0
theorem laws_heldTileS_unroll0 (S : SatT) (K : AVal → H → Prop) (s0_ : Sl) (i1_ : Int) (i5_ : Int) (h : H) (hb : laws_heldTileS_b0 S K (fun fr h => loopK (laws_heldTileS_w0 S K) fr h) s0_ i1_ i5_ h) : laws_heldTileS_L0 S K s0_ i1_ i5_ h := loop_unroll ((laws_heldTileS_link0 S K _ s0_ i1_ i5_ h).mpr hb)
def laws_heldTileS_main (S : SatT) (K : AVal → H → Prop) (x0 : Sl) (x1 : Int) (h : H) : Prop :=
 laws_heldTileS_L0 S K x0 x1 (0) h
theorem laws_heldTileS_main_link (S : SatT) (K : AVal → H → Prop) (x0 : Sl) (x1 : Int) (h : H) : cwp S tab laws_heldTileS_M [] (bodyOf Try.f19) (kFun tab Try.f19.results.toList K) (fr0 Try.f19 [.sl x0, .int .i64 x1]) h = laws_heldTileS_main S K x0 x1 h := by kernel_rfl
theorem laws_heldTileS_call (x0 : Sl) (x1 : Int) (h : H) (K : Int → H → Prop) (hm : laws_heldTileS_main (Sat Try.prog) (fun v h' => ∃ r, v = .int .i64 r ∧ K r h') x0 x1 h) : callI (Sat Try.prog) .i64 i_laws_heldTileS [.sl x0, .int .i64 x1] h K := by
  have := Sat.ex tok mixed laws_heldTileS_M Try.func19 (c := bodyOf Try.f19) (by kernel_rfl) (calls_of Try.func19 (c := bodyOf Try.f19) (by kernel_rfl) (by decide)) ((laws_heldTileS_main_link _ _ x0 x1 h).mpr hm)
  obtain ⟨v, h2, h3, r, rfl, h4⟩ := this; exact ⟨r, h2, h3, h4⟩

/-! ### slices.IndexFunc[[][]loop.example/g01354/impl.Placed,[]loop.example/g01354/impl.Placed] -/
def slices_IndexFunc_ss_impl_Placed_s_impl_Placed__M : Nat → List Nat := fun i => bif i == 0 then [0, 1, 7, 8] else []
def slices_IndexFunc_ss_impl_Placed_s_impl_Placed__ks1 (S : SatT) (K : AVal → H → Prop) : Kont := kSeq (cwp S tab slices_IndexFunc_ss_impl_Placed_s_impl_Placed__M [] (sub [1, 1] (bodyOf Try.f93)) (kFun tab (Try.f93).results.toList K)) (kFun tab (Try.f93).results.toList K)
def slices_IndexFunc_ss_impl_Placed_s_impl_Placed__e0 (s0_ : Sl) (f1_ : AVal) (i7_ : Int) (i8_ : Int) : Frame := [.sl s0_, f1_, U, U, U, U, U, .int .i64 i7_, .int .i64 i8_, U, U, U, U, U, U, U, U, U, U]
def slices_IndexFunc_ss_impl_Placed_s_impl_Placed__w0 (S : SatT) (K : AVal → H → Prop) : (Frame → H → Prop) → Frame → H → Prop := fun X fr h => cwp S tab slices_IndexFunc_ss_impl_Placed_s_impl_Placed__M (slices_IndexFunc_ss_impl_Placed_s_impl_Placed__M 0) (sub [1, 0, 1, 0, 0] (bodyOf Try.f93)) (kSeq (fun fr h => X (mask (slices_IndexFunc_ss_impl_Placed_s_impl_Placed__M 0) fr) h) (kBlk 0 (slices_IndexFunc_ss_impl_Placed_s_impl_Placed__ks1 S K))) fr h
def slices_IndexFunc_ss_impl_Placed_s_impl_Placed__L0 (S : SatT) (K : AVal → H → Prop) (s0_ : Sl) (f1_ : AVal) (i7_ : Int) (i8_ : Int) (h : H) : Prop := loopK (slices_IndexFunc_ss_impl_Placed_s_impl_Placed__w0 S K) (slices_IndexFunc_ss_impl_Placed_s_impl_Placed__e0 s0_ f1_ i7_ i8_) h
def slices_IndexFunc_ss_impl_Placed_s_impl_Placed__C0 (S : SatT) (K : AVal → H → Prop) (h : H) : Prop :=
 K (.int .i64 (-1)) h
def slices_IndexFunc_ss_impl_Placed_s_impl_Placed__b0 (S : SatT) (K : AVal → H → Prop) (X0 : Frame → H → Prop) (s0_ : Sl) (f1_ : AVal) (i7_ : Int) (i8_ : Int) (h : H) : Prop :=
 bif (decide (i8_ < i7_)) then
 ixS s0_ 1 i8_ fun p0 =>
 ldS p0 h fun s1 =>
 viaF f1_ [.sl s1] fun g2 ys3 =>
 callB S g2 ys3 h fun b5 h4 =>
 bif b5 then
 K (.int .i64 i8_) h4
 else
 X0 (slices_IndexFunc_ss_impl_Placed_s_impl_Placed__e0 s0_ f1_ i7_ (w64 (i8_ + (1)))) h4
 else
 slices_IndexFunc_ss_impl_Placed_s_impl_Placed__C0 S K h
theorem slices_IndexFunc_ss_impl_Placed_s_impl_Placed__link0 (S : SatT) (K : AVal → H → Prop) (X0 : Frame → H → Prop) (s0_ : Sl) (f1_ : AVal) (i7_ : Int) (i8_ : Int) (h : H) : slices_IndexFunc_ss_impl_Placed_s_impl_Placed__w0 S K X0 (slices_IndexFunc_ss_impl_Placed_s_impl_Placed__e0 s0_ f1_ i7_ i8_) h = slices_IndexFunc_ss_impl_Placed_s_impl_Placed__b0 S K X0 s0_ f1_ i7_ i8_ h := by kernel_rfl
theorem slices_IndexFunc_ss_impl_Placed_s_impl_Placed__rule0 (S : SatT) (K : AVal → H → Prop) (s0_ : Sl) (f1_ : AVal) (i7_ : Int) (I_ : Int → H → Prop) (m_ : Int → H → Nat)
    (hs : ∀ (X0 : Frame → H → Prop) (i8_ : Int) (h : H), I_ i8_ h → (∀ (i8_' : Int) (h' : H), I_ i8_' h' → m_ i8_' h' < m_ i8_ h → X0 (slices_IndexFunc_ss_impl_Placed_s_impl_Placed__e0 s0_ f1_ i7_ i8_') h') → slices_IndexFunc_ss_impl_Placed_s_impl_Placed__b0 S K X0 s0_ f1_ i7_ i8_ h) (i8_ : Int) {h : H} (h0 : I_ i8_ h) : slices_IndexFunc_ss_impl_Placed_s_impl_Placed__L0 S K s0_ f1_ i7_ i8_ h :=
  loop_rule (σ := (Int)) (fun s_ => slices_IndexFunc_ss_impl_Placed_s_impl_Placed__e0 s0_ f1_ i7_ (s_)) (fun s_ h => I_ (s_) h) (fun s_ h => m_ (s_) h)
    (fun X s_ h hi hx => (slices_IndexFunc_ss_impl_Placed_s_impl_Placed__link0 S K X s0_ f1_ i7_ (s_) h).mpr (hs X (s_) h hi fun i8_' h' hi' hm' => hx (i8_') h' hi' hm')) (i8_) h0
theorem slices_IndexFunc_ss_impl_Placed_s_impl_Placed__unroll0 (S : SatT) (K : AVal → H → Prop) (s0_ : Sl) (f1_ : AVal) (i7_ : Int) (i8_ : Int) (h : H) (hb : slices_IndexFunc_ss_impl_Placed_s_impl_Placed__b0 S K (fun fr h => loopK (slices_IndexFunc_ss_impl_Placed_s_impl_Placed__w0 S K) fr h) s0_ f1_ i7_ i8_ h) : slices_IndexFunc_ss_impl_Placed_s_impl_Placed__L0 S K s0_ f1_ i7_ i8_ h := loop_unroll ((slices_IndexFunc_ss_impl_Placed_s_impl_Placed__link0 S K _ s0_ f1_ i7_ i8_ h).mpr hb)
def slices_IndexFunc_ss_impl_Placed_s_impl_Placed__main (S : SatT) (K : AVal → H → Prop) (x0 : Sl) (x1 : AVal) (h : H) : Prop :=
 slices_IndexFunc_ss_impl_Placed_s_impl_Placed__L0 S K x0 x1 (x0.len : Int) (0) h
theorem slices_IndexFunc_ss_impl_Placed_s_impl_Placed__main_link (S : SatT) (K : AVal → H → Prop) (x0 : Sl) (x1 : AVal) (h : H) : cwp S tab slices_IndexFunc_ss_impl_Placed_s_impl_Placed__M [] (bodyOf Try.f93) (kFun tab Try.f93.results.toList K) (fr0 Try.f93 [.sl x0, x1]) h = slices_IndexFunc_ss_impl_Placed_s_impl_Placed__main S K x0 x1 h := by kernel_rfl
theorem slices_IndexFunc_ss_impl_Placed_s_impl_Placed__call (x0 : Sl) (x1 : AVal) (h : H) (K : Int → H → Prop) (hm : slices_IndexFunc_ss_impl_Placed_s_impl_Placed__main (Sat Try.prog) (fun v h' => ∃ r, v = .int .i64 r ∧ K r h') x0 x1 h) : callI (Sat Try.prog) .i64 i_slices_IndexFunc_ss_impl_Placed_s_impl_Placed_ [.sl x0, x1] h K := by
  have := Sat.ex tok mixed slices_IndexFunc_ss_impl_Placed_s_impl_Placed__M Try.func93 (c := bodyOf Try.f93) (by kernel_rfl) (calls_of Try.func93 (c := bodyOf Try.f93) (by kernel_rfl) (by decide)) ((slices_IndexFunc_ss_impl_Placed_s_impl_Placed__main_link _ _ x0 x1 h).mpr hm)
  obtain ⟨v, h2, h3, r, rfl, h4⟩ := this; exact ⟨r, h2, h3, h4⟩

/-! ### slices.Compare[[]int64,int64] -/
def slices_Compare_s_int64_int64__M : Nat → List Nat := fun i => bif i == 0 then [0, 1, 9, 10, 11] else []
def slices_Compare_s_int64_int64__ks1 (S : SatT) (K : AVal → H → Prop) : Kont := kSeq (cwp S tab slices_Compare_s_int64_int64__M [] (sub [1, 1] (bodyOf Try.f92)) (kFun tab (Try.f92).results.toList K)) (kFun tab (Try.f92).results.toList K)
def slices_Compare_s_int64_int64__e0 (s0_ : Sl) (s1_ : Sl) (s9_ : Sl) (i10_ : Int) (i11_ : Int) : Frame := [.sl s0_, .sl s1_, U, U, U, U, U, U, U, .sl s9_, .int .i64 i10_, .int .i64 i11_, U, U, U, U, U, U, U, U, U, U, U, U, U, U, U, U, U, U, U, U, U, U, U, U]
def slices_Compare_s_int64_int64__w0 (S : SatT) (K : AVal → H → Prop) : (Frame → H → Prop) → Frame → H → Prop := fun X fr h => cwp S tab slices_Compare_s_int64_int64__M (slices_Compare_s_int64_int64__M 0) (sub [1, 0, 1, 0, 0] (bodyOf Try.f92)) (kSeq (fun fr h => X (mask (slices_Compare_s_int64_int64__M 0) fr) h) (kBlk 0 (slices_Compare_s_int64_int64__ks1 S K))) fr h
def slices_Compare_s_int64_int64__L0 (S : SatT) (K : AVal → H → Prop) (s0_ : Sl) (s1_ : Sl) (s9_ : Sl) (i10_ : Int) (i11_ : Int) (h : H) : Prop := loopK (slices_Compare_s_int64_int64__w0 S K) (slices_Compare_s_int64_int64__e0 s0_ s1_ s9_ i10_ i11_) h
def slices_Compare_s_int64_int64__C0 (S : SatT) (K : AVal → H → Prop) (s0_ : Sl) (s1_ : Sl) (h : H) : Prop :=
 bif (decide ((s0_.len : Int) < (s1_.len : Int))) then
 K (.int .i64 (-1)) h
 else
 K (.int .i64 (0)) h
def slices_Compare_s_int64_int64__b0 (S : SatT) (K : AVal → H → Prop) (X0 : Frame → H → Prop) (s0_ : Sl) (s1_ : Sl) (s9_ : Sl) (i10_ : Int) (i11_ : Int) (h : H) : Prop :=
 bif (decide (i11_ < i10_)) then
 ixS s9_ 1 i11_ fun p0 =>
 ldI .i64 p0 h fun n1 =>
 bif (decide (i11_ ≥ (s1_.len : Int))) then
 K (.int .i64 (1)) h
 else
 ixS s1_ 1 i11_ fun p2 =>
 ldI .i64 p2 h fun n3 =>
 callI S .i64 i_cmp_Compare_int64_ [.int .i64 n1, .int .i64 n3] h fun n5 h4 =>
 bif (n5 != (0)) then
 K (.int .i64 n5) h4
 else
 X0 (slices_Compare_s_int64_int64__e0 s0_ s1_ s9_ i10_ (w64 (i11_ + (1)))) h4
 else
 slices_Compare_s_int64_int64__C0 S K s0_ s1_ h
theorem slices_Compare_s_int64_int64__link0 (S : SatT) (K : AVal → H → Prop) (X0 : Frame → H → Prop) (s0_ : Sl) (s1_ : Sl) (s9_ : Sl) (i10_ : Int) (i11_ : Int) (h : H) : slices_Compare_s_int64_int64__w0 S K X0 (slices_Compare_s_int64_int64__e0 s0_ s1_ s9_ i10_ i11_) h = slices_Compare_s_int64_int64__b0 S K X0 s0_ s1_ s9_ i10_ i11_ h := by kernel_rfl
theorem slices_Compare_s_int64_int64__rule0 (S : SatT) (K : AVal → H → Prop) (s0_ : Sl) (s1_ : Sl) (s9_ : Sl) (i10_ : Int) (I_ : Int → H → Prop) (m_ : Int → H → Nat)
    (hs : ∀ (X0 : Frame → H → Prop) (i11_ : Int) (h : H), I_ i11_ h → (∀ (i11_' : Int) (h' : H), I_ i11_' h' → m_ i11_' h' < m_ i11_ h → X0 (slices_Compare_s_int64_int64__e0 s0_ s1_ s9_ i10_ i11_') h') → slices_Compare_s_int64_int64__b0 S K X0 s0_ s1_ s9_ i10_ i11_ h) (i11_ : Int) {h : H} (h0 : I_ i11_ h) : slices_Compare_s_int64_int64__L0 S K s0_ s1_ s9_ i10_ i11_ h :=
  loop_rule (σ := (Int)) (fun s_ => slices_Compare_s_int64_int64__e0 s0_ s1_ s9_ i10_ (s_)) (fun s_ h => I_ (s_) h) (fun s_ h => m_ (s_) h)
    (fun X s_ h hi hx => (slices_Compare_s_int64_int64__link0 S K X s0_ s1_ s9_ i10_ (s_) h).mpr (hs X (s_) h hi fun i11_' h' hi' hm' => hx (i11_') h' hi' hm')) (i11_) h0
theorem slices_Compare_s_int64_int64__unroll0 (S : SatT) (K : AVal → H → Prop) (s0_ : Sl) (s1_ : Sl) (s9_ : Sl) (i10_ : Int) (i11_ : Int) (h : H) (hb : slices_Compare_s_int64_int64__b0 S K (fun fr h => loopK (slices_Compare_s_int64_int64__w0 S K) fr h) s0_ s1_ s9_ i10_ i11_ h) : slices_Compare_s_int64_int64__L0 S K s0_ s1_ s9_ i10_ i11_ h := loop_unroll ((slices_Compare_s_int64_int64__link0 S K _ s0_ s1_ s9_ i10_ i11_ h).mpr hb)
def slices_Compare_s_int64_int64__main (S : SatT) (K : AVal → H → Prop) (x0 : Sl) (x1 : Sl) (h : H) : Prop :=
 slices_Compare_s_int64_int64__L0 S K x0 x1 x0 (x0.len : Int) (0) h
theorem slices_Compare_s_int64_int64__main_link (S : SatT) (K : AVal → H → Prop) (x0 : Sl) (x1 : Sl) (h : H) : cwp S tab slices_Compare_s_int64_int64__M [] (bodyOf Try.f92) (kFun tab Try.f92.results.toList K) (fr0 Try.f92 [.sl x0, .sl x1]) h = slices_Compare_s_int64_int64__main S K x0 x1 h := by kernel_rfl
theorem slices_Compare_s_int64_int64__call (x0 : Sl) (x1 : Sl) (h : H) (K : Int → H → Prop) (hm : slices_Compare_s_int64_int64__main (Sat Try.prog) (fun v h' => ∃ r, v = .int .i64 r ∧ K r h') x0 x1 h) : callI (Sat Try.prog) .i64 i_slices_Compare_s_int64_int64_ [.sl x0, .sl x1] h K := by
  have := Sat.ex tok mixed slices_Compare_s_int64_int64__M Try.func92 (c := bodyOf Try.f92) (by kernel_rfl) (calls_of Try.func92 (c := bodyOf Try.f92) (by kernel_rfl) (by decide)) ((slices_Compare_s_int64_int64__main_link _ _ x0 x1 h).mpr hm)
  obtain ⟨v, h2, h3, r, rfl, h4⟩ := this; exact ⟨r, h2, h3, h4⟩

/-! ### loop.example/g01354/impl.edges -/
def impl_edges_M : Nat → List Nat := fun i => bif i == 0 then [1, 6, 29, 30] else []
def impl_edges_ks2 (S : SatT) (K : AVal → H → Prop) : Kont := kSeq (cwp S tab impl_edges_M [] (sub [1, 1, 1] (bodyOf Try.f83)) (kFun tab (Try.f83).results.toList K)) (kFun tab (Try.f83).results.toList K)
def impl_edges_e0 (i1_ : Int) (p6_ : Pt) (a29_ : List AVal) (i30_ : Int) : Frame := [U, .int .i64 i1_, U, U, U, U, .ptr p6_, U, U, U, U, U, U, U, U, U, U, U, U, U, U, U, U, U, U, U, U, U, U, .agg a29_, .int .i64 i30_, U, U, U, U, U, U, U, U, U, U, U, U, U, U, U, U]
def impl_edges_w0 (S : SatT) (K : AVal → H → Prop) : (Frame → H → Prop) → Frame → H → Prop := fun X fr h => cwp S tab impl_edges_M (impl_edges_M 0) (sub [1, 1, 0, 1, 0, 0] (bodyOf Try.f83)) (kSeq (fun fr h => X (mask (impl_edges_M 0) fr) h) (kBlk 0 (impl_edges_ks2 S K))) fr h
def impl_edges_L0 (S : SatT) (K : AVal → H → Prop) (i1_ : Int) (p6_ : Pt) (a29_ : List AVal) (i30_ : Int) (h : H) : Prop := loopK (impl_edges_w0 S K) (impl_edges_e0 i1_ p6_ a29_ i30_) h
def impl_edges_C0 (S : SatT) (K : AVal → H → Prop) (h : H) : Prop :=
 K (.bool true) h
def impl_edges_b0 (S : SatT) (K : AVal → H → Prop) (X0 : Frame → H → Prop) (i1_ : Int) (p6_ : Pt) (a29_ : List AVal) (i30_ : Int) (h : H) : Prop :=
 bif (decide (i30_ < (4))) then
 lenA a29_ 4 (
 partB a29_ i30_ fun b0 =>
 bif b0 then
 bif (decide (i1_ ≥ (0))) then
 ixA p6_ 4 1 i30_ fun p1 =>
 ldI .i64 p1 h fun n2 =>
 bif (n2 != i1_) then
 K (.bool false) h
 else
 X0 (impl_edges_e0 i1_ p6_ a29_ (w64 (i30_ + (1)))) h
 else
 X0 (impl_edges_e0 i1_ p6_ a29_ (w64 (i30_ + (1)))) h
 else
 X0 (impl_edges_e0 i1_ p6_ a29_ (w64 (i30_ + (1)))) h)
 else
 impl_edges_C0 S K h
theorem impl_edges_link0 (S : SatT) (K : AVal → H → Prop) (X0 : Frame → H → Prop) (i1_ : Int) (p6_ : Pt) (a29_ : List AVal) (i30_ : Int) (h : H) : impl_edges_w0 S K X0 (impl_edges_e0 i1_ p6_ a29_ i30_) h = impl_edges_b0 S K X0 i1_ p6_ a29_ i30_ h := by kernel_rfl
theorem impl_edges_rule0 (S : SatT) (K : AVal → H → Prop) (i1_ : Int) (p6_ : Pt) (a29_ : List AVal) (I_ : Int → H → Prop) (m_ : Int → H → Nat)
    (hs : ∀ (X0 : Frame → H → Prop) (i30_ : Int) (h : H), I_ i30_ h → (∀ (i30_' : Int) (h' : H), I_ i30_' h' → m_ i30_' h' < m_ i30_ h → X0 (impl_edges_e0 i1_ p6_ a29_ i30_') h') → impl_edges_b0 S K X0 i1_ p6_ a29_ i30_ h) (i30_ : Int) {h : H} (h0 : I_ i30_ h) : impl_edges_L0 S K i1_ p6_ a29_ i30_ h :=
  loop_rule (σ := (Int)) (fun s_ => impl_edges_e0 i1_ p6_ a29_ (s_)) (fun s_ h => I_ (s_) h) (fun s_ h => m_ (s_) h)
    (fun X s_ h hi hx => (impl_edges_link0 S K X i1_ p6_ a29_ (s_) h).mpr (hs X (s_) h hi fun i30_' h' hi' hm' => hx (i30_') h' hi' hm')) (i30_) h0
theorem impl_edges_unroll0 (S : SatT) (K : AVal → H → Prop) (i1_ : Int) (p6_ : Pt) (a29_ : List AVal) (i30_ : Int) (h : H) (hb : impl_edges_b0 S K (fun fr h => loopK (impl_edges_w0 S K) fr h) i1_ p6_ a29_ i30_ h) : impl_edges_L0 S K i1_ p6_ a29_ i30_ h := loop_unroll ((impl_edges_link0 S K _ i1_ p6_ a29_ i30_ h).mpr hb)
def impl_edges_main (S : SatT) (K : AVal → H → Prop) (x0 : List AVal) (x1 : Int) (x2 : Int) (x3 : Int) (x4 : Int) (x5 : Int) (h : H) : Prop :=
 newK 4 x0 h fun p0 h1 =>
 newO [.bool false, .bool false, .bool false, .bool false] h1 fun p2 h3 =>
 stN p2 4 [.bool (x3 == (0)), .bool (x2 == (0)), .bool (x3 == (w64 (x5 - (1)))), .bool (x2 == (w64 (x4 - (1))))] h3 fun h4 =>
 ldA p2 4 h4 fun cs5 =>
 impl_edges_L0 S K x1 p0 cs5 (0) h4
theorem impl_edges_main_link (S : SatT) (K : AVal → H → Prop) (x0 : List AVal) (x1 : Int) (x2 : Int) (x3 : Int) (x4 : Int) (x5 : Int) (h : H) : cwp S tab impl_edges_M [] (bodyOf Try.f83) (kFun tab Try.f83.results.toList K) (fr0 Try.f83 [.agg x0, .int .i64 x1, .int .i64 x2, .int .i64 x3, .int .i64 x4, .int .i64 x5]) h = impl_edges_main S K x0 x1 x2 x3 x4 x5 h := by kernel_rfl
theorem impl_edges_call (x0 : List AVal) (x1 : Int) (x2 : Int) (x3 : Int) (x4 : Int) (x5 : Int) (h : H) (K : Bool → H → Prop) (hm : impl_edges_main (Sat Try.prog) (fun v h' => ∃ r, v = .bool r ∧ K r h') x0 x1 x2 x3 x4 x5 h) : callB (Sat Try.prog) i_impl_edges [.agg x0, .int .i64 x1, .int .i64 x2, .int .i64 x3, .int .i64 x4, .int .i64 x5] h K := by
  have := Sat.ex tok mixed impl_edges_M Try.func83 (c := bodyOf Try.f83) (by kernel_rfl) (calls_of Try.func83 (c := bodyOf Try.f83) (by kernel_rfl) (by decide)) ((impl_edges_main_link _ _ x0 x1 x2 x3 x4 x5 h).mpr hm)
  obtain ⟨v, h2, h3, r, rfl, h4⟩ := this; exact ⟨r, h2, h3, h4⟩

/-! ### (loop.example/g01354/impl.Tile).turns -/
def impl_Tile_turns_M : Nat → List Nat := fun i => bif i == 0 then [1, 3, 5] else []
def impl_Tile_turns_ks2 (S : SatT) (K : AVal → H → Prop) : Kont := kSeq (cwp S tab impl_Tile_turns_M [] (sub [1, 1, 1] (bodyOf Try.f50)) (kFun tab (Try.f50).results.toList K)) (kFun tab (Try.f50).results.toList K)
def impl_Tile_turns_e0 (p1_ : Pt) (s3_ : Sl) (i5_ : Int) : Frame := [U, .ptr p1_, U, .sl s3_, U, .int .i64 i5_, U, U, U, U, U, U, U, U, U]
def impl_Tile_turns_w0 (S : SatT) (K : AVal → H → Prop) : (Frame → H → Prop) → Frame → H → Prop := fun X fr h => cwp S tab impl_Tile_turns_M (impl_Tile_turns_M 0) (sub [1, 1, 0, 1, 0, 0] (bodyOf Try.f50)) (kSeq (fun fr h => X (mask (impl_Tile_turns_M 0) fr) h) (kBlk 0 (impl_Tile_turns_ks2 S K))) fr h
def impl_Tile_turns_L0 (S : SatT) (K : AVal → H → Prop) (p1_ : Pt) (s3_ : Sl) (i5_ : Int) (h : H) : Prop := loopK (impl_Tile_turns_w0 S K) (impl_Tile_turns_e0 p1_ s3_ i5_) h
def impl_Tile_turns_C0 (S : SatT) (K : AVal → H → Prop) (s3_ : Sl) (h : H) : Prop :=
 K (.sl s3_) h
def impl_Tile_turns_b0 (S : SatT) (K : AVal → H → Prop) (X0 : Frame → H → Prop) (p1_ : Pt) (s3_ : Sl) (i5_ : Int) (h : H) : Prop :=
 bif (decide (i5_ < (4))) then
 ldA p1_ 4 h fun cs0 =>
 lenA cs0 4 (
 newS 1 4 (spl [.int .i64 (0), .int .i64 (0), .int .i64 (0), .int .i64 (0)] 0 4 cs0) h fun s1 h2 =>
 app s3_ s1 4 h2 fun s3 h4 =>
 ldA p1_ 4 h4 fun cs5 =>
 callA S i_impl_Tile_turned [.agg cs5] h4 fun cs7 h6 =>
 stN p1_ 4 cs7 h6 fun h8 =>
 X0 (impl_Tile_turns_e0 p1_ s3 (w64 (i5_ + (1)))) h8)
 else
 impl_Tile_turns_C0 S K s3_ h
theorem impl_Tile_turns_link0 (S : SatT) (K : AVal → H → Prop) (X0 : Frame → H → Prop) (p1_ : Pt) (s3_ : Sl) (i5_ : Int) (h : H) : impl_Tile_turns_w0 S K X0 (impl_Tile_turns_e0 p1_ s3_ i5_) h = impl_Tile_turns_b0 S K X0 p1_ s3_ i5_ h := by kernel_rfl
theorem impl_Tile_turns_rule0 (S : SatT) (K : AVal → H → Prop) (p1_ : Pt) (I_ : Sl → Int → H → Prop) (m_ : Sl → Int → H → Nat)
    (hs : ∀ (X0 : Frame → H → Prop) (s3_ : Sl) (i5_ : Int) (h : H), I_ s3_ i5_ h → (∀ (s3_' : Sl) (i5_' : Int) (h' : H), I_ s3_' i5_' h' → m_ s3_' i5_' h' < m_ s3_ i5_ h → X0 (impl_Tile_turns_e0 p1_ s3_' i5_') h') → impl_Tile_turns_b0 S K X0 p1_ s3_ i5_ h) (s3_ : Sl) (i5_ : Int) {h : H} (h0 : I_ s3_ i5_ h) : impl_Tile_turns_L0 S K p1_ s3_ i5_ h :=
  loop_rule (σ := (Sl) × (Int)) (fun s_ => impl_Tile_turns_e0 p1_ (s_.1) (s_.2)) (fun s_ h => I_ (s_.1) (s_.2) h) (fun s_ h => m_ (s_.1) (s_.2) h)
    (fun X s_ h hi hx => (impl_Tile_turns_link0 S K X p1_ (s_.1) (s_.2) h).mpr (hs X (s_.1) (s_.2) h hi fun s3_' i5_' h' hi' hm' => hx (s3_', i5_') h' hi' hm')) (s3_, i5_) h0
theorem impl_Tile_turns_unroll0 (S : SatT) (K : AVal → H → Prop) (p1_ : Pt) (s3_ : Sl) (i5_ : Int) (h : H) (hb : impl_Tile_turns_b0 S K (fun fr h => loopK (impl_Tile_turns_w0 S K) fr h) p1_ s3_ i5_ h) : impl_Tile_turns_L0 S K p1_ s3_ i5_ h := loop_unroll ((impl_Tile_turns_link0 S K _ p1_ s3_ i5_ h).mpr hb)
def impl_Tile_turns_main (S : SatT) (K : AVal → H → Prop) (x0 : List AVal) (h : H) : Prop :=
 newK 4 x0 h fun p0 h1 =>
 newS 0 4 [] h1 fun s2 h3 =>
 impl_Tile_turns_L0 S K p0 s2 (0) h3
theorem impl_Tile_turns_main_link (S : SatT) (K : AVal → H → Prop) (x0 : List AVal) (h : H) : cwp S tab impl_Tile_turns_M [] (bodyOf Try.f50) (kFun tab Try.f50.results.toList K) (fr0 Try.f50 [.agg x0]) h = impl_Tile_turns_main S K x0 h := by kernel_rfl
theorem impl_Tile_turns_call (x0 : List AVal) (h : H) (K : Sl → H → Prop) (hm : impl_Tile_turns_main (Sat Try.prog) (fun v h' => ∃ r, v = .sl r ∧ K r h') x0 h) : callS (Sat Try.prog) i_impl_Tile_turns [.agg x0] h K := by
  have := Sat.ex tok mixed impl_Tile_turns_M Try.func50 (c := bodyOf Try.f50) (by kernel_rfl) (calls_of Try.func50 (c := bodyOf Try.f50) (by kernel_rfl) (by decide)) ((impl_Tile_turns_main_link _ _ x0 h).mpr hm)
  obtain ⟨v, h2, h3, r, rfl, h4⟩ := this; exact ⟨r, h2, h3, h4⟩

/-! ### loop.example/g01354/spec.l01Before -/
def spec_l01Before_M : Nat → List Nat := fun i => bif i == 0 then [2, 3, 5] else []
def spec_l01Before_ks1 (S : SatT) (K : AVal → H → Prop) : Kont := kSeq (cwp S tab spec_l01Before_M [] (sub [1, 1] (bodyOf Try.f77)) (kFun tab (Try.f77).results.toList K)) (kFun tab (Try.f77).results.toList K)
def spec_l01Before_e0 (p2_ : Pt) (p3_ : Pt) (i5_ : Int) : Frame := [U, U, .ptr p2_, .ptr p3_, U, .int .i64 i5_, U, U, U, U, U, U, U, U, U, U, U, U, U, U, U, U, U, U]
def spec_l01Before_w0 (S : SatT) (K : AVal → H → Prop) : (Frame → H → Prop) → Frame → H → Prop := fun X fr h => cwp S tab spec_l01Before_M (spec_l01Before_M 0) (sub [1, 0, 1, 0, 0] (bodyOf Try.f77)) (kSeq (fun fr h => X (mask (spec_l01Before_M 0) fr) h) (kBlk 0 (spec_l01Before_ks1 S K))) fr h
def spec_l01Before_L0 (S : SatT) (K : AVal → H → Prop) (p2_ : Pt) (p3_ : Pt) (i5_ : Int) (h : H) : Prop := loopK (spec_l01Before_w0 S K) (spec_l01Before_e0 p2_ p3_ i5_) h
def spec_l01Before_C0 (S : SatT) (K : AVal → H → Prop) (h : H) : Prop :=
 K (.bool false) h
def spec_l01Before_b0 (S : SatT) (K : AVal → H → Prop) (X0 : Frame → H → Prop) (p2_ : Pt) (p3_ : Pt) (i5_ : Int) (h : H) : Prop :=
 bif (decide (i5_ < (4))) then
 ixA p2_ 4 1 i5_ fun p0 =>
 ldI .i64 p0 h fun n1 =>
 ixA p3_ 4 1 i5_ fun p2 =>
 ldI .i64 p2 h fun n3 =>
 bif (n1 != n3) then
 ixA p2_ 4 1 i5_ fun p4 =>
 ldI .i64 p4 h fun n5 =>
 ixA p3_ 4 1 i5_ fun p6 =>
 ldI .i64 p6 h fun n7 =>
 K (.bool (decide (n5 < n7))) h
 else
 X0 (spec_l01Before_e0 p2_ p3_ (w64 (i5_ + (1)))) h
 else
 spec_l01Before_C0 S K h
theorem spec_l01Before_link0 (S : SatT) (K : AVal → H → Prop) (X0 : Frame → H → Prop) (p2_ : Pt) (p3_ : Pt) (i5_ : Int) (h : H) : spec_l01Before_w0 S K X0 (spec_l01Before_e0 p2_ p3_ i5_) h = spec_l01Before_b0 S K X0 p2_ p3_ i5_ h := by kernel_rfl
theorem spec_l01Before_rule0 (S : SatT) (K : AVal → H → Prop) (p2_ : Pt) (p3_ : Pt) (I_ : Int → H → Prop) (m_ : Int → H → Nat)
    (hs : ∀ (X0 : Frame → H → Prop) (i5_ : Int) (h : H), I_ i5_ h → (∀ (i5_' : Int) (h' : H), I_ i5_' h' → m_ i5_' h' < m_ i5_ h → X0 (spec_l01Before_e0 p2_ p3_ i5_') h') → spec_l01Before_b0 S K X0 p2_ p3_ i5_ h) (i5_ : Int) {h : H} (h0 : I_ i5_ h) : spec_l01Before_L0 S K p2_ p3_ i5_ h :=
  loop_rule (σ := (Int)) (fun s_ => spec_l01Before_e0 p2_ p3_ (s_)) (fun s_ h => I_ (s_) h) (fun s_ h => m_ (s_) h)
    (fun X s_ h hi hx => (spec_l01Before_link0 S K X p2_ p3_ (s_) h).mpr (hs X (s_) h hi fun i5_' h' hi' hm' => hx (i5_') h' hi' hm')) (i5_) h0
theorem spec_l01Before_unroll0 (S : SatT) (K : AVal → H → Prop) (p2_ : Pt) (p3_ : Pt) (i5_ : Int) (h : H) (hb : spec_l01Before_b0 S K (fun fr h => loopK (spec_l01Before_w0 S K) fr h) p2_ p3_ i5_ h) : spec_l01Before_L0 S K p2_ p3_ i5_ h := loop_unroll ((spec_l01Before_link0 S K _ p2_ p3_ i5_ h).mpr hb)
def spec_l01Before_main (S : SatT) (K : AVal → H → Prop) (x0 : List AVal) (x1 : List AVal) (h : H) : Prop :=
 newK 4 x0 h fun p0 h1 =>
 newK 4 x1 h1 fun p2 h3 =>
 spec_l01Before_L0 S K p0 p2 (0) h3
theorem spec_l01Before_main_link (S : SatT) (K : AVal → H → Prop) (x0 : List AVal) (x1 : List AVal) (h : H) : cwp S tab spec_l01Before_M [] (bodyOf Try.f77) (kFun tab Try.f77.results.toList K) (fr0 Try.f77 [.agg x0, .agg x1]) h = spec_l01Before_main S K x0 x1 h := by kernel_rfl
theorem spec_l01Before_call (x0 : List AVal) (x1 : List AVal) (h : H) (K : Bool → H → Prop) (hm : spec_l01Before_main (Sat Try.prog) (fun v h' => ∃ r, v = .bool r ∧ K r h') x0 x1 h) : callB (Sat Try.prog) i_spec_l01Before [.agg x0, .agg x1] h K := by
  have := Sat.ex tok mixed spec_l01Before_M Try.func77 (c := bodyOf Try.f77) (by kernel_rfl) (calls_of Try.func77 (c := bodyOf Try.f77) (by kernel_rfl) (by decide)) ((spec_l01Before_main_link _ _ x0 x1 h).mpr hm)
  obtain ⟨v, h2, h3, r, rfl, h4⟩ := this; exact ⟨r, h2, h3, h4⟩

/-! ### loop.example/g01354/laws.eqPlacedS -/
def laws_eqPlacedS_M : Nat → List Nat := fun i => bif i == 0 then [0, 1, 5] else []
def laws_eqPlacedS_ks4 (S : SatT) (K : AVal → H → Prop) : Kont := kSeq (cwp S tab laws_eqPlacedS_M [] (sub [1, 1, 1] (bodyOf Try.f66)) (kFun tab (Try.f66).results.toList K)) (kFun tab (Try.f66).results.toList K)
def laws_eqPlacedS_e0 (s0_ : Sl) (s1_ : Sl) (i5_ : Int) : Frame := [.sl s0_, .sl s1_, U, U, U, .int .i64 i5_, U, U, U, U, U, U, U, U, U, U, U, U, U, U, U, U, U, U, U, U, U]
def laws_eqPlacedS_w0 (S : SatT) (K : AVal → H → Prop) : (Frame → H → Prop) → Frame → H → Prop := fun X fr h => cwp S tab laws_eqPlacedS_M (laws_eqPlacedS_M 0) (sub [1, 1, 0, 1, 0, 0] (bodyOf Try.f66)) (kSeq (fun fr h => X (mask (laws_eqPlacedS_M 0) fr) h) (kBlk 0 (laws_eqPlacedS_ks4 S K))) fr h
def laws_eqPlacedS_L0 (S : SatT) (K : AVal → H → Prop) (s0_ : Sl) (s1_ : Sl) (i5_ : Int) (h : H) : Prop := loopK (laws_eqPlacedS_w0 S K) (laws_eqPlacedS_e0 s0_ s1_ i5_) h
def laws_eqPlacedS_C0 (S : SatT) (K : AVal → H → Prop) (h : H) : Prop :=
 K (.bool true) h
def laws_eqPlacedS_b0 (S : SatT) (K : AVal → H → Prop) (X0 : Frame → H → Prop) (s0_ : Sl) (s1_ : Sl) (i5_ : Int) (h : H) : Prop :=
 bif (decide (i5_ < (s0_.len : Int))) then
 ixS s0_ 2 i5_ fun p0 =>
 ldA p0 2 h fun cs1 =>
 ixS s1_ 2 i5_ fun p2 =>
 ldA p2 2 h fun cs3 =>
 callB S i_laws_eqPlaced [.agg cs1, .agg cs3] h fun b5 h4 =>
 bif (!b5) then
 K (.bool false) h4
 else
 X0 (laws_eqPlacedS_e0 s0_ s1_ (w64 (i5_ + (1)))) h4
 else
 laws_eqPlacedS_C0 S K h
theorem laws_eqPlacedS_link0 (S : SatT) (K : AVal → H → Prop) (X0 : Frame → H → Prop) (s0_ : Sl) (s1_ : Sl) (i5_ : Int) (h : H) : laws_eqPlacedS_w0 S K X0 (laws_eqPlacedS_e0 s0_ s1_ i5_) h = laws_eqPlacedS_b0 S K X0 s0_ s1_ i5_ h := by kernel_rfl
theorem laws_eqPlacedS_rule0 (S : SatT) (K : AVal → H → Prop) (s0_ : Sl) (s1_ : Sl) (I_ : Int → H → Prop) (m_ : Int → H → Nat)
    (hs : ∀ (X0 : Frame → H → Prop) (i5_ : Int) (h : H), I_ i5_ h → (∀ (i5_' : Int) (h' : H), I_ i5_' h' → m_ i5_' h' < m_ i5_ h → X0 (laws_eqPlacedS_e0 s0_ s1_ i5_') h') → laws_eqPlacedS_b0 S K X0 s0_ s1_ i5_ h) (i5_ : Int) {h : H} (h0 : I_ i5_ h) : laws_eqPlacedS_L0 S K s0_ s1_ i5_ h :=
  loop_rule (σ := (Int)) (fun s_ => laws_eqPlacedS_e0 s0_ s1_ (s_)) (fun s_ h => I_ (s_) h) (fun s_ h => m_ (s_) h)
    (fun X s_ h hi hx => (laws_eqPlacedS_link0 S K X s0_ s1_ (s_) h).mpr (hs X (s_) h hi fun i5_' h' hi' hm' => hx (i5_') h' hi' hm')) (i5_) h0
theorem laws_eqPlacedS_unroll0 (S : SatT) (K : AVal → H → Prop) (s0_ : Sl) (s1_ : Sl) (i5_ : Int) (h : H) (hb : laws_eqPlacedS_b0 S K (fun fr h => loopK (laws_eqPlacedS_w0 S K) fr h) s0_ s1_ i5_ h) : laws_eqPlacedS_L0 S K s0_ s1_ i5_ h := loop_unroll ((laws_eqPlacedS_link0 S K _ s0_ s1_ i5_ h).mpr hb)
def laws_eqPlacedS_main (S : SatT) (K : AVal → H → Prop) (x0 : Sl) (x1 : Sl) (h : H) : Prop :=
 bif ((x0.len : Int) != (x1.len : Int)) then
 K (.bool false) h
 else
 laws_eqPlacedS_L0 S K x0 x1 (0) h
theorem laws_eqPlacedS_main_link (S : SatT) (K : AVal → H → Prop) (x0 : Sl) (x1 : Sl) (h : H) : cwp S tab laws_eqPlacedS_M [] (bodyOf Try.f66) (kFun tab Try.f66.results.toList K) (fr0 Try.f66 [.sl x0, .sl x1]) h = laws_eqPlacedS_main S K x0 x1 h := by kernel_rfl
theorem laws_eqPlacedS_call (x0 : Sl) (x1 : Sl) (h : H) (K : Bool → H → Prop) (hm : laws_eqPlacedS_main (Sat Try.prog) (fun v h' => ∃ r, v = .bool r ∧ K r h') x0 x1 h) : callB (Sat Try.prog) i_laws_eqPlacedS [.sl x0, .sl x1] h K := by
  have := Sat.ex tok mixed laws_eqPlacedS_M Try.func66 (c := bodyOf Try.f66) (by kernel_rfl) (calls_of Try.func66 (c := bodyOf Try.f66) (by kernel_rfl) (by decide)) ((laws_eqPlacedS_main_link _ _ x0 x1 h).mpr hm)
  obtain ⟨v, h2, h3, r, rfl, h4⟩ := this; exact ⟨r, h2, h3, h4⟩

/-! ### loop.example/g01354/laws.eqInt64S -/
def laws_eqInt64S_M : Nat → List Nat := fun i => bif i == 0 then [0, 1, 5] else []
def laws_eqInt64S_ks4 (S : SatT) (K : AVal → H → Prop) : Kont := kSeq (cwp S tab laws_eqInt64S_M [] (sub [1, 1, 1] (bodyOf Try.f24)) (kFun tab (Try.f24).results.toList K)) (kFun tab (Try.f24).results.toList K)
def laws_eqInt64S_e0 (s0_ : Sl) (s1_ : Sl) (i5_ : Int) : Frame := [.sl s0_, .sl s1_, U, U, U, .int .i64 i5_, U, U, U, U, U, U, U, U, U, U, U, U, U, U, U, U, U, U, U, U]
def laws_eqInt64S_w0 (S : SatT) (K : AVal → H → Prop) : (Frame → H → Prop) → Frame → H → Prop := fun X fr h => cwp S tab laws_eqInt64S_M (laws_eqInt64S_M 0) (sub [1, 1, 0, 1, 0, 0] (bodyOf Try.f24)) (kSeq (fun fr h => X (mask (laws_eqInt64S_M 0) fr) h) (kBlk 0 (laws_eqInt64S_ks4 S K))) fr h
def laws_eqInt64S_L0 (S : SatT) (K : AVal → H → Prop) (s0_ : Sl) (s1_ : Sl) (i5_ : Int) (h : H) : Prop := loopK (laws_eqInt64S_w0 S K) (laws_eqInt64S_e0 s0_ s1_ i5_) h
def laws_eqInt64S_C0 (S : SatT) (K : AVal → H → Prop) (h : H) : Prop :=
 K (.bool true) h
def laws_eqInt64S_b0 (S : SatT) (K : AVal → H → Prop) (X0 : Frame → H → Prop) (s0_ : Sl) (s1_ : Sl) (i5_ : Int) (h : H) : Prop :=
 bif (decide (i5_ < (s0_.len : Int))) then
 ixS s0_ 1 i5_ fun p0 =>
 ldI .i64 p0 h fun n1 =>
 ixS s1_ 1 i5_ fun p2 =>
 ldI .i64 p2 h fun n3 =>
 bif (n1 != n3) then
 K (.bool false) h
 else
 X0 (laws_eqInt64S_e0 s0_ s1_ (w64 (i5_ + (1)))) h
 else
 laws_eqInt64S_C0 S K h
theorem laws_eqInt64S_link0 (S : SatT) (K : AVal → H → Prop) (X0 : Frame → H → Prop) (s0_ : Sl) (s1_ : Sl) (i5_ : Int) (h : H) : laws_eqInt64S_w0 S K X0 (laws_eqInt64S_e0 s0_ s1_ i5_) h = laws_eqInt64S_b0 S K X0 s0_ s1_ i5_ h := by kernel_rfl
theorem laws_eqInt64S_rule0 (S : SatT) (K : AVal → H → Prop) (s0_ : Sl) (s1_ : Sl) (I_ : Int → H → Prop) (m_ : Int → H → Nat)
    (hs : ∀ (X0 : Frame → H → Prop) (i5_ : Int) (h : H), I_ i5_ h → (∀ (i5_' : Int) (h' : H), I_ i5_' h' → m_ i5_' h' < m_ i5_ h → X0 (laws_eqInt64S_e0 s0_ s1_ i5_') h') → laws_eqInt64S_b0 S K X0 s0_ s1_ i5_ h) (i5_ : Int) {h : H} (h0 : I_ i5_ h) : laws_eqInt64S_L0 S K s0_ s1_ i5_ h :=
  loop_rule (σ := (Int)) (fun s_ => laws_eqInt64S_e0 s0_ s1_ (s_)) (fun s_ h => I_ (s_) h) (fun s_ h => m_ (s_) h)
    (fun X s_ h hi hx => (laws_eqInt64S_link0 S K X s0_ s1_ (s_) h).mpr (hs X (s_) h hi fun i5_' h' hi' hm' => hx (i5_') h' hi' hm')) (i5_) h0
theorem laws_eqInt64S_unroll0 (S : SatT) (K : AVal → H → Prop) (s0_ : Sl) (s1_ : Sl) (i5_ : Int) (h : H) (hb : laws_eqInt64S_b0 S K (fun fr h => loopK (laws_eqInt64S_w0 S K) fr h) s0_ s1_ i5_ h) : laws_eqInt64S_L0 S K s0_ s1_ i5_ h := loop_unroll ((laws_eqInt64S_link0 S K _ s0_ s1_ i5_ h).mpr hb)
def laws_eqInt64S_main (S : SatT) (K : AVal → H → Prop) (x0 : Sl) (x1 : Sl) (h : H) : Prop :=
 bif ((x0.len : Int) != (x1.len : Int)) then
 K (.bool false) h
 else
 laws_eqInt64S_L0 S K x0 x1 (0) h
theorem laws_eqInt64S_main_link (S : SatT) (K : AVal → H → Prop) (x0 : Sl) (x1 : Sl) (h : H) : cwp S tab laws_eqInt64S_M [] (bodyOf Try.f24) (kFun tab Try.f24.results.toList K) (fr0 Try.f24 [.sl x0, .sl x1]) h = laws_eqInt64S_main S K x0 x1 h := by kernel_rfl
theorem laws_eqInt64S_call (x0 : Sl) (x1 : Sl) (h : H) (K : Bool → H → Prop) (hm : laws_eqInt64S_main (Sat Try.prog) (fun v h' => ∃ r, v = .bool r ∧ K r h') x0 x1 h) : callB (Sat Try.prog) i_laws_eqInt64S [.sl x0, .sl x1] h K := by
  have := Sat.ex tok mixed laws_eqInt64S_M Try.func24 (c := bodyOf Try.f24) (by kernel_rfl) (calls_of Try.func24 (c := bodyOf Try.f24) (by kernel_rfl) (by decide)) ((laws_eqInt64S_main_link _ _ x0 x1 h).mpr hm)
  obtain ⟨v, h2, h3, r, rfl, h4⟩ := this; exact ⟨r, h2, h3, h4⟩

/-! ### loop.example/g01354/laws.toTileS -/
def laws_toTileS_M : Nat → List Nat := fun i => bif i == 0 then [0, 3, 4] else []
def laws_toTileS_ks2 (S : SatT) (K : AVal → H → Prop) : Kont := kSeq (cwp S tab laws_toTileS_M [] (sub [1, 1, 1] (bodyOf Try.f22)) (kFun tab (Try.f22).results.toList K)) (kFun tab (Try.f22).results.toList K)
def laws_toTileS_e0 (s0_ : Sl) (s3_ : Sl) (i4_ : Int) : Frame := [.sl s0_, U, U, .sl s3_, .int .i64 i4_, U, U, U, U, U, U, U, U, U, U, U, U, U, U, U, U, U, U]
def laws_toTileS_w0 (S : SatT) (K : AVal → H → Prop) : (Frame → H → Prop) → Frame → H → Prop := fun X fr h => cwp S tab laws_toTileS_M (laws_toTileS_M 0) (sub [1, 1, 0, 1, 0, 0] (bodyOf Try.f22)) (kSeq (fun fr h => X (mask (laws_toTileS_M 0) fr) h) (kBlk 0 (laws_toTileS_ks2 S K))) fr h
def laws_toTileS_L0 (S : SatT) (K : AVal → H → Prop) (s0_ : Sl) (s3_ : Sl) (i4_ : Int) (h : H) : Prop := loopK (laws_toTileS_w0 S K) (laws_toTileS_e0 s0_ s3_ i4_) h
def laws_toTileS_C0 (S : SatT) (K : AVal → H → Prop) (s3_ : Sl) (h : H) : Prop :=
 K (.sl s3_) h
def laws_toTileS_b0 (S : SatT) (K : AVal → H → Prop) (X0 : Frame → H → Prop) (s0_ : Sl) (s3_ : Sl) (i4_ : Int) (h : H) : Prop :=
 bif (decide (i4_ < (s0_.len : Int))) then
 ixS s0_ 4 i4_ fun p0 =>
 ldA p0 4 h fun cs1 =>
 callA S i_laws_toTile [.agg cs1] h fun cs3 h2 =>
 ixS s3_ 4 i4_ fun p4 =>
 stN p4 4 cs3 h2 fun h5 =>
 X0 (laws_toTileS_e0 s0_ s3_ (w64 (i4_ + (1)))) h5
 else
 laws_toTileS_C0 S K s3_ h
theorem laws_toTileS_link0 (S : SatT) (K : AVal → H → Prop) (X0 : Frame → H → Prop) (s0_ : Sl) (s3_ : Sl) (i4_ : Int) (h : H) : laws_toTileS_w0 S K X0 (laws_toTileS_e0 s0_ s3_ i4_) h = laws_toTileS_b0 S K X0 s0_ s3_ i4_ h := by kernel_rfl
theorem laws_toTileS_rule0 (S : SatT) (K : AVal → H → Prop) (s0_ : Sl) (s3_ : Sl) (I_ : Int → H → Prop) (m_ : Int → H → Nat)
    (hs : ∀ (X0 : Frame → H → Prop) (i4_ : Int) (h : H), I_ i4_ h → (∀ (i4_' : Int) (h' : H), I_ i4_' h' → m_ i4_' h' < m_ i4_ h → X0 (laws_toTileS_e0 s0_ s3_ i4_') h') → laws_toTileS_b0 S K X0 s0_ s3_ i4_ h) (i4_ : Int) {h : H} (h0 : I_ i4_ h) : laws_toTileS_L0 S K s0_ s3_ i4_ h :=
  loop_rule (σ := (Int)) (fun s_ => laws_toTileS_e0 s0_ s3_ (s_)) (fun s_ h => I_ (s_) h) (fun s_ h => m_ (s_) h)
    (fun X s_ h hi hx => (laws_toTileS_link0 S K X s0_ s3_ (s_) h).mpr (hs X (s_) h hi fun i4_' h' hi' hm' => hx (i4_') h' hi' hm')) (i4_) h0
theorem laws_toTileS_unroll0 (S : SatT) (K : AVal → H → Prop) (s0_ : Sl) (s3_ : Sl) (i4_ : Int) (h : H) (hb : laws_toTileS_b0 S K (fun fr h => loopK (laws_toTileS_w0 S K) fr h) s0_ s3_ i4_ h) : laws_toTileS_L0 S K s0_ s3_ i4_ h := loop_unroll ((laws_toTileS_link0 S K _ s0_ s3_ i4_ h).mpr hb)
def laws_toTileS_main (S : SatT) (K : AVal → H → Prop) (x0 : Sl) (h : H) : Prop :=
 mkS (x0.len : Int) [.int .i64 (0), .int .i64 (0), .int .i64 (0), .int .i64 (0)] h fun s0 h1 =>
 laws_toTileS_L0 S K x0 s0 (0) h1
theorem laws_toTileS_main_link (S : SatT) (K : AVal → H → Prop) (x0 : Sl) (h : H) : cwp S tab laws_toTileS_M [] (bodyOf Try.f22) (kFun tab Try.f22.results.toList K) (fr0 Try.f22 [.sl x0]) h = laws_toTileS_main S K x0 h := by kernel_rfl
theorem laws_toTileS_call (x0 : Sl) (h : H) (K : Sl → H → Prop) (hm : laws_toTileS_main (Sat Try.prog) (fun v h' => ∃ r, v = .sl r ∧ K r h') x0 h) : callS (Sat Try.prog) i_laws_toTileS [.sl x0] h K := by
  have := Sat.ex tok mixed laws_toTileS_M Try.func22 (c := bodyOf Try.f22) (by kernel_rfl) (calls_of Try.func22 (c := bodyOf Try.f22) (by kernel_rfl) (by decide)) ((laws_toTileS_main_link _ _ x0 h).mpr hm)
  obtain ⟨v, h2, h3, r, rfl, h4⟩ := this; exact ⟨r, h2, h3, h4⟩

/-! ### loop.example/g01354/impl.boards -/
def impl_boards_M : Nat → List Nat := fun i => []
def impl_boards_main (S : SatT) (K : AVal → H → Prop) (x0 : Sl) (x1 : Int) (x2 : Int) (x3 : Int) (x4 : AVal) (h : H) : Prop :=
 newO [.sl x0] h fun p0 h1 =>
 newO [.int .i64 x1] h1 fun p2 h3 =>
 newO [.int .i64 x2] h3 fun p4 h5 =>
 newO [.int .i64 x3] h5 fun p6 h7 =>
 bif (AVal.isCell x4 && true) then
 newO [x4] h7 fun p8 h9 =>
 slotK 12 h9 fun h10 =>
 ldI .i64 p4 h10 fun n11 =>
 ldS p0 h10 fun s12 =>
 newSat 0 2 [] h10 (h9.length + 0) fun s13 h14 =>
(cell h14 p0 = cell h10 p0) ∧ (
(cell h14 p4 = cell h10 p4) ∧ (
 newOat [.sl Sl.nil] h14 (h9.length + 6) fun p15 h16 =>
(cell h16 p0 = cell h10 p0) ∧ (
(cell h16 p4 = cell h10 p4) ∧ (
 newOat [.sl Sl.nil] h16 (h9.length + 7) fun p17 h18 =>
(cell h18 p0 = cell h10 p0) ∧ (
(cell h18 p4 = cell h10 p4) ∧ (
 newOat [.sl Sl.nil] h18 (h9.length + 8) fun p19 h20 =>
(cell h20 p0 = cell h10 p0) ∧ (
(cell h20 p4 = cell h10 p4) ∧ (
 st1 p15 (.sl s13) h20 fun h21 =>
(cell h21 p0 = cell h10 p0) ∧ (
(cell h21 p4 = cell h10 p4) ∧ (
 mkSat n11 [.sl Sl.nil] h21 (h9.length + 2) fun s22 h23 =>
(cell h23 p0 = cell h10 p0) ∧ (
 st1 p17 (.sl s22) h23 fun h24 =>
(cell h24 p0 = cell h10 p0) ∧ (
 mkSat (s12.len : Int) [.bool false] h24 (h9.length + 5) fun s25 h26 =>
(cell h24 p4 = cell h10 p4) ∧ (
(cell h26 p4 = cell h10 p4) ∧ (
 st1 p19 (.sl s25) h26 fun h27 =>
 newO [.nilFunc] h27 fun p28 h29 =>
 st1 p28 (.func 81 [.ptr p15, .ptr p6, .ptr p4, .ptr p8, .ptr p17, .ptr p0, .ptr p19, .ptr p2, .ptr p28]) h29 fun h30 =>
 ldV p28 h30 fun v31 =>
 viaF v31 [] fun g32 ys33 =>
 callB S g32 ys33 h30 fun b35 h34 =>
 K (.tuple []) h34))))))))))))))
 else False
theorem impl_boards_main_link (S : SatT) (K : AVal → H → Prop) (x0 : Sl) (x1 : Int) (x2 : Int) (x3 : Int) (x4 : AVal) (h : H) : cwp S tab impl_boards_M [] (bodyOf Try.f57) (kFun tab Try.f57.results.toList K) (fr0 Try.f57 [.sl x0, .int .i64 x1, .int .i64 x2, .int .i64 x3, x4]) h = impl_boards_main S K x0 x1 x2 x3 x4 h := by kernel_rfl
theorem impl_boards_call (x0 : Sl) (x1 : Int) (x2 : Int) (x3 : Int) (x4 : AVal) (h : H) (K : AVal → H → Prop) (hm : impl_boards_main (Sat Try.prog) (fun v h' => K v h') x0 x1 x2 x3 x4 h) : callV (Sat Try.prog) i_impl_boards [.sl x0, .int .i64 x1, .int .i64 x2, .int .i64 x3, x4] h K := by
  have := Sat.ex tok mixed impl_boards_M Try.func57 (c := bodyOf Try.f57) (by kernel_rfl) (calls_of Try.func57 (c := bodyOf Try.f57) (by kernel_rfl) (by decide)) ((impl_boards_main_link _ _ x0 x1 x2 x3 x4 h).mpr hm)
  exact this

/-! ### loop.example/g01354/spec.l07Board -/
def spec_l07Board_M : Nat → List Nat := fun i => []
def spec_l07Board_main (S : SatT) (K : AVal → H → Prop) (x0 : Sl) (x1 : Int) (x2 : Int) (x3 : Int) (h : H) : Prop :=
 bif (decide ((x0.len : Int) < (1))) then
 K (.int .i64 (2)) h
 else
 bif (decide ((x0.len : Int) > (6))) then
 K (.int .i64 (2)) h
 else
 callI S .i64 i_spec_l07Tiles [.sl x0] h fun n1 h0 =>
 bif (n1 != (0)) then
 K (.int .i64 (2)) h0
 else
 callB S i_spec_l01In [.int .i64 x1, .int .i64 (-1), .int .i64 (5)] h0 fun b3 h2 =>
 bif (!b3) then
 K (.int .i64 (2)) h2
 else
 callB S i_spec_l01In [.int .i64 x2, .int .i64 (1), .int .i64 (6)] h2 fun b5 h4 =>
 bif (!b5) then
 K (.int .i64 (2)) h4
 else
 callB S i_spec_l01In [.int .i64 x3, .int .i64 (1), .int .i64 (6)] h4 fun b7 h6 =>
 bif (!b7) then
 K (.int .i64 (2)) h6
 else
 bif ((w64 (x2 * x3)) != (x0.len : Int)) then
 K (.int .i64 (2)) h6
 else
 K (.int .i64 (0)) h6
theorem spec_l07Board_main_link (S : SatT) (K : AVal → H → Prop) (x0 : Sl) (x1 : Int) (x2 : Int) (x3 : Int) (h : H) : cwp S tab spec_l07Board_M [] (bodyOf Try.f54) (kFun tab Try.f54.results.toList K) (fr0 Try.f54 [.sl x0, .int .i64 x1, .int .i64 x2, .int .i64 x3]) h = spec_l07Board_main S K x0 x1 x2 x3 h := by kernel_rfl
theorem spec_l07Board_call (x0 : Sl) (x1 : Int) (x2 : Int) (x3 : Int) (h : H) (K : Int → H → Prop) (hm : spec_l07Board_main (Sat Try.prog) (fun v h' => ∃ r, v = .int .i64 r ∧ K r h') x0 x1 x2 x3 h) : callI (Sat Try.prog) .i64 i_spec_l07Board [.sl x0, .int .i64 x1, .int .i64 x2, .int .i64 x3] h K := by
  have := Sat.ex tok mixed spec_l07Board_M Try.func54 (c := bodyOf Try.f54) (by kernel_rfl) (calls_of Try.func54 (c := bodyOf Try.f54) (by kernel_rfl) (by decide)) ((spec_l07Board_main_link _ _ x0 x1 x2 x3 h).mpr hm)
  obtain ⟨v, h2, h3, r, rfl, h4⟩ := this; exact ⟨r, h2, h3, h4⟩

/-! ### loop.example/g01354/impl.CountBoards -/
def impl_CountBoards_M : Nat → List Nat := fun i => []
def impl_CountBoards_main (S : SatT) (K : AVal → H → Prop) (x0 : Sl) (x1 : Int) (x2 : Int) (x3 : Int) (h : H) : Prop :=
 callB S i_impl_isBoardSize [.sl x0, .int .i64 x1, .int .i64 x2, .int .i64 x3] h fun b1 h0 =>
 bif (!b1) then
 K (.tuple [.int .i64 (0), .int .i64 (2)]) h0
 else
 newO [.int .i64 (0)] h0 fun p2 h3 =>
 st1 p2 (.int .i64 (0)) h3 fun h4 =>
 callV S i_impl_boards [.sl x0, .int .i64 x1, .int .i64 x2, .int .i64 x3, .func 58 [.ptr p2]] h4 fun v6 h5 =>
 ldI .i64 p2 h5 fun n7 =>
 K (.tuple [.int .i64 n7, .int .i64 (0)]) h5
theorem impl_CountBoards_main_link (S : SatT) (K : AVal → H → Prop) (x0 : Sl) (x1 : Int) (x2 : Int) (x3 : Int) (h : H) : cwp S tab impl_CountBoards_M [] (bodyOf Try.f35) (kFun tab Try.f35.results.toList K) (fr0 Try.f35 [.sl x0, .int .i64 x1, .int .i64 x2, .int .i64 x3]) h = impl_CountBoards_main S K x0 x1 x2 x3 h := by kernel_rfl
theorem impl_CountBoards_call (x0 : Sl) (x1 : Int) (x2 : Int) (x3 : Int) (h : H) (K : AVal → H → Prop) (hm : impl_CountBoards_main (Sat Try.prog) (fun v h' => K v h') x0 x1 x2 x3 h) : callV (Sat Try.prog) i_impl_CountBoards [.sl x0, .int .i64 x1, .int .i64 x2, .int .i64 x3] h K := by
  have := Sat.ex tok mixed impl_CountBoards_M Try.func35 (c := bodyOf Try.f35) (by kernel_rfl) (calls_of Try.func35 (c := bodyOf Try.f35) (by kernel_rfl) (by decide)) ((impl_CountBoards_main_link _ _ x0 x1 x2 x3 h).mpr hm)
  exact this

/-! ### cmp.Compare[int64] -/
def cmp_Compare_int64__M : Nat → List Nat := fun i => []
def cmp_Compare_int64__main (S : SatT) (K : AVal → H → Prop) (x0 : Int) (x1 : Int) (h : H) : Prop :=
 callB S i_cmp_isNaN_int64_ [.int .i64 x0] h fun b1 h0 =>
 callB S i_cmp_isNaN_int64_ [.int .i64 x1] h0 fun b3 h2 =>
 bif b1 then
 bif b3 then
 K (.int .i64 (0)) h2
 else
 K (.int .i64 (-1)) h2
 else
 bif b3 then
 K (.int .i64 (1)) h2
 else
 bif (decide (x0 < x1)) then
 K (.int .i64 (-1)) h2
 else
 bif (decide (x0 > x1)) then
 K (.int .i64 (1)) h2
 else
 K (.int .i64 (0)) h2
theorem cmp_Compare_int64__main_link (S : SatT) (K : AVal → H → Prop) (x0 : Int) (x1 : Int) (h : H) : cwp S tab cmp_Compare_int64__M [] (bodyOf Try.f95) (kFun tab Try.f95.results.toList K) (fr0 Try.f95 [.int .i64 x0, .int .i64 x1]) h = cmp_Compare_int64__main S K x0 x1 h := by kernel_rfl
theorem cmp_Compare_int64__call (x0 : Int) (x1 : Int) (h : H) (K : Int → H → Prop) (hm : cmp_Compare_int64__main (Sat Try.prog) (fun v h' => ∃ r, v = .int .i64 r ∧ K r h') x0 x1 h) : callI (Sat Try.prog) .i64 i_cmp_Compare_int64_ [.int .i64 x0, .int .i64 x1] h K := by
  have := Sat.ex tok mixed cmp_Compare_int64__M Try.func95 (c := bodyOf Try.f95) (by kernel_rfl) (calls_of Try.func95 (c := bodyOf Try.f95) (by kernel_rfl) (by decide)) ((cmp_Compare_int64__main_link _ _ x0 x1 h).mpr hm)
  obtain ⟨v, h2, h3, r, rfl, h4⟩ := this; exact ⟨r, h2, h3, h4⟩

/-! ### loop.example/g01354/laws.toPlaced -/
def laws_toPlaced_M : Nat → List Nat := fun i => []
def laws_toPlaced_main (S : SatT) (K : AVal → H → Prop) (x0 : List AVal) (h : H) : Prop :=
 newK 2 x0 h fun p0 h1 =>
 newO [.int .i64 (0), .int .i64 (0)] h1 fun p2 h3 =>
 newO [.int .i64 (0), .int .i64 (0)] h3 fun p4 h5 =>
 isPt p0 (
 ldI .i64 (Pt.add p0 0) h5 fun n6 =>
 isPt p4 (
 st1 (Pt.add p4 0) (.int .i64 n6) h5 fun h7 =>
 isPt p0 (
 ldI .i64 (Pt.add p0 1) h7 fun n8 =>
 isPt p4 (
 st1 (Pt.add p4 1) (.int .i64 n8) h7 fun h9 =>
 ldA p4 2 h9 fun cs10 =>
 stN p2 2 cs10 h9 fun h11 =>
 ldA p2 2 h11 fun cs12 =>
 K (.agg cs12) h11))))
theorem laws_toPlaced_main_link (S : SatT) (K : AVal → H → Prop) (x0 : List AVal) (h : H) : cwp S tab laws_toPlaced_M [] (bodyOf Try.f84) (kFun tab Try.f84.results.toList K) (fr0 Try.f84 [.agg x0]) h = laws_toPlaced_main S K x0 h := by kernel_rfl
theorem laws_toPlaced_call (x0 : List AVal) (h : H) (K : List AVal → H → Prop) (hm : laws_toPlaced_main (Sat Try.prog) (fun v h' => ∃ r, v = .agg r ∧ K r h') x0 h) : callA (Sat Try.prog) i_laws_toPlaced [.agg x0] h K := by
  have := Sat.ex tok mixed laws_toPlaced_M Try.func84 (c := bodyOf Try.f84) (by kernel_rfl) (calls_of Try.func84 (c := bodyOf Try.f84) (by kernel_rfl) (by decide)) ((laws_toPlaced_main_link _ _ x0 h).mpr hm)
  obtain ⟨v, h2, h3, r, rfl, h4⟩ := this; exact ⟨r, h2, h3, h4⟩

/-! ### slices.ContainsFunc[[]int64,int64] -/
def slices_ContainsFunc_s_int64_int64__M : Nat → List Nat := fun i => []
def slices_ContainsFunc_s_int64_int64__main (S : SatT) (K : AVal → H → Prop) (x0 : Sl) (x1 : AVal) (h : H) : Prop :=
 callI S .i64 i_slices_IndexFunc_s_int64_int64_ [.sl x0, x1] h fun n1 h0 =>
 K (.bool (decide (n1 ≥ (0)))) h0
theorem slices_ContainsFunc_s_int64_int64__main_link (S : SatT) (K : AVal → H → Prop) (x0 : Sl) (x1 : AVal) (h : H) : cwp S tab slices_ContainsFunc_s_int64_int64__M [] (bodyOf Try.f90) (kFun tab Try.f90.results.toList K) (fr0 Try.f90 [.sl x0, x1]) h = slices_ContainsFunc_s_int64_int64__main S K x0 x1 h := by kernel_rfl
theorem slices_ContainsFunc_s_int64_int64__call (x0 : Sl) (x1 : AVal) (h : H) (K : Bool → H → Prop) (hm : slices_ContainsFunc_s_int64_int64__main (Sat Try.prog) (fun v h' => ∃ r, v = .bool r ∧ K r h') x0 x1 h) : callB (Sat Try.prog) i_slices_ContainsFunc_s_int64_int64_ [.sl x0, x1] h K := by
  have := Sat.ex tok mixed slices_ContainsFunc_s_int64_int64__M Try.func90 (c := bodyOf Try.f90) (by kernel_rfl) (calls_of Try.func90 (c := bodyOf Try.f90) (by kernel_rfl) (by decide)) ((slices_ContainsFunc_s_int64_int64__main_link _ _ x0 x1 h).mpr hm)
  obtain ⟨v, h2, h3, r, rfl, h4⟩ := this; exact ⟨r, h2, h3, h4⟩

/-! ### loop.example/g01354/impl.TurnsOf -/
def impl_TurnsOf_M : Nat → List Nat := fun i => []
def impl_TurnsOf_main (S : SatT) (K : AVal → H → Prop) (x0 : List AVal) (h : H) : Prop :=
 newK 4 x0 h fun p0 h1 =>
 ldA p0 4 h1 fun cs2 =>
 lenA cs2 4 (
 newS 1 4 (spl [.int .i64 (0), .int .i64 (0), .int .i64 (0), .int .i64 (0)] 0 4 cs2) h1 fun s3 h4 =>
 callB S i_impl_areTiles [.sl s3] h4 fun b6 h5 =>
 bif (!b6) then
 K (.tuple [.sl Sl.nil, .int .i64 (2)]) h5
 else
 ldA p0 4 h5 fun cs7 =>
 callS S i_impl_Tile_turns [.agg cs7] h5 fun s9 h8 =>
 K (.tuple [.sl s9, .int .i64 (0)]) h8)
theorem impl_TurnsOf_main_link (S : SatT) (K : AVal → H → Prop) (x0 : List AVal) (h : H) : cwp S tab impl_TurnsOf_M [] (bodyOf Try.f16) (kFun tab Try.f16.results.toList K) (fr0 Try.f16 [.agg x0]) h = impl_TurnsOf_main S K x0 h := by kernel_rfl
theorem impl_TurnsOf_call (x0 : List AVal) (h : H) (K : AVal → H → Prop) (hm : impl_TurnsOf_main (Sat Try.prog) (fun v h' => K v h') x0 h) : callV (Sat Try.prog) i_impl_TurnsOf [.agg x0] h K := by
  have := Sat.ex tok mixed impl_TurnsOf_M Try.func16 (c := bodyOf Try.f16) (by kernel_rfl) (calls_of Try.func16 (c := bodyOf Try.f16) (by kernel_rfl) (by decide)) ((impl_TurnsOf_main_link _ _ x0 h).mpr hm)
  exact this

/-! ### loop.example/g01354/spec.IsBoard -/
def spec_IsBoard_M : Nat → List Nat := fun i => []
def spec_IsBoard_main (S : SatT) (K : AVal → H → Prop) (x0 : Sl) (x1 : Int) (x2 : Sl) (h : H) : Prop :=
 callI S .i64 i_spec_l07Sizes [.sl x0, .int .i64 x1, .sl x2] h fun n1 h0 =>
 bif (n1 != (0)) then
 K (.tuple [.bool false, .int .i64 n1]) h0
 else
 callB S i_spec_l07Is [.sl x0, .int .i64 x1, .sl x2] h0 fun b3 h2 =>
 K (.tuple [.bool b3, .int .i64 (0)]) h2
theorem spec_IsBoard_main_link (S : SatT) (K : AVal → H → Prop) (x0 : Sl) (x1 : Int) (x2 : Sl) (h : H) : cwp S tab spec_IsBoard_M [] (bodyOf Try.f37) (kFun tab Try.f37.results.toList K) (fr0 Try.f37 [.sl x0, .int .i64 x1, .sl x2]) h = spec_IsBoard_main S K x0 x1 x2 h := by kernel_rfl
theorem spec_IsBoard_call (x0 : Sl) (x1 : Int) (x2 : Sl) (h : H) (K : AVal → H → Prop) (hm : spec_IsBoard_main (Sat Try.prog) (fun v h' => K v h') x0 x1 x2 h) : callV (Sat Try.prog) i_spec_IsBoard [.sl x0, .int .i64 x1, .sl x2] h K := by
  have := Sat.ex tok mixed spec_IsBoard_M Try.func37 (c := bodyOf Try.f37) (by kernel_rfl) (calls_of Try.func37 (c := bodyOf Try.f37) (by kernel_rfl) (by decide)) ((spec_IsBoard_main_link _ _ x0 x1 x2 h).mpr hm)
  exact this

/-! ### loop.example/g01354/impl.CountBoards$1 -/
def impl_CountBoards_1_M : Nat → List Nat := fun i => []
def impl_CountBoards_1_main (S : SatT) (K : AVal → H → Prop) (x0 : Sl) (x1 : Pt) (h : H) : Prop :=
 ldI .i64 x1 h fun n0 =>
 st1 x1 (.int .i64 (w64 (n0 + (1)))) h fun h1 =>
 K (.bool true) h1
theorem impl_CountBoards_1_main_link (S : SatT) (K : AVal → H → Prop) (x0 : Sl) (x1 : Pt) (h : H) : cwp S tab impl_CountBoards_1_M [] (bodyOf Try.f58) (kFun tab Try.f58.results.toList K) (fr0 Try.f58 [.sl x0, .ptr x1]) h = impl_CountBoards_1_main S K x0 x1 h := by kernel_rfl
theorem impl_CountBoards_1_call (x0 : Sl) (x1 : Pt) (h : H) (K : Bool → H → Prop) (hm : impl_CountBoards_1_main (Sat Try.prog) (fun v h' => ∃ r, v = .bool r ∧ K r h') x0 x1 h) : callB (Sat Try.prog) i_impl_CountBoards_1 [.sl x0, .ptr x1] h K := by
  have := Sat.ex tok mixed impl_CountBoards_1_M Try.func58 (c := bodyOf Try.f58) (by kernel_rfl) (calls_of Try.func58 (c := bodyOf Try.f58) (by kernel_rfl) (by decide)) ((impl_CountBoards_1_main_link _ _ x0 x1 h).mpr hm)
  obtain ⟨v, h2, h3, r, rfl, h4⟩ := this; exact ⟨r, h2, h3, h4⟩

/-! ### loop.example/g01354/impl.areTiles -/
def impl_areTiles_M : Nat → List Nat := fun i => []
def impl_areTiles_main (S : SatT) (K : AVal → H → Prop) (x0 : Sl) (h : H) : Prop :=
 callB S i_slices_ContainsFunc_s_impl_Tile_impl_Tile_ [.sl x0, .func 74 []] h fun b1 h0 =>
 K (.bool (!b1)) h0
theorem impl_areTiles_main_link (S : SatT) (K : AVal → H → Prop) (x0 : Sl) (h : H) : cwp S tab impl_areTiles_M [] (bodyOf Try.f49) (kFun tab Try.f49.results.toList K) (fr0 Try.f49 [.sl x0]) h = impl_areTiles_main S K x0 h := by kernel_rfl
theorem impl_areTiles_call (x0 : Sl) (h : H) (K : Bool → H → Prop) (hm : impl_areTiles_main (Sat Try.prog) (fun v h' => ∃ r, v = .bool r ∧ K r h') x0 h) : callB (Sat Try.prog) i_impl_areTiles [.sl x0] h K := by
  have := Sat.ex tok mixed impl_areTiles_M Try.func49 (c := bodyOf Try.f49) (by kernel_rfl) (calls_of Try.func49 (c := bodyOf Try.f49) (by kernel_rfl) (by decide)) ((impl_areTiles_main_link _ _ x0 h).mpr hm)
  obtain ⟨v, h2, h3, r, rfl, h4⟩ := this; exact ⟨r, h2, h3, h4⟩

/-! ### cmp.isNaN[int64] -/
def cmp_isNaN_int64__M : Nat → List Nat := fun i => []
def cmp_isNaN_int64__main (S : SatT) (K : AVal → H → Prop) (x0 : Int) (h : H) : Prop :=
 K (.bool (x0 != x0)) h
theorem cmp_isNaN_int64__main_link (S : SatT) (K : AVal → H → Prop) (x0 : Int) (h : H) : cwp S tab cmp_isNaN_int64__M [] (bodyOf Try.f96) (kFun tab Try.f96.results.toList K) (fr0 Try.f96 [.int .i64 x0]) h = cmp_isNaN_int64__main S K x0 h := by kernel_rfl
theorem cmp_isNaN_int64__call (x0 : Int) (h : H) (K : Bool → H → Prop) (hm : cmp_isNaN_int64__main (Sat Try.prog) (fun v h' => ∃ r, v = .bool r ∧ K r h') x0 h) : callB (Sat Try.prog) i_cmp_isNaN_int64_ [.int .i64 x0] h K := by
  have := Sat.ex tok mixed cmp_isNaN_int64__M Try.func96 (c := bodyOf Try.f96) (by kernel_rfl) (calls_of Try.func96 (c := bodyOf Try.f96) (by kernel_rfl) (by decide)) ((cmp_isNaN_int64__main_link _ _ x0 h).mpr hm)
  obtain ⟨v, h2, h3, r, rfl, h4⟩ := this; exact ⟨r, h2, h3, h4⟩

/-! ### loop.example/g01354/spec.l07Is -/
def spec_l07Is_M : Nat → List Nat := fun i => bif i == 6 then [1, 7, 8, 10, 15, 16] else bif i == 4 then [1, 7, 8, 10, 15] else bif i == 2 then [0, 1, 2, 7, 8, 9, 10, 11, 12, 13] else bif i == 0 then [0, 1, 2, 7, 8, 9, 10, 11] else []
def spec_l07Is_ks6 (S : SatT) (K : AVal → H → Prop) : Kont := kSeq (cwp S tab spec_l07Is_M [] (sub [1, 1, 1, 1, 1] (bodyOf Try.f61)) (kFun tab (Try.f61).results.toList K)) (kFun tab (Try.f61).results.toList K)
def spec_l07Is_e0 (s0_ : Sl) (i1_ : Int) (s2_ : Sl) (i7_ : Int) (i8_ : Int) (s9_ : Sl) (s10_ : Sl) (i11_ : Int) : Frame := [.sl s0_, .int .i64 i1_, .sl s2_, U, U, U, U, .int .i64 i7_, .int .i64 i8_, .sl s9_, .sl s10_, .int .i64 i11_, U, U, U, U, U, U, U, U, U, U, U, U, U, U, U, U, U, U, U, U, U, U, U, U, U, U, U, U, U, U, U, U, U, U, U, U, U, U, U, U, U, U, U, U, U, U, U, U, U, U, U, U, U, U, U, U, U, U, U, U, U, U, U, U, U, U, U, U, U, U, U, U, U, U, U, U, U, U, U, U, U, U, U, U, U, U, U, U, U, U, U, U, U, U, U, U, U, U, U, U, U, U, U]
def spec_l07Is_w0 (S : SatT) (K : AVal → H → Prop) : (Frame → H → Prop) → Frame → H → Prop := fun X fr h => cwp S tab spec_l07Is_M (spec_l07Is_M 0) (sub [1, 1, 1, 1, 0, 1, 0, 0] (bodyOf Try.f61)) (kSeq (fun fr h => X (mask (spec_l07Is_M 0) fr) h) (kBlk 0 (spec_l07Is_ks6 S K))) fr h
def spec_l07Is_L0 (S : SatT) (K : AVal → H → Prop) (s0_ : Sl) (i1_ : Int) (s2_ : Sl) (i7_ : Int) (i8_ : Int) (s9_ : Sl) (s10_ : Sl) (i11_ : Int) (h : H) : Prop := loopK (spec_l07Is_w0 S K) (spec_l07Is_e0 s0_ i1_ s2_ i7_ i8_ s9_ s10_ i11_) h
def spec_l07Is_ks10 (S : SatT) (K : AVal → H → Prop) (X0 : Frame → H → Prop) : Kont := kSeq (cwp S tab spec_l07Is_M (spec_l07Is_M 0) (sub [1, 1, 1, 1, 0, 1, 0, 0, 1, 1] (bodyOf Try.f61)) (kSeq (fun fr h => X0 (mask (spec_l07Is_M 0) fr) h) (kBlk 0 (spec_l07Is_ks6 S K)))) (kSeq (fun fr h => X0 (mask (spec_l07Is_M 0) fr) h) (kBlk 0 (spec_l07Is_ks6 S K)))
def spec_l07Is_ks12 (S : SatT) (K : AVal → H → Prop) (X0 : Frame → H → Prop) : Kont := kSeq (cwp S tab spec_l07Is_M (spec_l07Is_M 1) (sub [1, 1, 1, 1, 0, 1, 0, 0, 1, 0, 0, 1, 1] (bodyOf Try.f61)) (kBlk 1 (spec_l07Is_ks10 S K X0))) (kBlk 1 (spec_l07Is_ks10 S K X0))
def spec_l07Is_e2 (s0_ : Sl) (i1_ : Int) (s2_ : Sl) (i7_ : Int) (i8_ : Int) (s9_ : Sl) (s10_ : Sl) (i11_ : Int) (s12_ : Sl) (i13_ : Int) : Frame := [.sl s0_, .int .i64 i1_, .sl s2_, U, U, U, U, .int .i64 i7_, .int .i64 i8_, .sl s9_, .sl s10_, .int .i64 i11_, .sl s12_, .int .i64 i13_, U, U, U, U, U, U, U, U, U, U, U, U, U, U, U, U, U, U, U, U, U, U, U, U, U, U, U, U, U, U, U, U, U, U, U, U, U, U, U, U, U, U, U, U, U, U, U, U, U, U, U, U, U, U, U, U, U, U, U, U, U, U, U, U, U, U, U, U, U, U, U, U, U, U, U, U, U, U, U, U, U, U, U, U, U, U, U, U, U, U, U, U, U, U, U, U, U, U, U, U, U]
def spec_l07Is_w2 (S : SatT) (K : AVal → H → Prop) (X0 : Frame → H → Prop) : (Frame → H → Prop) → Frame → H → Prop := fun X fr h => cwp S tab spec_l07Is_M (spec_l07Is_M 2) (sub [1, 1, 1, 1, 0, 1, 0, 0, 1, 0, 0, 1, 0, 1, 0, 0] (bodyOf Try.f61)) (kSeq (fun fr h => X (mask (spec_l07Is_M 2) fr) h) (kBlk 2 (spec_l07Is_ks12 S K X0))) fr h
def spec_l07Is_L2 (S : SatT) (K : AVal → H → Prop) (X0 : Frame → H → Prop) (s0_ : Sl) (i1_ : Int) (s2_ : Sl) (i7_ : Int) (i8_ : Int) (s9_ : Sl) (s10_ : Sl) (i11_ : Int) (s12_ : Sl) (i13_ : Int) (h : H) : Prop := loopK (spec_l07Is_w2 S K X0) (spec_l07Is_e2 s0_ i1_ s2_ i7_ i8_ s9_ s10_ i11_ s12_ i13_) h
def spec_l07Is_C1 (S : SatT) (K : AVal → H → Prop) (X0 : Frame → H → Prop) (s0_ : Sl) (i1_ : Int) (s2_ : Sl) (i7_ : Int) (i8_ : Int) (s9_ : Sl) (s10_ : Sl) (i11_ : Int) (h : H) : Prop :=
 X0 (spec_l07Is_e0 s0_ i1_ s2_ i7_ i8_ s9_ s10_ (w64 (i11_ + (1)))) h
def spec_l07Is_C2 (S : SatT) (K : AVal → H → Prop) (X0 : Frame → H → Prop) (s0_ : Sl) (i1_ : Int) (s2_ : Sl) (i7_ : Int) (i8_ : Int) (s9_ : Sl) (s10_ : Sl) (i11_ : Int) (s12_ : Sl) (h : H) : Prop :=
 newS 1 1 [.sl s12_] h fun s0 h1 =>
 app s10_ s0 1 h1 fun s2 h3 =>
 spec_l07Is_C1 S K X0 s0_ i1_ s2_ i7_ i8_ s9_ s2 i11_ h3
def spec_l07Is_b2 (S : SatT) (K : AVal → H → Prop) (X0 : Frame → H → Prop) (X2 : Frame → H → Prop) (s0_ : Sl) (i1_ : Int) (s2_ : Sl) (i7_ : Int) (i8_ : Int) (s9_ : Sl) (s10_ : Sl) (i11_ : Int) (s12_ : Sl) (i13_ : Int) (h : H) : Prop :=
 bif (decide (i13_ < i8_)) then
 ixS s2_ 1 i11_ fun p0 =>
 ldS p0 h fun s1 =>
 ixS s1 2 i13_ fun p2 =>
 ldA p2 2 h fun cs3 =>
 newO [.int .i64 (0), .int .i64 (0)] h fun p4 h5 =>
 stN p4 2 cs3 h5 fun h6 =>
 isPt p4 (
 ldI .i64 (Pt.add p4 0) h6 fun n7 =>
 callB S i_spec_l01In [.int .i64 n7, .int .i64 (0), .int .i64 (w64 ((s0_.len : Int) - (1)))] h6 fun b9 h8 =>
 bif (!b9) then
 K (.bool false) h8
 else
 isPt p4 (
 ldI .i64 (Pt.add p4 1) h8 fun n10 =>
 callB S i_spec_l01In [.int .i64 n10, .int .i64 (0), .int .i64 (3)] h8 fun b12 h11 =>
 bif (!b12) then
 K (.bool false) h11
 else
 isPt p4 (
 ldI .i64 (Pt.add p4 0) h11 fun n13 =>
 ixS s9_ 1 n13 fun p14 =>
 ldB p14 h11 fun b15 =>
 bif b15 then
 K (.bool false) h11
 else
 isPt p4 (
 ldI .i64 (Pt.add p4 0) h11 fun n16 =>
 ixS s9_ 1 n16 fun p17 =>
 st1 p17 (.bool true) h11 fun h18 =>
 isPt p4 (
 ldI .i64 (Pt.add p4 0) h18 fun n19 =>
 ixS s0_ 4 n19 fun p20 =>
 ldA p20 4 h18 fun cs21 =>
 isPt p4 (
 ldI .i64 (Pt.add p4 1) h18 fun n22 =>
 callA S i_spec_l07Turn [.agg cs21, .int .i64 n22] h18 fun cs24 h23 =>
 lenA cs24 4 (
 newS 1 4 (spl [.int .i64 (0), .int .i64 (0), .int .i64 (0), .int .i64 (0)] 0 4 cs24) h23 fun s25 h26 =>
 app s12_ s25 4 h26 fun s27 h28 =>
 X2 (spec_l07Is_e2 s0_ i1_ s2_ i7_ i8_ s9_ s10_ i11_ s27 (w64 (i13_ + (1)))) h28)))))))
 else
 spec_l07Is_C2 S K X0 s0_ i1_ s2_ i7_ i8_ s9_ s10_ i11_ s12_ h
theorem spec_l07Is_link2 (S : SatT) (K : AVal → H → Prop) (X0 : Frame → H → Prop) (X2 : Frame → H → Prop) (s0_ : Sl) (i1_ : Int) (s2_ : Sl) (i7_ : Int) (i8_ : Int) (s9_ : Sl) (s10_ : Sl) (i11_ : Int) (s12_ : Sl) (i13_ : Int) (h : H) : spec_l07Is_w2 S K X0 X2 (spec_l07Is_e2 s0_ i1_ s2_ i7_ i8_ s9_ s10_ i11_ s12_ i13_) h = spec_l07Is_b2 S K X0 X2 s0_ i1_ s2_ i7_ i8_ s9_ s10_ i11_ s12_ i13_ h := by kernel_rfl
theorem spec_l07Is_rule2 (S : SatT) (K : AVal → H → Prop) (X0 : Frame → H → Prop) (s0_ : Sl) (i1_ : Int) (s2_ : Sl) (i7_ : Int) (i8_ : Int) (s9_ : Sl) (s10_ : Sl) (i11_ : Int) (I_ : Sl → Int → H → Prop) (m_ : Sl → Int → H → Nat)
    (hs : ∀ (X2 : Frame → H → Prop) (s12_ : Sl) (i13_ : Int) (h : H), I_ s12_ i13_ h → (∀ (s12_' : Sl) (i13_' : Int) (h' : H), I_ s12_' i13_' h' → m_ s12_' i13_' h' < m_ s12_ i13_ h → X2 (spec_l07Is_e2 s0_ i1_ s2_ i7_ i8_ s9_ s10_ i11_ s12_' i13_') h') → spec_l07Is_b2 S K X0 X2 s0_ i1_ s2_ i7_ i8_ s9_ s10_ i11_ s12_ i13_ h) (s12_ : Sl) (i13_ : Int) {h : H} (h0 : I_ s12_ i13_ h) : spec_l07Is_L2 S K X0 s0_ i1_ s2_ i7_ i8_ s9_ s10_ i11_ s12_ i13_ h :=
  loop_rule (σ := (Sl) × (Int)) (fun s_ => spec_l07Is_e2 s0_ i1_ s2_ i7_ i8_ s9_ s10_ i11_ (s_.1) (s_.2)) (fun s_ h => I_ (s_.1) (s_.2) h) (fun s_ h => m_ (s_.1) (s_.2) h)
    (fun X s_ h hi hx => (spec_l07Is_link2 S K X0 X s0_ i1_ s2_ i7_ i8_ s9_ s10_ i11_ (s_.1) (s_.2) h).mpr (hs X (s_.1) (s_.2) h hi fun s12_' i13_' h' hi' hm' => hx (s12_', i13_') h' hi' hm')) (s12_, i13_) h0
theorem spec_l07Is_unroll2 (S : SatT) (K : AVal → H → Prop) (X0 : Frame → H → Prop) (s0_ : Sl) (i1_ : Int) (s2_ : Sl) (i7_ : Int) (i8_ : Int) (s9_ : Sl) (s10_ : Sl) (i11_ : Int) (s12_ : Sl) (i13_ : Int) (h : H) (hb : spec_l07Is_b2 S K X0 (fun fr h => loopK (spec_l07Is_w2 S K X0) fr h) s0_ i1_ s2_ i7_ i8_ s9_ s10_ i11_ s12_ i13_ h) : spec_l07Is_L2 S K X0 s0_ i1_ s2_ i7_ i8_ s9_ s10_ i11_ s12_ i13_ h := loop_unroll ((spec_l07Is_link2 S K X0 _ s0_ i1_ s2_ i7_ i8_ s9_ s10_ i11_ s12_ i13_ h).mpr hb)
def spec_l07Is_ks24 (S : SatT) (K : AVal → H → Prop) : Kont := kSeq (cwp S tab spec_l07Is_M [] (sub [1, 1, 1, 1, 1, 1] (bodyOf Try.f61)) (kFun tab (Try.f61).results.toList K)) (kFun tab (Try.f61).results.toList K)
def spec_l07Is_e4 (i1_ : Int) (i7_ : Int) (i8_ : Int) (s10_ : Sl) (i15_ : Int) : Frame := [U, .int .i64 i1_, U, U, U, U, U, .int .i64 i7_, .int .i64 i8_, U, .sl s10_, U, U, U, U, .int .i64 i15_, U, U, U, U, U, U, U, U, U, U, U, U, U, U, U, U, U, U, U, U, U, U, U, U, U, U, U, U, U, U, U, U, U, U, U, U, U, U, U, U, U, U, U, U, U, U, U, U, U, U, U, U, U, U, U, U, U, U, U, U, U, U, U, U, U, U, U, U, U, U, U, U, U, U, U, U, U, U, U, U, U, U, U, U, U, U, U, U, U, U, U, U, U, U, U, U, U, U, U]
def spec_l07Is_w4 (S : SatT) (K : AVal → H → Prop) : (Frame → H → Prop) → Frame → H → Prop := fun X fr h => cwp S tab spec_l07Is_M (spec_l07Is_M 4) (sub [1, 1, 1, 1, 1, 0, 1, 0, 0] (bodyOf Try.f61)) (kSeq (fun fr h => X (mask (spec_l07Is_M 4) fr) h) (kBlk 4 (spec_l07Is_ks24 S K))) fr h
def spec_l07Is_L4 (S : SatT) (K : AVal → H → Prop) (i1_ : Int) (i7_ : Int) (i8_ : Int) (s10_ : Sl) (i15_ : Int) (h : H) : Prop := loopK (spec_l07Is_w4 S K) (spec_l07Is_e4 i1_ i7_ i8_ s10_ i15_) h
def spec_l07Is_ks28 (S : SatT) (K : AVal → H → Prop) (X4 : Frame → H → Prop) : Kont := kSeq (cwp S tab spec_l07Is_M (spec_l07Is_M 4) (sub [1, 1, 1, 1, 1, 0, 1, 0, 0, 1, 1] (bodyOf Try.f61)) (kSeq (fun fr h => X4 (mask (spec_l07Is_M 4) fr) h) (kBlk 4 (spec_l07Is_ks24 S K)))) (kSeq (fun fr h => X4 (mask (spec_l07Is_M 4) fr) h) (kBlk 4 (spec_l07Is_ks24 S K)))
def spec_l07Is_e6 (i1_ : Int) (i7_ : Int) (i8_ : Int) (s10_ : Sl) (i15_ : Int) (i16_ : Int) : Frame := [U, .int .i64 i1_, U, U, U, U, U, .int .i64 i7_, .int .i64 i8_, U, .sl s10_, U, U, U, U, .int .i64 i15_, .int .i64 i16_, U, U, U, U, U, U, U, U, U, U, U, U, U, U, U, U, U, U, U, U, U, U, U, U, U, U, U, U, U, U, U, U, U, U, U, U, U, U, U, U, U, U, U, U, U, U, U, U, U, U, U, U, U, U, U, U, U, U, U, U, U, U, U, U, U, U, U, U, U, U, U, U, U, U, U, U, U, U, U, U, U, U, U, U, U, U, U, U, U, U, U, U, U, U, U, U, U, U]
def spec_l07Is_w6 (S : SatT) (K : AVal → H → Prop) (X4 : Frame → H → Prop) : (Frame → H → Prop) → Frame → H → Prop := fun X fr h => cwp S tab spec_l07Is_M (spec_l07Is_M 6) (sub [1, 1, 1, 1, 1, 0, 1, 0, 0, 1, 0, 0, 1, 0, 0] (bodyOf Try.f61)) (kSeq (fun fr h => X (mask (spec_l07Is_M 6) fr) h) (kBlk 6 (kBlk 5 (spec_l07Is_ks28 S K X4)))) fr h
def spec_l07Is_L6 (S : SatT) (K : AVal → H → Prop) (X4 : Frame → H → Prop) (i1_ : Int) (i7_ : Int) (i8_ : Int) (s10_ : Sl) (i15_ : Int) (i16_ : Int) (h : H) : Prop := loopK (spec_l07Is_w6 S K X4) (spec_l07Is_e6 i1_ i7_ i8_ s10_ i15_ i16_) h
def spec_l07Is_C5 (S : SatT) (K : AVal → H → Prop) (X4 : Frame → H → Prop) (i1_ : Int) (i7_ : Int) (i8_ : Int) (s10_ : Sl) (i15_ : Int) (h : H) : Prop :=
 X4 (spec_l07Is_e4 i1_ i7_ i8_ s10_ (w64 (i15_ + (1)))) h
def spec_l07Is_C6 (S : SatT) (K : AVal → H → Prop) (X4 : Frame → H → Prop) (i1_ : Int) (i7_ : Int) (i8_ : Int) (s10_ : Sl) (i15_ : Int) (h : H) : Prop :=
 spec_l07Is_C5 S K X4 i1_ i7_ i8_ s10_ i15_ h
def spec_l07Is_b6 (S : SatT) (K : AVal → H → Prop) (X4 : Frame → H → Prop) (X6 : Frame → H → Prop) (i1_ : Int) (i7_ : Int) (i8_ : Int) (s10_ : Sl) (i15_ : Int) (i16_ : Int) (h : H) : Prop :=
 bif (decide (i16_ < i8_)) then
 ixS s10_ 1 i15_ fun p0 =>
 ldS p0 h fun s1 =>
 ixS s1 4 i16_ fun p2 =>
 ldA p2 4 h fun cs3 =>
 callB S i_spec_l07Fits [.sl s10_, .int .i64 i1_, .int .i64 i15_, .int .i64 i16_, .int .i64 i7_, .int .i64 i8_, .agg cs3] h fun b5 h4 =>
 bif (!b5) then
 K (.bool false) h4
 else
 X6 (spec_l07Is_e6 i1_ i7_ i8_ s10_ i15_ (w64 (i16_ + (1)))) h4
 else
 spec_l07Is_C6 S K X4 i1_ i7_ i8_ s10_ i15_ h
theorem spec_l07Is_link6 (S : SatT) (K : AVal → H → Prop) (X4 : Frame → H → Prop) (X6 : Frame → H → Prop) (i1_ : Int) (i7_ : Int) (i8_ : Int) (s10_ : Sl) (i15_ : Int) (i16_ : Int) (h : H) : spec_l07Is_w6 S K X4 X6 (spec_l07Is_e6 i1_ i7_ i8_ s10_ i15_ i16_) h = spec_l07Is_b6 S K X4 X6 i1_ i7_ i8_ s10_ i15_ i16_ h := by kernel_rfl
theorem spec_l07Is_rule6 (S : SatT) (K : AVal → H → Prop) (X4 : Frame → H → Prop) (i1_ : Int) (i7_ : Int) (i8_ : Int) (s10_ : Sl) (i15_ : Int) (I_ : Int → H → Prop) (m_ : Int → H → Nat)
    (hs : ∀ (X6 : Frame → H → Prop) (i16_ : Int) (h : H), I_ i16_ h → (∀ (i16_' : Int) (h' : H), I_ i16_' h' → m_ i16_' h' < m_ i16_ h → X6 (spec_l07Is_e6 i1_ i7_ i8_ s10_ i15_ i16_') h') → spec_l07Is_b6 S K X4 X6 i1_ i7_ i8_ s10_ i15_ i16_ h) (i16_ : Int) {h : H} (h0 : I_ i16_ h) : spec_l07Is_L6 S K X4 i1_ i7_ i8_ s10_ i15_ i16_ h :=
  loop_rule (σ := (Int)) (fun s_ => spec_l07Is_e6 i1_ i7_ i8_ s10_ i15_ (s_)) (fun s_ h => I_ (s_) h) (fun s_ h => m_ (s_) h)
    (fun X s_ h hi hx => (spec_l07Is_link6 S K X4 X i1_ i7_ i8_ s10_ i15_ (s_) h).mpr (hs X (s_) h hi fun i16_' h' hi' hm' => hx (i16_') h' hi' hm')) (i16_) h0
theorem spec_l07Is_unroll6 (S : SatT) (K : AVal → H → Prop) (X4 : Frame → H → Prop) (i1_ : Int) (i7_ : Int) (i8_ : Int) (s10_ : Sl) (i15_ : Int) (i16_ : Int) (h : H) (hb : spec_l07Is_b6 S K X4 (fun fr h => loopK (spec_l07Is_w6 S K X4) fr h) i1_ i7_ i8_ s10_ i15_ i16_ h) : spec_l07Is_L6 S K X4 i1_ i7_ i8_ s10_ i15_ i16_ h := loop_unroll ((spec_l07Is_link6 S K X4 _ i1_ i7_ i8_ s10_ i15_ i16_ h).mpr hb)
def spec_l07Is_C4 (S : SatT) (K : AVal → H → Prop) (h : H) : Prop :=
 K (.bool true) h
def spec_l07Is_b4 (S : SatT) (K : AVal → H → Prop) (X4 : Frame → H → Prop) (i1_ : Int) (i7_ : Int) (i8_ : Int) (s10_ : Sl) (i15_ : Int) (h : H) : Prop :=
 bif (decide (i15_ < i7_)) then
 spec_l07Is_L6 S K X4 i1_ i7_ i8_ s10_ i15_ (0) h
 else
 spec_l07Is_C4 S K h
theorem spec_l07Is_link4 (S : SatT) (K : AVal → H → Prop) (X4 : Frame → H → Prop) (i1_ : Int) (i7_ : Int) (i8_ : Int) (s10_ : Sl) (i15_ : Int) (h : H) : spec_l07Is_w4 S K X4 (spec_l07Is_e4 i1_ i7_ i8_ s10_ i15_) h = spec_l07Is_b4 S K X4 i1_ i7_ i8_ s10_ i15_ h := by kernel_rfl
theorem spec_l07Is_rule4 (S : SatT) (K : AVal → H → Prop) (i1_ : Int) (i7_ : Int) (i8_ : Int) (s10_ : Sl) (I_ : Int → H → Prop) (m_ : Int → H → Nat)
    (hs : ∀ (X4 : Frame → H → Prop) (i15_ : Int) (h : H), I_ i15_ h → (∀ (i15_' : Int) (h' : H), I_ i15_' h' → m_ i15_' h' < m_ i15_ h → X4 (spec_l07Is_e4 i1_ i7_ i8_ s10_ i15_') h') → spec_l07Is_b4 S K X4 i1_ i7_ i8_ s10_ i15_ h) (i15_ : Int) {h : H} (h0 : I_ i15_ h) : spec_l07Is_L4 S K i1_ i7_ i8_ s10_ i15_ h :=
  loop_rule (σ := (Int)) (fun s_ => spec_l07Is_e4 i1_ i7_ i8_ s10_ (s_)) (fun s_ h => I_ (s_) h) (fun s_ h => m_ (s_) h)
    (fun X s_ h hi hx => (spec_l07Is_link4 S K X i1_ i7_ i8_ s10_ (s_) h).mpr (hs X (s_) h hi fun i15_' h' hi' hm' => hx (i15_') h' hi' hm')) (i15_) h0
theorem spec_l07Is_unroll4 (S : SatT) (K : AVal → H → Prop) (i1_ : Int) (i7_ : Int) (i8_ : Int) (s10_ : Sl) (i15_ : Int) (h : H) (hb : spec_l07Is_b4 S K (fun fr h => loopK (spec_l07Is_w4 S K) fr h) i1_ i7_ i8_ s10_ i15_ h) : spec_l07Is_L4 S K i1_ i7_ i8_ s10_ i15_ h := loop_unroll ((spec_l07Is_link4 S K _ i1_ i7_ i8_ s10_ i15_ h).mpr hb)
def spec_l07Is_C0 (S : SatT) (K : AVal → H → Prop) (i1_ : Int) (i7_ : Int) (i8_ : Int) (s10_ : Sl) (h : H) : Prop :=
 spec_l07Is_L4 S K i1_ i7_ i8_ s10_ (0) h
def spec_l07Is_b0 (S : SatT) (K : AVal → H → Prop) (X0 : Frame → H → Prop) (s0_ : Sl) (i1_ : Int) (s2_ : Sl) (i7_ : Int) (i8_ : Int) (s9_ : Sl) (s10_ : Sl) (i11_ : Int) (h : H) : Prop :=
 bif (decide (i11_ < i7_)) then
 newS 0 4 [] h fun s0 h1 =>
 spec_l07Is_L2 S K X0 s0_ i1_ s2_ i7_ i8_ s9_ s10_ i11_ s0 (0) h1
 else
 spec_l07Is_C0 S K i1_ i7_ i8_ s10_ h
theorem spec_l07Is_link0 (S : SatT) (K : AVal → H → Prop) (X0 : Frame → H → Prop) (s0_ : Sl) (i1_ : Int) (s2_ : Sl) (i7_ : Int) (i8_ : Int) (s9_ : Sl) (s10_ : Sl) (i11_ : Int) (h : H) : spec_l07Is_w0 S K X0 (spec_l07Is_e0 s0_ i1_ s2_ i7_ i8_ s9_ s10_ i11_) h = spec_l07Is_b0 S K X0 s0_ i1_ s2_ i7_ i8_ s9_ s10_ i11_ h := by kernel_rfl
theorem spec_l07Is_rule0 (S : SatT) (K : AVal → H → Prop) (s0_ : Sl) (i1_ : Int) (s2_ : Sl) (i7_ : Int) (i8_ : Int) (s9_ : Sl) (I_ : Sl → Int → H → Prop) (m_ : Sl → Int → H → Nat)
    (hs : ∀ (X0 : Frame → H → Prop) (s10_ : Sl) (i11_ : Int) (h : H), I_ s10_ i11_ h → (∀ (s10_' : Sl) (i11_' : Int) (h' : H), I_ s10_' i11_' h' → m_ s10_' i11_' h' < m_ s10_ i11_ h → X0 (spec_l07Is_e0 s0_ i1_ s2_ i7_ i8_ s9_ s10_' i11_') h') → spec_l07Is_b0 S K X0 s0_ i1_ s2_ i7_ i8_ s9_ s10_ i11_ h) (s10_ : Sl) (i11_ : Int) {h : H} (h0 : I_ s10_ i11_ h) : spec_l07Is_L0 S K s0_ i1_ s2_ i7_ i8_ s9_ s10_ i11_ h :=
  loop_rule (σ := (Sl) × (Int)) (fun s_ => spec_l07Is_e0 s0_ i1_ s2_ i7_ i8_ s9_ (s_.1) (s_.2)) (fun s_ h => I_ (s_.1) (s_.2) h) (fun s_ h => m_ (s_.1) (s_.2) h)
    (fun X s_ h hi hx => (spec_l07Is_link0 S K X s0_ i1_ s2_ i7_ i8_ s9_ (s_.1) (s_.2) h).mpr (hs X (s_.1) (s_.2) h hi fun s10_' i11_' h' hi' hm' => hx (s10_', i11_') h' hi' hm')) (s10_, i11_) h0
theorem spec_l07Is_unroll0 (S : SatT) (K : AVal → H → Prop) (s0_ : Sl) (i1_ : Int) (s2_ : Sl) (i7_ : Int) (i8_ : Int) (s9_ : Sl) (s10_ : Sl) (i11_ : Int) (h : H) (hb : spec_l07Is_b0 S K (fun fr h => loopK (spec_l07Is_w0 S K) fr h) s0_ i1_ s2_ i7_ i8_ s9_ s10_ i11_ h) : spec_l07Is_L0 S K s0_ i1_ s2_ i7_ i8_ s9_ s10_ i11_ h := loop_unroll ((spec_l07Is_link0 S K _ s0_ i1_ s2_ i7_ i8_ s9_ s10_ i11_ h).mpr hb)
def spec_l07Is_main (S : SatT) (K : AVal → H → Prop) (x0 : Sl) (x1 : Int) (x2 : Sl) (h : H) : Prop :=
 ixS x2 1 (0) fun p0 =>
 ldS p0 h fun s1 =>
 bif ((w64 ((x2.len : Int) * (s1.len : Int))) != (x0.len : Int)) then
 K (.bool false) h
 else
 mkS (x0.len : Int) [.bool false] h fun s2 h3 =>
 newS 0 1 [] h3 fun s4 h5 =>
 spec_l07Is_L0 S K x0 x1 x2 (x2.len : Int) (s1.len : Int) s2 s4 (0) h5
theorem spec_l07Is_main_link (S : SatT) (K : AVal → H → Prop) (x0 : Sl) (x1 : Int) (x2 : Sl) (h : H) : cwp S tab spec_l07Is_M [] (bodyOf Try.f61) (kFun tab Try.f61.results.toList K) (fr0 Try.f61 [.sl x0, .int .i64 x1, .sl x2]) h = spec_l07Is_main S K x0 x1 x2 h := by kernel_rfl
theorem spec_l07Is_call (x0 : Sl) (x1 : Int) (x2 : Sl) (h : H) (K : Bool → H → Prop) (hm : spec_l07Is_main (Sat Try.prog) (fun v h' => ∃ r, v = .bool r ∧ K r h') x0 x1 x2 h) : callB (Sat Try.prog) i_spec_l07Is [.sl x0, .int .i64 x1, .sl x2] h K := by
  have := Sat.ex tok mixed spec_l07Is_M Try.func61 (c := bodyOf Try.f61) (by kernel_rfl) (calls_of Try.func61 (c := bodyOf Try.f61) (by kernel_rfl) (by decide)) ((spec_l07Is_main_link _ _ x0 x1 x2 h).mpr hm)
  obtain ⟨v, h2, h3, r, rfl, h4⟩ := this; exact ⟨r, h2, h3, h4⟩

/-! ### loop.example/g01354/spec.CountBoards -/
def spec_CountBoards_M : Nat → List Nat := fun i => bif i == 0 then [0, 1, 2, 3, 11, 12] else []
def spec_CountBoards_ks6 (S : SatT) (K : AVal → H → Prop) : Kont := kSeq (cwp S tab spec_CountBoards_M [] (sub [1, 1, 1, 1] (bodyOf Try.f34)) (kFun tab (Try.f34).results.toList K)) (kFun tab (Try.f34).results.toList K)
def spec_CountBoards_e0 (s0_ : Sl) (i1_ : Int) (i2_ : Int) (i3_ : Int) (s11_ : Sl) (i12_ : Int) : Frame := [.sl s0_, .int .i64 i1_, .int .i64 i2_, .int .i64 i3_, U, U, U, U, U, U, U, .sl s11_, .int .i64 i12_, U, U, U, U, U, U, U, U, U, U, U, U, U, U, U, U, U, U, U, U, U, U, U, U, U]
def spec_CountBoards_w0 (S : SatT) (K : AVal → H → Prop) : (Frame → H → Prop) → Frame → H → Prop := fun X fr h => cwp S tab spec_CountBoards_M (spec_CountBoards_M 0) (sub [1, 1, 1, 0, 1, 0, 0] (bodyOf Try.f34)) (kSeq (fun fr h => X (mask (spec_CountBoards_M 0) fr) h) (kBlk 0 (spec_CountBoards_ks6 S K))) fr h
def spec_CountBoards_L0 (S : SatT) (K : AVal → H → Prop) (s0_ : Sl) (i1_ : Int) (i2_ : Int) (i3_ : Int) (s11_ : Sl) (i12_ : Int) (h : H) : Prop := loopK (spec_CountBoards_w0 S K) (spec_CountBoards_e0 s0_ i1_ i2_ i3_ s11_ i12_) h
def spec_CountBoards_C0 (S : SatT) (K : AVal → H → Prop) (s0_ : Sl) (i1_ : Int) (i2_ : Int) (i3_ : Int) (s11_ : Sl) (h : H) : Prop :=
 callI S .i64 i_spec_l07Number [.sl s0_, .int .i64 i1_, .int .i64 i2_, .int .i64 i3_, .int .i64 (0), .int .i64 (0), .sl s11_] h fun n1 h0 =>
 K (.tuple [.int .i64 n1, .int .i64 (0)]) h0
def spec_CountBoards_b0 (S : SatT) (K : AVal → H → Prop) (X0 : Frame → H → Prop) (s0_ : Sl) (i1_ : Int) (i2_ : Int) (i3_ : Int) (s11_ : Sl) (i12_ : Int) (h : H) : Prop :=
 bif (decide (i12_ < i2_)) then
 mkS i3_ [.int .i64 (0), .int .i64 (0), .int .i64 (0), .int .i64 (0)] h fun s0 h1 =>
 newS 1 1 [.sl s0] h1 fun s2 h3 =>
 app s11_ s2 1 h3 fun s4 h5 =>
 X0 (spec_CountBoards_e0 s0_ i1_ i2_ i3_ s4 (w64 (i12_ + (1)))) h5
 else
 spec_CountBoards_C0 S K s0_ i1_ i2_ i3_ s11_ h
theorem spec_CountBoards_link0 (S : SatT) (K : AVal → H → Prop) (X0 : Frame → H → Prop) (s0_ : Sl) (i1_ : Int) (i2_ : Int) (i3_ : Int) (s11_ : Sl) (i12_ : Int) (h : H) : spec_CountBoards_w0 S K X0 (spec_CountBoards_e0 s0_ i1_ i2_ i3_ s11_ i12_) h = spec_CountBoards_b0 S K X0 s0_ i1_ i2_ i3_ s11_ i12_ h := by kernel_rfl
theorem spec_CountBoards_rule0 (S : SatT) (K : AVal → H → Prop) (s0_ : Sl) (i1_ : Int) (i2_ : Int) (i3_ : Int) (I_ : Sl → Int → H → Prop) (m_ : Sl → Int → H → Nat)
    (hs : ∀ (X0 : Frame → H → Prop) (s11_ : Sl) (i12_ : Int) (h : H), I_ s11_ i12_ h → (∀ (s11_' : Sl) (i12_' : Int) (h' : H), I_ s11_' i12_' h' → m_ s11_' i12_' h' < m_ s11_ i12_ h → X0 (spec_CountBoards_e0 s0_ i1_ i2_ i3_ s11_' i12_') h') → spec_CountBoards_b0 S K X0 s0_ i1_ i2_ i3_ s11_ i12_ h) (s11_ : Sl) (i12_ : Int) {h : H} (h0 : I_ s11_ i12_ h) : spec_CountBoards_L0 S K s0_ i1_ i2_ i3_ s11_ i12_ h :=
  loop_rule (σ := (Sl) × (Int)) (fun s_ => spec_CountBoards_e0 s0_ i1_ i2_ i3_ (s_.1) (s_.2)) (fun s_ h => I_ (s_.1) (s_.2) h) (fun s_ h => m_ (s_.1) (s_.2) h)
    (fun X s_ h hi hx => (spec_CountBoards_link0 S K X s0_ i1_ i2_ i3_ (s_.1) (s_.2) h).mpr (hs X (s_.1) (s_.2) h hi fun s11_' i12_' h' hi' hm' => hx (s11_', i12_') h' hi' hm')) (s11_, i12_) h0
theorem spec_CountBoards_unroll0 (S : SatT) (K : AVal → H → Prop) (s0_ : Sl) (i1_ : Int) (i2_ : Int) (i3_ : Int) (s11_ : Sl) (i12_ : Int) (h : H) (hb : spec_CountBoards_b0 S K (fun fr h => loopK (spec_CountBoards_w0 S K) fr h) s0_ i1_ i2_ i3_ s11_ i12_ h) : spec_CountBoards_L0 S K s0_ i1_ i2_ i3_ s11_ i12_ h := loop_unroll ((spec_CountBoards_link0 S K _ s0_ i1_ i2_ i3_ s11_ i12_ h).mpr hb)
def spec_CountBoards_main (S : SatT) (K : AVal → H → Prop) (x0 : Sl) (x1 : Int) (x2 : Int) (x3 : Int) (h : H) : Prop :=
 callI S .i64 i_spec_l07Board [.sl x0, .int .i64 x1, .int .i64 x2, .int .i64 x3] h fun n1 h0 =>
 bif (n1 != (0)) then
 K (.tuple [.int .i64 (0), .int .i64 n1]) h0
 else
 newS 0 1 [] h0 fun s2 h3 =>
 spec_CountBoards_L0 S K x0 x1 x2 x3 s2 (0) h3
theorem spec_CountBoards_main_link (S : SatT) (K : AVal → H → Prop) (x0 : Sl) (x1 : Int) (x2 : Int) (x3 : Int) (h : H) : cwp S tab spec_CountBoards_M [] (bodyOf Try.f34) (kFun tab Try.f34.results.toList K) (fr0 Try.f34 [.sl x0, .int .i64 x1, .int .i64 x2, .int .i64 x3]) h = spec_CountBoards_main S K x0 x1 x2 x3 h := by kernel_rfl
theorem spec_CountBoards_call (x0 : Sl) (x1 : Int) (x2 : Int) (x3 : Int) (h : H) (K : AVal → H → Prop) (hm : spec_CountBoards_main (Sat Try.prog) (fun v h' => K v h') x0 x1 x2 x3 h) : callV (Sat Try.prog) i_spec_CountBoards [.sl x0, .int .i64 x1, .int .i64 x2, .int .i64 x3] h K := by
  have := Sat.ex tok mixed spec_CountBoards_M Try.func34 (c := bodyOf Try.f34) (by kernel_rfl) (calls_of Try.func34 (c := bodyOf Try.f34) (by kernel_rfl) (by decide)) ((spec_CountBoards_main_link _ _ x0 x1 x2 x3 h).mpr hm)
  exact this

/-! ### loop.example/g01354/spec.l07Find -/
def spec_l07Find_M : Nat → List Nat := fun i => bif i == 0 then [0, 1, 2, 3, 4, 11, 12] else []
def spec_l07Find_ks2 (S : SatT) (K : AVal → H → Prop) : Kont := kSeq (cwp S tab spec_l07Find_M [] (sub [1, 1, 1] (bodyOf Try.f67)) (kFun tab (Try.f67).results.toList K)) (kFun tab (Try.f67).results.toList K)
def spec_l07Find_e0 (s0_ : Sl) (i1_ : Int) (i2_ : Int) (i3_ : Int) (i4_ : Int) (s11_ : Sl) (i12_ : Int) : Frame := [.sl s0_, .int .i64 i1_, .int .i64 i2_, .int .i64 i3_, .int .i64 i4_, U, U, U, U, U, U, .sl s11_, .int .i64 i12_, U, U, U, U, U, U, U, U, U, U, U, U, U, U, U, U, U, U, U]
def spec_l07Find_w0 (S : SatT) (K : AVal → H → Prop) : (Frame → H → Prop) → Frame → H → Prop := fun X fr h => cwp S tab spec_l07Find_M (spec_l07Find_M 0) (sub [1, 1, 0, 1, 0, 0] (bodyOf Try.f67)) (kSeq (fun fr h => X (mask (spec_l07Find_M 0) fr) h) (kBlk 0 (spec_l07Find_ks2 S K))) fr h
def spec_l07Find_L0 (S : SatT) (K : AVal → H → Prop) (s0_ : Sl) (i1_ : Int) (i2_ : Int) (i3_ : Int) (i4_ : Int) (s11_ : Sl) (i12_ : Int) (h : H) : Prop := loopK (spec_l07Find_w0 S K) (spec_l07Find_e0 s0_ i1_ i2_ i3_ i4_ s11_ i12_) h
def spec_l07Find_C0 (S : SatT) (K : AVal → H → Prop) (s0_ : Sl) (i1_ : Int) (i2_ : Int) (i3_ : Int) (i4_ : Int) (s11_ : Sl) (h : H) : Prop :=
 newS 0 2 [] h fun s0 h1 =>
 callS S i_spec_l07Search [.sl s0_, .int .i64 i1_, .int .i64 i2_, .int .i64 i3_, .sl s0, .sl s11_, .int .i64 i4_] h1 fun s3 h2 =>
 K (.sl s3) h2
def spec_l07Find_b0 (S : SatT) (K : AVal → H → Prop) (X0 : Frame → H → Prop) (s0_ : Sl) (i1_ : Int) (i2_ : Int) (i3_ : Int) (i4_ : Int) (s11_ : Sl) (i12_ : Int) (h : H) : Prop :=
 bif (decide (i12_ < i2_)) then
 mkS i3_ [.int .i64 (0), .int .i64 (0), .int .i64 (0), .int .i64 (0)] h fun s0 h1 =>
 newS 1 1 [.sl s0] h1 fun s2 h3 =>
 app s11_ s2 1 h3 fun s4 h5 =>
 X0 (spec_l07Find_e0 s0_ i1_ i2_ i3_ i4_ s4 (w64 (i12_ + (1)))) h5
 else
 spec_l07Find_C0 S K s0_ i1_ i2_ i3_ i4_ s11_ h
theorem spec_l07Find_link0 (S : SatT) (K : AVal → H → Prop) (X0 : Frame → H → Prop) (s0_ : Sl) (i1_ : Int) (i2_ : Int) (i3_ : Int) (i4_ : Int) (s11_ : Sl) (i12_ : Int) (h : H) : spec_l07Find_w0 S K X0 (spec_l07Find_e0 s0_ i1_ i2_ i3_ i4_ s11_ i12_) h = spec_l07Find_b0 S K X0 s0_ i1_ i2_ i3_ i4_ s11_ i12_ h := by kernel_rfl
theorem spec_l07Find_rule0 (S : SatT) (K : AVal → H → Prop) (s0_ : Sl) (i1_ : Int) (i2_ : Int) (i3_ : Int) (i4_ : Int) (I_ : Sl → Int → H → Prop) (m_ : Sl → Int → H → Nat)
    (hs : ∀ (X0 : Frame → H → Prop) (s11_ : Sl) (i12_ : Int) (h : H), I_ s11_ i12_ h → (∀ (s11_' : Sl) (i12_' : Int) (h' : H), I_ s11_' i12_' h' → m_ s11_' i12_' h' < m_ s11_ i12_ h → X0 (spec_l07Find_e0 s0_ i1_ i2_ i3_ i4_ s11_' i12_') h') → spec_l07Find_b0 S K X0 s0_ i1_ i2_ i3_ i4_ s11_ i12_ h) (s11_ : Sl) (i12_ : Int) {h : H} (h0 : I_ s11_ i12_ h) : spec_l07Find_L0 S K s0_ i1_ i2_ i3_ i4_ s11_ i12_ h :=
  loop_rule (σ := (Sl) × (Int)) (fun s_ => spec_l07Find_e0 s0_ i1_ i2_ i3_ i4_ (s_.1) (s_.2)) (fun s_ h => I_ (s_.1) (s_.2) h) (fun s_ h => m_ (s_.1) (s_.2) h)
    (fun X s_ h hi hx => (spec_l07Find_link0 S K X s0_ i1_ i2_ i3_ i4_ (s_.1) (s_.2) h).mpr (hs X (s_.1) (s_.2) h hi fun s11_' i12_' h' hi' hm' => hx (s11_', i12_') h' hi' hm')) (s11_, i12_) h0
theorem spec_l07Find_unroll0 (S : SatT) (K : AVal → H → Prop) (s0_ : Sl) (i1_ : Int) (i2_ : Int) (i3_ : Int) (i4_ : Int) (s11_ : Sl) (i12_ : Int) (h : H) (hb : spec_l07Find_b0 S K (fun fr h => loopK (spec_l07Find_w0 S K) fr h) s0_ i1_ i2_ i3_ i4_ s11_ i12_ h) : spec_l07Find_L0 S K s0_ i1_ i2_ i3_ i4_ s11_ i12_ h := loop_unroll ((spec_l07Find_link0 S K _ s0_ i1_ i2_ i3_ i4_ s11_ i12_ h).mpr hb)
def spec_l07Find_main (S : SatT) (K : AVal → H → Prop) (x0 : Sl) (x1 : Int) (x2 : Int) (x3 : Int) (x4 : Int) (h : H) : Prop :=
 newS 0 1 [] h fun s0 h1 =>
 spec_l07Find_L0 S K x0 x1 x2 x3 x4 s0 (0) h1
theorem spec_l07Find_main_link (S : SatT) (K : AVal → H → Prop) (x0 : Sl) (x1 : Int) (x2 : Int) (x3 : Int) (x4 : Int) (h : H) : cwp S tab spec_l07Find_M [] (bodyOf Try.f67) (kFun tab Try.f67.results.toList K) (fr0 Try.f67 [.sl x0, .int .i64 x1, .int .i64 x2, .int .i64 x3, .int .i64 x4]) h = spec_l07Find_main S K x0 x1 x2 x3 x4 h := by kernel_rfl
theorem spec_l07Find_call (x0 : Sl) (x1 : Int) (x2 : Int) (x3 : Int) (x4 : Int) (h : H) (K : Sl → H → Prop) (hm : spec_l07Find_main (Sat Try.prog) (fun v h' => ∃ r, v = .sl r ∧ K r h') x0 x1 x2 x3 x4 h) : callS (Sat Try.prog) i_spec_l07Find [.sl x0, .int .i64 x1, .int .i64 x2, .int .i64 x3, .int .i64 x4] h K := by
  have := Sat.ex tok mixed spec_l07Find_M Try.func67 (c := bodyOf Try.f67) (by kernel_rfl) (calls_of Try.func67 (c := bodyOf Try.f67) (by kernel_rfl) (by decide)) ((spec_l07Find_main_link _ _ x0 x1 x2 x3 x4 h).mpr hm)
  obtain ⟨v, h2, h3, r, rfl, h4⟩ := this; exact ⟨r, h2, h3, h4⟩

/-! ### loop.example/g01354/spec.l07Class -/
def spec_l07Class_M : Nat → List Nat := fun i => bif i == 0 then [1, 2, 3, 4] else []
def spec_l07Class_ks2 (S : SatT) (K : AVal → H → Prop) : Kont := kSeq (cwp S tab spec_l07Class_M [] (sub [1, 1, 1] (bodyOf Try.f51)) (kFun tab (Try.f51).results.toList K)) (kFun tab (Try.f51).results.toList K)
def spec_l07Class_e0 (p1_ : Pt) (p2_ : Pt) (p3_ : Pt) (i4_ : Int) : Frame := [U, .ptr p1_, .ptr p2_, .ptr p3_, .int .i64 i4_, U, U, U, U, U, U, U, U, U, U, U, U, U, U]
def spec_l07Class_w0 (S : SatT) (K : AVal → H → Prop) : (Frame → H → Prop) → Frame → H → Prop := fun X fr h => cwp S tab spec_l07Class_M (spec_l07Class_M 0) (sub [1, 1, 0, 1, 0, 0] (bodyOf Try.f51)) (kSeq (fun fr h => X (mask (spec_l07Class_M 0) fr) h) (kBlk 0 (spec_l07Class_ks2 S K))) fr h
def spec_l07Class_L0 (S : SatT) (K : AVal → H → Prop) (p1_ : Pt) (p2_ : Pt) (p3_ : Pt) (i4_ : Int) (h : H) : Prop := loopK (spec_l07Class_w0 S K) (spec_l07Class_e0 p1_ p2_ p3_ i4_) h
def spec_l07Class_C0 (S : SatT) (K : AVal → H → Prop) (p2_ : Pt) (p3_ : Pt) (h : H) : Prop :=
 ldA p3_ 4 h fun cs0 =>
 stN p2_ 4 cs0 h fun h1 =>
 ldA p2_ 4 h1 fun cs2 =>
 K (.agg cs2) h1
def spec_l07Class_b0 (S : SatT) (K : AVal → H → Prop) (X0 : Frame → H → Prop) (p1_ : Pt) (p2_ : Pt) (p3_ : Pt) (i4_ : Int) (h : H) : Prop :=
 bif (decide (i4_ < (4))) then
 ldA p1_ 4 h fun cs0 =>
 callA S i_spec_l07Turn [.agg cs0, .int .i64 i4_] h fun cs2 h1 =>
 newO [.int .i64 (0), .int .i64 (0), .int .i64 (0), .int .i64 (0)] h1 fun p3 h4 =>
 stN p3 4 cs2 h4 fun h5 =>
 ldA p3 4 h5 fun cs6 =>
 ldA p3_ 4 h5 fun cs7 =>
 callB S i_spec_l01Before [.agg cs6, .agg cs7] h5 fun b9 h8 =>
 bif b9 then
 ldA p3 4 h8 fun cs10 =>
 stN p3_ 4 cs10 h8 fun h11 =>
 X0 (spec_l07Class_e0 p1_ p2_ p3_ (w64 (i4_ + (1)))) h11
 else
 X0 (spec_l07Class_e0 p1_ p2_ p3_ (w64 (i4_ + (1)))) h8
 else
 spec_l07Class_C0 S K p2_ p3_ h
theorem spec_l07Class_link0 (S : SatT) (K : AVal → H → Prop) (X0 : Frame → H → Prop) (p1_ : Pt) (p2_ : Pt) (p3_ : Pt) (i4_ : Int) (h : H) : spec_l07Class_w0 S K X0 (spec_l07Class_e0 p1_ p2_ p3_ i4_) h = spec_l07Class_b0 S K X0 p1_ p2_ p3_ i4_ h := by kernel_rfl
theorem spec_l07Class_rule0 (S : SatT) (K : AVal → H → Prop) (p1_ : Pt) (p2_ : Pt) (p3_ : Pt) (I_ : Int → H → Prop) (m_ : Int → H → Nat)
    (hs : ∀ (X0 : Frame → H → Prop) (i4_ : Int) (h : H), I_ i4_ h → (∀ (i4_' : Int) (h' : H), I_ i4_' h' → m_ i4_' h' < m_ i4_ h → X0 (spec_l07Class_e0 p1_ p2_ p3_ i4_') h') → spec_l07Class_b0 S K X0 p1_ p2_ p3_ i4_ h) (i4_ : Int) {h : H} (h0 : I_ i4_ h) : spec_l07Class_L0 S K p1_ p2_ p3_ i4_ h :=
  loop_rule (σ := (Int)) (fun s_ => spec_l07Class_e0 p1_ p2_ p3_ (s_)) (fun s_ h => I_ (s_) h) (fun s_ h => m_ (s_) h)
    (fun X s_ h hi hx => (spec_l07Class_link0 S K X p1_ p2_ p3_ (s_) h).mpr (hs X (s_) h hi fun i4_' h' hi' hm' => hx (i4_') h' hi' hm')) (i4_) h0
theorem spec_l07Class_unroll0 (S : SatT) (K : AVal → H → Prop) (p1_ : Pt) (p2_ : Pt) (p3_ : Pt) (i4_ : Int) (h : H) (hb : spec_l07Class_b0 S K (fun fr h => loopK (spec_l07Class_w0 S K) fr h) p1_ p2_ p3_ i4_ h) : spec_l07Class_L0 S K p1_ p2_ p3_ i4_ h := loop_unroll ((spec_l07Class_link0 S K _ p1_ p2_ p3_ i4_ h).mpr hb)
def spec_l07Class_main (S : SatT) (K : AVal → H → Prop) (x0 : List AVal) (h : H) : Prop :=
 newK 4 x0 h fun p0 h1 =>
 newO [.int .i64 (0), .int .i64 (0), .int .i64 (0), .int .i64 (0)] h1 fun p2 h3 =>
 ldA p0 4 h3 fun cs4 =>
 newO [.int .i64 (0), .int .i64 (0), .int .i64 (0), .int .i64 (0)] h3 fun p5 h6 =>
 stN p5 4 cs4 h6 fun h7 =>
 spec_l07Class_L0 S K p0 p2 p5 (1) h7
theorem spec_l07Class_main_link (S : SatT) (K : AVal → H → Prop) (x0 : List AVal) (h : H) : cwp S tab spec_l07Class_M [] (bodyOf Try.f51) (kFun tab Try.f51.results.toList K) (fr0 Try.f51 [.agg x0]) h = spec_l07Class_main S K x0 h := by kernel_rfl
theorem spec_l07Class_call (x0 : List AVal) (h : H) (K : List AVal → H → Prop) (hm : spec_l07Class_main (Sat Try.prog) (fun v h' => ∃ r, v = .agg r ∧ K r h') x0 h) : callA (Sat Try.prog) i_spec_l07Class [.agg x0] h K := by
  have := Sat.ex tok mixed spec_l07Class_M Try.func51 (c := bodyOf Try.f51) (by kernel_rfl) (calls_of Try.func51 (c := bodyOf Try.f51) (by kernel_rfl) (by decide)) ((spec_l07Class_main_link _ _ x0 h).mpr hm)
  obtain ⟨v, h2, h3, r, rfl, h4⟩ := this; exact ⟨r, h2, h3, h4⟩

/-! ### loop.example/g01354/laws.markPlacedS -/
def laws_markPlacedS_M : Nat → List Nat := fun i => bif i == 0 then [0, 1, 5] else []
def laws_markPlacedS_ks1 (S : SatT) (K : AVal → H → Prop) : Kont := kSeq (cwp S tab laws_markPlacedS_M [] (sub [1, 1] (bodyOf Try.f70)) (kFun tab (Try.f70).results.toList K)) (kFun tab (Try.f70).results.toList K)
def laws_markPlacedS_e0 (s0_ : Sl) (i1_ : Int) (i5_ : Int) : Frame := [.sl s0_, .int .i64 i1_, U, U, U, .int .i64 i5_, U, U, U, U, U, U, U, U, U, U, U, U, U, U, U, U, U, U, U, U, U]
def laws_markPlacedS_w0 (S : SatT) (K : AVal → H → Prop) : (Frame → H → Prop) → Frame → H → Prop := fun X fr h => cwp S tab laws_markPlacedS_M (laws_markPlacedS_M 0) (sub [1, 0, 1, 0, 0] (bodyOf Try.f70)) (kSeq (fun fr h => X (mask (laws_markPlacedS_M 0) fr) h) (kBlk 0 (laws_markPlacedS_ks1 S K))) fr h
def laws_markPlacedS_L0 (S : SatT) (K : AVal → H → Prop) (s0_ : Sl) (i1_ : Int) (i5_ : Int) (h : H) : Prop := loopK (laws_markPlacedS_w0 S K) (laws_markPlacedS_e0 s0_ i1_ i5_) h
def laws_markPlacedS_C0 (S : SatT) (K : AVal → H → Prop) (i1_ : Int) (h : H) : Prop :=
 K (.int .i64 i1_) h
def laws_markPlacedS_b0 (S : SatT) (K : AVal → H → Prop) (X0 : Frame → H → Prop) (s0_ : Sl) (i1_ : Int) (i5_ : Int) (h : H) : Prop :=
 bif (decide (i5_ < (s0_.len : Int))) then
 ixS s0_ 2 i5_ fun p0 =>
 isPt p0 (
 st1 (Pt.add p0 0) (.int .i64 i1_) h fun h1 =>
 ixS s0_ 2 i5_ fun p2 =>
 isPt p2 (
 st1 (Pt.add p2 1) (.int .i64 (w64 (i1_ + (1)))) h1 fun h3 =>
 X0 (laws_markPlacedS_e0 s0_ (w64 ((w64 (i1_ + (1))) + (1))) (w64 (i5_ + (1)))) h3))
 else
 laws_markPlacedS_C0 S K i1_ h
theorem laws_markPlacedS_link0 (S : SatT) (K : AVal → H → Prop) (X0 : Frame → H → Prop) (s0_ : Sl) (i1_ : Int) (i5_ : Int) (h : H) : laws_markPlacedS_w0 S K X0 (laws_markPlacedS_e0 s0_ i1_ i5_) h = laws_markPlacedS_b0 S K X0 s0_ i1_ i5_ h := by kernel_rfl
theorem laws_markPlacedS_rule0 (S : SatT) (K : AVal → H → Prop) (s0_ : Sl) (I_ : Int → Int → H → Prop) (m_ : Int → Int → H → Nat)
    (hs : ∀ (X0 : Frame → H → Prop) (i1_ : Int) (i5_ : Int) (h : H), I_ i1_ i5_ h → (∀ (i1_' : Int) (i5_' : Int) (h' : H), I_ i1_' i5_' h' → m_ i1_' i5_' h' < m_ i1_ i5_ h → X0 (laws_markPlacedS_e0 s0_ i1_' i5_') h') → laws_markPlacedS_b0 S K X0 s0_ i1_ i5_ h) (i1_ : Int) (i5_ : Int) {h : H} (h0 : I_ i1_ i5_ h) : laws_markPlacedS_L0 S K s0_ i1_ i5_ h :=
  loop_rule (σ := (Int) × (Int)) (fun s_ => laws_markPlacedS_e0 s0_ (s_.1) (s_.2)) (fun s_ h => I_ (s_.1) (s_.2) h) (fun s_ h => m_ (s_.1) (s_.2) h)
    (fun X s_ h hi hx => (laws_markPlacedS_link0 S K X s0_ (s_.1) (s_.2) h).mpr (hs X (s_.1) (s_.2) h hi fun i1_' i5_' h' hi' hm' => hx (i1_', i5_') h' hi' hm')) (i1_, i5_) h0
theorem laws_markPlacedS_unroll0 (S : SatT) (K : AVal → H → Prop) (s0_ : Sl) (i1_ : Int) (i5_ : Int) (h : H) (hb : laws_markPlacedS_b0 S K (fun fr h => loopK (laws_markPlacedS_w0 S K) fr h) s0_ i1_ i5_ h) : laws_markPlacedS_L0 S K s0_ i1_ i5_ h := loop_unroll ((laws_markPlacedS_link0 S K _ s0_ i1_ i5_ h).mpr hb)
def laws_markPlacedS_main (S : SatT) (K : AVal → H → Prop) (x0 : Sl) (x1 : Int) (h : H) : Prop :=
 laws_markPlacedS_L0 S K x0 x1 (0) h
theorem laws_markPlacedS_main_link (S : SatT) (K : AVal → H → Prop) (x0 : Sl) (x1 : Int) (h : H) : cwp S tab laws_markPlacedS_M [] (bodyOf Try.f70) (kFun tab Try.f70.results.toList K) (fr0 Try.f70 [.sl x0, .int .i64 x1]) h = laws_markPlacedS_main S K x0 x1 h := by kernel_rfl
theorem laws_markPlacedS_call (x0 : Sl) (x1 : Int) (h : H) (K : Int → H → Prop) (hm : laws_markPlacedS_main (Sat Try.prog) (fun v h' => ∃ r, v = .int .i64 r ∧ K r h') x0 x1 h) : callI (Sat Try.prog) .i64 i_laws_markPlacedS [.sl x0, .int .i64 x1] h K := by
  have := Sat.ex tok mixed laws_markPlacedS_M Try.func70 (c := bodyOf Try.f70) (by kernel_rfl) (calls_of Try.func70 (c := bodyOf Try.f70) (by kernel_rfl) (by decide)) ((laws_markPlacedS_main_link _ _ x0 x1 h).mpr hm)
  obtain ⟨v, h2, h3, r, rfl, h4⟩ := this; exact ⟨r, h2, h3, h4⟩

/-! ### loop.example/g01354/laws.markPlacedSS -/
def laws_markPlacedSS_M : Nat → List Nat := fun i => bif i == 0 then [0, 1, 5] else []
def laws_markPlacedSS_ks1 (S : SatT) (K : AVal → H → Prop) : Kont := kSeq (cwp S tab laws_markPlacedSS_M [] (sub [1, 1] (bodyOf Try.f43)) (kFun tab (Try.f43).results.toList K)) (kFun tab (Try.f43).results.toList K)
def laws_markPlacedSS_e0 (s0_ : Sl) (i1_ : Int) (i5_ : Int) : Frame := [.sl s0_, .int .i64 i1_, U, U, U, .int .i64 i5_, U, U, U, U, U, U, U, U, U, U, U, U, U]
def laws_markPlacedSS_w0 (S : SatT) (K : AVal → H → Prop) : (Frame → H → Prop) → Frame → H → Prop := fun X fr h => cwp S tab laws_markPlacedSS_M (laws_markPlacedSS_M 0) (sub [1, 0, 1, 0, 0] (bodyOf Try.f43)) (kSeq (fun fr h => X (mask (laws_markPlacedSS_M 0) fr) h) (kBlk 0 (laws_markPlacedSS_ks1 S K))) fr h
def laws_markPlacedSS_L0 (S : SatT) (K : AVal → H → Prop) (s0_ : Sl) (i1_ : Int) (i5_ : Int) (h : H) : Prop := loopK (laws_markPlacedSS_w0 S K) (laws_markPlacedSS_e0 s0_ i1_ i5_) h
def laws_markPlacedSS_C0 (S : SatT) (K : AVal → H → Prop) (i1_ : Int) (h : H) : Prop :=
 K (.int .i64 i1_) h
def laws_markPlacedSS_b0 (S : SatT) (K : AVal → H → Prop) (X0 : Frame → H → Prop) (s0_ : Sl) (i1_ : Int) (i5_ : Int) (h : H) : Prop :=
 bif (decide (i5_ < (s0_.len : Int))) then
 ixS s0_ 1 i5_ fun p0 =>
 ldS p0 h fun s1 =>
 callI S .i64 i_laws_markPlacedS [.sl s1, .int .i64 i1_] h fun n3 h2 =>
 X0 (laws_markPlacedSS_e0 s0_ n3 (w64 (i5_ + (1)))) h2
 else
 laws_markPlacedSS_C0 S K i1_ h
theorem laws_markPlacedSS_link0 (S : SatT) (K : AVal → H → Prop) (X0 : Frame → H → Prop) (s0_ : Sl) (i1_ : Int) (i5_ : Int) (h : H) : laws_markPlacedSS_w0 S K X0 (laws_markPlacedSS_e0 s0_ i1_ i5_) h = laws_markPlacedSS_b0 S K X0 s0_ i1_ i5_ h := by kernel_rfl
theorem laws_markPlacedSS_rule0 (S : SatT) (K : AVal → H → Prop) (s0_ : Sl) (I_ : Int → Int → H → Prop) (m_ : Int → Int → H → Nat)
    (hs : ∀ (X0 : Frame → H → Prop) (i1_ : Int) (i5_ : Int) (h : H), I_ i1_ i5_ h → (∀ (i1_' : Int) (i5_' : Int) (h' : H), I_ i1_' i5_' h' → m_ i1_' i5_' h' < m_ i1_ i5_ h → X0 (laws_markPlacedSS_e0 s0_ i1_' i5_') h') → laws_markPlacedSS_b0 S K X0 s0_ i1_ i5_ h) (i1_ : Int) (i5_ : Int) {h : H} (h0 : I_ i1_ i5_ h) : laws_markPlacedSS_L0 S K s0_ i1_ i5_ h :=
  loop_rule (σ := (Int) × (Int)) (fun s_ => laws_markPlacedSS_e0 s0_ (s_.1) (s_.2)) (fun s_ h => I_ (s_.1) (s_.2) h) (fun s_ h => m_ (s_.1) (s_.2) h)
    (fun X s_ h hi hx => (laws_markPlacedSS_link0 S K X s0_ (s_.1) (s_.2) h).mpr (hs X (s_.1) (s_.2) h hi fun i1_' i5_' h' hi' hm' => hx (i1_', i5_') h' hi' hm')) (i1_, i5_) h0
theorem laws_markPlacedSS_unroll0 (S : SatT) (K : AVal → H → Prop) (s0_ : Sl) (i1_ : Int) (i5_ : Int) (h : H) (hb : laws_markPlacedSS_b0 S K (fun fr h => loopK (laws_markPlacedSS_w0 S K) fr h) s0_ i1_ i5_ h) : laws_markPlacedSS_L0 S K s0_ i1_ i5_ h := loop_unroll ((laws_markPlacedSS_link0 S K _ s0_ i1_ i5_ h).mpr hb)
def laws_markPlacedSS_main (S : SatT) (K : AVal → H → Prop) (x0 : Sl) (x1 : Int) (h : H) : Prop :=
 laws_markPlacedSS_L0 S K x0 x1 (0) h
theorem laws_markPlacedSS_main_link (S : SatT) (K : AVal → H → Prop) (x0 : Sl) (x1 : Int) (h : H) : cwp S tab laws_markPlacedSS_M [] (bodyOf Try.f43) (kFun tab Try.f43.results.toList K) (fr0 Try.f43 [.sl x0, .int .i64 x1]) h = laws_markPlacedSS_main S K x0 x1 h := by kernel_rfl
theorem laws_markPlacedSS_call (x0 : Sl) (x1 : Int) (h : H) (K : Int → H → Prop) (hm : laws_markPlacedSS_main (Sat Try.prog) (fun v h' => ∃ r, v = .int .i64 r ∧ K r h') x0 x1 h) : callI (Sat Try.prog) .i64 i_laws_markPlacedSS [.sl x0, .int .i64 x1] h K := by
  have := Sat.ex tok mixed laws_markPlacedSS_M Try.func43 (c := bodyOf Try.f43) (by kernel_rfl) (calls_of Try.func43 (c := bodyOf Try.f43) (by kernel_rfl) (by decide)) ((laws_markPlacedSS_main_link _ _ x0 x1 h).mpr hm)
  obtain ⟨v, h2, h3, r, rfl, h4⟩ := this; exact ⟨r, h2, h3, h4⟩

/-! ### loop.example/g01354/laws.markInt64S -/
def laws_markInt64S_M : Nat → List Nat := fun i => bif i == 0 then [0, 1, 5] else []
def laws_markInt64S_ks1 (S : SatT) (K : AVal → H → Prop) : Kont := kSeq (cwp S tab laws_markInt64S_M [] (sub [1, 1] (bodyOf Try.f25)) (kFun tab (Try.f25).results.toList K)) (kFun tab (Try.f25).results.toList K)
def laws_markInt64S_e0 (s0_ : Sl) (i1_ : Int) (i5_ : Int) : Frame := [.sl s0_, .int .i64 i1_, U, U, U, .int .i64 i5_, U, U, U, U, U, U, U, U, U, U, U, U, U]
def laws_markInt64S_w0 (S : SatT) (K : AVal → H → Prop) : (Frame → H → Prop) → Frame → H → Prop := fun X fr h => cwp S tab laws_markInt64S_M (laws_markInt64S_M 0) (sub [1, 0, 1, 0, 0] (bodyOf Try.f25)) (kSeq (fun fr h => X (mask (laws_markInt64S_M 0) fr) h) (kBlk 0 (laws_markInt64S_ks1 S K))) fr h
def laws_markInt64S_L0 (S : SatT) (K : AVal → H → Prop) (s0_ : Sl) (i1_ : Int) (i5_ : Int) (h : H) : Prop := loopK (laws_markInt64S_w0 S K) (laws_markInt64S_e0 s0_ i1_ i5_) h
def laws_markInt64S_C0 (S : SatT) (K : AVal → H → Prop) (i1_ : Int) (h : H) : Prop :=
 K (.int .i64 i1_) h
def laws_markInt64S_b0 (S : SatT) (K : AVal → H → Prop) (X0 : Frame → H → Prop) (s0_ : Sl) (i1_ : Int) (i5_ : Int) (h : H) : Prop :=
 bif (decide (i5_ < (s0_.len : Int))) then
 ixS s0_ 1 i5_ fun p0 =>
 st1 p0 (.int .i64 i1_) h fun h1 =>
 X0 (laws_markInt64S_e0 s0_ (w64 (i1_ + (1))) (w64 (i5_ + (1)))) h1
 else
 laws_markInt64S_C0 S K i1_ h
theorem laws_markInt64S_link0 (S : SatT) (K : AVal → H → Prop) (X0 : Frame → H → Prop) (s0_ : Sl) (i1_ : Int) (i5_ : Int) (h : H) : laws_markInt64S_w0 S K X0 (laws_markInt64S_e0 s0_ i1_ i5_) h = laws_markInt64S_b0 S K X0 s0_ i1_ i5_ h := by kernel_rfl
theorem laws_markInt64S_rule0 (S : SatT) (K : AVal → H → Prop) (s0_ : Sl) (I_ : Int → Int → H → Prop) (m_ : Int → Int → H → Nat)
    (hs : ∀ (X0 : Frame → H → Prop) (i1_ : Int) (i5_ : Int) (h : H), I_ i1_ i5_ h → (∀ (i1_' : Int) (i5_' : Int) (h' : H), I_ i1_' i5_' h' → m_ i1_' i5_' h' < m_ i1_ i5_ h → X0 (laws_markInt64S_e0 s0_ i1_' i5_') h') → laws_markInt64S_b0 S K X0 s0_ i1_ i5_ h) (i1_ : Int) (i5_ : Int) {h : H} (h0 : I_ i1_ i5_ h) : laws_markInt64S_L0 S K s0_ i1_ i5_ h :=
  loop_rule (σ := (Int) × (Int)) (fun s_ => laws_markInt64S_e0 s0_ (s_.1) (s_.2)) (fun s_ h => I_ (s_.1) (s_.2) h) (fun s_ h => m_ (s_.1) (s_.2) h)
    (fun X s_ h hi hx => (laws_markInt64S_link0 S K X s0_ (s_.1) (s_.2) h).mpr (hs X (s_.1) (s_.2) h hi fun i1_' i5_' h' hi' hm' => hx (i1_', i5_') h' hi' hm')) (i1_, i5_) h0
theorem laws_markInt64S_unroll0 (S : SatT) (K : AVal → H → Prop) (s0_ : Sl) (i1_ : Int) (i5_ : Int) (h : H) (hb : laws_markInt64S_b0 S K (fun fr h => loopK (laws_markInt64S_w0 S K) fr h) s0_ i1_ i5_ h) : laws_markInt64S_L0 S K s0_ i1_ i5_ h := loop_unroll ((laws_markInt64S_link0 S K _ s0_ i1_ i5_ h).mpr hb)
def laws_markInt64S_main (S : SatT) (K : AVal → H → Prop) (x0 : Sl) (x1 : Int) (h : H) : Prop :=
 laws_markInt64S_L0 S K x0 x1 (0) h
theorem laws_markInt64S_main_link (S : SatT) (K : AVal → H → Prop) (x0 : Sl) (x1 : Int) (h : H) : cwp S tab laws_markInt64S_M [] (bodyOf Try.f25) (kFun tab Try.f25.results.toList K) (fr0 Try.f25 [.sl x0, .int .i64 x1]) h = laws_markInt64S_main S K x0 x1 h := by kernel_rfl
theorem laws_markInt64S_call (x0 : Sl) (x1 : Int) (h : H) (K : Int → H → Prop) (hm : laws_markInt64S_main (Sat Try.prog) (fun v h' => ∃ r, v = .int .i64 r ∧ K r h') x0 x1 h) : callI (Sat Try.prog) .i64 i_laws_markInt64S [.sl x0, .int .i64 x1] h K := by
  have := Sat.ex tok mixed laws_markInt64S_M Try.func25 (c := bodyOf Try.f25) (by kernel_rfl) (calls_of Try.func25 (c := bodyOf Try.f25) (by kernel_rfl) (by decide)) ((laws_markInt64S_main_link _ _ x0 x1 h).mpr hm)
  obtain ⟨v, h2, h3, r, rfl, h4⟩ := this; exact ⟨r, h2, h3, h4⟩

/-! ### loop.example/g01354/laws.eqTileS -/
def laws_eqTileS_M : Nat → List Nat := fun i => bif i == 0 then [0, 1, 5] else []
def laws_eqTileS_ks4 (S : SatT) (K : AVal → H → Prop) : Kont := kSeq (cwp S tab laws_eqTileS_M [] (sub [1, 1, 1] (bodyOf Try.f17)) (kFun tab (Try.f17).results.toList K)) (kFun tab (Try.f17).results.toList K)
def laws_eqTileS_e0 (s0_ : Sl) (s1_ : Sl) (i5_ : Int) : Frame := [.sl s0_, .sl s1_, U, U, U, .int .i64 i5_, U, U, U, U, U, U, U, U, U, U, U, U, U, U, U, U, U, U, U, U, U]
def laws_eqTileS_w0 (S : SatT) (K : AVal → H → Prop) : (Frame → H → Prop) → Frame → H → Prop := fun X fr h => cwp S tab laws_eqTileS_M (laws_eqTileS_M 0) (sub [1, 1, 0, 1, 0, 0] (bodyOf Try.f17)) (kSeq (fun fr h => X (mask (laws_eqTileS_M 0) fr) h) (kBlk 0 (laws_eqTileS_ks4 S K))) fr h
def laws_eqTileS_L0 (S : SatT) (K : AVal → H → Prop) (s0_ : Sl) (s1_ : Sl) (i5_ : Int) (h : H) : Prop := loopK (laws_eqTileS_w0 S K) (laws_eqTileS_e0 s0_ s1_ i5_) h
def laws_eqTileS_C0 (S : SatT) (K : AVal → H → Prop) (h : H) : Prop :=
 K (.bool true) h
def laws_eqTileS_b0 (S : SatT) (K : AVal → H → Prop) (X0 : Frame → H → Prop) (s0_ : Sl) (s1_ : Sl) (i5_ : Int) (h : H) : Prop :=
 bif (decide (i5_ < (s0_.len : Int))) then
 ixS s0_ 4 i5_ fun p0 =>
 ldA p0 4 h fun cs1 =>
 ixS s1_ 4 i5_ fun p2 =>
 ldA p2 4 h fun cs3 =>
 callB S i_laws_eqTile [.agg cs1, .agg cs3] h fun b5 h4 =>
 bif (!b5) then
 K (.bool false) h4
 else
 X0 (laws_eqTileS_e0 s0_ s1_ (w64 (i5_ + (1)))) h4
 else
 laws_eqTileS_C0 S K h
theorem laws_eqTileS_link0 (S : SatT) (K : AVal → H → Prop) (X0 : Frame → H → Prop) (s0_ : Sl) (s1_ : Sl) (i5_ : Int) (h : H) : laws_eqTileS_w0 S K X0 (laws_eqTileS_e0 s0_ s1_ i5_) h = laws_eqTileS_b0 S K X0 s0_ s1_ i5_ h := by kernel_rfl
theorem laws_eqTileS_rule0 (S : SatT) (K : AVal → H → Prop) (s0_ : Sl) (s1_ : Sl) (I_ : Int → H → Prop) (m_ : Int → H → Nat)
    (hs : ∀ (X0 : Frame → H → Prop) (i5_ : Int) (h : H), I_ i5_ h → (∀ (i5_' : Int) (h' : H), I_ i5_' h' → m_ i5_' h' < m_ i5_ h → X0 (laws_eqTileS_e0 s0_ s1_ i5_') h') → laws_eqTileS_b0 S K X0 s0_ s1_ i5_ h) (i5_ : Int) {h : H} (h0 : I_ i5_ h) : laws_eqTileS_L0 S K s0_ s1_ i5_ h :=
  loop_rule (σ := (Int)) (fun s_ => laws_eqTileS_e0 s0_ s1_ (s_)) (fun s_ h => I_ (s_) h) (fun s_ h => m_ (s_) h)
    (fun X s_ h hi hx => (laws_eqTileS_link0 S K X s0_ s1_ (s_) h).mpr (hs X (s_) h hi fun i5_' h' hi' hm' => hx (i5_') h' hi' hm')) (i5_) h0
theorem laws_eqTileS_unroll0 (S : SatT) (K : AVal → H → Prop) (s0_ : Sl) (s1_ : Sl) (i5_ : Int) (h : H) (hb : laws_eqTileS_b0 S K (fun fr h => loopK (laws_eqTileS_w0 S K) fr h) s0_ s1_ i5_ h) : laws_eqTileS_L0 S K s0_ s1_ i5_ h := loop_unroll ((laws_eqTileS_link0 S K _ s0_ s1_ i5_ h).mpr hb)
def laws_eqTileS_main (S : SatT) (K : AVal → H → Prop) (x0 : Sl) (x1 : Sl) (h : H) : Prop :=
 bif ((x0.len : Int) != (x1.len : Int)) then
 K (.bool false) h
 else
 laws_eqTileS_L0 S K x0 x1 (0) h
theorem laws_eqTileS_main_link (S : SatT) (K : AVal → H → Prop) (x0 : Sl) (x1 : Sl) (h : H) : cwp S tab laws_eqTileS_M [] (bodyOf Try.f17) (kFun tab Try.f17.results.toList K) (fr0 Try.f17 [.sl x0, .sl x1]) h = laws_eqTileS_main S K x0 x1 h := by kernel_rfl
theorem laws_eqTileS_call (x0 : Sl) (x1 : Sl) (h : H) (K : Bool → H → Prop) (hm : laws_eqTileS_main (Sat Try.prog) (fun v h' => ∃ r, v = .bool r ∧ K r h') x0 x1 h) : callB (Sat Try.prog) i_laws_eqTileS [.sl x0, .sl x1] h K := by
  have := Sat.ex tok mixed laws_eqTileS_M Try.func17 (c := bodyOf Try.f17) (by kernel_rfl) (calls_of Try.func17 (c := bodyOf Try.f17) (by kernel_rfl) (by decide)) ((laws_eqTileS_main_link _ _ x0 x1 h).mpr hm)
  obtain ⟨v, h2, h3, r, rfl, h4⟩ := this; exact ⟨r, h2, h3, h4⟩

/-! ### loop.example/g01354/spec.l07Tiles -/
def spec_l07Tiles_M : Nat → List Nat := fun i => bif i == 0 then [0, 3] else []
def spec_l07Tiles_ks1 (S : SatT) (K : AVal → H → Prop) : Kont := kSeq (cwp S tab spec_l07Tiles_M [] (sub [1, 1] (bodyOf Try.f47)) (kFun tab (Try.f47).results.toList K)) (kFun tab (Try.f47).results.toList K)
def spec_l07Tiles_e0 (s0_ : Sl) (i3_ : Int) : Frame := [.sl s0_, U, U, .int .i64 i3_, U, U, U, U, U, U, U, U, U, U, U, U]
def spec_l07Tiles_w0 (S : SatT) (K : AVal → H → Prop) : (Frame → H → Prop) → Frame → H → Prop := fun X fr h => cwp S tab spec_l07Tiles_M (spec_l07Tiles_M 0) (sub [1, 0, 1, 0, 0] (bodyOf Try.f47)) (kSeq (fun fr h => X (mask (spec_l07Tiles_M 0) fr) h) (kBlk 0 (spec_l07Tiles_ks1 S K))) fr h
def spec_l07Tiles_L0 (S : SatT) (K : AVal → H → Prop) (s0_ : Sl) (i3_ : Int) (h : H) : Prop := loopK (spec_l07Tiles_w0 S K) (spec_l07Tiles_e0 s0_ i3_) h
def spec_l07Tiles_C0 (S : SatT) (K : AVal → H → Prop) (h : H) : Prop :=
 K (.int .i64 (0)) h
def spec_l07Tiles_b0 (S : SatT) (K : AVal → H → Prop) (X0 : Frame → H → Prop) (s0_ : Sl) (i3_ : Int) (h : H) : Prop :=
 bif (decide (i3_ < (s0_.len : Int))) then
 ixS s0_ 4 i3_ fun p0 =>
 ldA p0 4 h fun cs1 =>
 callB S i_spec_l01Tile [.int .i64 (6), .agg cs1] h fun b3 h2 =>
 bif (!b3) then
 K (.int .i64 (2)) h2
 else
 X0 (spec_l07Tiles_e0 s0_ (w64 (i3_ + (1)))) h2
 else
 spec_l07Tiles_C0 S K h
theorem spec_l07Tiles_link0 (S : SatT) (K : AVal → H → Prop) (X0 : Frame → H → Prop) (s0_ : Sl) (i3_ : Int) (h : H) : spec_l07Tiles_w0 S K X0 (spec_l07Tiles_e0 s0_ i3_) h = spec_l07Tiles_b0 S K X0 s0_ i3_ h := by kernel_rfl
theorem spec_l07Tiles_rule0 (S : SatT) (K : AVal → H → Prop) (s0_ : Sl) (I_ : Int → H → Prop) (m_ : Int → H → Nat)
    (hs : ∀ (X0 : Frame → H → Prop) (i3_ : Int) (h : H), I_ i3_ h → (∀ (i3_' : Int) (h' : H), I_ i3_' h' → m_ i3_' h' < m_ i3_ h → X0 (spec_l07Tiles_e0 s0_ i3_') h') → spec_l07Tiles_b0 S K X0 s0_ i3_ h) (i3_ : Int) {h : H} (h0 : I_ i3_ h) : spec_l07Tiles_L0 S K s0_ i3_ h :=
  loop_rule (σ := (Int)) (fun s_ => spec_l07Tiles_e0 s0_ (s_)) (fun s_ h => I_ (s_) h) (fun s_ h => m_ (s_) h)
    (fun X s_ h hi hx => (spec_l07Tiles_link0 S K X s0_ (s_) h).mpr (hs X (s_) h hi fun i3_' h' hi' hm' => hx (i3_') h' hi' hm')) (i3_) h0
theorem spec_l07Tiles_unroll0 (S : SatT) (K : AVal → H → Prop) (s0_ : Sl) (i3_ : Int) (h : H) (hb : spec_l07Tiles_b0 S K (fun fr h => loopK (spec_l07Tiles_w0 S K) fr h) s0_ i3_ h) : spec_l07Tiles_L0 S K s0_ i3_ h := loop_unroll ((spec_l07Tiles_link0 S K _ s0_ i3_ h).mpr hb)
def spec_l07Tiles_main (S : SatT) (K : AVal → H → Prop) (x0 : Sl) (h : H) : Prop :=
 spec_l07Tiles_L0 S K x0 (0) h
theorem spec_l07Tiles_main_link (S : SatT) (K : AVal → H → Prop) (x0 : Sl) (h : H) : cwp S tab spec_l07Tiles_M [] (bodyOf Try.f47) (kFun tab Try.f47.results.toList K) (fr0 Try.f47 [.sl x0]) h = spec_l07Tiles_main S K x0 h := by kernel_rfl
theorem spec_l07Tiles_call (x0 : Sl) (h : H) (K : Int → H → Prop) (hm : spec_l07Tiles_main (Sat Try.prog) (fun v h' => ∃ r, v = .int .i64 r ∧ K r h') x0 h) : callI (Sat Try.prog) .i64 i_spec_l07Tiles [.sl x0] h K := by
  have := Sat.ex tok mixed spec_l07Tiles_M Try.func47 (c := bodyOf Try.f47) (by kernel_rfl) (calls_of Try.func47 (c := bodyOf Try.f47) (by kernel_rfl) (by decide)) ((spec_l07Tiles_main_link _ _ x0 h).mpr hm)
  obtain ⟨v, h2, h3, r, rfl, h4⟩ := this; exact ⟨r, h2, h3, h4⟩

/-! ### loop.example/g01354/laws.FnExactFirstBoard -/
def laws_FnExactFirstBoard_M : Nat → List Nat := fun i => []
def laws_FnExactFirstBoard_main (S : SatT) (K : AVal → H → Prop) (x0 : Sl) (x1 : Int) (x2 : Int) (x3 : Int) (h : H) : Prop :=
 callI S .i64 i_laws_szTileS [.sl x0, .int .i64 (1048576)] h fun n1 h0 =>
 bif (decide (n1 < (0))) then
 K (.bool true) h0
 else
 callS S i_laws_toTileS [.sl x0] h0 fun s3 h2 =>
 callV S i_spec_FirstBoard [.sl s3, .int .i64 x1, .int .i64 x2, .int .i64 x3] h2 fun v5 h4 =>
 viaT v5 fun vs6 =>
 exS vs6 0 fun s7 =>
 viaT v5 fun vs8 =>
 exI .i64 vs8 1 fun n9 =>
 callS S i_laws_toTileS [.sl x0] h4 fun s11 h10 =>
 callV S i_impl_FirstBoard [.sl s11, .int .i64 x1, .int .i64 x2, .int .i64 x3] h10 fun v13 h12 =>
 viaT v13 fun vs14 =>
 exS vs14 0 fun s15 =>
 viaT v13 fun vs16 =>
 exI .i64 vs16 1 fun n17 =>
 callB S i_laws_eqPlacedSS [.sl s15, .sl s7] h12 fun b19 h18 =>
 bif (!b19) then
 K (.bool false) h18
 else
 bif (n17 != n9) then
 K (.bool false) h18
 else
 callS S i_laws_toTileS [.sl x0] h18 fun s21 h20 =>
 callB S i_laws_eqTileS [.sl s11, .sl s21] h20 fun b23 h22 =>
 bif (!b23) then
 K (.bool false) h22
 else
 callI S .i64 i_laws_markTileS [.sl s11, .int .i64 (1)] h22 fun n25 h24 =>
 bif (decide (n25 < (0))) then
 K (.bool false) h24
 else
 callB S i_laws_eqPlacedSS [.sl s15, .sl s7] h24 fun b27 h26 =>
 bif (!b27) then
 K (.bool false) h26
 else
 bif (n17 != n9) then
 K (.bool false) h26
 else
 callI S .i64 i_laws_markPlacedSS [.sl s15, .int .i64 (1)] h26 fun n29 h28 =>
 callI S .i64 i_laws_heldPlacedSS [.sl s15, .int .i64 (1)] h28 fun n31 h30 =>
 bif (decide (n31 < (0))) then
 K (.bool false) h30
 else
 bif (n31 != n29) then
 K (.bool false) h30
 else
 callS S i_laws_toTileS [.sl x0] h30 fun s33 h32 =>
 callV S i_impl_FirstBoard [.sl s33, .int .i64 x1, .int .i64 x2, .int .i64 x3] h32 fun v35 h34 =>
 viaT v35 fun vs36 =>
 exS vs36 0 fun s37 =>
 viaT v35 fun vs38 =>
 exI .i64 vs38 1 fun n39 =>
 callB S i_laws_eqPlacedSS [.sl s37, .sl s7] h34 fun b41 h40 =>
 bif (!b41) then
 K (.bool false) h40
 else
 bif (n39 != n9) then
 K (.bool false) h40
 else
 callI S .i64 i_laws_heldPlacedSS [.sl s15, .int .i64 (1)] h40 fun n43 h42 =>
 bif (decide (n43 < (0))) then
 K (.bool false) h42
 else
 bif (n43 != n29) then
 K (.bool false) h42
 else
 K (.bool true) h42
theorem laws_FnExactFirstBoard_main_link (S : SatT) (K : AVal → H → Prop) (x0 : Sl) (x1 : Int) (x2 : Int) (x3 : Int) (h : H) : cwp S tab laws_FnExactFirstBoard_M [] (bodyOf Try.f11) (kFun tab Try.f11.results.toList K) (fr0 Try.f11 [.sl x0, .int .i64 x1, .int .i64 x2, .int .i64 x3]) h = laws_FnExactFirstBoard_main S K x0 x1 x2 x3 h := by kernel_rfl
theorem laws_FnExactFirstBoard_call (x0 : Sl) (x1 : Int) (x2 : Int) (x3 : Int) (h : H) (K : Bool → H → Prop) (hm : laws_FnExactFirstBoard_main (Sat Try.prog) (fun v h' => ∃ r, v = .bool r ∧ K r h') x0 x1 x2 x3 h) : callB (Sat Try.prog) i_laws_FnExactFirstBoard [.sl x0, .int .i64 x1, .int .i64 x2, .int .i64 x3] h K := by
  have := Sat.ex tok mixed laws_FnExactFirstBoard_M Try.func11 (c := bodyOf Try.f11) (by kernel_rfl) (calls_of Try.func11 (c := bodyOf Try.f11) (by kernel_rfl) (by decide)) ((laws_FnExactFirstBoard_main_link _ _ x0 x1 x2 x3 h).mpr hm)
  obtain ⟨v, h2, h3, r, rfl, h4⟩ := this; exact ⟨r, h2, h3, h4⟩

/-! ### loop.example/g01354/spec.TurnsOf -/
def spec_TurnsOf_M : Nat → List Nat := fun i => []
def spec_TurnsOf_main (S : SatT) (K : AVal → H → Prop) (x0 : List AVal) (h : H) : Prop :=
 newK 4 x0 h fun p0 h1 =>
 ldA p0 4 h1 fun cs2 =>
 lenA cs2 4 (
 newS 1 4 (spl [.int .i64 (0), .int .i64 (0), .int .i64 (0), .int .i64 (0)] 0 4 cs2) h1 fun s3 h4 =>
 callI S .i64 i_spec_l07Tiles [.sl s3] h4 fun n6 h5 =>
 bif (n6 != (0)) then
 K (.tuple [.sl Sl.nil, .int .i64 n6]) h5
 else
 ldA p0 4 h5 fun cs7 =>
 ldA p0 4 h5 fun cs8 =>
 callA S i_spec_l07Turn [.agg cs8, .int .i64 (1)] h5 fun cs10 h9 =>
(range h9 p0.o p0.n p0.off 4 = range h5 p0.o p0.n p0.off 4) ∧ (
 ldA p0 4 h9 fun cs11 =>
(range h5 p0.o p0.n p0.off 4 = range h9 p0.o p0.n p0.off 4) ∧ (
 callA S i_spec_l07Turn [.agg cs11, .int .i64 (2)] h9 fun cs13 h12 =>
(range h12 p0.o p0.n p0.off 4 = range h5 p0.o p0.n p0.off 4) ∧ (
 ldA p0 4 h12 fun cs14 =>
(range h9 p0.o p0.n p0.off 4 = range h12 p0.o p0.n p0.off 4) ∧ (
(range h5 p0.o p0.n p0.off 4 = range h12 p0.o p0.n p0.off 4) ∧ (
 callA S i_spec_l07Turn [.agg cs14, .int .i64 (3)] h12 fun cs16 h15 =>
(range h15 p0.o p0.n p0.off 4 = range h5 p0.o p0.n p0.off 4) ∧ (
 lenA cs7 4 (
 lenA cs10 4 (
 lenA cs13 4 (
 lenA cs16 4 (
 newS 4 4 (spl (spl (spl (spl [.int .i64 (0), .int .i64 (0), .int .i64 (0), .int .i64 (0), .int .i64 (0), .int .i64 (0), .int .i64 (0), .int .i64 (0), .int .i64 (0), .int .i64 (0), .int .i64 (0), .int .i64 (0), .int .i64 (0), .int .i64 (0), .int .i64 (0), .int .i64 (0)] 0 4 cs7) 4 4 cs10) 8 4 cs13) 12 4 cs16) h15 fun s17 h18 =>
 K (.tuple [.sl s17, .int .i64 (0)]) h18)))))))))))
theorem spec_TurnsOf_main_link (S : SatT) (K : AVal → H → Prop) (x0 : List AVal) (h : H) : cwp S tab spec_TurnsOf_M [] (bodyOf Try.f14) (kFun tab Try.f14.results.toList K) (fr0 Try.f14 [.agg x0]) h = spec_TurnsOf_main S K x0 h := by kernel_rfl
theorem spec_TurnsOf_call (x0 : List AVal) (h : H) (K : AVal → H → Prop) (hm : spec_TurnsOf_main (Sat Try.prog) (fun v h' => K v h') x0 h) : callV (Sat Try.prog) i_spec_TurnsOf [.agg x0] h K := by
  have := Sat.ex tok mixed spec_TurnsOf_M Try.func14 (c := bodyOf Try.f14) (by kernel_rfl) (calls_of Try.func14 (c := bodyOf Try.f14) (by kernel_rfl) (by decide)) ((spec_TurnsOf_main_link _ _ x0 h).mpr hm)
  exact this

/-! ### loop.example/g01354/impl.joins -/
def impl_joins_M : Nat → List Nat := fun i => []
def impl_joins_main (S : SatT) (K : AVal → H → Prop) (x0 : List AVal) (x1 : Int) (x2 : Sl) (x3 : Sl) (h : H) : Prop :=
 newK 4 x0 h fun p0 h1 =>
 bif (isNilS x2) then
 bif (x1 == (0)) then
 K (.bool true) h1
 else
 ixS x3 4 (w64 (x1 - (1))) fun p2 =>
 ixA p2 4 1 (2) fun p3 =>
 ldI .i64 p3 h1 fun n4 =>
 ixA p0 4 1 (0) fun p5 =>
 ldI .i64 p5 h1 fun n6 =>
 K (.bool (n4 == n6)) h1
 else
 ixS x2 4 x1 fun p7 =>
 ixA p7 4 1 (3) fun p8 =>
 ldI .i64 p8 h1 fun n9 =>
 ixA p0 4 1 (1) fun p10 =>
 ldI .i64 p10 h1 fun n11 =>
 bif (n9 == n11) then
 bif (x1 == (0)) then
 K (.bool true) h1
 else
 ixS x3 4 (w64 (x1 - (1))) fun p12 =>
 ixA p12 4 1 (2) fun p13 =>
 ldI .i64 p13 h1 fun n14 =>
 ixA p0 4 1 (0) fun p15 =>
 ldI .i64 p15 h1 fun n16 =>
 K (.bool (n14 == n16)) h1
 else
 K (.bool false) h1
theorem impl_joins_main_link (S : SatT) (K : AVal → H → Prop) (x0 : List AVal) (x1 : Int) (x2 : Sl) (x3 : Sl) (h : H) : cwp S tab impl_joins_M [] (bodyOf Try.f82) (kFun tab Try.f82.results.toList K) (fr0 Try.f82 [.agg x0, .int .i64 x1, .sl x2, .sl x3]) h = impl_joins_main S K x0 x1 x2 x3 h := by kernel_rfl
theorem impl_joins_call (x0 : List AVal) (x1 : Int) (x2 : Sl) (x3 : Sl) (h : H) (K : Bool → H → Prop) (hm : impl_joins_main (Sat Try.prog) (fun v h' => ∃ r, v = .bool r ∧ K r h') x0 x1 x2 x3 h) : callB (Sat Try.prog) i_impl_joins [.agg x0, .int .i64 x1, .sl x2, .sl x3] h K := by
  have := Sat.ex tok mixed impl_joins_M Try.func82 (c := bodyOf Try.f82) (by kernel_rfl) (calls_of Try.func82 (c := bodyOf Try.f82) (by kernel_rfl) (by decide)) ((impl_joins_main_link _ _ x0 x1 x2 x3 h).mpr hm)
  obtain ⟨v, h2, h3, r, rfl, h4⟩ := this; exact ⟨r, h2, h3, h4⟩

/-! ### slices.ContainsFunc[[][]loop.example/g01354/impl.Placed,[]loop.example/g01354/impl.Placed] -/
def slices_ContainsFunc_ss_impl_Placed_s_impl_Placed__M : Nat → List Nat := fun i => []
def slices_ContainsFunc_ss_impl_Placed_s_impl_Placed__main (S : SatT) (K : AVal → H → Prop) (x0 : Sl) (x1 : AVal) (h : H) : Prop :=
 callI S .i64 i_slices_IndexFunc_ss_impl_Placed_s_impl_Placed_ [.sl x0, x1] h fun n1 h0 =>
 K (.bool (decide (n1 ≥ (0)))) h0
theorem slices_ContainsFunc_ss_impl_Placed_s_impl_Placed__main_link (S : SatT) (K : AVal → H → Prop) (x0 : Sl) (x1 : AVal) (h : H) : cwp S tab slices_ContainsFunc_ss_impl_Placed_s_impl_Placed__M [] (bodyOf Try.f85) (kFun tab Try.f85.results.toList K) (fr0 Try.f85 [.sl x0, x1]) h = slices_ContainsFunc_ss_impl_Placed_s_impl_Placed__main S K x0 x1 h := by kernel_rfl
theorem slices_ContainsFunc_ss_impl_Placed_s_impl_Placed__call (x0 : Sl) (x1 : AVal) (h : H) (K : Bool → H → Prop) (hm : slices_ContainsFunc_ss_impl_Placed_s_impl_Placed__main (Sat Try.prog) (fun v h' => ∃ r, v = .bool r ∧ K r h') x0 x1 h) : callB (Sat Try.prog) i_slices_ContainsFunc_ss_impl_Placed_s_impl_Placed_ [.sl x0, x1] h K := by
  have := Sat.ex tok mixed slices_ContainsFunc_ss_impl_Placed_s_impl_Placed__M Try.func85 (c := bodyOf Try.f85) (by kernel_rfl) (calls_of Try.func85 (c := bodyOf Try.f85) (by kernel_rfl) (by decide)) ((slices_ContainsFunc_ss_impl_Placed_s_impl_Placed__main_link _ _ x0 x1 h).mpr hm)
  obtain ⟨v, h2, h3, r, rfl, h4⟩ := this; exact ⟨r, h2, h3, h4⟩

/-! ### slices.Clone[[]loop.example/g01354/impl.Placed,loop.example/g01354/impl.Placed] -/
def slices_Clone_s_impl_Placed_impl_Placed__M : Nat → List Nat := fun i => []
def slices_Clone_s_impl_Placed_impl_Placed__main (S : SatT) (K : AVal → H → Prop) (x0 : Sl) (h : H) : Prop :=
 bif (isNilS x0) then
 K (.sl Sl.nil) h
 else
 newS 0 2 [] h fun s0 h1 =>
 app s0 x0 2 h1 fun s2 h3 =>
 K (.sl s2) h3
theorem slices_Clone_s_impl_Placed_impl_Placed__main_link (S : SatT) (K : AVal → H → Prop) (x0 : Sl) (h : H) : cwp S tab slices_Clone_s_impl_Placed_impl_Placed__M [] (bodyOf Try.f69) (kFun tab Try.f69.results.toList K) (fr0 Try.f69 [.sl x0]) h = slices_Clone_s_impl_Placed_impl_Placed__main S K x0 h := by kernel_rfl
theorem slices_Clone_s_impl_Placed_impl_Placed__call (x0 : Sl) (h : H) (K : Sl → H → Prop) (hm : slices_Clone_s_impl_Placed_impl_Placed__main (Sat Try.prog) (fun v h' => ∃ r, v = .sl r ∧ K r h') x0 h) : callS (Sat Try.prog) i_slices_Clone_s_impl_Placed_impl_Placed_ [.sl x0] h K := by
  have := Sat.ex tok mixed slices_Clone_s_impl_Placed_impl_Placed__M Try.func69 (c := bodyOf Try.f69) (by kernel_rfl) (calls_of Try.func69 (c := bodyOf Try.f69) (by kernel_rfl) (by decide)) ((slices_Clone_s_impl_Placed_impl_Placed__main_link _ _ x0 h).mpr hm)
  obtain ⟨v, h2, h3, r, rfl, h4⟩ := this; exact ⟨r, h2, h3, h4⟩

/-! ### loop.example/g01354/impl.isBoardOf -/
def impl_isBoardOf_M : Nat → List Nat := fun i => []
def impl_isBoardOf_main (S : SatT) (K : AVal → H → Prop) (x0 : Sl) (x1 : Int) (h : H) : Prop :=
 callB S i_impl_within [.int .i64 (x0.len : Int), .int .i64 (1), .int .i64 (6)] h fun b1 h0 =>
 bif b1 then
 callB S i_impl_areTiles [.sl x0] h0 fun b3 h2 =>
 bif b3 then
 callB S i_impl_within [.int .i64 x1, .int .i64 (-1), .int .i64 (5)] h2 fun b5 h4 =>
 K (.bool b5) h4
 else
 K (.bool false) h2
 else
 K (.bool false) h0
theorem impl_isBoardOf_main_link (S : SatT) (K : AVal → H → Prop) (x0 : Sl) (x1 : Int) (h : H) : cwp S tab impl_isBoardOf_M [] (bodyOf Try.f63) (kFun tab Try.f63.results.toList K) (fr0 Try.f63 [.sl x0, .int .i64 x1]) h = impl_isBoardOf_main S K x0 x1 h := by kernel_rfl
theorem impl_isBoardOf_call (x0 : Sl) (x1 : Int) (h : H) (K : Bool → H → Prop) (hm : impl_isBoardOf_main (Sat Try.prog) (fun v h' => ∃ r, v = .bool r ∧ K r h') x0 x1 h) : callB (Sat Try.prog) i_impl_isBoardOf [.sl x0, .int .i64 x1] h K := by
  have := Sat.ex tok mixed impl_isBoardOf_M Try.func63 (c := bodyOf Try.f63) (by kernel_rfl) (calls_of Try.func63 (c := bodyOf Try.f63) (by kernel_rfl) (by decide)) ((impl_isBoardOf_main_link _ _ x0 x1 h).mpr hm)
  obtain ⟨v, h2, h3, r, rfl, h4⟩ := this; exact ⟨r, h2, h3, h4⟩

/-! ### (loop.example/g01354/impl.Tile).turned -/
def impl_Tile_turned_M : Nat → List Nat := fun i => []
def impl_Tile_turned_main (S : SatT) (K : AVal → H → Prop) (x0 : List AVal) (h : H) : Prop :=
 newK 4 x0 h fun p0 h1 =>
 newO [.int .i64 (0), .int .i64 (0), .int .i64 (0), .int .i64 (0)] h1 fun p2 h3 =>
 ldA p0 4 h3 fun cs4 =>
 callA S i_impl_Tile_sides [.agg cs4, .int .i64 (3), .int .i64 (0), .int .i64 (1), .int .i64 (2)] h3 fun cs6 h5 =>
 stN p2 4 cs6 h5 fun h7 =>
 ldA p2 4 h7 fun cs8 =>
 K (.agg cs8) h7
theorem impl_Tile_turned_main_link (S : SatT) (K : AVal → H → Prop) (x0 : List AVal) (h : H) : cwp S tab impl_Tile_turned_M [] (bodyOf Try.f76) (kFun tab Try.f76.results.toList K) (fr0 Try.f76 [.agg x0]) h = impl_Tile_turned_main S K x0 h := by kernel_rfl
theorem impl_Tile_turned_call (x0 : List AVal) (h : H) (K : List AVal → H → Prop) (hm : impl_Tile_turned_main (Sat Try.prog) (fun v h' => ∃ r, v = .agg r ∧ K r h') x0 h) : callA (Sat Try.prog) i_impl_Tile_turned [.agg x0] h K := by
  have := Sat.ex tok mixed impl_Tile_turned_M Try.func76 (c := bodyOf Try.f76) (by kernel_rfl) (calls_of Try.func76 (c := bodyOf Try.f76) (by kernel_rfl) (by decide)) ((impl_Tile_turned_main_link _ _ x0 h).mpr hm)
  obtain ⟨v, h2, h3, r, rfl, h4⟩ := this; exact ⟨r, h2, h3, h4⟩

/-! ### loop.example/g01354/impl.within -/
def impl_within_M : Nat → List Nat := fun i => []
def impl_within_main (S : SatT) (K : AVal → H → Prop) (x0 : Int) (x1 : Int) (x2 : Int) (h : H) : Prop :=
 bif (decide (x0 ≥ x1)) then
 K (.bool (decide (x0 ≤ x2))) h
 else
 K (.bool false) h
theorem impl_within_main_link (S : SatT) (K : AVal → H → Prop) (x0 : Int) (x1 : Int) (x2 : Int) (h : H) : cwp S tab impl_within_M [] (bodyOf Try.f46) (kFun tab Try.f46.results.toList K) (fr0 Try.f46 [.int .i64 x0, .int .i64 x1, .int .i64 x2]) h = impl_within_main S K x0 x1 x2 h := by kernel_rfl
theorem impl_within_call (x0 : Int) (x1 : Int) (x2 : Int) (h : H) (K : Bool → H → Prop) (hm : impl_within_main (Sat Try.prog) (fun v h' => ∃ r, v = .bool r ∧ K r h') x0 x1 x2 h) : callB (Sat Try.prog) i_impl_within [.int .i64 x0, .int .i64 x1, .int .i64 x2] h K := by
  have := Sat.ex tok mixed impl_within_M Try.func46 (c := bodyOf Try.f46) (by kernel_rfl) (calls_of Try.func46 (c := bodyOf Try.f46) (by kernel_rfl) (by decide)) ((impl_within_main_link _ _ x0 x1 x2 h).mpr hm)
  obtain ⟨v, h2, h3, r, rfl, h4⟩ := this; exact ⟨r, h2, h3, h4⟩

/-! ### loop.example/g01354/laws.szPlacedS -/
def laws_szPlacedS_M : Nat → List Nat := fun i => []
def laws_szPlacedS_main (S : SatT) (K : AVal → H → Prop) (x0 : Sl) (x1 : Int) (h : H) : Prop :=
 bif (decide ((w64 (x1 - (x0.len : Int))) < (0))) then
 K (.int .i64 (-1)) h
 else
 K (.int .i64 (w64 (x1 - (x0.len : Int)))) h
theorem laws_szPlacedS_main_link (S : SatT) (K : AVal → H → Prop) (x0 : Sl) (x1 : Int) (h : H) : cwp S tab laws_szPlacedS_M [] (bodyOf Try.f59) (kFun tab Try.f59.results.toList K) (fr0 Try.f59 [.sl x0, .int .i64 x1]) h = laws_szPlacedS_main S K x0 x1 h := by kernel_rfl
theorem laws_szPlacedS_call (x0 : Sl) (x1 : Int) (h : H) (K : Int → H → Prop) (hm : laws_szPlacedS_main (Sat Try.prog) (fun v h' => ∃ r, v = .int .i64 r ∧ K r h') x0 x1 h) : callI (Sat Try.prog) .i64 i_laws_szPlacedS [.sl x0, .int .i64 x1] h K := by
  have := Sat.ex tok mixed laws_szPlacedS_M Try.func59 (c := bodyOf Try.f59) (by kernel_rfl) (calls_of Try.func59 (c := bodyOf Try.f59) (by kernel_rfl) (by decide)) ((laws_szPlacedS_main_link _ _ x0 x1 h).mpr hm)
  obtain ⟨v, h2, h3, r, rfl, h4⟩ := this; exact ⟨r, h2, h3, h4⟩

/-! ### loop.example/g01354/laws.szTileS -/
def laws_szTileS_M : Nat → List Nat := fun i => []
def laws_szTileS_main (S : SatT) (K : AVal → H → Prop) (x0 : Sl) (x1 : Int) (h : H) : Prop :=
 bif (decide ((w64 (x1 - (x0.len : Int))) < (0))) then
 K (.int .i64 (-1)) h
 else
 K (.int .i64 (w64 (x1 - (x0.len : Int)))) h
theorem laws_szTileS_main_link (S : SatT) (K : AVal → H → Prop) (x0 : Sl) (x1 : Int) (h : H) : cwp S tab laws_szTileS_M [] (bodyOf Try.f20) (kFun tab Try.f20.results.toList K) (fr0 Try.f20 [.sl x0, .int .i64 x1]) h = laws_szTileS_main S K x0 x1 h := by kernel_rfl
theorem laws_szTileS_call (x0 : Sl) (x1 : Int) (h : H) (K : Int → H → Prop) (hm : laws_szTileS_main (Sat Try.prog) (fun v h' => ∃ r, v = .int .i64 r ∧ K r h') x0 x1 h) : callI (Sat Try.prog) .i64 i_laws_szTileS [.sl x0, .int .i64 x1] h K := by
  have := Sat.ex tok mixed laws_szTileS_M Try.func20 (c := bodyOf Try.f20) (by kernel_rfl) (calls_of Try.func20 (c := bodyOf Try.f20) (by kernel_rfl) (by decide)) ((laws_szTileS_main_link _ _ x0 x1 h).mpr hm)
  obtain ⟨v, h2, h3, r, rfl, h4⟩ := this; exact ⟨r, h2, h3, h4⟩

/-! ### loop.example/g01354/impl.boards$1 -/
def impl_boards_1_M : Nat → List Nat := fun i => bif i == 2 then [0, 1, 2, 4, 5, 6, 7, 8, 10, 11, 12, 13, 39, 40, 51, 52, 53] else bif i == 0 then [0, 1, 2, 4, 5, 6, 7, 8, 10, 11, 12, 39, 40] else []
def impl_boards_1_ks8 (S : SatT) (K : AVal → H → Prop) : Kont := kSeq (cwp S tab impl_boards_1_M [] (sub [1, 1, 1, 1, 1, 1] (bodyOf Try.f81)) (kFun tab (Try.f81).results.toList K)) (kFun tab (Try.f81).results.toList K)
def impl_boards_1_e0 (p0_ : Pt) (p1_ : Pt) (p2_ : Pt) (p4_ : Pt) (p5_ : Pt) (p6_ : Pt) (p7_ : Pt) (p8_ : Pt) (i10_ : Int) (i11_ : Int) (s12_ : Sl) (i39_ : Int) (i40_ : Int) : Frame := [.ptr p0_, .ptr p1_, .ptr p2_, U, .ptr p4_, .ptr p5_, .ptr p6_, .ptr p7_, .ptr p8_, U, .int .i64 i10_, .int .i64 i11_, .sl s12_, U, U, U, U, U, U, U, U, U, U, U, U, U, U, U, U, U, U, U, U, U, U, U, U, U, U, .int .i64 i39_, .int .i64 i40_, U, U, U, U, U, U, U, U, U, U, U, U, U, U, U, U, U, U, U, U, U, U, U, U, U, U, U, U, U, U, U, U, U, U, U, U, U, U, U, U, U, U, U, U, U, U, U, U, U, U, U, U, U, U, U, U, U, U, U, U, U, U, U, U, U, U, U, U, U, U, U, U, U, U, U, U, U, U]
def impl_boards_1_w0 (S : SatT) (K : AVal → H → Prop) : (Frame → H → Prop) → Frame → H → Prop := fun X fr h => cwp S tab impl_boards_1_M (impl_boards_1_M 0) (sub [1, 1, 1, 1, 1, 0, 1, 0, 0] (bodyOf Try.f81)) (kSeq (fun fr h => X (mask (impl_boards_1_M 0) fr) h) (kBlk 0 (impl_boards_1_ks8 S K))) fr h
def impl_boards_1_L0 (S : SatT) (K : AVal → H → Prop) (p0_ : Pt) (p1_ : Pt) (p2_ : Pt) (p4_ : Pt) (p5_ : Pt) (p6_ : Pt) (p7_ : Pt) (p8_ : Pt) (i10_ : Int) (i11_ : Int) (s12_ : Sl) (i39_ : Int) (i40_ : Int) (h : H) : Prop := loopK (impl_boards_1_w0 S K) (impl_boards_1_e0 p0_ p1_ p2_ p4_ p5_ p6_ p7_ p8_ i10_ i11_ s12_ i39_ i40_) h
def impl_boards_1_C1 (S : SatT) (K : AVal → H → Prop) (X0 : Frame → H → Prop) (p0_ : Pt) (p1_ : Pt) (p2_ : Pt) (p4_ : Pt) (p5_ : Pt) (p6_ : Pt) (p7_ : Pt) (p8_ : Pt) (i10_ : Int) (i11_ : Int) (s12_ : Sl) (i39_ : Int) (i40_ : Int) (h : H) : Prop :=
 X0 (impl_boards_1_e0 p0_ p1_ p2_ p4_ p5_ p6_ p7_ p8_ i10_ i11_ s12_ i39_ (w64 (i40_ + (1)))) h
def impl_boards_1_ks12 (S : SatT) (K : AVal → H → Prop) (X0 : Frame → H → Prop) : Kont := kSeq (cwp S tab impl_boards_1_M (impl_boards_1_M 0) (sub [1, 1, 1, 1, 1, 0, 1, 0, 0, 1, 1, 1] (bodyOf Try.f81)) (kSeq (fun fr h => X0 (mask (impl_boards_1_M 0) fr) h) (kBlk 0 (impl_boards_1_ks8 S K)))) (kSeq (fun fr h => X0 (mask (impl_boards_1_M 0) fr) h) (kBlk 0 (impl_boards_1_ks8 S K)))
def impl_boards_1_e2 (p0_ : Pt) (p1_ : Pt) (p2_ : Pt) (p4_ : Pt) (p5_ : Pt) (p6_ : Pt) (p7_ : Pt) (p8_ : Pt) (i10_ : Int) (i11_ : Int) (s12_ : Sl) (i13_ : Int) (i39_ : Int) (i40_ : Int) (s51_ : Sl) (i52_ : Int) (i53_ : Int) : Frame := [.ptr p0_, .ptr p1_, .ptr p2_, U, .ptr p4_, .ptr p5_, .ptr p6_, .ptr p7_, .ptr p8_, U, .int .i64 i10_, .int .i64 i11_, .sl s12_, .int .i64 i13_, U, U, U, U, U, U, U, U, U, U, U, U, U, U, U, U, U, U, U, U, U, U, U, U, U, .int .i64 i39_, .int .i64 i40_, U, U, U, U, U, U, U, U, U, U, .sl s51_, .int .i64 i52_, .int .i64 i53_, U, U, U, U, U, U, U, U, U, U, U, U, U, U, U, U, U, U, U, U, U, U, U, U, U, U, U, U, U, U, U, U, U, U, U, U, U, U, U, U, U, U, U, U, U, U, U, U, U, U, U, U, U, U, U, U, U, U, U, U, U, U, U, U, U]
def impl_boards_1_w2 (S : SatT) (K : AVal → H → Prop) (X0 : Frame → H → Prop) : (Frame → H → Prop) → Frame → H → Prop := fun X fr h => cwp S tab impl_boards_1_M (impl_boards_1_M 2) (sub [1, 1, 1, 1, 1, 0, 1, 0, 0, 1, 1, 0, 0, 1, 1, 1, 0, 0] (bodyOf Try.f81)) (kSeq (fun fr h => X (mask (impl_boards_1_M 2) fr) h) (kBlk 2 (kBlk 1 (impl_boards_1_ks12 S K X0)))) fr h
def impl_boards_1_L2 (S : SatT) (K : AVal → H → Prop) (X0 : Frame → H → Prop) (p0_ : Pt) (p1_ : Pt) (p2_ : Pt) (p4_ : Pt) (p5_ : Pt) (p6_ : Pt) (p7_ : Pt) (p8_ : Pt) (i10_ : Int) (i11_ : Int) (s12_ : Sl) (i13_ : Int) (i39_ : Int) (i40_ : Int) (s51_ : Sl) (i52_ : Int) (i53_ : Int) (h : H) : Prop := loopK (impl_boards_1_w2 S K X0) (impl_boards_1_e2 p0_ p1_ p2_ p4_ p5_ p6_ p7_ p8_ i10_ i11_ s12_ i13_ i39_ i40_ s51_ i52_ i53_) h
def impl_boards_1_C2 (S : SatT) (K : AVal → H → Prop) (X0 : Frame → H → Prop) (p0_ : Pt) (p1_ : Pt) (p2_ : Pt) (p4_ : Pt) (p5_ : Pt) (p6_ : Pt) (p7_ : Pt) (p8_ : Pt) (i10_ : Int) (i11_ : Int) (s12_ : Sl) (i39_ : Int) (i40_ : Int) (h : H) : Prop :=
 impl_boards_1_C1 S K X0 p0_ p1_ p2_ p4_ p5_ p6_ p7_ p8_ i10_ i11_ s12_ i39_ i40_ h
def impl_boards_1_b2 (S : SatT) (K : AVal → H → Prop) (X0 : Frame → H → Prop) (X2 : Frame → H → Prop) (p0_ : Pt) (p1_ : Pt) (p2_ : Pt) (p4_ : Pt) (p5_ : Pt) (p6_ : Pt) (p7_ : Pt) (p8_ : Pt) (i10_ : Int) (i11_ : Int) (s12_ : Sl) (i13_ : Int) (i39_ : Int) (i40_ : Int) (s51_ : Sl) (i52_ : Int) (i53_ : Int) (h : H) : Prop :=
 bif (decide (i53_ < i52_)) then
 ixS s51_ 4 i53_ fun p0 =>
 ldA p0 4 h fun cs1 =>
 newO [.int .i64 (0), .int .i64 (0), .int .i64 (0), .int .i64 (0)] h fun p2 h3 =>
 stN p2 4 cs1 h3 fun h4 =>
 ldA p2 4 h4 fun cs5 =>
 ldS p4_ h4 fun s6 =>
 ixS s6 1 i10_ fun p7 =>
 ldS p7 h4 fun s8 =>
 callB S i_impl_joins [.agg cs5, .int .i64 i11_, .sl s12_, .sl s8] h4 fun b10 h9 =>
 bif (!b10) then
 X2 (impl_boards_1_e2 p0_ p1_ p2_ p4_ p5_ p6_ p7_ p8_ i10_ i11_ s12_ i13_ i39_ i40_ s51_ i52_ (w64 (i53_ + (1)))) h9
 else
 ldA p2 4 h9 fun cs11 =>
 ldI .i64 p7_ h9 fun n12 =>
 ldI .i64 p2_ h9 fun n13 =>
 ldI .i64 p1_ h9 fun n14 =>
 callB S i_impl_edges [.agg cs11, .int .i64 n12, .int .i64 i10_, .int .i64 i11_, .int .i64 n13, .int .i64 n14] h9 fun b16 h15 =>
 bif (!b16) then
 X2 (impl_boards_1_e2 p0_ p1_ p2_ p4_ p5_ p6_ p7_ p8_ i10_ i11_ s12_ i13_ i39_ i40_ s51_ i52_ (w64 (i53_ + (1)))) h15
 else
 ldS p6_ h15 fun s17 =>
 ixS s17 1 i13_ fun p18 =>
 st1 p18 (.bool true) h15 fun h19 =>
 slotK 18 h19 fun h20 =>
 ldS p4_ h20 fun s21 =>
 ldS p0_ h20 fun s22 =>
 ldS p4_ h20 fun s23 =>
 ixS s23 1 i10_ fun p24 =>
 ldS p24 h20 fun s25 =>
 ldA p2 4 h20 fun cs26 =>
 lenA [.int .i64 i13_, .int .i64 i53_] 2 (
 newSat 1 2 (spl [.int .i64 (0), .int .i64 (0)] 0 2 [.int .i64 i13_, .int .i64 i53_]) h20 (h19.length + 6) fun s27 h28 =>
(range h28 p2.o p2.n p2.off 4 = range h20 p2.o p2.n p2.off 4) ∧ (
(cell h28 p24 = cell h20 p24) ∧ (
(cell h28 p4_ = cell h20 p4_) ∧ (
(cell h28 p0_ = cell h20 p0_) ∧ (
(cell h28 p4_ = cell h20 p4_) ∧ (
 app s22 s27 2 h28 fun s29 h30 =>
(range h30 p2.o p2.n p2.off 4 = range h20 p2.o p2.n p2.off 4) ∧ (
(cell h30 p24 = cell h20 p24) ∧ (
(cell h30 p4_ = cell h20 p4_) ∧ (
(cell h30 p4_ = cell h20 p4_) ∧ (
 lenA cs26 4 (
 newSat 1 4 (spl [.int .i64 (0), .int .i64 (0), .int .i64 (0), .int .i64 (0)] 0 4 cs26) h30 (h19.length + 13) fun s31 h32 =>
(cell h30 p0_ = cell h20 p0_) ∧ (
(cell h32 p24 = cell h20 p24) ∧ (
(cell h32 p4_ = cell h20 p4_) ∧ (
(cell h32 p0_ = cell h20 p0_) ∧ (
(cell h32 p4_ = cell h20 p4_) ∧ (
 app s25 s31 4 h32 fun s33 h34 =>
(cell h34 p4_ = cell h20 p4_) ∧ (
 st1 p0_ (.sl s29) h34 fun h35 =>
(cell h35 p4_ = cell h20 p4_) ∧ (
 ixS s21 1 i10_ fun p36 =>
 st1 p36 (.sl s33) h35 fun h37 =>
 ldV p8_ h37 fun v38 =>
 viaF v38 [] fun g39 ys40 =>
 callB S g39 ys40 h37 fun b42 h41 =>
 ldS p6_ h41 fun s43 =>
 ixS s43 1 i13_ fun p44 =>
 st1 p44 (.bool false) h41 fun h45 =>
 ldS p4_ h45 fun s46 =>
 ldS p0_ h45 fun s47 =>
 ldS p0_ h45 fun s48 =>
 cut s47 2 (0) (w64 ((s48.len : Int) - (1))) h45 fun s49 =>
 ldS p4_ h45 fun s50 =>
 ixS s50 1 i10_ fun p51 =>
 ldS p51 h45 fun s52 =>
 cut s52 4 (0) i11_ h45 fun s53 =>
 st1 p0_ (.sl s49) h45 fun h54 =>
 okS h54 s52 ∧ (
(cell h54 p51 = cell h45 p51) ∧ (
(cell h54 p4_ = cell h45 p4_) ∧ (
(cell h54 p4_ = cell h45 p4_) ∧ (
 ixS s46 1 i10_ fun p55 =>
 st1 p55 (.sl s53) h54 fun h56 =>
 bif (!b42) then
 K (.bool false) h56
 else
 X2 (impl_boards_1_e2 p0_ p1_ p2_ p4_ p5_ p6_ p7_ p8_ i10_ i11_ s12_ i13_ i39_ i40_ s51_ i52_ (w64 (i53_ + (1)))) h56))))))))))))))))))))))
 else
 impl_boards_1_C2 S K X0 p0_ p1_ p2_ p4_ p5_ p6_ p7_ p8_ i10_ i11_ s12_ i39_ i40_ h
theorem impl_boards_1_link2 (S : SatT) (K : AVal → H → Prop) (X0 : Frame → H → Prop) (X2 : Frame → H → Prop) (p0_ : Pt) (p1_ : Pt) (p2_ : Pt) (p4_ : Pt) (p5_ : Pt) (p6_ : Pt) (p7_ : Pt) (p8_ : Pt) (i10_ : Int) (i11_ : Int) (s12_ : Sl) (i13_ : Int) (i39_ : Int) (i40_ : Int) (s51_ : Sl) (i52_ : Int) (i53_ : Int) (h : H) : impl_boards_1_w2 S K X0 X2 (impl_boards_1_e2 p0_ p1_ p2_ p4_ p5_ p6_ p7_ p8_ i10_ i11_ s12_ i13_ i39_ i40_ s51_ i52_ i53_) h = impl_boards_1_b2 S K X0 X2 p0_ p1_ p2_ p4_ p5_ p6_ p7_ p8_ i10_ i11_ s12_ i13_ i39_ i40_ s51_ i52_ i53_ h := by kernel_rfl
theorem impl_boards_1_rule2 (S : SatT) (K : AVal → H → Prop) (X0 : Frame → H → Prop) (p0_ : Pt) (p1_ : Pt) (p2_ : Pt) (p4_ : Pt) (p5_ : Pt) (p6_ : Pt) (p7_ : Pt) (p8_ : Pt) (i10_ : Int) (i11_ : Int) (s12_ : Sl) (i13_ : Int) (i39_ : Int) (i40_ : Int) (s51_ : Sl) (i52_ : Int) (I_ : Int → H → Prop) (m_ : Int → H → Nat)
    (hs : ∀ (X2 : Frame → H → Prop) (i53_ : Int) (h : H), I_ i53_ h → (∀ (i53_' : Int) (h' : H), I_ i53_' h' → m_ i53_' h' < m_ i53_ h → X2 (impl_boards_1_e2 p0_ p1_ p2_ p4_ p5_ p6_ p7_ p8_ i10_ i11_ s12_ i13_ i39_ i40_ s51_ i52_ i53_') h') → impl_boards_1_b2 S K X0 X2 p0_ p1_ p2_ p4_ p5_ p6_ p7_ p8_ i10_ i11_ s12_ i13_ i39_ i40_ s51_ i52_ i53_ h) (i53_ : Int) {h : H} (h0 : I_ i53_ h) : impl_boards_1_L2 S K X0 p0_ p1_ p2_ p4_ p5_ p6_ p7_ p8_ i10_ i11_ s12_ i13_ i39_ i40_ s51_ i52_ i53_ h :=
  loop_rule (σ := (Int)) (fun s_ => impl_boards_1_e2 p0_ p1_ p2_ p4_ p5_ p6_ p7_ p8_ i10_ i11_ s12_ i13_ i39_ i40_ s51_ i52_ (s_)) (fun s_ h => I_ (s_) h) (fun s_ h => m_ (s_) h)
    (fun X s_ h hi hx => (impl_boards_1_link2 S K X0 X p0_ p1_ p2_ p4_ p5_ p6_ p7_ p8_ i10_ i11_ s12_ i13_ i39_ i40_ s51_ i52_ (s_) h).mpr (hs X (s_) h hi fun i53_' h' hi' hm' => hx (i53_') h' hi' hm')) (i53_) h0
theorem impl_boards_1_unroll2 (S : SatT) (K : AVal → H → Prop) (X0 : Frame → H → Prop) (p0_ : Pt) (p1_ : Pt) (p2_ : Pt) (p4_ : Pt) (p5_ : Pt) (p6_ : Pt) (p7_ : Pt) (p8_ : Pt) (i10_ : Int) (i11_ : Int) (s12_ : Sl) (i13_ : Int) (i39_ : Int) (i40_ : Int) (s51_ : Sl) (i52_ : Int) (i53_ : Int) (h : H) (hb : impl_boards_1_b2 S K X0 (fun fr h => loopK (impl_boards_1_w2 S K X0) fr h) p0_ p1_ p2_ p4_ p5_ p6_ p7_ p8_ i10_ i11_ s12_ i13_ i39_ i40_ s51_ i52_ i53_ h) : impl_boards_1_L2 S K X0 p0_ p1_ p2_ p4_ p5_ p6_ p7_ p8_ i10_ i11_ s12_ i13_ i39_ i40_ s51_ i52_ i53_ h := loop_unroll ((impl_boards_1_link2 S K X0 _ p0_ p1_ p2_ p4_ p5_ p6_ p7_ p8_ i10_ i11_ s12_ i13_ i39_ i40_ s51_ i52_ i53_ h).mpr hb)
def impl_boards_1_C0 (S : SatT) (K : AVal → H → Prop) (h : H) : Prop :=
 K (.bool true) h
def impl_boards_1_b0 (S : SatT) (K : AVal → H → Prop) (X0 : Frame → H → Prop) (p0_ : Pt) (p1_ : Pt) (p2_ : Pt) (p4_ : Pt) (p5_ : Pt) (p6_ : Pt) (p7_ : Pt) (p8_ : Pt) (i10_ : Int) (i11_ : Int) (s12_ : Sl) (i39_ : Int) (i40_ : Int) (h : H) : Prop :=
 bif (decide (i40_ < i39_)) then
 ldS p6_ h fun s0 =>
 ixS s0 1 i40_ fun p1 =>
 ldB p1 h fun b2 =>
 bif b2 then
 impl_boards_1_C1 S K X0 p0_ p1_ p2_ p4_ p5_ p6_ p7_ p8_ i10_ i11_ s12_ i39_ i40_ h
 else
 ldS p5_ h fun s3 =>
 ixS s3 4 i40_ fun p4 =>
 ldA p4 4 h fun cs5 =>
 callS S i_impl_Tile_turns [.agg cs5] h fun s7 h6 =>
 impl_boards_1_L2 S K X0 p0_ p1_ p2_ p4_ p5_ p6_ p7_ p8_ i10_ i11_ s12_ i40_ i39_ i40_ s7 (s7.len : Int) (0) h6
 else
 impl_boards_1_C0 S K h
theorem impl_boards_1_link0 (S : SatT) (K : AVal → H → Prop) (X0 : Frame → H → Prop) (p0_ : Pt) (p1_ : Pt) (p2_ : Pt) (p4_ : Pt) (p5_ : Pt) (p6_ : Pt) (p7_ : Pt) (p8_ : Pt) (i10_ : Int) (i11_ : Int) (s12_ : Sl) (i39_ : Int) (i40_ : Int) (h : H) : impl_boards_1_w0 S K X0 (impl_boards_1_e0 p0_ p1_ p2_ p4_ p5_ p6_ p7_ p8_ i10_ i11_ s12_ i39_ i40_) h = impl_boards_1_b0 S K X0 p0_ p1_ p2_ p4_ p5_ p6_ p7_ p8_ i10_ i11_ s12_ i39_ i40_ h := by kernel_rfl
theorem impl_boards_1_rule0 (S : SatT) (K : AVal → H → Prop) (p0_ : Pt) (p1_ : Pt) (p2_ : Pt) (p4_ : Pt) (p5_ : Pt) (p6_ : Pt) (p7_ : Pt) (p8_ : Pt) (i10_ : Int) (i11_ : Int) (s12_ : Sl) (i39_ : Int) (I_ : Int → H → Prop) (m_ : Int → H → Nat)
    (hs : ∀ (X0 : Frame → H → Prop) (i40_ : Int) (h : H), I_ i40_ h → (∀ (i40_' : Int) (h' : H), I_ i40_' h' → m_ i40_' h' < m_ i40_ h → X0 (impl_boards_1_e0 p0_ p1_ p2_ p4_ p5_ p6_ p7_ p8_ i10_ i11_ s12_ i39_ i40_') h') → impl_boards_1_b0 S K X0 p0_ p1_ p2_ p4_ p5_ p6_ p7_ p8_ i10_ i11_ s12_ i39_ i40_ h) (i40_ : Int) {h : H} (h0 : I_ i40_ h) : impl_boards_1_L0 S K p0_ p1_ p2_ p4_ p5_ p6_ p7_ p8_ i10_ i11_ s12_ i39_ i40_ h :=
  loop_rule (σ := (Int)) (fun s_ => impl_boards_1_e0 p0_ p1_ p2_ p4_ p5_ p6_ p7_ p8_ i10_ i11_ s12_ i39_ (s_)) (fun s_ h => I_ (s_) h) (fun s_ h => m_ (s_) h)
    (fun X s_ h hi hx => (impl_boards_1_link0 S K X p0_ p1_ p2_ p4_ p5_ p6_ p7_ p8_ i10_ i11_ s12_ i39_ (s_) h).mpr (hs X (s_) h hi fun i40_' h' hi' hm' => hx (i40_') h' hi' hm')) (i40_) h0
theorem impl_boards_1_unroll0 (S : SatT) (K : AVal → H → Prop) (p0_ : Pt) (p1_ : Pt) (p2_ : Pt) (p4_ : Pt) (p5_ : Pt) (p6_ : Pt) (p7_ : Pt) (p8_ : Pt) (i10_ : Int) (i11_ : Int) (s12_ : Sl) (i39_ : Int) (i40_ : Int) (h : H) (hb : impl_boards_1_b0 S K (fun fr h => loopK (impl_boards_1_w0 S K) fr h) p0_ p1_ p2_ p4_ p5_ p6_ p7_ p8_ i10_ i11_ s12_ i39_ i40_ h) : impl_boards_1_L0 S K p0_ p1_ p2_ p4_ p5_ p6_ p7_ p8_ i10_ i11_ s12_ i39_ i40_ h := loop_unroll ((impl_boards_1_link0 S K _ p0_ p1_ p2_ p4_ p5_ p6_ p7_ p8_ i10_ i11_ s12_ i39_ i40_ h).mpr hb)
def impl_boards_1_main (S : SatT) (K : AVal → H → Prop) (x0 : Pt) (x1 : Pt) (x2 : Pt) (x3 : Pt) (x4 : Pt) (x5 : Pt) (x6 : Pt) (x7 : Pt) (x8 : Pt) (h : H) : Prop :=
 ldS x0 h fun s0 =>
 ldI .i64 x1 h fun n1 =>
 nz n1 (
 ldS x0 h fun s2 =>
 ldI .i64 x1 h fun n3 =>
 nz n3 (
 ldI .i64 x2 h fun n4 =>
 bif ((w64 (Int.tdiv (s0.len : Int) n1)) == n4) then
 ldV x3 h fun v5 =>
 ldS x0 h fun s6 =>
 viaF v5 [.sl s6] fun g7 ys8 =>
 callB S g7 ys8 h fun b10 h9 =>
 K (.bool b10) h9
 else
 bif (decide ((w64 (Int.tdiv (s0.len : Int) n1)) > (0))) then
 ldS x4 h fun s11 =>
 ixS s11 1 (w64 ((w64 (Int.tdiv (s0.len : Int) n1)) - (1))) fun p12 =>
 ldS p12 h fun s13 =>
 ldS x5 h fun s14 =>
 impl_boards_1_L0 S K x0 x1 x2 x4 x5 x6 x7 x8 (w64 (Int.tdiv (s0.len : Int) n1)) (Int.tmod (s2.len : Int) n3) s13 (s14.len : Int) (0) h
 else
 ldS x5 h fun s15 =>
 impl_boards_1_L0 S K x0 x1 x2 x4 x5 x6 x7 x8 (w64 (Int.tdiv (s0.len : Int) n1)) (Int.tmod (s2.len : Int) n3) Sl.nil (s15.len : Int) (0) h))
theorem impl_boards_1_main_link (S : SatT) (K : AVal → H → Prop) (x0 : Pt) (x1 : Pt) (x2 : Pt) (x3 : Pt) (x4 : Pt) (x5 : Pt) (x6 : Pt) (x7 : Pt) (x8 : Pt) (h : H) : cwp S tab impl_boards_1_M [] (bodyOf Try.f81) (kFun tab Try.f81.results.toList K) (fr0 Try.f81 [.ptr x0, .ptr x1, .ptr x2, .ptr x3, .ptr x4, .ptr x5, .ptr x6, .ptr x7, .ptr x8]) h = impl_boards_1_main S K x0 x1 x2 x3 x4 x5 x6 x7 x8 h := by kernel_rfl
theorem impl_boards_1_call (x0 : Pt) (x1 : Pt) (x2 : Pt) (x3 : Pt) (x4 : Pt) (x5 : Pt) (x6 : Pt) (x7 : Pt) (x8 : Pt) (h : H) (K : Bool → H → Prop) (hm : impl_boards_1_main (Sat Try.prog) (fun v h' => ∃ r, v = .bool r ∧ K r h') x0 x1 x2 x3 x4 x5 x6 x7 x8 h) : callB (Sat Try.prog) i_impl_boards_1 [.ptr x0, .ptr x1, .ptr x2, .ptr x3, .ptr x4, .ptr x5, .ptr x6, .ptr x7, .ptr x8] h K := by
  have := Sat.ex tok mixed impl_boards_1_M Try.func81 (c := bodyOf Try.f81) (by kernel_rfl) (calls_of Try.func81 (c := bodyOf Try.f81) (by kernel_rfl) (by decide)) ((impl_boards_1_main_link _ _ x0 x1 x2 x3 x4 x5 x6 x7 x8 h).mpr hm)
  obtain ⟨v, h2, h3, r, rfl, h4⟩ := this; exact ⟨r, h2, h3, h4⟩

/-! ### loop.example/g01354/laws.markTileS -/
def laws_markTileS_M : Nat → List Nat := fun i => bif i == 2 then [0, 1, 5, 6] else bif i == 0 then [0, 1, 5] else []
def laws_markTileS_ks1 (S : SatT) (K : AVal → H → Prop) : Kont := kSeq (cwp S tab laws_markTileS_M [] (sub [1, 1] (bodyOf Try.f18)) (kFun tab (Try.f18).results.toList K)) (kFun tab (Try.f18).results.toList K)
def laws_markTileS_e0 (s0_ : Sl) (i1_ : Int) (i5_ : Int) : Frame := [.sl s0_, .int .i64 i1_, U, U, U, .int .i64 i5_, U, U, U, U, U, U, U, U, U, U, U, U, U, U, U, U, U, U, U, U]
def laws_markTileS_w0 (S : SatT) (K : AVal → H → Prop) : (Frame → H → Prop) → Frame → H → Prop := fun X fr h => cwp S tab laws_markTileS_M (laws_markTileS_M 0) (sub [1, 0, 1, 0, 0] (bodyOf Try.f18)) (kSeq (fun fr h => X (mask (laws_markTileS_M 0) fr) h) (kBlk 0 (laws_markTileS_ks1 S K))) fr h
def laws_markTileS_L0 (S : SatT) (K : AVal → H → Prop) (s0_ : Sl) (i1_ : Int) (i5_ : Int) (h : H) : Prop := loopK (laws_markTileS_w0 S K) (laws_markTileS_e0 s0_ i1_ i5_) h
def laws_markTileS_ks5 (S : SatT) (K : AVal → H → Prop) (X0 : Frame → H → Prop) : Kont := kSeq (cwp S tab laws_markTileS_M (laws_markTileS_M 0) (sub [1, 0, 1, 0, 0, 1, 1] (bodyOf Try.f18)) (kSeq (fun fr h => X0 (mask (laws_markTileS_M 0) fr) h) (kBlk 0 (laws_markTileS_ks1 S K)))) (kSeq (fun fr h => X0 (mask (laws_markTileS_M 0) fr) h) (kBlk 0 (laws_markTileS_ks1 S K)))
def laws_markTileS_e2 (s0_ : Sl) (i1_ : Int) (i5_ : Int) (i6_ : Int) : Frame := [.sl s0_, .int .i64 i1_, U, U, U, .int .i64 i5_, .int .i64 i6_, U, U, U, U, U, U, U, U, U, U, U, U, U, U, U, U, U, U, U]
def laws_markTileS_w2 (S : SatT) (K : AVal → H → Prop) (X0 : Frame → H → Prop) : (Frame → H → Prop) → Frame → H → Prop := fun X fr h => cwp S tab laws_markTileS_M (laws_markTileS_M 2) (sub [1, 0, 1, 0, 0, 1, 0, 0, 1, 0, 0] (bodyOf Try.f18)) (kSeq (fun fr h => X (mask (laws_markTileS_M 2) fr) h) (kBlk 2 (kBlk 1 (laws_markTileS_ks5 S K X0)))) fr h
def laws_markTileS_L2 (S : SatT) (K : AVal → H → Prop) (X0 : Frame → H → Prop) (s0_ : Sl) (i1_ : Int) (i5_ : Int) (i6_ : Int) (h : H) : Prop := loopK (laws_markTileS_w2 S K X0) (laws_markTileS_e2 s0_ i1_ i5_ i6_) h
def laws_markTileS_C1 (S : SatT) (K : AVal → H → Prop) (X0 : Frame → H → Prop) (s0_ : Sl) (i1_ : Int) (i5_ : Int) (h : H) : Prop :=
 X0 (laws_markTileS_e0 s0_ i1_ (w64 (i5_ + (1)))) h
def laws_markTileS_C2 (S : SatT) (K : AVal → H → Prop) (X0 : Frame → H → Prop) (s0_ : Sl) (i1_ : Int) (i5_ : Int) (h : H) : Prop :=
 laws_markTileS_C1 S K X0 s0_ i1_ i5_ h
def laws_markTileS_b2 (S : SatT) (K : AVal → H → Prop) (X0 : Frame → H → Prop) (X2 : Frame → H → Prop) (s0_ : Sl) (i1_ : Int) (i5_ : Int) (i6_ : Int) (h : H) : Prop :=
 bif (decide (i6_ < (4))) then
 ixS s0_ 4 i5_ fun p0 =>
 ixA p0 4 1 i6_ fun p1 =>
 st1 p1 (.int .i64 i1_) h fun h2 =>
 X2 (laws_markTileS_e2 s0_ (w64 (i1_ + (1))) i5_ (w64 (i6_ + (1)))) h2
 else
 laws_markTileS_C2 S K X0 s0_ i1_ i5_ h
theorem laws_markTileS_link2 (S : SatT) (K : AVal → H → Prop) (X0 : Frame → H → Prop) (X2 : Frame → H → Prop) (s0_ : Sl) (i1_ : Int) (i5_ : Int) (i6_ : Int) (h : H) : laws_markTileS_w2 S K X0 X2 (laws_markTileS_e2 s0_ i1_ i5_ i6_) h = laws_markTileS_b2 S K X0 X2 s0_ i1_ i5_ i6_ h := by kernel_rfl
theorem laws_markTileS_rule2 (S : SatT) (K : AVal → H → Prop) (X0 : Frame → H → Prop) (s0_ : Sl) (i5_ : Int) (I_ : Int → Int → H → Prop) (m_ : Int → Int → H → Nat)
    (hs : ∀ (X2 : Frame → H → Prop) (i1_ : Int) (i6_ : Int) (h : H), I_ i1_ i6_ h → (∀ (i1_' : Int) (i6_' : Int) (h' : H), I_ i1_' i6_' h' → m_ i1_' i6_' h' < m_ i1_ i6_ h → X2 (laws_markTileS_e2 s0_ i1_' i5_ i6_') h') → laws_markTileS_b2 S K X0 X2 s0_ i1_ i5_ i6_ h) (i1_ : Int) (i6_ : Int) {h : H} (h0 : I_ i1_ i6_ h) : laws_markTileS_L2 S K X0 s0_ i1_ i5_ i6_ h :=
  loop_rule (σ := (Int) × (Int)) (fun s_ => laws_markTileS_e2 s0_ (s_.1) i5_ (s_.2)) (fun s_ h => I_ (s_.1) (s_.2) h) (fun s_ h => m_ (s_.1) (s_.2) h)
    (fun X s_ h hi hx => (laws_markTileS_link2 S K X0 X s0_ (s_.1) i5_ (s_.2) h).mpr (hs X (s_.1) (s_.2) h hi fun i1_' i6_' h' hi' hm' => hx (i1_', i6_') h' hi' hm')) (i1_, i6_) h0
theorem laws_markTileS_unroll2 (S : SatT) (K : AVal → H → Prop) (X0 : Frame → H → Prop) (s0_ : Sl) (i1_ : Int) (i5_ : Int) (i6_ : Int) (h : H) (hb : laws_markTileS_b2 S K X0 (fun fr h => loopK (laws_markTileS_w2 S K X0) fr h) s0_ i1_ i5_ i6_ h) : laws_markTileS_L2 S K X0 s0_ i1_ i5_ i6_ h := loop_unroll ((laws_markTileS_link2 S K X0 _ s0_ i1_ i5_ i6_ h).mpr hb)
def laws_markTileS_C0 (S : SatT) (K : AVal → H → Prop) (i1_ : Int) (h : H) : Prop :=
 K (.int .i64 i1_) h
def laws_markTileS_b0 (S : SatT) (K : AVal → H → Prop) (X0 : Frame → H → Prop) (s0_ : Sl) (i1_ : Int) (i5_ : Int) (h : H) : Prop :=
 bif (decide (i5_ < (s0_.len : Int))) then
 laws_markTileS_L2 S K X0 s0_ i1_ i5_ (0) h
 else
 laws_markTileS_C0 S K i1_ h
theorem laws_markTileS_link0 (S : SatT) (K : AVal → H → Prop) (X0 : Frame → H → Prop) (s0_ : Sl) (i1_ : Int) (i5_ : Int) (h : H) : laws_markTileS_w0 S K X0 (laws_markTileS_e0 s0_ i1_ i5_) h = laws_markTileS_b0 S K X0 s0_ i1_ i5_ h := by kernel_rfl
theorem laws_markTileS_rule0 (S : SatT) (K : AVal → H → Prop) (s0_ : Sl) (I_ : Int → Int → H → Prop) (m_ : Int → Int → H → Nat)
    (hs : ∀ (X0 : Frame → H → Prop) (i1_ : Int) (i5_ : Int) (h : H), I_ i1_ i5_ h → (∀ (i1_' : Int) (i5_' : Int) (h' : H), I_ i1_' i5_' h' → m_ i1_' i5_' h' < m_ i1_ i5_ h → X0 (laws_markTileS_e0 s0_ i1_' i5_') h') → laws_markTileS_b0 S K X0 s0_ i1_ i5_ h) (i1_ : Int) (i5_ : Int) {h : H} (h0 : I_ i1_ i5_ h) : laws_markTileS_L0 S K s0_ i1_ i5_ h :=
  loop_rule (σ := (Int) × (Int)) (fun s_ => laws_markTileS_e0 s0_ (s_.1) (s_.2)) (fun s_ h => I_ (s_.1) (s_.2) h) (fun s_ h => m_ (s_.1) (s_.2) h)
    (fun X s_ h hi hx => (laws_markTileS_link0 S K X s0_ (s_.1) (s_.2) h).mpr (hs X (s_.1) (s_.2) h hi fun i1_' i5_' h' hi' hm' => hx (i1_', i5_') h' hi' hm')) (i1_, i5_) h0
theorem laws_markTileS_unroll0 (S : SatT) (K : AVal → H → Prop) (s0_ : Sl) (i1_ : Int) (i5_ : Int) (h : H) (hb : laws_markTileS_b0 S K (fun fr h => loopK (laws_markTileS_w0 S K) fr h) s0_ i1_ i5_ h) : laws_markTileS_L0 S K s0_ i1_ i5_ h := loop_unroll ((laws_markTileS_link0 S K _ s0_ i1_ i5_ h).mpr hb)
def laws_markTileS_main (S : SatT) (K : AVal → H → Prop) (x0 : Sl) (x1 : Int) (h : H) : Prop :=
 laws_markTileS_L0 S K x0 x1 (0) h
theorem laws_markTileS_main_link (S : SatT) (K : AVal → H → Prop) (x0 : Sl) (x1 : Int) (h : H) : cwp S tab laws_markTileS_M [] (bodyOf Try.f18) (kFun tab Try.f18.results.toList K) (fr0 Try.f18 [.sl x0, .int .i64 x1]) h = laws_markTileS_main S K x0 x1 h := by kernel_rfl
theorem laws_markTileS_call (x0 : Sl) (x1 : Int) (h : H) (K : Int → H → Prop) (hm : laws_markTileS_main (Sat Try.prog) (fun v h' => ∃ r, v = .int .i64 r ∧ K r h') x0 x1 h) : callI (Sat Try.prog) .i64 i_laws_markTileS [.sl x0, .int .i64 x1] h K := by
  have := Sat.ex tok mixed laws_markTileS_M Try.func18 (c := bodyOf Try.f18) (by kernel_rfl) (calls_of Try.func18 (c := bodyOf Try.f18) (by kernel_rfl) (by decide)) ((laws_markTileS_main_link _ _ x0 x1 h).mpr hm)
  obtain ⟨v, h2, h3, r, rfl, h4⟩ := this; exact ⟨r, h2, h3, h4⟩

/-! ### slices.IndexFunc[[]loop.example/g01354/impl.Tile,loop.example/g01354/impl.Tile] -/
def slices_IndexFunc_s_impl_Tile_impl_Tile__M : Nat → List Nat := fun i => bif i == 0 then [0, 1, 7, 8] else []
def slices_IndexFunc_s_impl_Tile_impl_Tile__ks1 (S : SatT) (K : AVal → H → Prop) : Kont := kSeq (cwp S tab slices_IndexFunc_s_impl_Tile_impl_Tile__M [] (sub [1, 1] (bodyOf Try.f89)) (kFun tab (Try.f89).results.toList K)) (kFun tab (Try.f89).results.toList K)
def slices_IndexFunc_s_impl_Tile_impl_Tile__e0 (s0_ : Sl) (f1_ : AVal) (i7_ : Int) (i8_ : Int) : Frame := [.sl s0_, f1_, U, U, U, U, U, .int .i64 i7_, .int .i64 i8_, U, U, U, U, U, U, U, U, U, U]
def slices_IndexFunc_s_impl_Tile_impl_Tile__w0 (S : SatT) (K : AVal → H → Prop) : (Frame → H → Prop) → Frame → H → Prop := fun X fr h => cwp S tab slices_IndexFunc_s_impl_Tile_impl_Tile__M (slices_IndexFunc_s_impl_Tile_impl_Tile__M 0) (sub [1, 0, 1, 0, 0] (bodyOf Try.f89)) (kSeq (fun fr h => X (mask (slices_IndexFunc_s_impl_Tile_impl_Tile__M 0) fr) h) (kBlk 0 (slices_IndexFunc_s_impl_Tile_impl_Tile__ks1 S K))) fr h
def slices_IndexFunc_s_impl_Tile_impl_Tile__L0 (S : SatT) (K : AVal → H → Prop) (s0_ : Sl) (f1_ : AVal) (i7_ : Int) (i8_ : Int) (h : H) : Prop := loopK (slices_IndexFunc_s_impl_Tile_impl_Tile__w0 S K) (slices_IndexFunc_s_impl_Tile_impl_Tile__e0 s0_ f1_ i7_ i8_) h
def slices_IndexFunc_s_impl_Tile_impl_Tile__C0 (S : SatT) (K : AVal → H → Prop) (h : H) : Prop :=
 K (.int .i64 (-1)) h
def slices_IndexFunc_s_impl_Tile_impl_Tile__b0 (S : SatT) (K : AVal → H → Prop) (X0 : Frame → H → Prop) (s0_ : Sl) (f1_ : AVal) (i7_ : Int) (i8_ : Int) (h : H) : Prop :=
 bif (decide (i8_ < i7_)) then
 ixS s0_ 4 i8_ fun p0 =>
 ldA p0 4 h fun cs1 =>
 viaF f1_ [.agg cs1] fun g2 ys3 =>
 callB S g2 ys3 h fun b5 h4 =>
 bif b5 then
 K (.int .i64 i8_) h4
 else
 X0 (slices_IndexFunc_s_impl_Tile_impl_Tile__e0 s0_ f1_ i7_ (w64 (i8_ + (1)))) h4
 else
 slices_IndexFunc_s_impl_Tile_impl_Tile__C0 S K h
theorem slices_IndexFunc_s_impl_Tile_impl_Tile__link0 (S : SatT) (K : AVal → H → Prop) (X0 : Frame → H → Prop) (s0_ : Sl) (f1_ : AVal) (i7_ : Int) (i8_ : Int) (h : H) : slices_IndexFunc_s_impl_Tile_impl_Tile__w0 S K X0 (slices_IndexFunc_s_impl_Tile_impl_Tile__e0 s0_ f1_ i7_ i8_) h = slices_IndexFunc_s_impl_Tile_impl_Tile__b0 S K X0 s0_ f1_ i7_ i8_ h := by kernel_rfl
theorem slices_IndexFunc_s_impl_Tile_impl_Tile__rule0 (S : SatT) (K : AVal → H → Prop) (s0_ : Sl) (f1_ : AVal) (i7_ : Int) (I_ : Int → H → Prop) (m_ : Int → H → Nat)
    (hs : ∀ (X0 : Frame → H → Prop) (i8_ : Int) (h : H), I_ i8_ h → (∀ (i8_' : Int) (h' : H), I_ i8_' h' → m_ i8_' h' < m_ i8_ h → X0 (slices_IndexFunc_s_impl_Tile_impl_Tile__e0 s0_ f1_ i7_ i8_') h') → slices_IndexFunc_s_impl_Tile_impl_Tile__b0 S K X0 s0_ f1_ i7_ i8_ h) (i8_ : Int) {h : H} (h0 : I_ i8_ h) : slices_IndexFunc_s_impl_Tile_impl_Tile__L0 S K s0_ f1_ i7_ i8_ h :=
  loop_rule (σ := (Int)) (fun s_ => slices_IndexFunc_s_impl_Tile_impl_Tile__e0 s0_ f1_ i7_ (s_)) (fun s_ h => I_ (s_) h) (fun s_ h => m_ (s_) h)
    (fun X s_ h hi hx => (slices_IndexFunc_s_impl_Tile_impl_Tile__link0 S K X s0_ f1_ i7_ (s_) h).mpr (hs X (s_) h hi fun i8_' h' hi' hm' => hx (i8_') h' hi' hm')) (i8_) h0
theorem slices_IndexFunc_s_impl_Tile_impl_Tile__unroll0 (S : SatT) (K : AVal → H → Prop) (s0_ : Sl) (f1_ : AVal) (i7_ : Int) (i8_ : Int) (h : H) (hb : slices_IndexFunc_s_impl_Tile_impl_Tile__b0 S K (fun fr h => loopK (slices_IndexFunc_s_impl_Tile_impl_Tile__w0 S K) fr h) s0_ f1_ i7_ i8_ h) : slices_IndexFunc_s_impl_Tile_impl_Tile__L0 S K s0_ f1_ i7_ i8_ h := loop_unroll ((slices_IndexFunc_s_impl_Tile_impl_Tile__link0 S K _ s0_ f1_ i7_ i8_ h).mpr hb)
def slices_IndexFunc_s_impl_Tile_impl_Tile__main (S : SatT) (K : AVal → H → Prop) (x0 : Sl) (x1 : AVal) (h : H) : Prop :=
 slices_IndexFunc_s_impl_Tile_impl_Tile__L0 S K x0 x1 (x0.len : Int) (0) h
theorem slices_IndexFunc_s_impl_Tile_impl_Tile__main_link (S : SatT) (K : AVal → H → Prop) (x0 : Sl) (x1 : AVal) (h : H) : cwp S tab slices_IndexFunc_s_impl_Tile_impl_Tile__M [] (bodyOf Try.f89) (kFun tab Try.f89.results.toList K) (fr0 Try.f89 [.sl x0, x1]) h = slices_IndexFunc_s_impl_Tile_impl_Tile__main S K x0 x1 h := by kernel_rfl
theorem slices_IndexFunc_s_impl_Tile_impl_Tile__call (x0 : Sl) (x1 : AVal) (h : H) (K : Int → H → Prop) (hm : slices_IndexFunc_s_impl_Tile_impl_Tile__main (Sat Try.prog) (fun v h' => ∃ r, v = .int .i64 r ∧ K r h') x0 x1 h) : callI (Sat Try.prog) .i64 i_slices_IndexFunc_s_impl_Tile_impl_Tile_ [.sl x0, x1] h K := by
  have := Sat.ex tok mixed slices_IndexFunc_s_impl_Tile_impl_Tile__M Try.func89 (c := bodyOf Try.f89) (by kernel_rfl) (calls_of Try.func89 (c := bodyOf Try.f89) (by kernel_rfl) (by decide)) ((slices_IndexFunc_s_impl_Tile_impl_Tile__main_link _ _ x0 x1 h).mpr hm)
  obtain ⟨v, h2, h3, r, rfl, h4⟩ := this; exact ⟨r, h2, h3, h4⟩

/-! ### slices.IndexFunc[[]int64,int64] -/
def slices_IndexFunc_s_int64_int64__M : Nat → List Nat := fun i => bif i == 0 then [0, 1, 7, 8] else []
def slices_IndexFunc_s_int64_int64__ks1 (S : SatT) (K : AVal → H → Prop) : Kont := kSeq (cwp S tab slices_IndexFunc_s_int64_int64__M [] (sub [1, 1] (bodyOf Try.f94)) (kFun tab (Try.f94).results.toList K)) (kFun tab (Try.f94).results.toList K)
def slices_IndexFunc_s_int64_int64__e0 (s0_ : Sl) (f1_ : AVal) (i7_ : Int) (i8_ : Int) : Frame := [.sl s0_, f1_, U, U, U, U, U, .int .i64 i7_, .int .i64 i8_, U, U, U, U, U, U, U, U, U, U]
def slices_IndexFunc_s_int64_int64__w0 (S : SatT) (K : AVal → H → Prop) : (Frame → H → Prop) → Frame → H → Prop := fun X fr h => cwp S tab slices_IndexFunc_s_int64_int64__M (slices_IndexFunc_s_int64_int64__M 0) (sub [1, 0, 1, 0, 0] (bodyOf Try.f94)) (kSeq (fun fr h => X (mask (slices_IndexFunc_s_int64_int64__M 0) fr) h) (kBlk 0 (slices_IndexFunc_s_int64_int64__ks1 S K))) fr h
def slices_IndexFunc_s_int64_int64__L0 (S : SatT) (K : AVal → H → Prop) (s0_ : Sl) (f1_ : AVal) (i7_ : Int) (i8_ : Int) (h : H) : Prop := loopK (slices_IndexFunc_s_int64_int64__w0 S K) (slices_IndexFunc_s_int64_int64__e0 s0_ f1_ i7_ i8_) h
def slices_IndexFunc_s_int64_int64__C0 (S : SatT) (K : AVal → H → Prop) (h : H) : Prop :=
 K (.int .i64 (-1)) h
def slices_IndexFunc_s_int64_int64__b0 (S : SatT) (K : AVal → H → Prop) (X0 : Frame → H → Prop) (s0_ : Sl) (f1_ : AVal) (i7_ : Int) (i8_ : Int) (h : H) : Prop :=
 bif (decide (i8_ < i7_)) then
 ixS s0_ 1 i8_ fun p0 =>
 ldI .i64 p0 h fun n1 =>
 viaF f1_ [.int .i64 n1] fun g2 ys3 =>
 callB S g2 ys3 h fun b5 h4 =>
 bif b5 then
 K (.int .i64 i8_) h4
 else
 X0 (slices_IndexFunc_s_int64_int64__e0 s0_ f1_ i7_ (w64 (i8_ + (1)))) h4
 else
 slices_IndexFunc_s_int64_int64__C0 S K h
theorem slices_IndexFunc_s_int64_int64__link0 (S : SatT) (K : AVal → H → Prop) (X0 : Frame → H → Prop) (s0_ : Sl) (f1_ : AVal) (i7_ : Int) (i8_ : Int) (h : H) : slices_IndexFunc_s_int64_int64__w0 S K X0 (slices_IndexFunc_s_int64_int64__e0 s0_ f1_ i7_ i8_) h = slices_IndexFunc_s_int64_int64__b0 S K X0 s0_ f1_ i7_ i8_ h := by kernel_rfl
theorem slices_IndexFunc_s_int64_int64__rule0 (S : SatT) (K : AVal → H → Prop) (s0_ : Sl) (f1_ : AVal) (i7_ : Int) (I_ : Int → H → Prop) (m_ : Int → H → Nat)
    (hs : ∀ (X0 : Frame → H → Prop) (i8_ : Int) (h : H), I_ i8_ h → (∀ (i8_' : Int) (h' : H), I_ i8_' h' → m_ i8_' h' < m_ i8_ h → X0 (slices_IndexFunc_s_int64_int64__e0 s0_ f1_ i7_ i8_') h') → slices_IndexFunc_s_int64_int64__b0 S K X0 s0_ f1_ i7_ i8_ h) (i8_ : Int) {h : H} (h0 : I_ i8_ h) : slices_IndexFunc_s_int64_int64__L0 S K s0_ f1_ i7_ i8_ h :=
  loop_rule (σ := (Int)) (fun s_ => slices_IndexFunc_s_int64_int64__e0 s0_ f1_ i7_ (s_)) (fun s_ h => I_ (s_) h) (fun s_ h => m_ (s_) h)
    (fun X s_ h hi hx => (slices_IndexFunc_s_int64_int64__link0 S K X s0_ f1_ i7_ (s_) h).mpr (hs X (s_) h hi fun i8_' h' hi' hm' => hx (i8_') h' hi' hm')) (i8_) h0
theorem slices_IndexFunc_s_int64_int64__unroll0 (S : SatT) (K : AVal → H → Prop) (s0_ : Sl) (f1_ : AVal) (i7_ : Int) (i8_ : Int) (h : H) (hb : slices_IndexFunc_s_int64_int64__b0 S K (fun fr h => loopK (slices_IndexFunc_s_int64_int64__w0 S K) fr h) s0_ f1_ i7_ i8_ h) : slices_IndexFunc_s_int64_int64__L0 S K s0_ f1_ i7_ i8_ h := loop_unroll ((slices_IndexFunc_s_int64_int64__link0 S K _ s0_ f1_ i7_ i8_ h).mpr hb)
def slices_IndexFunc_s_int64_int64__main (S : SatT) (K : AVal → H → Prop) (x0 : Sl) (x1 : AVal) (h : H) : Prop :=
 slices_IndexFunc_s_int64_int64__L0 S K x0 x1 (x0.len : Int) (0) h
theorem slices_IndexFunc_s_int64_int64__main_link (S : SatT) (K : AVal → H → Prop) (x0 : Sl) (x1 : AVal) (h : H) : cwp S tab slices_IndexFunc_s_int64_int64__M [] (bodyOf Try.f94) (kFun tab Try.f94.results.toList K) (fr0 Try.f94 [.sl x0, x1]) h = slices_IndexFunc_s_int64_int64__main S K x0 x1 h := by kernel_rfl
theorem slices_IndexFunc_s_int64_int64__call (x0 : Sl) (x1 : AVal) (h : H) (K : Int → H → Prop) (hm : slices_IndexFunc_s_int64_int64__main (Sat Try.prog) (fun v h' => ∃ r, v = .int .i64 r ∧ K r h') x0 x1 h) : callI (Sat Try.prog) .i64 i_slices_IndexFunc_s_int64_int64_ [.sl x0, x1] h K := by
  have := Sat.ex tok mixed slices_IndexFunc_s_int64_int64__M Try.func94 (c := bodyOf Try.f94) (by kernel_rfl) (calls_of Try.func94 (c := bodyOf Try.f94) (by kernel_rfl) (by decide)) ((slices_IndexFunc_s_int64_int64__main_link _ _ x0 x1 h).mpr hm)
  obtain ⟨v, h2, h3, r, rfl, h4⟩ := this; exact ⟨r, h2, h3, h4⟩

/-! ### loop.example/g01354/impl.FirstBoard$1 -/
def impl_FirstBoard_1_M : Nat → List Nat := fun i => bif i == 0 then [0, 2, 3, 7, 8] else []
def impl_FirstBoard_1_ks1 (S : SatT) (K : AVal → H → Prop) : Kont := kSeq (cwp S tab impl_FirstBoard_1_M [] (sub [1, 1] (bodyOf Try.f68)) (kFun tab (Try.f68).results.toList K)) (kFun tab (Try.f68).results.toList K)
def impl_FirstBoard_1_e0 (s0_ : Sl) (p2_ : Pt) (p3_ : Pt) (i7_ : Int) (i8_ : Int) : Frame := [.sl s0_, U, .ptr p2_, .ptr p3_, U, U, U, .int .i64 i7_, .int .i64 i8_, U, U, U, U, U, U, U, U, U, U, U, U, U, U, U, U]
def impl_FirstBoard_1_w0 (S : SatT) (K : AVal → H → Prop) : (Frame → H → Prop) → Frame → H → Prop := fun X fr h => cwp S tab impl_FirstBoard_1_M (impl_FirstBoard_1_M 0) (sub [1, 0, 1, 0, 0] (bodyOf Try.f68)) (kSeq (fun fr h => X (mask (impl_FirstBoard_1_M 0) fr) h) (kBlk 0 (impl_FirstBoard_1_ks1 S K))) fr h
def impl_FirstBoard_1_L0 (S : SatT) (K : AVal → H → Prop) (s0_ : Sl) (p2_ : Pt) (p3_ : Pt) (i7_ : Int) (i8_ : Int) (h : H) : Prop := loopK (impl_FirstBoard_1_w0 S K) (impl_FirstBoard_1_e0 s0_ p2_ p3_ i7_ i8_) h
def impl_FirstBoard_1_C0 (S : SatT) (K : AVal → H → Prop) (h : H) : Prop :=
 K (.bool false) h
def impl_FirstBoard_1_b0 (S : SatT) (K : AVal → H → Prop) (X0 : Frame → H → Prop) (s0_ : Sl) (p2_ : Pt) (p3_ : Pt) (i7_ : Int) (i8_ : Int) (h : H) : Prop :=
 bif (decide (i8_ < i7_)) then
 ldS p2_ h fun s0 =>
 ldI .i64 p3_ h fun n1 =>
 ldI .i64 p3_ h fun n2 =>
 cut s0_ 2 (w64 (i8_ * n1)) (w64 ((w64 (i8_ + (1))) * n2)) h fun s3 =>
 callS S i_slices_Clone_s_impl_Placed_impl_Placed_ [.sl s3] h fun s5 h4 =>
(cell h4 p2_ = cell h p2_) ∧ (
 newS 1 1 [.sl s5] h4 fun s6 h7 =>
(cell h7 p2_ = cell h p2_) ∧ (
 app s0 s6 1 h7 fun s8 h9 =>
 st1 p2_ (.sl s8) h9 fun h10 =>
 X0 (impl_FirstBoard_1_e0 s0_ p2_ p3_ i7_ (w64 (i8_ + (1)))) h10))
 else
 impl_FirstBoard_1_C0 S K h
theorem impl_FirstBoard_1_link0 (S : SatT) (K : AVal → H → Prop) (X0 : Frame → H → Prop) (s0_ : Sl) (p2_ : Pt) (p3_ : Pt) (i7_ : Int) (i8_ : Int) (h : H) : impl_FirstBoard_1_w0 S K X0 (impl_FirstBoard_1_e0 s0_ p2_ p3_ i7_ i8_) h = impl_FirstBoard_1_b0 S K X0 s0_ p2_ p3_ i7_ i8_ h := by kernel_rfl
theorem impl_FirstBoard_1_rule0 (S : SatT) (K : AVal → H → Prop) (s0_ : Sl) (p2_ : Pt) (p3_ : Pt) (i7_ : Int) (I_ : Int → H → Prop) (m_ : Int → H → Nat)
    (hs : ∀ (X0 : Frame → H → Prop) (i8_ : Int) (h : H), I_ i8_ h → (∀ (i8_' : Int) (h' : H), I_ i8_' h' → m_ i8_' h' < m_ i8_ h → X0 (impl_FirstBoard_1_e0 s0_ p2_ p3_ i7_ i8_') h') → impl_FirstBoard_1_b0 S K X0 s0_ p2_ p3_ i7_ i8_ h) (i8_ : Int) {h : H} (h0 : I_ i8_ h) : impl_FirstBoard_1_L0 S K s0_ p2_ p3_ i7_ i8_ h :=
  loop_rule (σ := (Int)) (fun s_ => impl_FirstBoard_1_e0 s0_ p2_ p3_ i7_ (s_)) (fun s_ h => I_ (s_) h) (fun s_ h => m_ (s_) h)
    (fun X s_ h hi hx => (impl_FirstBoard_1_link0 S K X s0_ p2_ p3_ i7_ (s_) h).mpr (hs X (s_) h hi fun i8_' h' hi' hm' => hx (i8_') h' hi' hm')) (i8_) h0
theorem impl_FirstBoard_1_unroll0 (S : SatT) (K : AVal → H → Prop) (s0_ : Sl) (p2_ : Pt) (p3_ : Pt) (i7_ : Int) (i8_ : Int) (h : H) (hb : impl_FirstBoard_1_b0 S K (fun fr h => loopK (impl_FirstBoard_1_w0 S K) fr h) s0_ p2_ p3_ i7_ i8_ h) : impl_FirstBoard_1_L0 S K s0_ p2_ p3_ i7_ i8_ h := loop_unroll ((impl_FirstBoard_1_link0 S K _ s0_ p2_ p3_ i7_ i8_ h).mpr hb)
def impl_FirstBoard_1_main (S : SatT) (K : AVal → H → Prop) (x0 : Sl) (x1 : Pt) (x2 : Pt) (x3 : Pt) (h : H) : Prop :=
 ldI .i64 x1 h fun n0 =>
 impl_FirstBoard_1_L0 S K x0 x2 x3 n0 (0) h
theorem impl_FirstBoard_1_main_link (S : SatT) (K : AVal → H → Prop) (x0 : Sl) (x1 : Pt) (x2 : Pt) (x3 : Pt) (h : H) : cwp S tab impl_FirstBoard_1_M [] (bodyOf Try.f68) (kFun tab Try.f68.results.toList K) (fr0 Try.f68 [.sl x0, .ptr x1, .ptr x2, .ptr x3]) h = impl_FirstBoard_1_main S K x0 x1 x2 x3 h := by kernel_rfl
theorem impl_FirstBoard_1_call (x0 : Sl) (x1 : Pt) (x2 : Pt) (x3 : Pt) (h : H) (K : Bool → H → Prop) (hm : impl_FirstBoard_1_main (Sat Try.prog) (fun v h' => ∃ r, v = .bool r ∧ K r h') x0 x1 x2 x3 h) : callB (Sat Try.prog) i_impl_FirstBoard_1 [.sl x0, .ptr x1, .ptr x2, .ptr x3] h K := by
  have := Sat.ex tok mixed impl_FirstBoard_1_M Try.func68 (c := bodyOf Try.f68) (by kernel_rfl) (calls_of Try.func68 (c := bodyOf Try.f68) (by kernel_rfl) (by decide)) ((impl_FirstBoard_1_main_link _ _ x0 x1 x2 x3 h).mpr hm)
  obtain ⟨v, h2, h3, r, rfl, h4⟩ := this; exact ⟨r, h2, h3, h4⟩

/-! ### loop.example/g01354/laws.heldPlacedSS -/
def laws_heldPlacedSS_M : Nat → List Nat := fun i => bif i == 0 then [0, 1, 5] else []
def laws_heldPlacedSS_ks1 (S : SatT) (K : AVal → H → Prop) : Kont := kSeq (cwp S tab laws_heldPlacedSS_M [] (sub [1, 1] (bodyOf Try.f44)) (kFun tab (Try.f44).results.toList K)) (kFun tab (Try.f44).results.toList K)
def laws_heldPlacedSS_e0 (s0_ : Sl) (i1_ : Int) (i5_ : Int) : Frame := [.sl s0_, .int .i64 i1_, U, U, U, .int .i64 i5_, U, U, U, U, U, U, U, U, U, U, U, U, U, U, U]
def laws_heldPlacedSS_w0 (S : SatT) (K : AVal → H → Prop) : (Frame → H → Prop) → Frame → H → Prop := fun X fr h => cwp S tab laws_heldPlacedSS_M (laws_heldPlacedSS_M 0) (sub [1, 0, 1, 0, 0] (bodyOf Try.f44)) (kSeq (fun fr h => X (mask (laws_heldPlacedSS_M 0) fr) h) (kBlk 0 (laws_heldPlacedSS_ks1 S K))) fr h
def laws_heldPlacedSS_L0 (S : SatT) (K : AVal → H → Prop) (s0_ : Sl) (i1_ : Int) (i5_ : Int) (h : H) : Prop := loopK (laws_heldPlacedSS_w0 S K) (laws_heldPlacedSS_e0 s0_ i1_ i5_) h
def laws_heldPlacedSS_C0 (S : SatT) (K : AVal → H → Prop) (i1_ : Int) (h : H) : Prop :=
 K (.int .i64 i1_) h
def laws_heldPlacedSS_b0 (S : SatT) (K : AVal → H → Prop) (X0 : Frame → H → Prop) (s0_ : Sl) (i1_ : Int) (i5_ : Int) (h : H) : Prop :=
 bif (decide (i5_ < (s0_.len : Int))) then
 ixS s0_ 1 i5_ fun p0 =>
 ldS p0 h fun s1 =>
 callI S .i64 i_laws_heldPlacedS [.sl s1, .int .i64 i1_] h fun n3 h2 =>
 bif (decide (n3 < (0))) then
 K (.int .i64 (-1)) h2
 else
 X0 (laws_heldPlacedSS_e0 s0_ n3 (w64 (i5_ + (1)))) h2
 else
 laws_heldPlacedSS_C0 S K i1_ h
theorem laws_heldPlacedSS_link0 (S : SatT) (K : AVal → H → Prop) (X0 : Frame → H → Prop) (s0_ : Sl) (i1_ : Int) (i5_ : Int) (h : H) : laws_heldPlacedSS_w0 S K X0 (laws_heldPlacedSS_e0 s0_ i1_ i5_) h = laws_heldPlacedSS_b0 S K X0 s0_ i1_ i5_ h := by kernel_rfl
theorem laws_heldPlacedSS_rule0 (S : SatT) (K : AVal → H → Prop) (s0_ : Sl) (I_ : Int → Int → H → Prop) (m_ : Int → Int → H → Nat)
    (hs : ∀ (X0 : Frame → H → Prop) (i1_ : Int) (i5_ : Int) (h : H), I_ i1_ i5_ h → (∀ (i1_' : Int) (i5_' : Int) (h' : H), I_ i1_' i5_' h' → m_ i1_' i5_' h' < m_ i1_ i5_ h → X0 (laws_heldPlacedSS_e0 s0_ i1_' i5_') h') → laws_heldPlacedSS_b0 S K X0 s0_ i1_ i5_ h) (i1_ : Int) (i5_ : Int) {h : H} (h0 : I_ i1_ i5_ h) : laws_heldPlacedSS_L0 S K s0_ i1_ i5_ h :=
  loop_rule (σ := (Int) × (Int)) (fun s_ => laws_heldPlacedSS_e0 s0_ (s_.1) (s_.2)) (fun s_ h => I_ (s_.1) (s_.2) h) (fun s_ h => m_ (s_.1) (s_.2) h)
    (fun X s_ h hi hx => (laws_heldPlacedSS_link0 S K X s0_ (s_.1) (s_.2) h).mpr (hs X (s_.1) (s_.2) h hi fun i1_' i5_' h' hi' hm' => hx (i1_', i5_') h' hi' hm')) (i1_, i5_) h0
theorem laws_heldPlacedSS_unroll0 (S : SatT) (K : AVal → H → Prop) (s0_ : Sl) (i1_ : Int) (i5_ : Int) (h : H) (hb : laws_heldPlacedSS_b0 S K (fun fr h => loopK (laws_heldPlacedSS_w0 S K) fr h) s0_ i1_ i5_ h) : laws_heldPlacedSS_L0 S K s0_ i1_ i5_ h := loop_unroll ((laws_heldPlacedSS_link0 S K _ s0_ i1_ i5_ h).mpr hb)
def laws_heldPlacedSS_main (S : SatT) (K : AVal → H → Prop) (x0 : Sl) (x1 : Int) (h : H) : Prop :=
 laws_heldPlacedSS_L0 S K x0 x1 (0) h
theorem laws_heldPlacedSS_main_link (S : SatT) (K : AVal → H → Prop) (x0 : Sl) (x1 : Int) (h : H) : cwp S tab laws_heldPlacedSS_M [] (bodyOf Try.f44) (kFun tab Try.f44.results.toList K) (fr0 Try.f44 [.sl x0, .int .i64 x1]) h = laws_heldPlacedSS_main S K x0 x1 h := by kernel_rfl
theorem laws_heldPlacedSS_call (x0 : Sl) (x1 : Int) (h : H) (K : Int → H → Prop) (hm : laws_heldPlacedSS_main (Sat Try.prog) (fun v h' => ∃ r, v = .int .i64 r ∧ K r h') x0 x1 h) : callI (Sat Try.prog) .i64 i_laws_heldPlacedSS [.sl x0, .int .i64 x1] h K := by
  have := Sat.ex tok mixed laws_heldPlacedSS_M Try.func44 (c := bodyOf Try.f44) (by kernel_rfl) (calls_of Try.func44 (c := bodyOf Try.f44) (by kernel_rfl) (by decide)) ((laws_heldPlacedSS_main_link _ _ x0 x1 h).mpr hm)
  obtain ⟨v, h2, h3, r, rfl, h4⟩ := this; exact ⟨r, h2, h3, h4⟩

/-! ### loop.example/g01354/laws.toTile -/
def laws_toTile_M : Nat → List Nat := fun i => bif i == 0 then [1, 2, 3, 4] else []
def laws_toTile_ks2 (S : SatT) (K : AVal → H → Prop) : Kont := kSeq (cwp S tab laws_toTile_M [] (sub [1, 1, 1] (bodyOf Try.f15)) (kFun tab (Try.f15).results.toList K)) (kFun tab (Try.f15).results.toList K)
def laws_toTile_e0 (p1_ : Pt) (p2_ : Pt) (p3_ : Pt) (i4_ : Int) : Frame := [U, .ptr p1_, .ptr p2_, .ptr p3_, .int .i64 i4_, U, U, U, U, U, U, U, U, U, U]
def laws_toTile_w0 (S : SatT) (K : AVal → H → Prop) : (Frame → H → Prop) → Frame → H → Prop := fun X fr h => cwp S tab laws_toTile_M (laws_toTile_M 0) (sub [1, 1, 0, 1, 0, 0] (bodyOf Try.f15)) (kSeq (fun fr h => X (mask (laws_toTile_M 0) fr) h) (kBlk 0 (laws_toTile_ks2 S K))) fr h
def laws_toTile_L0 (S : SatT) (K : AVal → H → Prop) (p1_ : Pt) (p2_ : Pt) (p3_ : Pt) (i4_ : Int) (h : H) : Prop := loopK (laws_toTile_w0 S K) (laws_toTile_e0 p1_ p2_ p3_ i4_) h
def laws_toTile_C0 (S : SatT) (K : AVal → H → Prop) (p2_ : Pt) (p3_ : Pt) (h : H) : Prop :=
 ldA p3_ 4 h fun cs0 =>
 stN p2_ 4 cs0 h fun h1 =>
 ldA p2_ 4 h1 fun cs2 =>
 K (.agg cs2) h1
def laws_toTile_b0 (S : SatT) (K : AVal → H → Prop) (X0 : Frame → H → Prop) (p1_ : Pt) (p2_ : Pt) (p3_ : Pt) (i4_ : Int) (h : H) : Prop :=
 bif (decide (i4_ < (4))) then
 ixA p1_ 4 1 i4_ fun p0 =>
 ldI .i64 p0 h fun n1 =>
 ixA p3_ 4 1 i4_ fun p2 =>
 st1 p2 (.int .i64 n1) h fun h3 =>
 X0 (laws_toTile_e0 p1_ p2_ p3_ (w64 (i4_ + (1)))) h3
 else
 laws_toTile_C0 S K p2_ p3_ h
theorem laws_toTile_link0 (S : SatT) (K : AVal → H → Prop) (X0 : Frame → H → Prop) (p1_ : Pt) (p2_ : Pt) (p3_ : Pt) (i4_ : Int) (h : H) : laws_toTile_w0 S K X0 (laws_toTile_e0 p1_ p2_ p3_ i4_) h = laws_toTile_b0 S K X0 p1_ p2_ p3_ i4_ h := by kernel_rfl
theorem laws_toTile_rule0 (S : SatT) (K : AVal → H → Prop) (p1_ : Pt) (p2_ : Pt) (p3_ : Pt) (I_ : Int → H → Prop) (m_ : Int → H → Nat)
    (hs : ∀ (X0 : Frame → H → Prop) (i4_ : Int) (h : H), I_ i4_ h → (∀ (i4_' : Int) (h' : H), I_ i4_' h' → m_ i4_' h' < m_ i4_ h → X0 (laws_toTile_e0 p1_ p2_ p3_ i4_') h') → laws_toTile_b0 S K X0 p1_ p2_ p3_ i4_ h) (i4_ : Int) {h : H} (h0 : I_ i4_ h) : laws_toTile_L0 S K p1_ p2_ p3_ i4_ h :=
  loop_rule (σ := (Int)) (fun s_ => laws_toTile_e0 p1_ p2_ p3_ (s_)) (fun s_ h => I_ (s_) h) (fun s_ h => m_ (s_) h)
    (fun X s_ h hi hx => (laws_toTile_link0 S K X p1_ p2_ p3_ (s_) h).mpr (hs X (s_) h hi fun i4_' h' hi' hm' => hx (i4_') h' hi' hm')) (i4_) h0
theorem laws_toTile_unroll0 (S : SatT) (K : AVal → H → Prop) (p1_ : Pt) (p2_ : Pt) (p3_ : Pt) (i4_ : Int) (h : H) (hb : laws_toTile_b0 S K (fun fr h => loopK (laws_toTile_w0 S K) fr h) p1_ p2_ p3_ i4_ h) : laws_toTile_L0 S K p1_ p2_ p3_ i4_ h := loop_unroll ((laws_toTile_link0 S K _ p1_ p2_ p3_ i4_ h).mpr hb)
def laws_toTile_main (S : SatT) (K : AVal → H → Prop) (x0 : List AVal) (h : H) : Prop :=
 newK 4 x0 h fun p0 h1 =>
 newO [.int .i64 (0), .int .i64 (0), .int .i64 (0), .int .i64 (0)] h1 fun p2 h3 =>
 newO [.int .i64 (0), .int .i64 (0), .int .i64 (0), .int .i64 (0)] h3 fun p4 h5 =>
 laws_toTile_L0 S K p0 p2 p4 (0) h5
theorem laws_toTile_main_link (S : SatT) (K : AVal → H → Prop) (x0 : List AVal) (h : H) : cwp S tab laws_toTile_M [] (bodyOf Try.f15) (kFun tab Try.f15.results.toList K) (fr0 Try.f15 [.agg x0]) h = laws_toTile_main S K x0 h := by kernel_rfl
theorem laws_toTile_call (x0 : List AVal) (h : H) (K : List AVal → H → Prop) (hm : laws_toTile_main (Sat Try.prog) (fun v h' => ∃ r, v = .agg r ∧ K r h') x0 h) : callA (Sat Try.prog) i_laws_toTile [.agg x0] h K := by
  have := Sat.ex tok mixed laws_toTile_M Try.func15 (c := bodyOf Try.f15) (by kernel_rfl) (calls_of Try.func15 (c := bodyOf Try.f15) (by kernel_rfl) (by decide)) ((laws_toTile_main_link _ _ x0 h).mpr hm)
  obtain ⟨v, h2, h3, r, rfl, h4⟩ := this; exact ⟨r, h2, h3, h4⟩

/-! ### loop.example/g01354/laws.eqPlacedSS -/
def laws_eqPlacedSS_M : Nat → List Nat := fun i => bif i == 0 then [0, 1, 5] else []
def laws_eqPlacedSS_ks4 (S : SatT) (K : AVal → H → Prop) : Kont := kSeq (cwp S tab laws_eqPlacedSS_M [] (sub [1, 1, 1] (bodyOf Try.f40)) (kFun tab (Try.f40).results.toList K)) (kFun tab (Try.f40).results.toList K)
def laws_eqPlacedSS_e0 (s0_ : Sl) (s1_ : Sl) (i5_ : Int) : Frame := [.sl s0_, .sl s1_, U, U, U, .int .i64 i5_, U, U, U, U, U, U, U, U, U, U, U, U, U, U, U, U, U, U, U, U, U]
def laws_eqPlacedSS_w0 (S : SatT) (K : AVal → H → Prop) : (Frame → H → Prop) → Frame → H → Prop := fun X fr h => cwp S tab laws_eqPlacedSS_M (laws_eqPlacedSS_M 0) (sub [1, 1, 0, 1, 0, 0] (bodyOf Try.f40)) (kSeq (fun fr h => X (mask (laws_eqPlacedSS_M 0) fr) h) (kBlk 0 (laws_eqPlacedSS_ks4 S K))) fr h
def laws_eqPlacedSS_L0 (S : SatT) (K : AVal → H → Prop) (s0_ : Sl) (s1_ : Sl) (i5_ : Int) (h : H) : Prop := loopK (laws_eqPlacedSS_w0 S K) (laws_eqPlacedSS_e0 s0_ s1_ i5_) h
def laws_eqPlacedSS_C0 (S : SatT) (K : AVal → H → Prop) (h : H) : Prop :=
 K (.bool true) h
def laws_eqPlacedSS_b0 (S : SatT) (K : AVal → H → Prop) (X0 : Frame → H → Prop) (s0_ : Sl) (s1_ : Sl) (i5_ : Int) (h : H) : Prop :=
 bif (decide (i5_ < (s0_.len : Int))) then
 ixS s0_ 1 i5_ fun p0 =>
 ldS p0 h fun s1 =>
 ixS s1_ 1 i5_ fun p2 =>
 ldS p2 h fun s3 =>
 callB S i_laws_eqPlacedS [.sl s1, .sl s3] h fun b5 h4 =>
 bif (!b5) then
 K (.bool false) h4
 else
 X0 (laws_eqPlacedSS_e0 s0_ s1_ (w64 (i5_ + (1)))) h4
 else
 laws_eqPlacedSS_C0 S K h
theorem laws_eqPlacedSS_link0 (S : SatT) (K : AVal → H → Prop) (X0 : Frame → H → Prop) (s0_ : Sl) (s1_ : Sl) (i5_ : Int) (h : H) : laws_eqPlacedSS_w0 S K X0 (laws_eqPlacedSS_e0 s0_ s1_ i5_) h = laws_eqPlacedSS_b0 S K X0 s0_ s1_ i5_ h := by kernel_rfl
theorem laws_eqPlacedSS_rule0 (S : SatT) (K : AVal → H → Prop) (s0_ : Sl) (s1_ : Sl) (I_ : Int → H → Prop) (m_ : Int → H → Nat)
    (hs : ∀ (X0 : Frame → H → Prop) (i5_ : Int) (h : H), I_ i5_ h → (∀ (i5_' : Int) (h' : H), I_ i5_' h' → m_ i5_' h' < m_ i5_ h → X0 (laws_eqPlacedSS_e0 s0_ s1_ i5_') h') → laws_eqPlacedSS_b0 S K X0 s0_ s1_ i5_ h) (i5_ : Int) {h : H} (h0 : I_ i5_ h) : laws_eqPlacedSS_L0 S K s0_ s1_ i5_ h :=
  loop_rule (σ := (Int)) (fun s_ => laws_eqPlacedSS_e0 s0_ s1_ (s_)) (fun s_ h => I_ (s_) h) (fun s_ h => m_ (s_) h)
    (fun X s_ h hi hx => (laws_eqPlacedSS_link0 S K X s0_ s1_ (s_) h).mpr (hs X (s_) h hi fun i5_' h' hi' hm' => hx (i5_') h' hi' hm')) (i5_) h0
theorem laws_eqPlacedSS_unroll0 (S : SatT) (K : AVal → H → Prop) (s0_ : Sl) (s1_ : Sl) (i5_ : Int) (h : H) (hb : laws_eqPlacedSS_b0 S K (fun fr h => loopK (laws_eqPlacedSS_w0 S K) fr h) s0_ s1_ i5_ h) : laws_eqPlacedSS_L0 S K s0_ s1_ i5_ h := loop_unroll ((laws_eqPlacedSS_link0 S K _ s0_ s1_ i5_ h).mpr hb)
def laws_eqPlacedSS_main (S : SatT) (K : AVal → H → Prop) (x0 : Sl) (x1 : Sl) (h : H) : Prop :=
 bif ((x0.len : Int) != (x1.len : Int)) then
 K (.bool false) h
 else
 laws_eqPlacedSS_L0 S K x0 x1 (0) h
theorem laws_eqPlacedSS_main_link (S : SatT) (K : AVal → H → Prop) (x0 : Sl) (x1 : Sl) (h : H) : cwp S tab laws_eqPlacedSS_M [] (bodyOf Try.f40) (kFun tab Try.f40.results.toList K) (fr0 Try.f40 [.sl x0, .sl x1]) h = laws_eqPlacedSS_main S K x0 x1 h := by kernel_rfl
theorem laws_eqPlacedSS_call (x0 : Sl) (x1 : Sl) (h : H) (K : Bool → H → Prop) (hm : laws_eqPlacedSS_main (Sat Try.prog) (fun v h' => ∃ r, v = .bool r ∧ K r h') x0 x1 h) : callB (Sat Try.prog) i_laws_eqPlacedSS [.sl x0, .sl x1] h K := by
  have := Sat.ex tok mixed laws_eqPlacedSS_M Try.func40 (c := bodyOf Try.f40) (by kernel_rfl) (calls_of Try.func40 (c := bodyOf Try.f40) (by kernel_rfl) (by decide)) ((laws_eqPlacedSS_main_link _ _ x0 x1 h).mpr hm)
  obtain ⟨v, h2, h3, r, rfl, h4⟩ := this; exact ⟨r, h2, h3, h4⟩

/-! ### loop.example/g01354/laws.toPlacedS -/
def laws_toPlacedS_M : Nat → List Nat := fun i => bif i == 0 then [0, 3, 4] else []
def laws_toPlacedS_ks2 (S : SatT) (K : AVal → H → Prop) : Kont := kSeq (cwp S tab laws_toPlacedS_M [] (sub [1, 1, 1] (bodyOf Try.f62)) (kFun tab (Try.f62).results.toList K)) (kFun tab (Try.f62).results.toList K)
def laws_toPlacedS_e0 (s0_ : Sl) (s3_ : Sl) (i4_ : Int) : Frame := [.sl s0_, U, U, .sl s3_, .int .i64 i4_, U, U, U, U, U, U, U, U, U, U, U, U, U, U, U, U, U, U]
def laws_toPlacedS_w0 (S : SatT) (K : AVal → H → Prop) : (Frame → H → Prop) → Frame → H → Prop := fun X fr h => cwp S tab laws_toPlacedS_M (laws_toPlacedS_M 0) (sub [1, 1, 0, 1, 0, 0] (bodyOf Try.f62)) (kSeq (fun fr h => X (mask (laws_toPlacedS_M 0) fr) h) (kBlk 0 (laws_toPlacedS_ks2 S K))) fr h
def laws_toPlacedS_L0 (S : SatT) (K : AVal → H → Prop) (s0_ : Sl) (s3_ : Sl) (i4_ : Int) (h : H) : Prop := loopK (laws_toPlacedS_w0 S K) (laws_toPlacedS_e0 s0_ s3_ i4_) h
def laws_toPlacedS_C0 (S : SatT) (K : AVal → H → Prop) (s3_ : Sl) (h : H) : Prop :=
 K (.sl s3_) h
def laws_toPlacedS_b0 (S : SatT) (K : AVal → H → Prop) (X0 : Frame → H → Prop) (s0_ : Sl) (s3_ : Sl) (i4_ : Int) (h : H) : Prop :=
 bif (decide (i4_ < (s0_.len : Int))) then
 ixS s0_ 2 i4_ fun p0 =>
 ldA p0 2 h fun cs1 =>
 callA S i_laws_toPlaced [.agg cs1] h fun cs3 h2 =>
 ixS s3_ 2 i4_ fun p4 =>
 stN p4 2 cs3 h2 fun h5 =>
 X0 (laws_toPlacedS_e0 s0_ s3_ (w64 (i4_ + (1)))) h5
 else
 laws_toPlacedS_C0 S K s3_ h
theorem laws_toPlacedS_link0 (S : SatT) (K : AVal → H → Prop) (X0 : Frame → H → Prop) (s0_ : Sl) (s3_ : Sl) (i4_ : Int) (h : H) : laws_toPlacedS_w0 S K X0 (laws_toPlacedS_e0 s0_ s3_ i4_) h = laws_toPlacedS_b0 S K X0 s0_ s3_ i4_ h := by kernel_rfl
theorem laws_toPlacedS_rule0 (S : SatT) (K : AVal → H → Prop) (s0_ : Sl) (s3_ : Sl) (I_ : Int → H → Prop) (m_ : Int → H → Nat)
    (hs : ∀ (X0 : Frame → H → Prop) (i4_ : Int) (h : H), I_ i4_ h → (∀ (i4_' : Int) (h' : H), I_ i4_' h' → m_ i4_' h' < m_ i4_ h → X0 (laws_toPlacedS_e0 s0_ s3_ i4_') h') → laws_toPlacedS_b0 S K X0 s0_ s3_ i4_ h) (i4_ : Int) {h : H} (h0 : I_ i4_ h) : laws_toPlacedS_L0 S K s0_ s3_ i4_ h :=
  loop_rule (σ := (Int)) (fun s_ => laws_toPlacedS_e0 s0_ s3_ (s_)) (fun s_ h => I_ (s_) h) (fun s_ h => m_ (s_) h)
    (fun X s_ h hi hx => (laws_toPlacedS_link0 S K X s0_ s3_ (s_) h).mpr (hs X (s_) h hi fun i4_' h' hi' hm' => hx (i4_') h' hi' hm')) (i4_) h0
theorem laws_toPlacedS_unroll0 (S : SatT) (K : AVal → H → Prop) (s0_ : Sl) (s3_ : Sl) (i4_ : Int) (h : H) (hb : laws_toPlacedS_b0 S K (fun fr h => loopK (laws_toPlacedS_w0 S K) fr h) s0_ s3_ i4_ h) : laws_toPlacedS_L0 S K s0_ s3_ i4_ h := loop_unroll ((laws_toPlacedS_link0 S K _ s0_ s3_ i4_ h).mpr hb)
def laws_toPlacedS_main (S : SatT) (K : AVal → H → Prop) (x0 : Sl) (h : H) : Prop :=
 mkS (x0.len : Int) [.int .i64 (0), .int .i64 (0)] h fun s0 h1 =>
 laws_toPlacedS_L0 S K x0 s0 (0) h1
theorem laws_toPlacedS_main_link (S : SatT) (K : AVal → H → Prop) (x0 : Sl) (h : H) : cwp S tab laws_toPlacedS_M [] (bodyOf Try.f62) (kFun tab Try.f62.results.toList K) (fr0 Try.f62 [.sl x0]) h = laws_toPlacedS_main S K x0 h := by kernel_rfl
theorem laws_toPlacedS_call (x0 : Sl) (h : H) (K : Sl → H → Prop) (hm : laws_toPlacedS_main (Sat Try.prog) (fun v h' => ∃ r, v = .sl r ∧ K r h') x0 h) : callS (Sat Try.prog) i_laws_toPlacedS [.sl x0] h K := by
  have := Sat.ex tok mixed laws_toPlacedS_M Try.func62 (c := bodyOf Try.f62) (by kernel_rfl) (calls_of Try.func62 (c := bodyOf Try.f62) (by kernel_rfl) (by decide)) ((laws_toPlacedS_main_link _ _ x0 h).mpr hm)
  obtain ⟨v, h2, h3, r, rfl, h4⟩ := this; exact ⟨r, h2, h3, h4⟩

/-! ### loop.example/g01354/laws.eqTile -/
def laws_eqTile_M : Nat → List Nat := fun i => bif i == 0 then [2, 3, 5] else []
def laws_eqTile_ks1 (S : SatT) (K : AVal → H → Prop) : Kont := kSeq (cwp S tab laws_eqTile_M [] (sub [1, 1] (bodyOf Try.f31)) (kFun tab (Try.f31).results.toList K)) (kFun tab (Try.f31).results.toList K)
def laws_eqTile_e0 (p2_ : Pt) (p3_ : Pt) (i5_ : Int) : Frame := [U, U, .ptr p2_, .ptr p3_, U, .int .i64 i5_, U, U, U, U, U, U, U, U, U, U, U]
def laws_eqTile_w0 (S : SatT) (K : AVal → H → Prop) : (Frame → H → Prop) → Frame → H → Prop := fun X fr h => cwp S tab laws_eqTile_M (laws_eqTile_M 0) (sub [1, 0, 1, 0, 0] (bodyOf Try.f31)) (kSeq (fun fr h => X (mask (laws_eqTile_M 0) fr) h) (kBlk 0 (laws_eqTile_ks1 S K))) fr h
def laws_eqTile_L0 (S : SatT) (K : AVal → H → Prop) (p2_ : Pt) (p3_ : Pt) (i5_ : Int) (h : H) : Prop := loopK (laws_eqTile_w0 S K) (laws_eqTile_e0 p2_ p3_ i5_) h
def laws_eqTile_C0 (S : SatT) (K : AVal → H → Prop) (h : H) : Prop :=
 K (.bool true) h
def laws_eqTile_b0 (S : SatT) (K : AVal → H → Prop) (X0 : Frame → H → Prop) (p2_ : Pt) (p3_ : Pt) (i5_ : Int) (h : H) : Prop :=
 bif (decide (i5_ < (4))) then
 ixA p2_ 4 1 i5_ fun p0 =>
 ldI .i64 p0 h fun n1 =>
 ixA p3_ 4 1 i5_ fun p2 =>
 ldI .i64 p2 h fun n3 =>
 bif (n1 != n3) then
 K (.bool false) h
 else
 X0 (laws_eqTile_e0 p2_ p3_ (w64 (i5_ + (1)))) h
 else
 laws_eqTile_C0 S K h
theorem laws_eqTile_link0 (S : SatT) (K : AVal → H → Prop) (X0 : Frame → H → Prop) (p2_ : Pt) (p3_ : Pt) (i5_ : Int) (h : H) : laws_eqTile_w0 S K X0 (laws_eqTile_e0 p2_ p3_ i5_) h = laws_eqTile_b0 S K X0 p2_ p3_ i5_ h := by kernel_rfl
theorem laws_eqTile_rule0 (S : SatT) (K : AVal → H → Prop) (p2_ : Pt) (p3_ : Pt) (I_ : Int → H → Prop) (m_ : Int → H → Nat)
    (hs : ∀ (X0 : Frame → H → Prop) (i5_ : Int) (h : H), I_ i5_ h → (∀ (i5_' : Int) (h' : H), I_ i5_' h' → m_ i5_' h' < m_ i5_ h → X0 (laws_eqTile_e0 p2_ p3_ i5_') h') → laws_eqTile_b0 S K X0 p2_ p3_ i5_ h) (i5_ : Int) {h : H} (h0 : I_ i5_ h) : laws_eqTile_L0 S K p2_ p3_ i5_ h :=
  loop_rule (σ := (Int)) (fun s_ => laws_eqTile_e0 p2_ p3_ (s_)) (fun s_ h => I_ (s_) h) (fun s_ h => m_ (s_) h)
    (fun X s_ h hi hx => (laws_eqTile_link0 S K X p2_ p3_ (s_) h).mpr (hs X (s_) h hi fun i5_' h' hi' hm' => hx (i5_') h' hi' hm')) (i5_) h0
theorem laws_eqTile_unroll0 (S : SatT) (K : AVal → H → Prop) (p2_ : Pt) (p3_ : Pt) (i5_ : Int) (h : H) (hb : laws_eqTile_b0 S K (fun fr h => loopK (laws_eqTile_w0 S K) fr h) p2_ p3_ i5_ h) : laws_eqTile_L0 S K p2_ p3_ i5_ h := loop_unroll ((laws_eqTile_link0 S K _ p2_ p3_ i5_ h).mpr hb)
def laws_eqTile_main (S : SatT) (K : AVal → H → Prop) (x0 : List AVal) (x1 : List AVal) (h : H) : Prop :=
 newK 4 x0 h fun p0 h1 =>
 newK 4 x1 h1 fun p2 h3 =>
 laws_eqTile_L0 S K p0 p2 (0) h3
theorem laws_eqTile_main_link (S : SatT) (K : AVal → H → Prop) (x0 : List AVal) (x1 : List AVal) (h : H) : cwp S tab laws_eqTile_M [] (bodyOf Try.f31) (kFun tab Try.f31.results.toList K) (fr0 Try.f31 [.agg x0, .agg x1]) h = laws_eqTile_main S K x0 x1 h := by kernel_rfl
theorem laws_eqTile_call (x0 : List AVal) (x1 : List AVal) (h : H) (K : Bool → H → Prop) (hm : laws_eqTile_main (Sat Try.prog) (fun v h' => ∃ r, v = .bool r ∧ K r h') x0 x1 h) : callB (Sat Try.prog) i_laws_eqTile [.agg x0, .agg x1] h K := by
  have := Sat.ex tok mixed laws_eqTile_M Try.func31 (c := bodyOf Try.f31) (by kernel_rfl) (calls_of Try.func31 (c := bodyOf Try.f31) (by kernel_rfl) (by decide)) ((laws_eqTile_main_link _ _ x0 x1 h).mpr hm)
  obtain ⟨v, h2, h3, r, rfl, h4⟩ := this; exact ⟨r, h2, h3, h4⟩

/-! ### loop.example/g01354/impl.FirstBoard -/
def impl_FirstBoard_M : Nat → List Nat := fun i => []
def impl_FirstBoard_main (S : SatT) (K : AVal → H → Prop) (x0 : Sl) (x1 : Int) (x2 : Int) (x3 : Int) (h : H) : Prop :=
 newO [.int .i64 x2] h fun p0 h1 =>
 newO [.int .i64 x3] h1 fun p2 h3 =>
 ldI .i64 p0 h3 fun n4 =>
 ldI .i64 p2 h3 fun n5 =>
 callB S i_impl_isBoardSize [.sl x0, .int .i64 x1, .int .i64 n4, .int .i64 n5] h3 fun b7 h6 =>
 bif (!b7) then
 K (.tuple [.sl Sl.nil, .int .i64 (2)]) h6
 else
 newS 0 1 [] h6 fun s8 h9 =>
 newO [.sl Sl.nil] h9 fun p10 h11 =>
 st1 p10 (.sl s8) h11 fun h12 =>
 ldI .i64 p0 h12 fun n13 =>
 ldI .i64 p2 h12 fun n14 =>
 callV S i_impl_boards [.sl x0, .int .i64 x1, .int .i64 n13, .int .i64 n14, .func 68 [.ptr p0, .ptr p10, .ptr p2]] h12 fun v16 h15 =>
 ldS p10 h15 fun s17 =>
 bif ((s17.len : Int) == (0)) then
 K (.tuple [.sl Sl.nil, .int .i64 (4)]) h15
 else
 ldS p10 h15 fun s18 =>
 K (.tuple [.sl s18, .int .i64 (0)]) h15
theorem impl_FirstBoard_main_link (S : SatT) (K : AVal → H → Prop) (x0 : Sl) (x1 : Int) (x2 : Int) (x3 : Int) (h : H) : cwp S tab impl_FirstBoard_M [] (bodyOf Try.f42) (kFun tab Try.f42.results.toList K) (fr0 Try.f42 [.sl x0, .int .i64 x1, .int .i64 x2, .int .i64 x3]) h = impl_FirstBoard_main S K x0 x1 x2 x3 h := by kernel_rfl
theorem impl_FirstBoard_call (x0 : Sl) (x1 : Int) (x2 : Int) (x3 : Int) (h : H) (K : AVal → H → Prop) (hm : impl_FirstBoard_main (Sat Try.prog) (fun v h' => K v h') x0 x1 x2 x3 h) : callV (Sat Try.prog) i_impl_FirstBoard [.sl x0, .int .i64 x1, .int .i64 x2, .int .i64 x3] h K := by
  have := Sat.ex tok mixed impl_FirstBoard_M Try.func42 (c := bodyOf Try.f42) (by kernel_rfl) (calls_of Try.func42 (c := bodyOf Try.f42) (by kernel_rfl) (by decide)) ((impl_FirstBoard_main_link _ _ x0 x1 x2 x3 h).mpr hm)
  exact this

/-! ### slices.ContainsFunc[[]loop.example/g01354/impl.Tile,loop.example/g01354/impl.Tile] -/
def slices_ContainsFunc_s_impl_Tile_impl_Tile__M : Nat → List Nat := fun i => []
def slices_ContainsFunc_s_impl_Tile_impl_Tile__main (S : SatT) (K : AVal → H → Prop) (x0 : Sl) (x1 : AVal) (h : H) : Prop :=
 callI S .i64 i_slices_IndexFunc_s_impl_Tile_impl_Tile_ [.sl x0, x1] h fun n1 h0 =>
 K (.bool (decide (n1 ≥ (0)))) h0
theorem slices_ContainsFunc_s_impl_Tile_impl_Tile__main_link (S : SatT) (K : AVal → H → Prop) (x0 : Sl) (x1 : AVal) (h : H) : cwp S tab slices_ContainsFunc_s_impl_Tile_impl_Tile__M [] (bodyOf Try.f73) (kFun tab Try.f73.results.toList K) (fr0 Try.f73 [.sl x0, x1]) h = slices_ContainsFunc_s_impl_Tile_impl_Tile__main S K x0 x1 h := by kernel_rfl
theorem slices_ContainsFunc_s_impl_Tile_impl_Tile__call (x0 : Sl) (x1 : AVal) (h : H) (K : Bool → H → Prop) (hm : slices_ContainsFunc_s_impl_Tile_impl_Tile__main (Sat Try.prog) (fun v h' => ∃ r, v = .bool r ∧ K r h') x0 x1 h) : callB (Sat Try.prog) i_slices_ContainsFunc_s_impl_Tile_impl_Tile_ [.sl x0, x1] h K := by
  have := Sat.ex tok mixed slices_ContainsFunc_s_impl_Tile_impl_Tile__M Try.func73 (c := bodyOf Try.f73) (by kernel_rfl) (calls_of Try.func73 (c := bodyOf Try.f73) (by kernel_rfl) (by decide)) ((slices_ContainsFunc_s_impl_Tile_impl_Tile__main_link _ _ x0 x1 h).mpr hm)
  obtain ⟨v, h2, h3, r, rfl, h4⟩ := this; exact ⟨r, h2, h3, h4⟩

/-! ### loop.example/g01354/laws.eqPlaced -/
def laws_eqPlaced_M : Nat → List Nat := fun i => []
def laws_eqPlaced_main (S : SatT) (K : AVal → H → Prop) (x0 : List AVal) (x1 : List AVal) (h : H) : Prop :=
 newK 2 x0 h fun p0 h1 =>
 newK 2 x1 h1 fun p2 h3 =>
 isPt p0 (
 ldI .i64 (Pt.add p0 0) h3 fun n4 =>
 isPt p2 (
 ldI .i64 (Pt.add p2 0) h3 fun n5 =>
 bif (n4 != n5) then
 K (.bool false) h3
 else
 isPt p0 (
 ldI .i64 (Pt.add p0 1) h3 fun n6 =>
 isPt p2 (
 ldI .i64 (Pt.add p2 1) h3 fun n7 =>
 bif (n6 != n7) then
 K (.bool false) h3
 else
 K (.bool true) h3))))
theorem laws_eqPlaced_main_link (S : SatT) (K : AVal → H → Prop) (x0 : List AVal) (x1 : List AVal) (h : H) : cwp S tab laws_eqPlaced_M [] (bodyOf Try.f87) (kFun tab Try.f87.results.toList K) (fr0 Try.f87 [.agg x0, .agg x1]) h = laws_eqPlaced_main S K x0 x1 h := by kernel_rfl
theorem laws_eqPlaced_call (x0 : List AVal) (x1 : List AVal) (h : H) (K : Bool → H → Prop) (hm : laws_eqPlaced_main (Sat Try.prog) (fun v h' => ∃ r, v = .bool r ∧ K r h') x0 x1 h) : callB (Sat Try.prog) i_laws_eqPlaced [.agg x0, .agg x1] h K := by
  have := Sat.ex tok mixed laws_eqPlaced_M Try.func87 (c := bodyOf Try.f87) (by kernel_rfl) (calls_of Try.func87 (c := bodyOf Try.f87) (by kernel_rfl) (by decide)) ((laws_eqPlaced_main_link _ _ x0 x1 h).mpr hm)
  obtain ⟨v, h2, h3, r, rfl, h4⟩ := this; exact ⟨r, h2, h3, h4⟩

/-! ### loop.example/g01354/impl.areRows -/
def impl_areRows_M : Nat → List Nat := fun i => []
def impl_areRows_main (S : SatT) (K : AVal → H → Prop) (x0 : Sl) (h : H) : Prop :=
 newO [.sl x0] h fun p0 h1 =>
 ldS p0 h1 fun s2 =>
 bif (decide ((s2.len : Int) > (0))) then
 ldS p0 h1 fun s3 =>
 ixS s3 1 (0) fun p4 =>
 ldS p4 h1 fun s5 =>
 bif (decide ((s5.len : Int) > (0))) then
 ldS p0 h1 fun s6 =>
 callB S i_slices_ContainsFunc_ss_impl_Placed_s_impl_Placed_ [.sl s6, .func 86 [.ptr p0]] h1 fun b8 h7 =>
 K (.bool (!b8)) h7
 else
 K (.bool false) h1
 else
 K (.bool false) h1
theorem impl_areRows_main_link (S : SatT) (K : AVal → H → Prop) (x0 : Sl) (h : H) : cwp S tab impl_areRows_M [] (bodyOf Try.f64) (kFun tab Try.f64.results.toList K) (fr0 Try.f64 [.sl x0]) h = impl_areRows_main S K x0 h := by kernel_rfl
theorem impl_areRows_call (x0 : Sl) (h : H) (K : Bool → H → Prop) (hm : impl_areRows_main (Sat Try.prog) (fun v h' => ∃ r, v = .bool r ∧ K r h') x0 h) : callB (Sat Try.prog) i_impl_areRows [.sl x0] h K := by
  have := Sat.ex tok mixed impl_areRows_M Try.func64 (c := bodyOf Try.f64) (by kernel_rfl) (calls_of Try.func64 (c := bodyOf Try.f64) (by kernel_rfl) (by decide)) ((impl_areRows_main_link _ _ x0 h).mpr hm)
  obtain ⟨v, h2, h3, r, rfl, h4⟩ := this; exact ⟨r, h2, h3, h4⟩

/-! ### loop.example/g01354/impl.compare -/
def impl_compare_M : Nat → List Nat := fun i => []
def impl_compare_main (S : SatT) (K : AVal → H → Prop) (x0 : List AVal) (x1 : List AVal) (h : H) : Prop :=
 newK 4 x0 h fun p0 h1 =>
 newK 4 x1 h1 fun p2 h3 =>
 cutA p0 4 1 (0) ((4 : Nat) : Int) fun s4 =>
 cutA p2 4 1 (0) ((4 : Nat) : Int) fun s5 =>
 callI S .i64 i_slices_Compare_s_int64_int64_ [.sl s4, .sl s5] h3 fun n7 h6 =>
 K (.int .i64 n7) h6
theorem impl_compare_main_link (S : SatT) (K : AVal → H → Prop) (x0 : List AVal) (x1 : List AVal) (h : H) : cwp S tab impl_compare_M [] (bodyOf Try.f79) (kFun tab Try.f79.results.toList K) (fr0 Try.f79 [.agg x0, .agg x1]) h = impl_compare_main S K x0 x1 h := by kernel_rfl
theorem impl_compare_call (x0 : List AVal) (x1 : List AVal) (h : H) (K : Int → H → Prop) (hm : impl_compare_main (Sat Try.prog) (fun v h' => ∃ r, v = .int .i64 r ∧ K r h') x0 x1 h) : callI (Sat Try.prog) .i64 i_impl_compare [.agg x0, .agg x1] h K := by
  have := Sat.ex tok mixed impl_compare_M Try.func79 (c := bodyOf Try.f79) (by kernel_rfl) (calls_of Try.func79 (c := bodyOf Try.f79) (by kernel_rfl) (by decide)) ((impl_compare_main_link _ _ x0 x1 h).mpr hm)
  obtain ⟨v, h2, h3, r, rfl, h4⟩ := this; exact ⟨r, h2, h3, h4⟩

/-! ### loop.example/g01354/impl.isTile -/
def impl_isTile_M : Nat → List Nat := fun i => []
def impl_isTile_main (S : SatT) (K : AVal → H → Prop) (x0 : List AVal) (x1 : Int) (h : H) : Prop :=
 newK 4 x0 h fun p0 h1 =>
 newO [.int .i64 x1] h1 fun p2 h3 =>
 cutA p0 4 1 (0) ((4 : Nat) : Int) fun s4 =>
 callB S i_slices_ContainsFunc_s_int64_int64_ [.sl s4, .func 91 [.ptr p2]] h3 fun b6 h5 =>
 K (.bool (!b6)) h5
theorem impl_isTile_main_link (S : SatT) (K : AVal → H → Prop) (x0 : List AVal) (x1 : Int) (h : H) : cwp S tab impl_isTile_M [] (bodyOf Try.f75) (kFun tab Try.f75.results.toList K) (fr0 Try.f75 [.agg x0, .int .i64 x1]) h = impl_isTile_main S K x0 x1 h := by kernel_rfl
theorem impl_isTile_call (x0 : List AVal) (x1 : Int) (h : H) (K : Bool → H → Prop) (hm : impl_isTile_main (Sat Try.prog) (fun v h' => ∃ r, v = .bool r ∧ K r h') x0 x1 h) : callB (Sat Try.prog) i_impl_isTile [.agg x0, .int .i64 x1] h K := by
  have := Sat.ex tok mixed impl_isTile_M Try.func75 (c := bodyOf Try.f75) (by kernel_rfl) (calls_of Try.func75 (c := bodyOf Try.f75) (by kernel_rfl) (by decide)) ((impl_isTile_main_link _ _ x0 x1 h).mpr hm)
  obtain ⟨v, h2, h3, r, rfl, h4⟩ := this; exact ⟨r, h2, h3, h4⟩

/-! ### loop.example/g01354/spec.l01In -/
def spec_l01In_M : Nat → List Nat := fun i => []
def spec_l01In_main (S : SatT) (K : AVal → H → Prop) (x0 : Int) (x1 : Int) (x2 : Int) (h : H) : Prop :=
 bif (decide (x0 ≥ x1)) then
 K (.bool (decide (x0 ≤ x2))) h
 else
 K (.bool false) h
theorem spec_l01In_main_link (S : SatT) (K : AVal → H → Prop) (x0 : Int) (x1 : Int) (x2 : Int) (h : H) : cwp S tab spec_l01In_M [] (bodyOf Try.f45) (kFun tab Try.f45.results.toList K) (fr0 Try.f45 [.int .i64 x0, .int .i64 x1, .int .i64 x2]) h = spec_l01In_main S K x0 x1 x2 h := by kernel_rfl
theorem spec_l01In_call (x0 : Int) (x1 : Int) (x2 : Int) (h : H) (K : Bool → H → Prop) (hm : spec_l01In_main (Sat Try.prog) (fun v h' => ∃ r, v = .bool r ∧ K r h') x0 x1 x2 h) : callB (Sat Try.prog) i_spec_l01In [.int .i64 x0, .int .i64 x1, .int .i64 x2] h K := by
  have := Sat.ex tok mixed spec_l01In_M Try.func45 (c := bodyOf Try.f45) (by kernel_rfl) (calls_of Try.func45 (c := bodyOf Try.f45) (by kernel_rfl) (by decide)) ((spec_l01In_main_link _ _ x0 x1 x2 h).mpr hm)
  obtain ⟨v, h2, h3, r, rfl, h4⟩ := this; exact ⟨r, h2, h3, h4⟩

/-! ### loop.example/g01354/impl.areRows$1 -/
def impl_areRows_1_M : Nat → List Nat := fun i => []
def impl_areRows_1_main (S : SatT) (K : AVal → H → Prop) (x0 : Sl) (x1 : Pt) (h : H) : Prop :=
 ldS x1 h fun s0 =>
 ixS s0 1 (0) fun p1 =>
 ldS p1 h fun s2 =>
 K (.bool ((x0.len : Int) != (s2.len : Int))) h
theorem impl_areRows_1_main_link (S : SatT) (K : AVal → H → Prop) (x0 : Sl) (x1 : Pt) (h : H) : cwp S tab impl_areRows_1_M [] (bodyOf Try.f86) (kFun tab Try.f86.results.toList K) (fr0 Try.f86 [.sl x0, .ptr x1]) h = impl_areRows_1_main S K x0 x1 h := by kernel_rfl
theorem impl_areRows_1_call (x0 : Sl) (x1 : Pt) (h : H) (K : Bool → H → Prop) (hm : impl_areRows_1_main (Sat Try.prog) (fun v h' => ∃ r, v = .bool r ∧ K r h') x0 x1 h) : callB (Sat Try.prog) i_impl_areRows_1 [.sl x0, .ptr x1] h K := by
  have := Sat.ex tok mixed impl_areRows_1_M Try.func86 (c := bodyOf Try.f86) (by kernel_rfl) (calls_of Try.func86 (c := bodyOf Try.f86) (by kernel_rfl) (by decide)) ((impl_areRows_1_main_link _ _ x0 x1 h).mpr hm)
  obtain ⟨v, h2, h3, r, rfl, h4⟩ := this; exact ⟨r, h2, h3, h4⟩

/-! ### loop.example/g01354/impl.placed -/
def impl_placed_M : Nat → List Nat := fun i => bif i == 2 then [0, 1, 2, 8, 9, 10, 11, 12, 32, 33, 34, 40, 41, 42] else bif i == 0 then [0, 1, 2, 8, 9, 32, 33, 34] else []
def impl_placed_ks5 (S : SatT) (K : AVal → H → Prop) : Kont := kSeq (cwp S tab impl_placed_M [] (sub [1, 1, 1, 1] (bodyOf Try.f65)) (kFun tab (Try.f65).results.toList K)) (kFun tab (Try.f65).results.toList K)
def impl_placed_e0 (s0_ : Sl) (i1_ : Int) (s2_ : Sl) (s8_ : Sl) (s9_ : Sl) (s32_ : Sl) (i33_ : Int) (i34_ : Int) : Frame := [.sl s0_, .int .i64 i1_, .sl s2_, U, U, U, U, U, .sl s8_, .sl s9_, U, U, U, U, U, U, U, U, U, U, U, U, U, U, U, U, U, U, U, U, U, U, .sl s32_, .int .i64 i33_, .int .i64 i34_, U, U, U, U, U, U, U, U, U, U, U, U, U, U, U, U, U, U, U, U, U, U, U, U, U, U, U, U, U, U, U, U, U, U, U, U, U, U, U, U, U, U, U, U, U, U, U, U, U, U, U, U, U, U, U, U, U, U, U, U, U, U, U, U, U, U, U, U, U, U, U, U, U, U, U, U, U, U, U, U, U, U, U]
def impl_placed_w0 (S : SatT) (K : AVal → H → Prop) : (Frame → H → Prop) → Frame → H → Prop := fun X fr h => cwp S tab impl_placed_M (impl_placed_M 0) (sub [1, 1, 1, 0, 1, 0, 0] (bodyOf Try.f65)) (kSeq (fun fr h => X (mask (impl_placed_M 0) fr) h) (kBlk 0 (impl_placed_ks5 S K))) fr h
def impl_placed_L0 (S : SatT) (K : AVal → H → Prop) (s0_ : Sl) (i1_ : Int) (s2_ : Sl) (s8_ : Sl) (s9_ : Sl) (s32_ : Sl) (i33_ : Int) (i34_ : Int) (h : H) : Prop := loopK (impl_placed_w0 S K) (impl_placed_e0 s0_ i1_ s2_ s8_ s9_ s32_ i33_ i34_) h
def impl_placed_ks9 (S : SatT) (K : AVal → H → Prop) (X0 : Frame → H → Prop) : Kont := kSeq (cwp S tab impl_placed_M (impl_placed_M 0) (sub [1, 1, 1, 0, 1, 0, 0, 1, 1, 1] (bodyOf Try.f65)) (kSeq (fun fr h => X0 (mask (impl_placed_M 0) fr) h) (kBlk 0 (impl_placed_ks5 S K)))) (kSeq (fun fr h => X0 (mask (impl_placed_M 0) fr) h) (kBlk 0 (impl_placed_ks5 S K)))
def impl_placed_ks12 (S : SatT) (K : AVal → H → Prop) (X0 : Frame → H → Prop) : Kont := kSeq (cwp S tab impl_placed_M (impl_placed_M 1) (sub [1, 1, 1, 0, 1, 0, 0, 1, 1, 0, 0, 1, 1, 1] (bodyOf Try.f65)) (kBlk 1 (impl_placed_ks9 S K X0))) (kBlk 1 (impl_placed_ks9 S K X0))
def impl_placed_e2 (s0_ : Sl) (i1_ : Int) (s2_ : Sl) (s8_ : Sl) (s9_ : Sl) (i10_ : Int) (s11_ : Sl) (s12_ : Sl) (s32_ : Sl) (i33_ : Int) (i34_ : Int) (s40_ : Sl) (i41_ : Int) (i42_ : Int) : Frame := [.sl s0_, .int .i64 i1_, .sl s2_, U, U, U, U, U, .sl s8_, .sl s9_, .int .i64 i10_, .sl s11_, .sl s12_, U, U, U, U, U, U, U, U, U, U, U, U, U, U, U, U, U, U, U, .sl s32_, .int .i64 i33_, .int .i64 i34_, U, U, U, U, U, .sl s40_, .int .i64 i41_, .int .i64 i42_, U, U, U, U, U, U, U, U, U, U, U, U, U, U, U, U, U, U, U, U, U, U, U, U, U, U, U, U, U, U, U, U, U, U, U, U, U, U, U, U, U, U, U, U, U, U, U, U, U, U, U, U, U, U, U, U, U, U, U, U, U, U, U, U, U, U, U, U, U, U, U, U, U, U, U]
def impl_placed_w2 (S : SatT) (K : AVal → H → Prop) (X0 : Frame → H → Prop) : (Frame → H → Prop) → Frame → H → Prop := fun X fr h => cwp S tab impl_placed_M (impl_placed_M 2) (sub [1, 1, 1, 0, 1, 0, 0, 1, 1, 0, 0, 1, 1, 0, 1, 0, 0] (bodyOf Try.f65)) (kSeq (fun fr h => X (mask (impl_placed_M 2) fr) h) (kBlk 2 (impl_placed_ks12 S K X0))) fr h
def impl_placed_L2 (S : SatT) (K : AVal → H → Prop) (X0 : Frame → H → Prop) (s0_ : Sl) (i1_ : Int) (s2_ : Sl) (s8_ : Sl) (s9_ : Sl) (i10_ : Int) (s11_ : Sl) (s12_ : Sl) (s32_ : Sl) (i33_ : Int) (i34_ : Int) (s40_ : Sl) (i41_ : Int) (i42_ : Int) (h : H) : Prop := loopK (impl_placed_w2 S K X0) (impl_placed_e2 s0_ i1_ s2_ s8_ s9_ i10_ s11_ s12_ s32_ i33_ i34_ s40_ i41_ i42_) h
def impl_placed_C1 (S : SatT) (K : AVal → H → Prop) (X0 : Frame → H → Prop) (s0_ : Sl) (i1_ : Int) (s2_ : Sl) (s8_ : Sl) (s9_ : Sl) (s32_ : Sl) (i33_ : Int) (i34_ : Int) (h : H) : Prop :=
 X0 (impl_placed_e0 s0_ i1_ s2_ s8_ s9_ s32_ i33_ (w64 (i34_ + (1)))) h
def impl_placed_C2 (S : SatT) (K : AVal → H → Prop) (X0 : Frame → H → Prop) (s0_ : Sl) (i1_ : Int) (s2_ : Sl) (s8_ : Sl) (s9_ : Sl) (s12_ : Sl) (s32_ : Sl) (i33_ : Int) (i34_ : Int) (h : H) : Prop :=
 newS 1 1 [.sl s12_] h fun s0 h1 =>
 app s8_ s0 1 h1 fun s2 h3 =>
 impl_placed_C1 S K X0 s0_ i1_ s2_ s2 s9_ s32_ i33_ i34_ h3
def impl_placed_b2 (S : SatT) (K : AVal → H → Prop) (X0 : Frame → H → Prop) (X2 : Frame → H → Prop) (s0_ : Sl) (i1_ : Int) (s2_ : Sl) (s8_ : Sl) (s9_ : Sl) (i10_ : Int) (s11_ : Sl) (s12_ : Sl) (s32_ : Sl) (i33_ : Int) (i34_ : Int) (s40_ : Sl) (i41_ : Int) (i42_ : Int) (h : H) : Prop :=
 bif (decide (i42_ < i41_)) then
 ixS s40_ 2 i42_ fun p0 =>
 ldA p0 2 h fun cs1 =>
 newO [.int .i64 (0), .int .i64 (0)] h fun p2 h3 =>
 stN p2 2 cs1 h3 fun h4 =>
 isPt p2 (
 ldI .i64 (Pt.add p2 0) h4 fun n5 =>
 callB S i_impl_within [.int .i64 n5, .int .i64 (0), .int .i64 (w64 ((s0_.len : Int) - (1)))] h4 fun b7 h6 =>
 bif (!b7) then
 K (.tuple [.sl Sl.nil, .bool false]) h6
 else
 isPt p2 (
 ldI .i64 (Pt.add p2 1) h6 fun n8 =>
 callB S i_impl_within [.int .i64 n8, .int .i64 (0), .int .i64 (3)] h6 fun b10 h9 =>
 bif (!b10) then
 K (.tuple [.sl Sl.nil, .bool false]) h9
 else
 isPt p2 (
 ldI .i64 (Pt.add p2 0) h9 fun n11 =>
 ixS s9_ 1 n11 fun p12 =>
 ldB p12 h9 fun b13 =>
 bif b13 then
 K (.tuple [.sl Sl.nil, .bool false]) h9
 else
 isPt p2 (
 ldI .i64 (Pt.add p2 0) h9 fun n14 =>
 ixS s9_ 1 n14 fun p15 =>
 st1 p15 (.bool true) h9 fun h16 =>
 slotK 12 h16 fun h17 =>
 isPt p2 (
 ldI .i64 (Pt.add p2 0) h17 fun n18 =>
 ixS s0_ 4 n18 fun p19 =>
 ldA p19 4 h17 fun cs20 =>
 callS S i_impl_Tile_turns [.agg cs20] h17 fun s22 h21 =>
 isPt p2 (
 ldI .i64 (Pt.add p2 1) h21 fun n23 =>
(cell h17 (Pt.add p2 1) = cell h21 (Pt.add p2 1)) ∧ (
 ixS s22 4 n23 fun p24 =>
 ldA p24 4 h21 fun cs25 =>
 newOat [.int .i64 (0), .int .i64 (0), .int .i64 (0), .int .i64 (0)] h21 (h16.length + 10) fun p26 h27 =>
(range h21 p19.o p19.n p19.off 4 = range h17 p19.o p19.n p19.off 4) ∧ (
(cell h21 (Pt.add p2 0) = cell h17 (Pt.add p2 0)) ∧ (
(range h27 p24.o p24.n p24.off 4 = range h21 p24.o p24.n p24.off 4) ∧ (
(cell h27 (Pt.add p2 1) = cell h21 (Pt.add p2 1)) ∧ (
(range h27 p19.o p19.n p19.off 4 = range h17 p19.o p19.n p19.off 4) ∧ (
(cell h27 (Pt.add p2 0) = cell h17 (Pt.add p2 0)) ∧ (
 stN p26 4 cs25 h27 fun h28 =>
 bif (decide (i10_ > (0))) then
 ixS s8_ 1 (w64 (i10_ - (1))) fun p29 =>
 ldS p29 h28 fun s30 =>
 ldA p26 4 h28 fun cs31 =>
 callB S i_impl_joins [.agg cs31, .int .i64 i42_, .sl s30, .sl s12_] h28 fun b33 h32 =>
 bif (!b33) then
 K (.tuple [.sl Sl.nil, .bool false]) h32
 else
 ldA p26 4 h32 fun cs34 =>
 callB S i_impl_edges [.agg cs34, .int .i64 i1_, .int .i64 i10_, .int .i64 i42_, .int .i64 (s2_.len : Int), .int .i64 (s11_.len : Int)] h32 fun b36 h35 =>
 bif (!b36) then
 K (.tuple [.sl Sl.nil, .bool false]) h35
 else
 ldA p26 4 h35 fun cs37 =>
 lenA cs37 4 (
 newS 1 4 (spl [.int .i64 (0), .int .i64 (0), .int .i64 (0), .int .i64 (0)] 0 4 cs37) h35 fun s38 h39 =>
 app s12_ s38 4 h39 fun s40 h41 =>
 X2 (impl_placed_e2 s0_ i1_ s2_ s8_ s9_ i10_ s11_ s40 s32_ i33_ i34_ s40_ i41_ (w64 (i42_ + (1)))) h41)
 else
 ldA p26 4 h28 fun cs42 =>
 callB S i_impl_joins [.agg cs42, .int .i64 i42_, .sl Sl.nil, .sl s12_] h28 fun b44 h43 =>
 bif (!b44) then
 K (.tuple [.sl Sl.nil, .bool false]) h43
 else
 ldA p26 4 h43 fun cs45 =>
 callB S i_impl_edges [.agg cs45, .int .i64 i1_, .int .i64 i10_, .int .i64 i42_, .int .i64 (s2_.len : Int), .int .i64 (s11_.len : Int)] h43 fun b47 h46 =>
 bif (!b47) then
 K (.tuple [.sl Sl.nil, .bool false]) h46
 else
 ldA p26 4 h46 fun cs48 =>
 lenA cs48 4 (
 newS 1 4 (spl [.int .i64 (0), .int .i64 (0), .int .i64 (0), .int .i64 (0)] 0 4 cs48) h46 fun s49 h50 =>
 app s12_ s49 4 h50 fun s51 h52 =>
 X2 (impl_placed_e2 s0_ i1_ s2_ s8_ s9_ i10_ s11_ s51 s32_ i33_ i34_ s40_ i41_ (w64 (i42_ + (1)))) h52))))))))))))))
 else
 impl_placed_C2 S K X0 s0_ i1_ s2_ s8_ s9_ s12_ s32_ i33_ i34_ h
theorem impl_placed_link2 (S : SatT) (K : AVal → H → Prop) (X0 : Frame → H → Prop) (X2 : Frame → H → Prop) (s0_ : Sl) (i1_ : Int) (s2_ : Sl) (s8_ : Sl) (s9_ : Sl) (i10_ : Int) (s11_ : Sl) (s12_ : Sl) (s32_ : Sl) (i33_ : Int) (i34_ : Int) (s40_ : Sl) (i41_ : Int) (i42_ : Int) (h : H) : impl_placed_w2 S K X0 X2 (impl_placed_e2 s0_ i1_ s2_ s8_ s9_ i10_ s11_ s12_ s32_ i33_ i34_ s40_ i41_ i42_) h = impl_placed_b2 S K X0 X2 s0_ i1_ s2_ s8_ s9_ i10_ s11_ s12_ s32_ i33_ i34_ s40_ i41_ i42_ h := by kernel_rfl
theorem impl_placed_rule2 (S : SatT) (K : AVal → H → Prop) (X0 : Frame → H → Prop) (s0_ : Sl) (i1_ : Int) (s2_ : Sl) (s8_ : Sl) (s9_ : Sl) (i10_ : Int) (s11_ : Sl) (s32_ : Sl) (i33_ : Int) (i34_ : Int) (s40_ : Sl) (i41_ : Int) (I_ : Sl → Int → H → Prop) (m_ : Sl → Int → H → Nat)
    (hs : ∀ (X2 : Frame → H → Prop) (s12_ : Sl) (i42_ : Int) (h : H), I_ s12_ i42_ h → (∀ (s12_' : Sl) (i42_' : Int) (h' : H), I_ s12_' i42_' h' → m_ s12_' i42_' h' < m_ s12_ i42_ h → X2 (impl_placed_e2 s0_ i1_ s2_ s8_ s9_ i10_ s11_ s12_' s32_ i33_ i34_ s40_ i41_ i42_') h') → impl_placed_b2 S K X0 X2 s0_ i1_ s2_ s8_ s9_ i10_ s11_ s12_ s32_ i33_ i34_ s40_ i41_ i42_ h) (s12_ : Sl) (i42_ : Int) {h : H} (h0 : I_ s12_ i42_ h) : impl_placed_L2 S K X0 s0_ i1_ s2_ s8_ s9_ i10_ s11_ s12_ s32_ i33_ i34_ s40_ i41_ i42_ h :=
  loop_rule (σ := (Sl) × (Int)) (fun s_ => impl_placed_e2 s0_ i1_ s2_ s8_ s9_ i10_ s11_ (s_.1) s32_ i33_ i34_ s40_ i41_ (s_.2)) (fun s_ h => I_ (s_.1) (s_.2) h) (fun s_ h => m_ (s_.1) (s_.2) h)
    (fun X s_ h hi hx => (impl_placed_link2 S K X0 X s0_ i1_ s2_ s8_ s9_ i10_ s11_ (s_.1) s32_ i33_ i34_ s40_ i41_ (s_.2) h).mpr (hs X (s_.1) (s_.2) h hi fun s12_' i42_' h' hi' hm' => hx (s12_', i42_') h' hi' hm')) (s12_, i42_) h0
theorem impl_placed_unroll2 (S : SatT) (K : AVal → H → Prop) (X0 : Frame → H → Prop) (s0_ : Sl) (i1_ : Int) (s2_ : Sl) (s8_ : Sl) (s9_ : Sl) (i10_ : Int) (s11_ : Sl) (s12_ : Sl) (s32_ : Sl) (i33_ : Int) (i34_ : Int) (s40_ : Sl) (i41_ : Int) (i42_ : Int) (h : H) (hb : impl_placed_b2 S K X0 (fun fr h => loopK (impl_placed_w2 S K X0) fr h) s0_ i1_ s2_ s8_ s9_ i10_ s11_ s12_ s32_ i33_ i34_ s40_ i41_ i42_ h) : impl_placed_L2 S K X0 s0_ i1_ s2_ s8_ s9_ i10_ s11_ s12_ s32_ i33_ i34_ s40_ i41_ i42_ h := loop_unroll ((impl_placed_link2 S K X0 _ s0_ i1_ s2_ s8_ s9_ i10_ s11_ s12_ s32_ i33_ i34_ s40_ i41_ i42_ h).mpr hb)
def impl_placed_C0 (S : SatT) (K : AVal → H → Prop) (s8_ : Sl) (h : H) : Prop :=
 K (.tuple [.sl s8_, .bool true]) h
def impl_placed_b0 (S : SatT) (K : AVal → H → Prop) (X0 : Frame → H → Prop) (s0_ : Sl) (i1_ : Int) (s2_ : Sl) (s8_ : Sl) (s9_ : Sl) (s32_ : Sl) (i33_ : Int) (i34_ : Int) (h : H) : Prop :=
 bif (decide (i34_ < i33_)) then
 ixS s32_ 1 i34_ fun p0 =>
 ldS p0 h fun s1 =>
 newS 0 4 [] h fun s2 h3 =>
 impl_placed_L2 S K X0 s0_ i1_ s2_ s8_ s9_ i34_ s1 s2 s32_ i33_ i34_ s1 (s1.len : Int) (0) h3
 else
 impl_placed_C0 S K s8_ h
theorem impl_placed_link0 (S : SatT) (K : AVal → H → Prop) (X0 : Frame → H → Prop) (s0_ : Sl) (i1_ : Int) (s2_ : Sl) (s8_ : Sl) (s9_ : Sl) (s32_ : Sl) (i33_ : Int) (i34_ : Int) (h : H) : impl_placed_w0 S K X0 (impl_placed_e0 s0_ i1_ s2_ s8_ s9_ s32_ i33_ i34_) h = impl_placed_b0 S K X0 s0_ i1_ s2_ s8_ s9_ s32_ i33_ i34_ h := by kernel_rfl
theorem impl_placed_rule0 (S : SatT) (K : AVal → H → Prop) (s0_ : Sl) (i1_ : Int) (s2_ : Sl) (s9_ : Sl) (s32_ : Sl) (i33_ : Int) (I_ : Sl → Int → H → Prop) (m_ : Sl → Int → H → Nat)
    (hs : ∀ (X0 : Frame → H → Prop) (s8_ : Sl) (i34_ : Int) (h : H), I_ s8_ i34_ h → (∀ (s8_' : Sl) (i34_' : Int) (h' : H), I_ s8_' i34_' h' → m_ s8_' i34_' h' < m_ s8_ i34_ h → X0 (impl_placed_e0 s0_ i1_ s2_ s8_' s9_ s32_ i33_ i34_') h') → impl_placed_b0 S K X0 s0_ i1_ s2_ s8_ s9_ s32_ i33_ i34_ h) (s8_ : Sl) (i34_ : Int) {h : H} (h0 : I_ s8_ i34_ h) : impl_placed_L0 S K s0_ i1_ s2_ s8_ s9_ s32_ i33_ i34_ h :=
  loop_rule (σ := (Sl) × (Int)) (fun s_ => impl_placed_e0 s0_ i1_ s2_ (s_.1) s9_ s32_ i33_ (s_.2)) (fun s_ h => I_ (s_.1) (s_.2) h) (fun s_ h => m_ (s_.1) (s_.2) h)
    (fun X s_ h hi hx => (impl_placed_link0 S K X s0_ i1_ s2_ (s_.1) s9_ s32_ i33_ (s_.2) h).mpr (hs X (s_.1) (s_.2) h hi fun s8_' i34_' h' hi' hm' => hx (s8_', i34_') h' hi' hm')) (s8_, i34_) h0
theorem impl_placed_unroll0 (S : SatT) (K : AVal → H → Prop) (s0_ : Sl) (i1_ : Int) (s2_ : Sl) (s8_ : Sl) (s9_ : Sl) (s32_ : Sl) (i33_ : Int) (i34_ : Int) (h : H) (hb : impl_placed_b0 S K (fun fr h => loopK (impl_placed_w0 S K) fr h) s0_ i1_ s2_ s8_ s9_ s32_ i33_ i34_ h) : impl_placed_L0 S K s0_ i1_ s2_ s8_ s9_ s32_ i33_ i34_ h := loop_unroll ((impl_placed_link0 S K _ s0_ i1_ s2_ s8_ s9_ s32_ i33_ i34_ h).mpr hb)
def impl_placed_main (S : SatT) (K : AVal → H → Prop) (x0 : Sl) (x1 : Int) (x2 : Sl) (h : H) : Prop :=
 slotK 6 h fun h0 =>
 newSat 0 1 [] h0 (h.length + 0) fun s1 h2 =>
 mkSat (x0.len : Int) [.bool false] h2 (h.length + 3) fun s3 h4 =>
 ixS x2 1 (0) fun p5 =>
 ldS p5 h4 fun s6 =>
 bif ((w64 ((x2.len : Int) * (s6.len : Int))) != (x0.len : Int)) then
 K (.tuple [.sl Sl.nil, .bool false]) h4
 else
 impl_placed_L0 S K x0 x1 x2 s1 s3 x2 (x2.len : Int) (0) h4
theorem impl_placed_main_link (S : SatT) (K : AVal → H → Prop) (x0 : Sl) (x1 : Int) (x2 : Sl) (h : H) : cwp S tab impl_placed_M [] (bodyOf Try.f65) (kFun tab Try.f65.results.toList K) (fr0 Try.f65 [.sl x0, .int .i64 x1, .sl x2]) h = impl_placed_main S K x0 x1 x2 h := by kernel_rfl
theorem impl_placed_call (x0 : Sl) (x1 : Int) (x2 : Sl) (h : H) (K : AVal → H → Prop) (hm : impl_placed_main (Sat Try.prog) (fun v h' => K v h') x0 x1 x2 h) : callV (Sat Try.prog) i_impl_placed [.sl x0, .int .i64 x1, .sl x2] h K := by
  have := Sat.ex tok mixed impl_placed_M Try.func65 (c := bodyOf Try.f65) (by kernel_rfl) (calls_of Try.func65 (c := bodyOf Try.f65) (by kernel_rfl) (by decide)) ((impl_placed_main_link _ _ x0 x1 x2 h).mpr hm)
  exact this

/-! ### loop.example/g01354/spec.l07Number -/
def spec_l07Number_M : Nat → List Nat := fun i => bif i == 2 then [0, 1, 2, 3, 4, 5, 6, 15, 16, 17, 18, 19] else bif i == 0 then [0, 1, 2, 3, 4, 5, 6, 15, 16, 17, 18] else []
def spec_l07Number_ks5 (S : SatT) (K : AVal → H → Prop) : Kont := kSeq (cwp S tab spec_l07Number_M [] (sub [1, 1, 1, 1] (bodyOf Try.f55)) (kFun tab (Try.f55).results.toList K)) (kFun tab (Try.f55).results.toList K)
def spec_l07Number_e0 (s0_ : Sl) (i1_ : Int) (i2_ : Int) (i3_ : Int) (i4_ : Int) (i5_ : Int) (s6_ : Sl) (i15_ : Int) (i16_ : Int) (i17_ : Int) (i18_ : Int) : Frame := [.sl s0_, .int .i64 i1_, .int .i64 i2_, .int .i64 i3_, .int .i64 i4_, .int .i64 i5_, .sl s6_, U, U, U, U, U, U, U, U, .int .i64 i15_, .int .i64 i16_, .int .i64 i17_, .int .i64 i18_, U, U, U, U, U, U, U, U, U, U, U, U, U, U, U, U, U, U, U, U, U, U, U, U, U, U, U, U, U, U, U, U, U, U, U, U, U, U, U, U, U, U, U, U, U, U, U, U, U, U, U, U, U, U, U, U, U, U, U, U, U, U, U, U, U, U, U, U, U]
def spec_l07Number_w0 (S : SatT) (K : AVal → H → Prop) : (Frame → H → Prop) → Frame → H → Prop := fun X fr h => cwp S tab spec_l07Number_M (spec_l07Number_M 0) (sub [1, 1, 1, 0, 1, 0, 0] (bodyOf Try.f55)) (kSeq (fun fr h => X (mask (spec_l07Number_M 0) fr) h) (kBlk 0 (spec_l07Number_ks5 S K))) fr h
def spec_l07Number_L0 (S : SatT) (K : AVal → H → Prop) (s0_ : Sl) (i1_ : Int) (i2_ : Int) (i3_ : Int) (i4_ : Int) (i5_ : Int) (s6_ : Sl) (i15_ : Int) (i16_ : Int) (i17_ : Int) (i18_ : Int) (h : H) : Prop := loopK (spec_l07Number_w0 S K) (spec_l07Number_e0 s0_ i1_ i2_ i3_ i4_ i5_ s6_ i15_ i16_ i17_ i18_) h
def spec_l07Number_C1 (S : SatT) (K : AVal → H → Prop) (X0 : Frame → H → Prop) (s0_ : Sl) (i1_ : Int) (i2_ : Int) (i3_ : Int) (i4_ : Int) (i5_ : Int) (s6_ : Sl) (i15_ : Int) (i16_ : Int) (i17_ : Int) (i18_ : Int) (h : H) : Prop :=
 X0 (spec_l07Number_e0 s0_ i1_ i2_ i3_ i4_ i5_ s6_ i15_ i16_ i17_ (w64 (i18_ + (1)))) h
def spec_l07Number_ks9 (S : SatT) (K : AVal → H → Prop) (X0 : Frame → H → Prop) : Kont := kSeq (cwp S tab spec_l07Number_M (spec_l07Number_M 0) (sub [1, 1, 1, 0, 1, 0, 0, 1, 1] (bodyOf Try.f55)) (kSeq (fun fr h => X0 (mask (spec_l07Number_M 0) fr) h) (kBlk 0 (spec_l07Number_ks5 S K)))) (kSeq (fun fr h => X0 (mask (spec_l07Number_M 0) fr) h) (kBlk 0 (spec_l07Number_ks5 S K)))
def spec_l07Number_e2 (s0_ : Sl) (i1_ : Int) (i2_ : Int) (i3_ : Int) (i4_ : Int) (i5_ : Int) (s6_ : Sl) (i15_ : Int) (i16_ : Int) (i17_ : Int) (i18_ : Int) (i19_ : Int) : Frame := [.sl s0_, .int .i64 i1_, .int .i64 i2_, .int .i64 i3_, .int .i64 i4_, .int .i64 i5_, .sl s6_, U, U, U, U, U, U, U, U, .int .i64 i15_, .int .i64 i16_, .int .i64 i17_, .int .i64 i18_, .int .i64 i19_, U, U, U, U, U, U, U, U, U, U, U, U, U, U, U, U, U, U, U, U, U, U, U, U, U, U, U, U, U, U, U, U, U, U, U, U, U, U, U, U, U, U, U, U, U, U, U, U, U, U, U, U, U, U, U, U, U, U, U, U, U, U, U, U, U, U, U, U]
def spec_l07Number_w2 (S : SatT) (K : AVal → H → Prop) (X0 : Frame → H → Prop) : (Frame → H → Prop) → Frame → H → Prop := fun X fr h => cwp S tab spec_l07Number_M (spec_l07Number_M 2) (sub [1, 1, 1, 0, 1, 0, 0, 1, 0, 0, 1, 1, 0, 0] (bodyOf Try.f55)) (kSeq (fun fr h => X (mask (spec_l07Number_M 2) fr) h) (kBlk 2 (kBlk 1 (spec_l07Number_ks9 S K X0)))) fr h
def spec_l07Number_L2 (S : SatT) (K : AVal → H → Prop) (X0 : Frame → H → Prop) (s0_ : Sl) (i1_ : Int) (i2_ : Int) (i3_ : Int) (i4_ : Int) (i5_ : Int) (s6_ : Sl) (i15_ : Int) (i16_ : Int) (i17_ : Int) (i18_ : Int) (i19_ : Int) (h : H) : Prop := loopK (spec_l07Number_w2 S K X0) (spec_l07Number_e2 s0_ i1_ i2_ i3_ i4_ i5_ s6_ i15_ i16_ i17_ i18_ i19_) h
def spec_l07Number_C2 (S : SatT) (K : AVal → H → Prop) (X0 : Frame → H → Prop) (s0_ : Sl) (i1_ : Int) (i2_ : Int) (i3_ : Int) (i4_ : Int) (i5_ : Int) (s6_ : Sl) (i15_ : Int) (i16_ : Int) (i17_ : Int) (i18_ : Int) (h : H) : Prop :=
 spec_l07Number_C1 S K X0 s0_ i1_ i2_ i3_ i4_ i5_ s6_ i15_ i16_ i17_ i18_ h
def spec_l07Number_b2 (S : SatT) (K : AVal → H → Prop) (X0 : Frame → H → Prop) (X2 : Frame → H → Prop) (s0_ : Sl) (i1_ : Int) (i2_ : Int) (i3_ : Int) (i4_ : Int) (i5_ : Int) (s6_ : Sl) (i15_ : Int) (i16_ : Int) (i17_ : Int) (i18_ : Int) (i19_ : Int) (h : H) : Prop :=
 bif (decide (i19_ < (4))) then
 ixS s0_ 4 i18_ fun p0 =>
 ldA p0 4 h fun cs1 =>
 callA S i_spec_l07Turn [.agg cs1, .int .i64 i19_] h fun cs3 h2 =>
 newO [.int .i64 (0), .int .i64 (0), .int .i64 (0), .int .i64 (0)] h2 fun p4 h5 =>
 stN p4 4 cs3 h5 fun h6 =>
 ldA p4 4 h6 fun cs7 =>
 callB S i_spec_l07Fits [.sl s6_, .int .i64 i1_, .int .i64 i15_, .int .i64 i16_, .int .i64 i2_, .int .i64 i3_, .agg cs7] h6 fun b9 h8 =>
 bif (!b9) then
 X2 (spec_l07Number_e2 s0_ i1_ i2_ i3_ i4_ i5_ s6_ i15_ i16_ i17_ i18_ (w64 (i19_ + (1)))) h8
 else
 ixS s6_ 1 i15_ fun p10 =>
 ldS p10 h8 fun s11 =>
 ldA p4 4 h8 fun cs12 =>
 ixS s11 4 i16_ fun p13 =>
 stN p13 4 cs12 h8 fun h14 =>
 nn (IntKind.wrap .u64 (i18_)) (
 callI S .i64 i_spec_l07Number [.sl s0_, .int .i64 i1_, .int .i64 i2_, .int .i64 i3_, .int .i64 (w64 (i4_ + (1))), .int .i64 (bitsOp .or .i64 i5_ (shlI .i64 (1) (IntKind.wrap .u64 (i18_)))), .sl s6_] h14 fun n16 h15 =>
 X2 (spec_l07Number_e2 s0_ i1_ i2_ i3_ i4_ i5_ s6_ i15_ i16_ (w64 (i17_ + n16)) i18_ (w64 (i19_ + (1)))) h15)
 else
 spec_l07Number_C2 S K X0 s0_ i1_ i2_ i3_ i4_ i5_ s6_ i15_ i16_ i17_ i18_ h
theorem spec_l07Number_link2 (S : SatT) (K : AVal → H → Prop) (X0 : Frame → H → Prop) (X2 : Frame → H → Prop) (s0_ : Sl) (i1_ : Int) (i2_ : Int) (i3_ : Int) (i4_ : Int) (i5_ : Int) (s6_ : Sl) (i15_ : Int) (i16_ : Int) (i17_ : Int) (i18_ : Int) (i19_ : Int) (h : H) : spec_l07Number_w2 S K X0 X2 (spec_l07Number_e2 s0_ i1_ i2_ i3_ i4_ i5_ s6_ i15_ i16_ i17_ i18_ i19_) h = spec_l07Number_b2 S K X0 X2 s0_ i1_ i2_ i3_ i4_ i5_ s6_ i15_ i16_ i17_ i18_ i19_ h := by kernel_rfl
theorem spec_l07Number_rule2 (S : SatT) (K : AVal → H → Prop) (X0 : Frame → H → Prop) (s0_ : Sl) (i1_ : Int) (i2_ : Int) (i3_ : Int) (i4_ : Int) (i5_ : Int) (s6_ : Sl) (i15_ : Int) (i16_ : Int) (i18_ : Int) (I_ : Int → Int → H → Prop) (m_ : Int → Int → H → Nat)
    (hs : ∀ (X2 : Frame → H → Prop) (i17_ : Int) (i19_ : Int) (h : H), I_ i17_ i19_ h → (∀ (i17_' : Int) (i19_' : Int) (h' : H), I_ i17_' i19_' h' → m_ i17_' i19_' h' < m_ i17_ i19_ h → X2 (spec_l07Number_e2 s0_ i1_ i2_ i3_ i4_ i5_ s6_ i15_ i16_ i17_' i18_ i19_') h') → spec_l07Number_b2 S K X0 X2 s0_ i1_ i2_ i3_ i4_ i5_ s6_ i15_ i16_ i17_ i18_ i19_ h) (i17_ : Int) (i19_ : Int) {h : H} (h0 : I_ i17_ i19_ h) : spec_l07Number_L2 S K X0 s0_ i1_ i2_ i3_ i4_ i5_ s6_ i15_ i16_ i17_ i18_ i19_ h :=
  loop_rule (σ := (Int) × (Int)) (fun s_ => spec_l07Number_e2 s0_ i1_ i2_ i3_ i4_ i5_ s6_ i15_ i16_ (s_.1) i18_ (s_.2)) (fun s_ h => I_ (s_.1) (s_.2) h) (fun s_ h => m_ (s_.1) (s_.2) h)
    (fun X s_ h hi hx => (spec_l07Number_link2 S K X0 X s0_ i1_ i2_ i3_ i4_ i5_ s6_ i15_ i16_ (s_.1) i18_ (s_.2) h).mpr (hs X (s_.1) (s_.2) h hi fun i17_' i19_' h' hi' hm' => hx (i17_', i19_') h' hi' hm')) (i17_, i19_) h0
theorem spec_l07Number_unroll2 (S : SatT) (K : AVal → H → Prop) (X0 : Frame → H → Prop) (s0_ : Sl) (i1_ : Int) (i2_ : Int) (i3_ : Int) (i4_ : Int) (i5_ : Int) (s6_ : Sl) (i15_ : Int) (i16_ : Int) (i17_ : Int) (i18_ : Int) (i19_ : Int) (h : H) (hb : spec_l07Number_b2 S K X0 (fun fr h => loopK (spec_l07Number_w2 S K X0) fr h) s0_ i1_ i2_ i3_ i4_ i5_ s6_ i15_ i16_ i17_ i18_ i19_ h) : spec_l07Number_L2 S K X0 s0_ i1_ i2_ i3_ i4_ i5_ s6_ i15_ i16_ i17_ i18_ i19_ h := loop_unroll ((spec_l07Number_link2 S K X0 _ s0_ i1_ i2_ i3_ i4_ i5_ s6_ i15_ i16_ i17_ i18_ i19_ h).mpr hb)
def spec_l07Number_C0 (S : SatT) (K : AVal → H → Prop) (i17_ : Int) (h : H) : Prop :=
 K (.int .i64 i17_) h
def spec_l07Number_b0 (S : SatT) (K : AVal → H → Prop) (X0 : Frame → H → Prop) (s0_ : Sl) (i1_ : Int) (i2_ : Int) (i3_ : Int) (i4_ : Int) (i5_ : Int) (s6_ : Sl) (i15_ : Int) (i16_ : Int) (i17_ : Int) (i18_ : Int) (h : H) : Prop :=
 bif (decide (i18_ < (s0_.len : Int))) then
 nn (IntKind.wrap .u64 (i18_)) (
 bif ((bitsOp .and .i64 (shrI .i64 i5_ (IntKind.wrap .u64 (i18_))) (1)) == (1)) then
 spec_l07Number_C1 S K X0 s0_ i1_ i2_ i3_ i4_ i5_ s6_ i15_ i16_ i17_ i18_ h
 else
 spec_l07Number_L2 S K X0 s0_ i1_ i2_ i3_ i4_ i5_ s6_ i15_ i16_ i17_ i18_ (0) h)
 else
 spec_l07Number_C0 S K i17_ h
theorem spec_l07Number_link0 (S : SatT) (K : AVal → H → Prop) (X0 : Frame → H → Prop) (s0_ : Sl) (i1_ : Int) (i2_ : Int) (i3_ : Int) (i4_ : Int) (i5_ : Int) (s6_ : Sl) (i15_ : Int) (i16_ : Int) (i17_ : Int) (i18_ : Int) (h : H) : spec_l07Number_w0 S K X0 (spec_l07Number_e0 s0_ i1_ i2_ i3_ i4_ i5_ s6_ i15_ i16_ i17_ i18_) h = spec_l07Number_b0 S K X0 s0_ i1_ i2_ i3_ i4_ i5_ s6_ i15_ i16_ i17_ i18_ h := by kernel_rfl
theorem spec_l07Number_rule0 (S : SatT) (K : AVal → H → Prop) (s0_ : Sl) (i1_ : Int) (i2_ : Int) (i3_ : Int) (i4_ : Int) (i5_ : Int) (s6_ : Sl) (i15_ : Int) (i16_ : Int) (I_ : Int → Int → H → Prop) (m_ : Int → Int → H → Nat)
    (hs : ∀ (X0 : Frame → H → Prop) (i17_ : Int) (i18_ : Int) (h : H), I_ i17_ i18_ h → (∀ (i17_' : Int) (i18_' : Int) (h' : H), I_ i17_' i18_' h' → m_ i17_' i18_' h' < m_ i17_ i18_ h → X0 (spec_l07Number_e0 s0_ i1_ i2_ i3_ i4_ i5_ s6_ i15_ i16_ i17_' i18_') h') → spec_l07Number_b0 S K X0 s0_ i1_ i2_ i3_ i4_ i5_ s6_ i15_ i16_ i17_ i18_ h) (i17_ : Int) (i18_ : Int) {h : H} (h0 : I_ i17_ i18_ h) : spec_l07Number_L0 S K s0_ i1_ i2_ i3_ i4_ i5_ s6_ i15_ i16_ i17_ i18_ h :=
  loop_rule (σ := (Int) × (Int)) (fun s_ => spec_l07Number_e0 s0_ i1_ i2_ i3_ i4_ i5_ s6_ i15_ i16_ (s_.1) (s_.2)) (fun s_ h => I_ (s_.1) (s_.2) h) (fun s_ h => m_ (s_.1) (s_.2) h)
    (fun X s_ h hi hx => (spec_l07Number_link0 S K X s0_ i1_ i2_ i3_ i4_ i5_ s6_ i15_ i16_ (s_.1) (s_.2) h).mpr (hs X (s_.1) (s_.2) h hi fun i17_' i18_' h' hi' hm' => hx (i17_', i18_') h' hi' hm')) (i17_, i18_) h0
theorem spec_l07Number_unroll0 (S : SatT) (K : AVal → H → Prop) (s0_ : Sl) (i1_ : Int) (i2_ : Int) (i3_ : Int) (i4_ : Int) (i5_ : Int) (s6_ : Sl) (i15_ : Int) (i16_ : Int) (i17_ : Int) (i18_ : Int) (h : H) (hb : spec_l07Number_b0 S K (fun fr h => loopK (spec_l07Number_w0 S K) fr h) s0_ i1_ i2_ i3_ i4_ i5_ s6_ i15_ i16_ i17_ i18_ h) : spec_l07Number_L0 S K s0_ i1_ i2_ i3_ i4_ i5_ s6_ i15_ i16_ i17_ i18_ h := loop_unroll ((spec_l07Number_link0 S K _ s0_ i1_ i2_ i3_ i4_ i5_ s6_ i15_ i16_ i17_ i18_ h).mpr hb)
def spec_l07Number_main (S : SatT) (K : AVal → H → Prop) (x0 : Sl) (x1 : Int) (x2 : Int) (x3 : Int) (x4 : Int) (x5 : Int) (x6 : Sl) (h : H) : Prop :=
 bif (x4 == (w64 (x2 * x3))) then
 K (.int .i64 (1)) h
 else
 nz x3 (
 nz x3 (
 spec_l07Number_L0 S K x0 x1 x2 x3 x4 x5 x6 (w64 (Int.tdiv x4 x3)) (Int.tmod x4 x3) (0) (0) h))
theorem spec_l07Number_main_link (S : SatT) (K : AVal → H → Prop) (x0 : Sl) (x1 : Int) (x2 : Int) (x3 : Int) (x4 : Int) (x5 : Int) (x6 : Sl) (h : H) : cwp S tab spec_l07Number_M [] (bodyOf Try.f55) (kFun tab Try.f55.results.toList K) (fr0 Try.f55 [.sl x0, .int .i64 x1, .int .i64 x2, .int .i64 x3, .int .i64 x4, .int .i64 x5, .sl x6]) h = spec_l07Number_main S K x0 x1 x2 x3 x4 x5 x6 h := by kernel_rfl
theorem spec_l07Number_call (x0 : Sl) (x1 : Int) (x2 : Int) (x3 : Int) (x4 : Int) (x5 : Int) (x6 : Sl) (h : H) (K : Int → H → Prop) (hm : spec_l07Number_main (Sat Try.prog) (fun v h' => ∃ r, v = .int .i64 r ∧ K r h') x0 x1 x2 x3 x4 x5 x6 h) : callI (Sat Try.prog) .i64 i_spec_l07Number [.sl x0, .int .i64 x1, .int .i64 x2, .int .i64 x3, .int .i64 x4, .int .i64 x5, .sl x6] h K := by
  have := Sat.ex tok mixed spec_l07Number_M Try.func55 (c := bodyOf Try.f55) (by kernel_rfl) (calls_of Try.func55 (c := bodyOf Try.f55) (by kernel_rfl) (by decide)) ((spec_l07Number_main_link _ _ x0 x1 x2 x3 x4 x5 x6 h).mpr hm)
  obtain ⟨v, h2, h3, r, rfl, h4⟩ := this; exact ⟨r, h2, h3, h4⟩

/-! ### slices.MinFunc[[]loop.example/g01354/impl.Tile,loop.example/g01354/impl.Tile] -/
def slices_MinFunc_s_impl_Tile_impl_Tile__M : Nat → List Nat := fun i => bif i == 0 then [0, 1, 4, 5, 6] else []
def slices_MinFunc_s_impl_Tile_impl_Tile__ks4 (S : SatT) (K : AVal → H → Prop) : Kont := kSeq (cwp S tab slices_MinFunc_s_impl_Tile_impl_Tile__M [] (sub [1, 1, 1, 1] (bodyOf Try.f78)) (kFun tab (Try.f78).results.toList K)) (kFun tab (Try.f78).results.toList K)
def slices_MinFunc_s_impl_Tile_impl_Tile__e0 (s0_ : Sl) (f1_ : AVal) (p4_ : Pt) (p5_ : Pt) (i6_ : Int) : Frame := [.sl s0_, f1_, U, U, .ptr p4_, .ptr p5_, .int .i64 i6_, U, U, U, U, U, U, U, U, U, U, U, U, U, U, U, U, U, U, U, U, U, U, U, U, U, U]
def slices_MinFunc_s_impl_Tile_impl_Tile__w0 (S : SatT) (K : AVal → H → Prop) : (Frame → H → Prop) → Frame → H → Prop := fun X fr h => cwp S tab slices_MinFunc_s_impl_Tile_impl_Tile__M (slices_MinFunc_s_impl_Tile_impl_Tile__M 0) (sub [1, 1, 1, 0, 1, 0, 0] (bodyOf Try.f78)) (kSeq (fun fr h => X (mask (slices_MinFunc_s_impl_Tile_impl_Tile__M 0) fr) h) (kBlk 0 (slices_MinFunc_s_impl_Tile_impl_Tile__ks4 S K))) fr h
def slices_MinFunc_s_impl_Tile_impl_Tile__L0 (S : SatT) (K : AVal → H → Prop) (s0_ : Sl) (f1_ : AVal) (p4_ : Pt) (p5_ : Pt) (i6_ : Int) (h : H) : Prop := loopK (slices_MinFunc_s_impl_Tile_impl_Tile__w0 S K) (slices_MinFunc_s_impl_Tile_impl_Tile__e0 s0_ f1_ p4_ p5_ i6_) h
def slices_MinFunc_s_impl_Tile_impl_Tile__C0 (S : SatT) (K : AVal → H → Prop) (p4_ : Pt) (p5_ : Pt) (h : H) : Prop :=
 ldA p5_ 4 h fun cs0 =>
 stN p4_ 4 cs0 h fun h1 =>
 ldA p4_ 4 h1 fun cs2 =>
 K (.agg cs2) h1
def slices_MinFunc_s_impl_Tile_impl_Tile__b0 (S : SatT) (K : AVal → H → Prop) (X0 : Frame → H → Prop) (s0_ : Sl) (f1_ : AVal) (p4_ : Pt) (p5_ : Pt) (i6_ : Int) (h : H) : Prop :=
 bif (decide (i6_ < (s0_.len : Int))) then
 ixS s0_ 4 i6_ fun p0 =>
 ldA p0 4 h fun cs1 =>
 ldA p5_ 4 h fun cs2 =>
 viaF f1_ [.agg cs1, .agg cs2] fun g3 ys4 =>
 callI S .i64 g3 ys4 h fun n6 h5 =>
 bif (decide (n6 < (0))) then
 ixS s0_ 4 i6_ fun p7 =>
 ldA p7 4 h5 fun cs8 =>
 stN p5_ 4 cs8 h5 fun h9 =>
 X0 (slices_MinFunc_s_impl_Tile_impl_Tile__e0 s0_ f1_ p4_ p5_ (w64 (i6_ + (1)))) h9
 else
 X0 (slices_MinFunc_s_impl_Tile_impl_Tile__e0 s0_ f1_ p4_ p5_ (w64 (i6_ + (1)))) h5
 else
 slices_MinFunc_s_impl_Tile_impl_Tile__C0 S K p4_ p5_ h
theorem slices_MinFunc_s_impl_Tile_impl_Tile__link0 (S : SatT) (K : AVal → H → Prop) (X0 : Frame → H → Prop) (s0_ : Sl) (f1_ : AVal) (p4_ : Pt) (p5_ : Pt) (i6_ : Int) (h : H) : slices_MinFunc_s_impl_Tile_impl_Tile__w0 S K X0 (slices_MinFunc_s_impl_Tile_impl_Tile__e0 s0_ f1_ p4_ p5_ i6_) h = slices_MinFunc_s_impl_Tile_impl_Tile__b0 S K X0 s0_ f1_ p4_ p5_ i6_ h := by kernel_rfl
theorem slices_MinFunc_s_impl_Tile_impl_Tile__rule0 (S : SatT) (K : AVal → H → Prop) (s0_ : Sl) (f1_ : AVal) (p4_ : Pt) (p5_ : Pt) (I_ : Int → H → Prop) (m_ : Int → H → Nat)
    (hs : ∀ (X0 : Frame → H → Prop) (i6_ : Int) (h : H), I_ i6_ h → (∀ (i6_' : Int) (h' : H), I_ i6_' h' → m_ i6_' h' < m_ i6_ h → X0 (slices_MinFunc_s_impl_Tile_impl_Tile__e0 s0_ f1_ p4_ p5_ i6_') h') → slices_MinFunc_s_impl_Tile_impl_Tile__b0 S K X0 s0_ f1_ p4_ p5_ i6_ h) (i6_ : Int) {h : H} (h0 : I_ i6_ h) : slices_MinFunc_s_impl_Tile_impl_Tile__L0 S K s0_ f1_ p4_ p5_ i6_ h :=
  loop_rule (σ := (Int)) (fun s_ => slices_MinFunc_s_impl_Tile_impl_Tile__e0 s0_ f1_ p4_ p5_ (s_)) (fun s_ h => I_ (s_) h) (fun s_ h => m_ (s_) h)
    (fun X s_ h hi hx => (slices_MinFunc_s_impl_Tile_impl_Tile__link0 S K X s0_ f1_ p4_ p5_ (s_) h).mpr (hs X (s_) h hi fun i6_' h' hi' hm' => hx (i6_') h' hi' hm')) (i6_) h0
theorem slices_MinFunc_s_impl_Tile_impl_Tile__unroll0 (S : SatT) (K : AVal → H → Prop) (s0_ : Sl) (f1_ : AVal) (p4_ : Pt) (p5_ : Pt) (i6_ : Int) (h : H) (hb : slices_MinFunc_s_impl_Tile_impl_Tile__b0 S K (fun fr h => loopK (slices_MinFunc_s_impl_Tile_impl_Tile__w0 S K) fr h) s0_ f1_ p4_ p5_ i6_ h) : slices_MinFunc_s_impl_Tile_impl_Tile__L0 S K s0_ f1_ p4_ p5_ i6_ h := loop_unroll ((slices_MinFunc_s_impl_Tile_impl_Tile__link0 S K _ s0_ f1_ p4_ p5_ i6_ h).mpr hb)
def slices_MinFunc_s_impl_Tile_impl_Tile__main (S : SatT) (K : AVal → H → Prop) (x0 : Sl) (x1 : AVal) (h : H) : Prop :=
 newO [.int .i64 (0), .int .i64 (0), .int .i64 (0), .int .i64 (0)] h fun p0 h1 =>
 bif (decide ((x0.len : Int) < (1))) then
 False
 else
 ixS x0 4 (0) fun p2 =>
 ldA p2 4 h1 fun cs3 =>
 newO [.int .i64 (0), .int .i64 (0), .int .i64 (0), .int .i64 (0)] h1 fun p4 h5 =>
 stN p4 4 cs3 h5 fun h6 =>
 slices_MinFunc_s_impl_Tile_impl_Tile__L0 S K x0 x1 p0 p4 (1) h6
theorem slices_MinFunc_s_impl_Tile_impl_Tile__main_link (S : SatT) (K : AVal → H → Prop) (x0 : Sl) (x1 : AVal) (h : H) : cwp S tab slices_MinFunc_s_impl_Tile_impl_Tile__M [] (bodyOf Try.f78) (kFun tab Try.f78.results.toList K) (fr0 Try.f78 [.sl x0, x1]) h = slices_MinFunc_s_impl_Tile_impl_Tile__main S K x0 x1 h := by kernel_rfl
theorem slices_MinFunc_s_impl_Tile_impl_Tile__call (x0 : Sl) (x1 : AVal) (h : H) (K : List AVal → H → Prop) (hm : slices_MinFunc_s_impl_Tile_impl_Tile__main (Sat Try.prog) (fun v h' => ∃ r, v = .agg r ∧ K r h') x0 x1 h) : callA (Sat Try.prog) i_slices_MinFunc_s_impl_Tile_impl_Tile_ [.sl x0, x1] h K := by
  have := Sat.ex tok mixed slices_MinFunc_s_impl_Tile_impl_Tile__M Try.func78 (c := bodyOf Try.f78) (by kernel_rfl) (calls_of Try.func78 (c := bodyOf Try.f78) (by kernel_rfl) (by decide)) ((slices_MinFunc_s_impl_Tile_impl_Tile__main_link _ _ x0 x1 h).mpr hm)
  obtain ⟨v, h2, h3, r, rfl, h4⟩ := this; exact ⟨r, h2, h3, h4⟩

/-! ### loop.example/g01354/spec.FirstBoard -/
def spec_FirstBoard_M : Nat → List Nat := fun i => bif i == 0 then [2, 3, 11, 12, 13] else []
def spec_FirstBoard_ks10 (S : SatT) (K : AVal → H → Prop) : Kont := kSeq (cwp S tab spec_FirstBoard_M [] (sub [1, 1, 1, 1, 1, 1] (bodyOf Try.f41)) (kFun tab (Try.f41).results.toList K)) (kFun tab (Try.f41).results.toList K)
def spec_FirstBoard_e0 (i2_ : Int) (i3_ : Int) (s11_ : Sl) (s12_ : Sl) (i13_ : Int) : Frame := [U, U, .int .i64 i2_, .int .i64 i3_, U, U, U, U, U, U, U, .sl s11_, .sl s12_, .int .i64 i13_, U, U, U, U, U, U, U, U, U, U, U, U, U, U, U, U, U, U, U, U, U, U, U, U, U, U, U, U, U, U, U, U, U, U, U, U, U, U, U]
def spec_FirstBoard_w0 (S : SatT) (K : AVal → H → Prop) : (Frame → H → Prop) → Frame → H → Prop := fun X fr h => cwp S tab spec_FirstBoard_M (spec_FirstBoard_M 0) (sub [1, 1, 1, 1, 1, 0, 1, 0, 0] (bodyOf Try.f41)) (kSeq (fun fr h => X (mask (spec_FirstBoard_M 0) fr) h) (kBlk 0 (spec_FirstBoard_ks10 S K))) fr h
def spec_FirstBoard_L0 (S : SatT) (K : AVal → H → Prop) (i2_ : Int) (i3_ : Int) (s11_ : Sl) (s12_ : Sl) (i13_ : Int) (h : H) : Prop := loopK (spec_FirstBoard_w0 S K) (spec_FirstBoard_e0 i2_ i3_ s11_ s12_ i13_) h
def spec_FirstBoard_C0 (S : SatT) (K : AVal → H → Prop) (s12_ : Sl) (h : H) : Prop :=
 K (.tuple [.sl s12_, .int .i64 (0)]) h
def spec_FirstBoard_b0 (S : SatT) (K : AVal → H → Prop) (X0 : Frame → H → Prop) (i2_ : Int) (i3_ : Int) (s11_ : Sl) (s12_ : Sl) (i13_ : Int) (h : H) : Prop :=
 bif (decide (i13_ < i2_)) then
 newS 0 2 [] h fun s0 h1 =>
 ixS s11_ 1 (0) fun p2 =>
 ldS p2 h1 fun s3 =>
 cut s3 2 (w64 (i13_ * i3_)) (w64 ((w64 (i13_ + (1))) * i3_)) h1 fun s4 =>
 app s0 s4 2 h1 fun s5 h6 =>
 newS 1 1 [.sl s5] h6 fun s7 h8 =>
 app s12_ s7 1 h8 fun s9 h10 =>
 X0 (spec_FirstBoard_e0 i2_ i3_ s11_ s9 (w64 (i13_ + (1)))) h10
 else
 spec_FirstBoard_C0 S K s12_ h
theorem spec_FirstBoard_link0 (S : SatT) (K : AVal → H → Prop) (X0 : Frame → H → Prop) (i2_ : Int) (i3_ : Int) (s11_ : Sl) (s12_ : Sl) (i13_ : Int) (h : H) : spec_FirstBoard_w0 S K X0 (spec_FirstBoard_e0 i2_ i3_ s11_ s12_ i13_) h = spec_FirstBoard_b0 S K X0 i2_ i3_ s11_ s12_ i13_ h := by kernel_rfl
theorem spec_FirstBoard_rule0 (S : SatT) (K : AVal → H → Prop) (i2_ : Int) (i3_ : Int) (s11_ : Sl) (I_ : Sl → Int → H → Prop) (m_ : Sl → Int → H → Nat)
    (hs : ∀ (X0 : Frame → H → Prop) (s12_ : Sl) (i13_ : Int) (h : H), I_ s12_ i13_ h → (∀ (s12_' : Sl) (i13_' : Int) (h' : H), I_ s12_' i13_' h' → m_ s12_' i13_' h' < m_ s12_ i13_ h → X0 (spec_FirstBoard_e0 i2_ i3_ s11_ s12_' i13_') h') → spec_FirstBoard_b0 S K X0 i2_ i3_ s11_ s12_ i13_ h) (s12_ : Sl) (i13_ : Int) {h : H} (h0 : I_ s12_ i13_ h) : spec_FirstBoard_L0 S K i2_ i3_ s11_ s12_ i13_ h :=
  loop_rule (σ := (Sl) × (Int)) (fun s_ => spec_FirstBoard_e0 i2_ i3_ s11_ (s_.1) (s_.2)) (fun s_ h => I_ (s_.1) (s_.2) h) (fun s_ h => m_ (s_.1) (s_.2) h)
    (fun X s_ h hi hx => (spec_FirstBoard_link0 S K X i2_ i3_ s11_ (s_.1) (s_.2) h).mpr (hs X (s_.1) (s_.2) h hi fun s12_' i13_' h' hi' hm' => hx (s12_', i13_') h' hi' hm')) (s12_, i13_) h0
theorem spec_FirstBoard_unroll0 (S : SatT) (K : AVal → H → Prop) (i2_ : Int) (i3_ : Int) (s11_ : Sl) (s12_ : Sl) (i13_ : Int) (h : H) (hb : spec_FirstBoard_b0 S K (fun fr h => loopK (spec_FirstBoard_w0 S K) fr h) i2_ i3_ s11_ s12_ i13_ h) : spec_FirstBoard_L0 S K i2_ i3_ s11_ s12_ i13_ h := loop_unroll ((spec_FirstBoard_link0 S K _ i2_ i3_ s11_ s12_ i13_ h).mpr hb)
def spec_FirstBoard_main (S : SatT) (K : AVal → H → Prop) (x0 : Sl) (x1 : Int) (x2 : Int) (x3 : Int) (h : H) : Prop :=
 callI S .i64 i_spec_l07Board [.sl x0, .int .i64 x1, .int .i64 x2, .int .i64 x3] h fun n1 h0 =>
 bif (n1 != (0)) then
 K (.tuple [.sl Sl.nil, .int .i64 n1]) h0
 else
 callS S i_spec_l07Find [.sl x0, .int .i64 x1, .int .i64 x2, .int .i64 x3, .int .i64 (1)] h0 fun s3 h2 =>
 bif ((s3.len : Int) == (0)) then
 K (.tuple [.sl Sl.nil, .int .i64 (4)]) h2
 else
 newS 0 1 [] h2 fun s4 h5 =>
 spec_FirstBoard_L0 S K x2 x3 s3 s4 (0) h5
theorem spec_FirstBoard_main_link (S : SatT) (K : AVal → H → Prop) (x0 : Sl) (x1 : Int) (x2 : Int) (x3 : Int) (h : H) : cwp S tab spec_FirstBoard_M [] (bodyOf Try.f41) (kFun tab Try.f41.results.toList K) (fr0 Try.f41 [.sl x0, .int .i64 x1, .int .i64 x2, .int .i64 x3]) h = spec_FirstBoard_main S K x0 x1 x2 x3 h := by kernel_rfl
theorem spec_FirstBoard_call (x0 : Sl) (x1 : Int) (x2 : Int) (x3 : Int) (h : H) (K : AVal → H → Prop) (hm : spec_FirstBoard_main (Sat Try.prog) (fun v h' => K v h') x0 x1 x2 x3 h) : callV (Sat Try.prog) i_spec_FirstBoard [.sl x0, .int .i64 x1, .int .i64 x2, .int .i64 x3] h K := by
  have := Sat.ex tok mixed spec_FirstBoard_M Try.func41 (c := bodyOf Try.f41) (by kernel_rfl) (calls_of Try.func41 (c := bodyOf Try.f41) (by kernel_rfl) (by decide)) ((spec_FirstBoard_main_link _ _ x0 x1 x2 x3 h).mpr hm)
  exact this

/-! ### loop.example/g01354/spec.l07Sizes -/
def spec_l07Sizes_M : Nat → List Nat := fun i => bif i == 0 then [0, 1, 2, 7] else []
def spec_l07Sizes_ks5 (S : SatT) (K : AVal → H → Prop) : Kont := kSeq (cwp S tab spec_l07Sizes_M [] (sub [1, 1, 1] (bodyOf Try.f60)) (kFun tab (Try.f60).results.toList K)) (kFun tab (Try.f60).results.toList K)
def spec_l07Sizes_e0 (s0_ : Sl) (i1_ : Int) (s2_ : Sl) (i7_ : Int) : Frame := [.sl s0_, .int .i64 i1_, .sl s2_, U, U, U, U, .int .i64 i7_, U, U, U, U, U, U, U, U, U, U, U, U, U, U, U, U, U, U, U, U, U, U, U, U, U, U, U, U, U, U, U, U, U, U, U, U, U, U, U, U, U, U, U, U]
def spec_l07Sizes_w0 (S : SatT) (K : AVal → H → Prop) : (Frame → H → Prop) → Frame → H → Prop := fun X fr h => cwp S tab spec_l07Sizes_M (spec_l07Sizes_M 0) (sub [1, 1, 0, 1, 0, 0] (bodyOf Try.f60)) (kSeq (fun fr h => X (mask (spec_l07Sizes_M 0) fr) h) (kBlk 0 (spec_l07Sizes_ks5 S K))) fr h
def spec_l07Sizes_L0 (S : SatT) (K : AVal → H → Prop) (s0_ : Sl) (i1_ : Int) (s2_ : Sl) (i7_ : Int) (h : H) : Prop := loopK (spec_l07Sizes_w0 S K) (spec_l07Sizes_e0 s0_ i1_ s2_ i7_) h
def spec_l07Sizes_C0 (S : SatT) (K : AVal → H → Prop) (s0_ : Sl) (i1_ : Int) (h : H) : Prop :=
 bif (decide ((s0_.len : Int) < (1))) then
 K (.int .i64 (2)) h
 else
 bif (decide ((s0_.len : Int) > (6))) then
 K (.int .i64 (2)) h
 else
 callI S .i64 i_spec_l07Tiles [.sl s0_] h fun n1 h0 =>
 bif (n1 != (0)) then
 K (.int .i64 (2)) h0
 else
 callB S i_spec_l01In [.int .i64 i1_, .int .i64 (-1), .int .i64 (5)] h0 fun b3 h2 =>
 bif (!b3) then
 K (.int .i64 (2)) h2
 else
 K (.int .i64 (0)) h2
def spec_l07Sizes_b0 (S : SatT) (K : AVal → H → Prop) (X0 : Frame → H → Prop) (s0_ : Sl) (i1_ : Int) (s2_ : Sl) (i7_ : Int) (h : H) : Prop :=
 bif (decide (i7_ < (s2_.len : Int))) then
 ixS s2_ 1 i7_ fun p0 =>
 ldS p0 h fun s1 =>
 ixS s2_ 1 (0) fun p2 =>
 ldS p2 h fun s3 =>
 bif ((s1.len : Int) != (s3.len : Int)) then
 K (.int .i64 (2)) h
 else
 X0 (spec_l07Sizes_e0 s0_ i1_ s2_ (w64 (i7_ + (1)))) h
 else
 spec_l07Sizes_C0 S K s0_ i1_ h
theorem spec_l07Sizes_link0 (S : SatT) (K : AVal → H → Prop) (X0 : Frame → H → Prop) (s0_ : Sl) (i1_ : Int) (s2_ : Sl) (i7_ : Int) (h : H) : spec_l07Sizes_w0 S K X0 (spec_l07Sizes_e0 s0_ i1_ s2_ i7_) h = spec_l07Sizes_b0 S K X0 s0_ i1_ s2_ i7_ h := by kernel_rfl
theorem spec_l07Sizes_rule0 (S : SatT) (K : AVal → H → Prop) (s0_ : Sl) (i1_ : Int) (s2_ : Sl) (I_ : Int → H → Prop) (m_ : Int → H → Nat)
    (hs : ∀ (X0 : Frame → H → Prop) (i7_ : Int) (h : H), I_ i7_ h → (∀ (i7_' : Int) (h' : H), I_ i7_' h' → m_ i7_' h' < m_ i7_ h → X0 (spec_l07Sizes_e0 s0_ i1_ s2_ i7_') h') → spec_l07Sizes_b0 S K X0 s0_ i1_ s2_ i7_ h) (i7_ : Int) {h : H} (h0 : I_ i7_ h) : spec_l07Sizes_L0 S K s0_ i1_ s2_ i7_ h :=
  loop_rule (σ := (Int)) (fun s_ => spec_l07Sizes_e0 s0_ i1_ s2_ (s_)) (fun s_ h => I_ (s_) h) (fun s_ h => m_ (s_) h)
    (fun X s_ h hi hx => (spec_l07Sizes_link0 S K X s0_ i1_ s2_ (s_) h).mpr (hs X (s_) h hi fun i7_' h' hi' hm' => hx (i7_') h' hi' hm')) (i7_) h0
theorem spec_l07Sizes_unroll0 (S : SatT) (K : AVal → H → Prop) (s0_ : Sl) (i1_ : Int) (s2_ : Sl) (i7_ : Int) (h : H) (hb : spec_l07Sizes_b0 S K (fun fr h => loopK (spec_l07Sizes_w0 S K) fr h) s0_ i1_ s2_ i7_ h) : spec_l07Sizes_L0 S K s0_ i1_ s2_ i7_ h := loop_unroll ((spec_l07Sizes_link0 S K _ s0_ i1_ s2_ i7_ h).mpr hb)
def spec_l07Sizes_main (S : SatT) (K : AVal → H → Prop) (x0 : Sl) (x1 : Int) (x2 : Sl) (h : H) : Prop :=
 bif (decide ((x2.len : Int) < (1))) then
 K (.int .i64 (2)) h
 else
 ixS x2 1 (0) fun p0 =>
 ldS p0 h fun s1 =>
 bif (decide ((s1.len : Int) < (1))) then
 K (.int .i64 (2)) h
 else
 spec_l07Sizes_L0 S K x0 x1 x2 (0) h
theorem spec_l07Sizes_main_link (S : SatT) (K : AVal → H → Prop) (x0 : Sl) (x1 : Int) (x2 : Sl) (h : H) : cwp S tab spec_l07Sizes_M [] (bodyOf Try.f60) (kFun tab Try.f60.results.toList K) (fr0 Try.f60 [.sl x0, .int .i64 x1, .sl x2]) h = spec_l07Sizes_main S K x0 x1 x2 h := by kernel_rfl
theorem spec_l07Sizes_call (x0 : Sl) (x1 : Int) (x2 : Sl) (h : H) (K : Int → H → Prop) (hm : spec_l07Sizes_main (Sat Try.prog) (fun v h' => ∃ r, v = .int .i64 r ∧ K r h') x0 x1 x2 h) : callI (Sat Try.prog) .i64 i_spec_l07Sizes [.sl x0, .int .i64 x1, .sl x2] h K := by
  have := Sat.ex tok mixed spec_l07Sizes_M Try.func60 (c := bodyOf Try.f60) (by kernel_rfl) (calls_of Try.func60 (c := bodyOf Try.f60) (by kernel_rfl) (by decide)) ((spec_l07Sizes_main_link _ _ x0 x1 x2 h).mpr hm)
  obtain ⟨v, h2, h3, r, rfl, h4⟩ := this; exact ⟨r, h2, h3, h4⟩

end Go.Proofs.Ytekfmmcolgjdmaa.Cl
