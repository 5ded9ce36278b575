/- Typed forms of functions, and their links. No claim is stated here. -/
import Derived.Test.YtdmhchgaeepdmaaFT
/- Typed forms of functions of the program, and their links. Printed by program. No claim is stated here. -/
set_option linter.unusedVariables false
namespace Go.Proofs.Ytdmhchgaeepdmaa.Cl
open Go
/-! ### loop.example/g01354/impl.period -/
def impl_period_M : Nat → List Nat := fun i => bif i == 6 then [4, 6, 10, 80, 81, 82, 87, 88, 89] else bif i == 4 then [4, 6, 80, 81, 82] else bif i == 2 then [0, 4, 5, 6, 7, 48, 49, 50] else bif i == 0 then [0, 4, 5, 6, 7] else []
def impl_period_ks8 (S : SatT) (K : AVal → H → Prop) : Kont := kSeq (cwp S tab impl_period_M [] (sub [1, 1, 1, 1, 1, 1] (bodyOf Try.f83)) (kFun tab (Try.f83).results.toList K)) (kFun tab (Try.f83).results.toList K)
def impl_period_e0 (s0_ : Sl) (s4_ : Sl) (s5_ : Sl) (i6_ : Int) (i7_ : Int) : Frame := [.sl s0_, U, U, U, .sl s4_, .sl s5_, .int .i64 i6_, .int .i64 i7_, U, U, U, U, U, U, U, U, U, U, U, U, U, U, U, U, U, U, U, U, U, U, U, U, U, U, U, U, U, U, U, U, U, U, U, U, U, U, U, U, U, U, U, U, U, U, U, U, U, U, U, U, U, U, U, U, U, U, U, U, U, U, U, U, U, U, U, U, U, U, U, U, U, U, U, U, U, U, U, U, U, U, U, U, U, U, U, U, U, U, U, U, U, U, U, U, U, U, U, U, U, U, U, U, U, U, U]
def impl_period_w0 (S : SatT) (K : AVal → H → Prop) : (Frame → H → Prop) → Frame → H → Prop := fun X fr h => cwp S tab impl_period_M (impl_period_M 0) (sub [1, 1, 1, 1, 1, 0, 1, 0, 0] (bodyOf Try.f83)) (kSeq (fun fr h => X (mask (impl_period_M 0) fr) h) (kBlk 0 (impl_period_ks8 S K))) fr h
def impl_period_L0 (S : SatT) (K : AVal → H → Prop) (s0_ : Sl) (s4_ : Sl) (s5_ : Sl) (i6_ : Int) (i7_ : Int) (h : H) : Prop := loopK (impl_period_w0 S K) (impl_period_e0 s0_ s4_ s5_ i6_ i7_) h
def impl_period_ks12 (S : SatT) (K : AVal → H → Prop) (X0 : Frame → H → Prop) : Kont := kSeq (cwp S tab impl_period_M (impl_period_M 0) (sub [1, 1, 1, 1, 1, 0, 1, 0, 0, 1, 1] (bodyOf Try.f83)) (kSeq (fun fr h => X0 (mask (impl_period_M 0) fr) h) (kBlk 0 (impl_period_ks8 S K)))) (kSeq (fun fr h => X0 (mask (impl_period_M 0) fr) h) (kBlk 0 (impl_period_ks8 S K)))
def impl_period_e2 (s0_ : Sl) (s4_ : Sl) (s5_ : Sl) (i6_ : Int) (i7_ : Int) (s48_ : Sl) (i49_ : Int) (i50_ : Int) : Frame := [.sl s0_, U, U, U, .sl s4_, .sl s5_, .int .i64 i6_, .int .i64 i7_, U, U, U, U, U, U, U, U, U, U, U, U, U, U, U, U, U, U, U, U, U, U, U, U, U, U, U, U, U, U, U, U, U, U, U, U, U, U, U, U, .sl s48_, .int .i64 i49_, .int .i64 i50_, U, U, U, U, U, U, U, U, U, U, U, U, U, U, U, U, U, U, U, U, U, U, U, U, U, U, U, U, U, U, U, U, U, U, U, U, U, U, U, U, U, U, U, U, U, U, U, U, U, U, U, U, U, U, U, U, U, U, U, U, U, U, U, U]
def impl_period_w2 (S : SatT) (K : AVal → H → Prop) (X0 : Frame → H → Prop) : (Frame → H → Prop) → Frame → H → Prop := fun X fr h => cwp S tab impl_period_M (impl_period_M 2) (sub [1, 1, 1, 1, 1, 0, 1, 0, 0, 1, 0, 0, 1, 0, 0] (bodyOf Try.f83)) (kSeq (fun fr h => X (mask (impl_period_M 2) fr) h) (kBlk 2 (kBlk 1 (impl_period_ks12 S K X0)))) fr h
def impl_period_L2 (S : SatT) (K : AVal → H → Prop) (X0 : Frame → H → Prop) (s0_ : Sl) (s4_ : Sl) (s5_ : Sl) (i6_ : Int) (i7_ : Int) (s48_ : Sl) (i49_ : Int) (i50_ : Int) (h : H) : Prop := loopK (impl_period_w2 S K X0) (impl_period_e2 s0_ s4_ s5_ i6_ i7_ s48_ i49_ i50_) h
def impl_period_C1 (S : SatT) (K : AVal → H → Prop) (X0 : Frame → H → Prop) (s0_ : Sl) (s4_ : Sl) (s5_ : Sl) (i6_ : Int) (i7_ : Int) (h : H) : Prop :=
 X0 (impl_period_e0 s0_ s4_ s5_ i6_ (w64 (i7_ + (1)))) h
def impl_period_C2 (S : SatT) (K : AVal → H → Prop) (X0 : Frame → H → Prop) (s0_ : Sl) (s4_ : Sl) (s5_ : Sl) (i6_ : Int) (i7_ : Int) (h : H) : Prop :=
 impl_period_C1 S K X0 s0_ s4_ s5_ i6_ i7_ h
def impl_period_b2 (S : SatT) (K : AVal → H → Prop) (X0 : Frame → H → Prop) (X2 : Frame → H → Prop) (s0_ : Sl) (s4_ : Sl) (s5_ : Sl) (i6_ : Int) (i7_ : Int) (s48_ : Sl) (i49_ : Int) (i50_ : Int) (h : H) : Prop :=
 bif (decide (i50_ < i49_)) then
 ixS s48_ 1 i50_ fun p0 =>
 ldI .i64 p0 h fun n1 =>
 bif (decide (n1 > (0))) then
 ixS s4_ 1 i50_ fun p2 =>
 ldI .i64 p2 h fun n3 =>
 bif (decide (n3 < (0))) then
 ixS s5_ 1 i7_ fun p4 =>
 ldI .i64 p4 h fun n5 =>
 ixS s4_ 1 n5 fun p6 =>
 ldI .i64 p6 h fun n7 =>
 ixS s4_ 1 i50_ fun p8 =>
 st1 p8 (.int .i64 (w64 (n7 + (1)))) h fun h9 =>
 newS 1 1 [.int .i64 i50_] h9 fun s10 h11 =>
 app s5_ s10 1 h11 fun s12 h13 =>
 X2 (impl_period_e2 s0_ s4_ s12 i6_ i7_ s48_ i49_ (w64 (i50_ + (1)))) h13
 else
 X2 (impl_period_e2 s0_ s4_ s5_ i6_ i7_ s48_ i49_ (w64 (i50_ + (1)))) h
 else
 X2 (impl_period_e2 s0_ s4_ s5_ i6_ i7_ s48_ i49_ (w64 (i50_ + (1)))) h
 else
 impl_period_C2 S K X0 s0_ s4_ s5_ i6_ i7_ h
theorem impl_period_link2 (S : SatT) (K : AVal → H → Prop) (X0 : Frame → H → Prop) (X2 : Frame → H → Prop) (s0_ : Sl) (s4_ : Sl) (s5_ : Sl) (i6_ : Int) (i7_ : Int) (s48_ : Sl) (i49_ : Int) (i50_ : Int) (h : H) : impl_period_w2 S K X0 X2 (impl_period_e2 s0_ s4_ s5_ i6_ i7_ s48_ i49_ i50_) h = impl_period_b2 S K X0 X2 s0_ s4_ s5_ i6_ i7_ s48_ i49_ i50_ h := by kernel_rfl
theorem impl_period_rule2 (S : SatT) (K : AVal → H → Prop) (X0 : Frame → H → Prop) (s0_ : Sl) (s4_ : Sl) (i6_ : Int) (i7_ : Int) (s48_ : Sl) (i49_ : Int) (I_ : Sl → Int → H → Prop) (m_ : Sl → Int → H → Nat)
    (hs : ∀ (X2 : Frame → H → Prop) (s5_ : Sl) (i50_ : Int) (h : H), I_ s5_ i50_ h → (∀ (s5_' : Sl) (i50_' : Int) (h' : H), I_ s5_' i50_' h' → m_ s5_' i50_' h' < m_ s5_ i50_ h → X2 (impl_period_e2 s0_ s4_ s5_' i6_ i7_ s48_ i49_ i50_') h') → impl_period_b2 S K X0 X2 s0_ s4_ s5_ i6_ i7_ s48_ i49_ i50_ h) (s5_ : Sl) (i50_ : Int) {h : H} (h0 : I_ s5_ i50_ h) : impl_period_L2 S K X0 s0_ s4_ s5_ i6_ i7_ s48_ i49_ i50_ h :=
  loop_rule (σ := (Sl) × (Int)) (fun s_ => impl_period_e2 s0_ s4_ (s_.1) i6_ i7_ s48_ i49_ (s_.2)) (fun s_ h => I_ (s_.1) (s_.2) h) (fun s_ h => m_ (s_.1) (s_.2) h)
    (fun X s_ h hi hx => (impl_period_link2 S K X0 X s0_ s4_ (s_.1) i6_ i7_ s48_ i49_ (s_.2) h).mpr (hs X (s_.1) (s_.2) h hi fun s5_' i50_' h' hi' hm' => hx (s5_', i50_') h' hi' hm')) (s5_, i50_) h0
theorem impl_period_unroll2 (S : SatT) (K : AVal → H → Prop) (X0 : Frame → H → Prop) (s0_ : Sl) (s4_ : Sl) (s5_ : Sl) (i6_ : Int) (i7_ : Int) (s48_ : Sl) (i49_ : Int) (i50_ : Int) (h : H) (hb : impl_period_b2 S K X0 (fun fr h => loopK (impl_period_w2 S K X0) fr h) s0_ s4_ s5_ i6_ i7_ s48_ i49_ i50_ h) : impl_period_L2 S K X0 s0_ s4_ s5_ i6_ i7_ s48_ i49_ i50_ h := loop_unroll ((impl_period_link2 S K X0 _ s0_ s4_ s5_ i6_ i7_ s48_ i49_ i50_ h).mpr hb)
def impl_period_ks20 (S : SatT) (K : AVal → H → Prop) : Kont := kSeq (cwp S tab impl_period_M [] (sub [1, 1, 1, 1, 1, 1, 1] (bodyOf Try.f83)) (kFun tab (Try.f83).results.toList K)) (kFun tab (Try.f83).results.toList K)
def impl_period_e4 (s4_ : Sl) (i6_ : Int) (s80_ : Sl) (i81_ : Int) (i82_ : Int) : Frame := [U, U, U, U, .sl s4_, U, .int .i64 i6_, U, U, U, U, U, U, U, U, U, U, U, U, U, U, U, U, U, U, U, U, U, U, U, U, U, U, U, U, U, U, U, U, U, U, U, U, U, U, U, U, U, U, U, U, U, U, U, U, U, U, U, U, U, U, U, U, U, U, U, U, U, U, U, U, U, U, U, U, U, U, U, U, U, .sl s80_, .int .i64 i81_, .int .i64 i82_, U, U, U, U, U, U, U, U, U, U, U, U, U, U, U, U, U, U, U, U, U, U, U, U, U, U, U, U, U, U, U, U]
def impl_period_w4 (S : SatT) (K : AVal → H → Prop) : (Frame → H → Prop) → Frame → H → Prop := fun X fr h => cwp S tab impl_period_M (impl_period_M 4) (sub [1, 1, 1, 1, 1, 1, 0, 1, 0, 0] (bodyOf Try.f83)) (kSeq (fun fr h => X (mask (impl_period_M 4) fr) h) (kBlk 4 (impl_period_ks20 S K))) fr h
def impl_period_L4 (S : SatT) (K : AVal → H → Prop) (s4_ : Sl) (i6_ : Int) (s80_ : Sl) (i81_ : Int) (i82_ : Int) (h : H) : Prop := loopK (impl_period_w4 S K) (impl_period_e4 s4_ i6_ s80_ i81_ i82_) h
def impl_period_ks24 (S : SatT) (K : AVal → H → Prop) (X4 : Frame → H → Prop) : Kont := kSeq (cwp S tab impl_period_M (impl_period_M 4) (sub [1, 1, 1, 1, 1, 1, 0, 1, 0, 0, 1, 1, 1] (bodyOf Try.f83)) (kSeq (fun fr h => X4 (mask (impl_period_M 4) fr) h) (kBlk 4 (impl_period_ks20 S K)))) (kSeq (fun fr h => X4 (mask (impl_period_M 4) fr) h) (kBlk 4 (impl_period_ks20 S K)))
def impl_period_e6 (s4_ : Sl) (i6_ : Int) (i10_ : Int) (s80_ : Sl) (i81_ : Int) (i82_ : Int) (s87_ : Sl) (i88_ : Int) (i89_ : Int) : Frame := [U, U, U, U, .sl s4_, U, .int .i64 i6_, U, U, U, .int .i64 i10_, U, U, U, U, U, U, U, U, U, U, U, U, U, U, U, U, U, U, U, U, U, U, U, U, U, U, U, U, U, U, U, U, U, U, U, U, U, U, U, U, U, U, U, U, U, U, U, U, U, U, U, U, U, U, U, U, U, U, U, U, U, U, U, U, U, U, U, U, U, .sl s80_, .int .i64 i81_, .int .i64 i82_, U, U, U, U, .sl s87_, .int .i64 i88_, .int .i64 i89_, U, U, U, U, U, U, U, U, U, U, U, U, U, U, U, U, U, U, U, U, U, U, U, U, U]
def impl_period_w6 (S : SatT) (K : AVal → H → Prop) (X4 : Frame → H → Prop) : (Frame → H → Prop) → Frame → H → Prop := fun X fr h => cwp S tab impl_period_M (impl_period_M 6) (sub [1, 1, 1, 1, 1, 1, 0, 1, 0, 0, 1, 1, 0, 0, 1, 1, 0, 0] (bodyOf Try.f83)) (kSeq (fun fr h => X (mask (impl_period_M 6) fr) h) (kBlk 6 (kBlk 5 (impl_period_ks24 S K X4)))) fr h
def impl_period_L6 (S : SatT) (K : AVal → H → Prop) (X4 : Frame → H → Prop) (s4_ : Sl) (i6_ : Int) (i10_ : Int) (s80_ : Sl) (i81_ : Int) (i82_ : Int) (s87_ : Sl) (i88_ : Int) (i89_ : Int) (h : H) : Prop := loopK (impl_period_w6 S K X4) (impl_period_e6 s4_ i6_ i10_ s80_ i81_ i82_ s87_ i88_ i89_) h
def impl_period_C5 (S : SatT) (K : AVal → H → Prop) (X4 : Frame → H → Prop) (s4_ : Sl) (i6_ : Int) (s80_ : Sl) (i81_ : Int) (i82_ : Int) (h : H) : Prop :=
 X4 (impl_period_e4 s4_ i6_ s80_ i81_ (w64 (i82_ + (1)))) h
def impl_period_C6 (S : SatT) (K : AVal → H → Prop) (X4 : Frame → H → Prop) (s4_ : Sl) (i6_ : Int) (s80_ : Sl) (i81_ : Int) (i82_ : Int) (h : H) : Prop :=
 impl_period_C5 S K X4 s4_ i6_ s80_ i81_ i82_ h
def impl_period_b6 (S : SatT) (K : AVal → H → Prop) (X4 : Frame → H → Prop) (X6 : Frame → H → Prop) (s4_ : Sl) (i6_ : Int) (i10_ : Int) (s80_ : Sl) (i81_ : Int) (i82_ : Int) (s87_ : Sl) (i88_ : Int) (i89_ : Int) (h : H) : Prop :=
 bif (decide (i89_ < i88_)) then
 ixS s87_ 1 i89_ fun p0 =>
 ldI .i64 p0 h fun n1 =>
 ixS s4_ 1 i10_ fun p2 =>
 ldI .i64 p2 h fun n3 =>
 ixS s4_ 1 i89_ fun p4 =>
 ldI .i64 p4 h fun n5 =>
 bif (decide (n1 > (0))) then
 callI S .i64 i_impl_divisor [.int .i64 i6_, .int .i64 (mxI (w64 ((w64 (n3 + (1))) - n5)) (w64 (0 - (w64 ((w64 (n3 + (1))) - n5)))))] h fun n7 h6 =>
 X6 (impl_period_e6 s4_ n7 i10_ s80_ i81_ i82_ s87_ i88_ (w64 (i89_ + (1)))) h6
 else
 X6 (impl_period_e6 s4_ i6_ i10_ s80_ i81_ i82_ s87_ i88_ (w64 (i89_ + (1)))) h
 else
 impl_period_C6 S K X4 s4_ i6_ s80_ i81_ i82_ h
theorem impl_period_link6 (S : SatT) (K : AVal → H → Prop) (X4 : Frame → H → Prop) (X6 : Frame → H → Prop) (s4_ : Sl) (i6_ : Int) (i10_ : Int) (s80_ : Sl) (i81_ : Int) (i82_ : Int) (s87_ : Sl) (i88_ : Int) (i89_ : Int) (h : H) : impl_period_w6 S K X4 X6 (impl_period_e6 s4_ i6_ i10_ s80_ i81_ i82_ s87_ i88_ i89_) h = impl_period_b6 S K X4 X6 s4_ i6_ i10_ s80_ i81_ i82_ s87_ i88_ i89_ h := by kernel_rfl
theorem impl_period_rule6 (S : SatT) (K : AVal → H → Prop) (X4 : Frame → H → Prop) (s4_ : Sl) (i10_ : Int) (s80_ : Sl) (i81_ : Int) (i82_ : Int) (s87_ : Sl) (i88_ : Int) (I_ : Int → Int → H → Prop) (m_ : Int → Int → H → Nat)
    (hs : ∀ (X6 : Frame → H → Prop) (i6_ : Int) (i89_ : Int) (h : H), I_ i6_ i89_ h → (∀ (i6_' : Int) (i89_' : Int) (h' : H), I_ i6_' i89_' h' → m_ i6_' i89_' h' < m_ i6_ i89_ h → X6 (impl_period_e6 s4_ i6_' i10_ s80_ i81_ i82_ s87_ i88_ i89_') h') → impl_period_b6 S K X4 X6 s4_ i6_ i10_ s80_ i81_ i82_ s87_ i88_ i89_ h) (i6_ : Int) (i89_ : Int) {h : H} (h0 : I_ i6_ i89_ h) : impl_period_L6 S K X4 s4_ i6_ i10_ s80_ i81_ i82_ s87_ i88_ i89_ h :=
  loop_rule (σ := (Int) × (Int)) (fun s_ => impl_period_e6 s4_ (s_.1) i10_ s80_ i81_ i82_ s87_ i88_ (s_.2)) (fun s_ h => I_ (s_.1) (s_.2) h) (fun s_ h => m_ (s_.1) (s_.2) h)
    (fun X s_ h hi hx => (impl_period_link6 S K X4 X s4_ (s_.1) i10_ s80_ i81_ i82_ s87_ i88_ (s_.2) h).mpr (hs X (s_.1) (s_.2) h hi fun i6_' i89_' h' hi' hm' => hx (i6_', i89_') h' hi' hm')) (i6_, i89_) h0
theorem impl_period_unroll6 (S : SatT) (K : AVal → H → Prop) (X4 : Frame → H → Prop) (s4_ : Sl) (i6_ : Int) (i10_ : Int) (s80_ : Sl) (i81_ : Int) (i82_ : Int) (s87_ : Sl) (i88_ : Int) (i89_ : Int) (h : H) (hb : impl_period_b6 S K X4 (fun fr h => loopK (impl_period_w6 S K X4) fr h) s4_ i6_ i10_ s80_ i81_ i82_ s87_ i88_ i89_ h) : impl_period_L6 S K X4 s4_ i6_ i10_ s80_ i81_ i82_ s87_ i88_ i89_ h := loop_unroll ((impl_period_link6 S K X4 _ s4_ i6_ i10_ s80_ i81_ i82_ s87_ i88_ i89_ h).mpr hb)
def impl_period_C4 (S : SatT) (K : AVal → H → Prop) (i6_ : Int) (h : H) : Prop :=
 K (.int .i64 i6_) h
def impl_period_b4 (S : SatT) (K : AVal → H → Prop) (X4 : Frame → H → Prop) (s4_ : Sl) (i6_ : Int) (s80_ : Sl) (i81_ : Int) (i82_ : Int) (h : H) : Prop :=
 bif (decide (i82_ < i81_)) then
 ixS s80_ 1 i82_ fun p0 =>
 ldS p0 h fun s1 =>
 impl_period_L6 S K X4 s4_ i6_ i82_ s80_ i81_ i82_ s1 (s1.len : Int) (0) h
 else
 impl_period_C4 S K i6_ h
theorem impl_period_link4 (S : SatT) (K : AVal → H → Prop) (X4 : Frame → H → Prop) (s4_ : Sl) (i6_ : Int) (s80_ : Sl) (i81_ : Int) (i82_ : Int) (h : H) : impl_period_w4 S K X4 (impl_period_e4 s4_ i6_ s80_ i81_ i82_) h = impl_period_b4 S K X4 s4_ i6_ s80_ i81_ i82_ h := by kernel_rfl
theorem impl_period_rule4 (S : SatT) (K : AVal → H → Prop) (s4_ : Sl) (s80_ : Sl) (i81_ : Int) (I_ : Int → Int → H → Prop) (m_ : Int → Int → H → Nat)
    (hs : ∀ (X4 : Frame → H → Prop) (i6_ : Int) (i82_ : Int) (h : H), I_ i6_ i82_ h → (∀ (i6_' : Int) (i82_' : Int) (h' : H), I_ i6_' i82_' h' → m_ i6_' i82_' h' < m_ i6_ i82_ h → X4 (impl_period_e4 s4_ i6_' s80_ i81_ i82_') h') → impl_period_b4 S K X4 s4_ i6_ s80_ i81_ i82_ h) (i6_ : Int) (i82_ : Int) {h : H} (h0 : I_ i6_ i82_ h) : impl_period_L4 S K s4_ i6_ s80_ i81_ i82_ h :=
  loop_rule (σ := (Int) × (Int)) (fun s_ => impl_period_e4 s4_ (s_.1) s80_ i81_ (s_.2)) (fun s_ h => I_ (s_.1) (s_.2) h) (fun s_ h => m_ (s_.1) (s_.2) h)
    (fun X s_ h hi hx => (impl_period_link4 S K X s4_ (s_.1) s80_ i81_ (s_.2) h).mpr (hs X (s_.1) (s_.2) h hi fun i6_' i82_' h' hi' hm' => hx (i6_', i82_') h' hi' hm')) (i6_, i82_) h0
theorem impl_period_unroll4 (S : SatT) (K : AVal → H → Prop) (s4_ : Sl) (i6_ : Int) (s80_ : Sl) (i81_ : Int) (i82_ : Int) (h : H) (hb : impl_period_b4 S K (fun fr h => loopK (impl_period_w4 S K) fr h) s4_ i6_ s80_ i81_ i82_ h) : impl_period_L4 S K s4_ i6_ s80_ i81_ i82_ h := loop_unroll ((impl_period_link4 S K _ s4_ i6_ s80_ i81_ i82_ h).mpr hb)
def impl_period_C0 (S : SatT) (K : AVal → H → Prop) (s0_ : Sl) (s4_ : Sl) (i6_ : Int) (h : H) : Prop :=
 impl_period_L4 S K s4_ i6_ s0_ (s0_.len : Int) (0) h
def impl_period_b0 (S : SatT) (K : AVal → H → Prop) (X0 : Frame → H → Prop) (s0_ : Sl) (s4_ : Sl) (s5_ : Sl) (i6_ : Int) (i7_ : Int) (h : H) : Prop :=
 bif (decide (i7_ < (s5_.len : Int))) then
 ixS s5_ 1 i7_ fun p0 =>
 ldI .i64 p0 h fun n1 =>
 ixS s0_ 1 n1 fun p2 =>
 ldS p2 h fun s3 =>
 impl_period_L2 S K X0 s0_ s4_ s5_ i6_ i7_ s3 (s3.len : Int) (0) h
 else
 impl_period_C0 S K s0_ s4_ i6_ h
theorem impl_period_link0 (S : SatT) (K : AVal → H → Prop) (X0 : Frame → H → Prop) (s0_ : Sl) (s4_ : Sl) (s5_ : Sl) (i6_ : Int) (i7_ : Int) (h : H) : impl_period_w0 S K X0 (impl_period_e0 s0_ s4_ s5_ i6_ i7_) h = impl_period_b0 S K X0 s0_ s4_ s5_ i6_ i7_ h := by kernel_rfl
theorem impl_period_rule0 (S : SatT) (K : AVal → H → Prop) (s0_ : Sl) (s4_ : Sl) (i6_ : Int) (I_ : Sl → Int → H → Prop) (m_ : Sl → Int → H → Nat)
    (hs : ∀ (X0 : Frame → H → Prop) (s5_ : Sl) (i7_ : Int) (h : H), I_ s5_ i7_ h → (∀ (s5_' : Sl) (i7_' : Int) (h' : H), I_ s5_' i7_' h' → m_ s5_' i7_' h' < m_ s5_ i7_ h → X0 (impl_period_e0 s0_ s4_ s5_' i6_ i7_') h') → impl_period_b0 S K X0 s0_ s4_ s5_ i6_ i7_ h) (s5_ : Sl) (i7_ : Int) {h : H} (h0 : I_ s5_ i7_ h) : impl_period_L0 S K s0_ s4_ s5_ i6_ i7_ h :=
  loop_rule (σ := (Sl) × (Int)) (fun s_ => impl_period_e0 s0_ s4_ (s_.1) i6_ (s_.2)) (fun s_ h => I_ (s_.1) (s_.2) h) (fun s_ h => m_ (s_.1) (s_.2) h)
    (fun X s_ h hi hx => (impl_period_link0 S K X s0_ s4_ (s_.1) i6_ (s_.2) h).mpr (hs X (s_.1) (s_.2) h hi fun s5_' i7_' h' hi' hm' => hx (s5_', i7_') h' hi' hm')) (s5_, i7_) h0
theorem impl_period_unroll0 (S : SatT) (K : AVal → H → Prop) (s0_ : Sl) (s4_ : Sl) (s5_ : Sl) (i6_ : Int) (i7_ : Int) (h : H) (hb : impl_period_b0 S K (fun fr h => loopK (impl_period_w0 S K) fr h) s0_ s4_ s5_ i6_ i7_ h) : impl_period_L0 S K s0_ s4_ s5_ i6_ i7_ h := loop_unroll ((impl_period_link0 S K _ s0_ s4_ s5_ i6_ i7_ h).mpr hb)
def impl_period_main (S : SatT) (K : AVal → H → Prop) (x0 : Sl) (h : H) : Prop :=
 callS S i_impl_strongParts [.sl x0] h fun s1 h0 =>
 bif ((s1.len : Int) != (1)) then
 K (.int .i64 (0)) h0
 else
 ixS s1 1 (0) fun p2 =>
 ldS p2 h0 fun s3 =>
 bif ((s3.len : Int) != (x0.len : Int)) then
 K (.int .i64 (0)) h0
 else
 newS 1 1 [.int .i64 (-1)] h0 fun s4 h5 =>
 callS S i_slices_Repeat_s_int64_int64_ [.sl s4, .int .i64 (x0.len : Int)] h5 fun s7 h6 =>
 newS 1 1 [.int .i64 (0)] h6 fun s8 h9 =>
 ixS s7 1 (0) fun p10 =>
 st1 p10 (.int .i64 (0)) h9 fun h11 =>
 impl_period_L0 S K x0 s7 s8 (0) (0) h11
theorem impl_period_main_link (S : SatT) (K : AVal → H → Prop) (x0 : Sl) (h : H) : cwp S tab impl_period_M [] (bodyOf Try.f83) (kFun tab Try.f83.results.toList K) (fr0 Try.f83 [.sl x0]) h = impl_period_main S K x0 h := by kernel_rfl
theorem impl_period_call (x0 : Sl) (h : H) (K : Int → H → Prop) (hm : impl_period_main (Sat Try.prog) (fun v h' => ∃ r, v = .int .i64 r ∧ K r h') x0 h) : callI (Sat Try.prog) .i64 i_impl_period [.sl x0] h K := by
  have := Sat.ex tok mixed impl_period_M Try.func83 (c := bodyOf Try.f83) (by kernel_rfl) (calls_of Try.func83 (c := bodyOf Try.f83) (by kernel_rfl) (by decide)) ((impl_period_main_link _ _ x0 h).mpr hm)
  obtain ⟨v, h2, h3, r, rfl, h4⟩ := this; exact ⟨r, h2, h3, h4⟩

/-! ### (*loop.example/g01354/impl.strip).lasting -/
def impl_strip_lasting_M : Nat → List Nat := fun i => bif i == 4 then [4, 5, 6, 7, 9, 64, 65, 66] else bif i == 2 then [0, 4, 5, 6, 7, 9, 51, 52] else bif i == 0 then [0, 4, 5, 6, 7, 25, 26] else []
def impl_strip_lasting_ks3 (S : SatT) (K : AVal → H → Prop) : Kont := kSeq (cwp S tab impl_strip_lasting_M [] (sub [1, 1, 1, 1] (bodyOf Try.f102)) (kFun tab (Try.f102).results.toList K)) (kFun tab (Try.f102).results.toList K)
def impl_strip_lasting_e0 (p0_ : Pt) (s4_ : Sl) (s5_ : Sl) (s6_ : Sl) (s7_ : Sl) (i25_ : Int) (i26_ : Int) : Frame := [.ptr p0_, U, U, U, .sl s4_, .sl s5_, .sl s6_, .sl s7_, U, U, U, U, U, U, U, U, U, U, U, U, U, U, U, U, U, .int .i64 i25_, .int .i64 i26_, U, U, U, U, U, U, U, U, U, U, U, U, U, U, U, U, U, U, U, U, U, U, U, U, U, U, U, U, U, U, U, U, U, U, U, U, U, U, U, U, U, U, U, U, U, U, U, U, U, U, U, U, U, U, U, U, U, U, U, U, U, U, U, U, U, U, U, U, U, U, U, U, U, U, U]
def impl_strip_lasting_w0 (S : SatT) (K : AVal → H → Prop) : (Frame → H → Prop) → Frame → H → Prop := fun X fr h => cwp S tab impl_strip_lasting_M (impl_strip_lasting_M 0) (sub [1, 1, 1, 0, 1, 0, 0] (bodyOf Try.f102)) (kSeq (fun fr h => X (mask (impl_strip_lasting_M 0) fr) h) (kBlk 0 (impl_strip_lasting_ks3 S K))) fr h
def impl_strip_lasting_L0 (S : SatT) (K : AVal → H → Prop) (p0_ : Pt) (s4_ : Sl) (s5_ : Sl) (s6_ : Sl) (s7_ : Sl) (i25_ : Int) (i26_ : Int) (h : H) : Prop := loopK (impl_strip_lasting_w0 S K) (impl_strip_lasting_e0 p0_ s4_ s5_ s6_ s7_ i25_ i26_) h
def impl_strip_lasting_ks12 (S : SatT) (K : AVal → H → Prop) : Kont := kSeq (cwp S tab impl_strip_lasting_M [] (sub [1, 1, 1, 1, 1, 1] (bodyOf Try.f102)) (kFun tab (Try.f102).results.toList K)) (kFun tab (Try.f102).results.toList K)
def impl_strip_lasting_e2 (p0_ : Pt) (s4_ : Sl) (s5_ : Sl) (s6_ : Sl) (s7_ : Sl) (s9_ : Sl) (i51_ : Int) (i52_ : Int) : Frame := [.ptr p0_, U, U, U, .sl s4_, .sl s5_, .sl s6_, .sl s7_, U, .sl s9_, U, U, U, U, U, U, U, U, U, U, U, U, U, U, U, U, U, U, U, U, U, U, U, U, U, U, U, U, U, U, U, U, U, U, U, U, U, U, U, U, U, .int .i64 i51_, .int .i64 i52_, U, U, U, U, U, U, U, U, U, U, U, U, U, U, U, U, U, U, U, U, U, U, U, U, U, U, U, U, U, U, U, U, U, U, U, U, U, U, U, U, U, U, U, U, U, U, U, U, U]
def impl_strip_lasting_w2 (S : SatT) (K : AVal → H → Prop) : (Frame → H → Prop) → Frame → H → Prop := fun X fr h => cwp S tab impl_strip_lasting_M (impl_strip_lasting_M 2) (sub [1, 1, 1, 1, 1, 0, 1, 0, 0] (bodyOf Try.f102)) (kSeq (fun fr h => X (mask (impl_strip_lasting_M 2) fr) h) (kBlk 2 (impl_strip_lasting_ks12 S K))) fr h
def impl_strip_lasting_L2 (S : SatT) (K : AVal → H → Prop) (p0_ : Pt) (s4_ : Sl) (s5_ : Sl) (s6_ : Sl) (s7_ : Sl) (s9_ : Sl) (i51_ : Int) (i52_ : Int) (h : H) : Prop := loopK (impl_strip_lasting_w2 S K) (impl_strip_lasting_e2 p0_ s4_ s5_ s6_ s7_ s9_ i51_ i52_) h
def impl_strip_lasting_ks17 (S : SatT) (K : AVal → H → Prop) : Kont := kSeq (cwp S tab impl_strip_lasting_M [] (sub [1, 1, 1, 1, 1, 1, 1] (bodyOf Try.f102)) (kFun tab (Try.f102).results.toList K)) (kFun tab (Try.f102).results.toList K)
def impl_strip_lasting_e4 (s4_ : Sl) (s5_ : Sl) (s6_ : Sl) (s7_ : Sl) (s9_ : Sl) (s64_ : Sl) (i65_ : Int) (i66_ : Int) : Frame := [U, U, U, U, .sl s4_, .sl s5_, .sl s6_, .sl s7_, U, .sl s9_, U, U, U, U, U, U, U, U, U, U, U, U, U, U, U, U, U, U, U, U, U, U, U, U, U, U, U, U, U, U, U, U, U, U, U, U, U, U, U, U, U, U, U, U, U, U, U, U, U, U, U, U, U, U, .sl s64_, .int .i64 i65_, .int .i64 i66_, U, U, U, U, U, U, U, U, U, U, U, U, U, U, U, U, U, U, U, U, U, U, U, U, U, U, U, U, U, U, U, U, U, U, U]
def impl_strip_lasting_w4 (S : SatT) (K : AVal → H → Prop) : (Frame → H → Prop) → Frame → H → Prop := fun X fr h => cwp S tab impl_strip_lasting_M (impl_strip_lasting_M 4) (sub [1, 1, 1, 1, 1, 1, 0, 1, 0, 0] (bodyOf Try.f102)) (kSeq (fun fr h => X (mask (impl_strip_lasting_M 4) fr) h) (kBlk 4 (impl_strip_lasting_ks17 S K))) fr h
def impl_strip_lasting_L4 (S : SatT) (K : AVal → H → Prop) (s4_ : Sl) (s5_ : Sl) (s6_ : Sl) (s7_ : Sl) (s9_ : Sl) (s64_ : Sl) (i65_ : Int) (i66_ : Int) (h : H) : Prop := loopK (impl_strip_lasting_w4 S K) (impl_strip_lasting_e4 s4_ s5_ s6_ s7_ s9_ s64_ i65_ i66_) h
def impl_strip_lasting_C4 (S : SatT) (K : AVal → H → Prop) (s6_ : Sl) (s9_ : Sl) (h : H) : Prop :=
 K (.tuple [.sl s6_, .sl s9_]) h
def impl_strip_lasting_b4 (S : SatT) (K : AVal → H → Prop) (X4 : Frame → H → Prop) (s4_ : Sl) (s5_ : Sl) (s6_ : Sl) (s7_ : Sl) (s9_ : Sl) (s64_ : Sl) (i65_ : Int) (i66_ : Int) (h : H) : Prop :=
 bif (decide (i66_ < i65_)) then
 ixS s64_ 3 i66_ fun p0 =>
 ldA p0 3 h fun cs1 =>
 newO [.int .i64 (0), .int .i64 (0), .int .i64 (0)] h fun p2 h3 =>
 stN p2 3 cs1 h3 fun h4 =>
 ixA p2 3 1 (0) fun p5 =>
 ldI .i64 p5 h4 fun n6 =>
 ixS s4_ 1 n6 fun p7 =>
 ldB p7 h4 fun b8 =>
 bif b8 then
 ixA p2 3 1 (1) fun p9 =>
 ldI .i64 p9 h4 fun n10 =>
 ixS s5_ 1 n10 fun p11 =>
 ldB p11 h4 fun b12 =>
 bif b12 then
 ixA p2 3 1 (0) fun p13 =>
 ldI .i64 p13 h4 fun n14 =>
 ixS s7_ 1 n14 fun p15 =>
 ldI .i64 p15 h4 fun n16 =>
 ixS s9_ 1 n16 fun p17 =>
 ldS p17 h4 fun s18 =>
 ixA p2 3 1 (1) fun p19 =>
 ldI .i64 p19 h4 fun n20 =>
 ixS s7_ 1 n20 fun p21 =>
 ldI .i64 p21 h4 fun n22 =>
 ixS s18 1 n22 fun p23 =>
 ldI .i64 p23 h4 fun n24 =>
 ixS s18 1 n22 fun p25 =>
 st1 p25 (.int .i64 (w64 (n24 + (1)))) h4 fun h26 =>
 X4 (impl_strip_lasting_e4 s4_ s5_ s6_ s7_ s9_ s64_ i65_ (w64 (i66_ + (1)))) h26
 else
 X4 (impl_strip_lasting_e4 s4_ s5_ s6_ s7_ s9_ s64_ i65_ (w64 (i66_ + (1)))) h4
 else
 X4 (impl_strip_lasting_e4 s4_ s5_ s6_ s7_ s9_ s64_ i65_ (w64 (i66_ + (1)))) h4
 else
 impl_strip_lasting_C4 S K s6_ s9_ h
theorem impl_strip_lasting_link4 (S : SatT) (K : AVal → H → Prop) (X4 : Frame → H → Prop) (s4_ : Sl) (s5_ : Sl) (s6_ : Sl) (s7_ : Sl) (s9_ : Sl) (s64_ : Sl) (i65_ : Int) (i66_ : Int) (h : H) : impl_strip_lasting_w4 S K X4 (impl_strip_lasting_e4 s4_ s5_ s6_ s7_ s9_ s64_ i65_ i66_) h = impl_strip_lasting_b4 S K X4 s4_ s5_ s6_ s7_ s9_ s64_ i65_ i66_ h := by kernel_rfl
theorem impl_strip_lasting_rule4 (S : SatT) (K : AVal → H → Prop) (s4_ : Sl) (s5_ : Sl) (s6_ : Sl) (s7_ : Sl) (s9_ : Sl) (s64_ : Sl) (i65_ : Int) (I_ : Int → H → Prop) (m_ : Int → H → Nat)
    (hs : ∀ (X4 : Frame → H → Prop) (i66_ : Int) (h : H), I_ i66_ h → (∀ (i66_' : Int) (h' : H), I_ i66_' h' → m_ i66_' h' < m_ i66_ h → X4 (impl_strip_lasting_e4 s4_ s5_ s6_ s7_ s9_ s64_ i65_ i66_') h') → impl_strip_lasting_b4 S K X4 s4_ s5_ s6_ s7_ s9_ s64_ i65_ i66_ h) (i66_ : Int) {h : H} (h0 : I_ i66_ h) : impl_strip_lasting_L4 S K s4_ s5_ s6_ s7_ s9_ s64_ i65_ i66_ h :=
  loop_rule (σ := (Int)) (fun s_ => impl_strip_lasting_e4 s4_ s5_ s6_ s7_ s9_ s64_ i65_ (s_)) (fun s_ h => I_ (s_) h) (fun s_ h => m_ (s_) h)
    (fun X s_ h hi hx => (impl_strip_lasting_link4 S K X s4_ s5_ s6_ s7_ s9_ s64_ i65_ (s_) h).mpr (hs X (s_) h hi fun i66_' h' hi' hm' => hx (i66_') h' hi' hm')) (i66_) h0
theorem impl_strip_lasting_unroll4 (S : SatT) (K : AVal → H → Prop) (s4_ : Sl) (s5_ : Sl) (s6_ : Sl) (s7_ : Sl) (s9_ : Sl) (s64_ : Sl) (i65_ : Int) (i66_ : Int) (h : H) (hb : impl_strip_lasting_b4 S K (fun fr h => loopK (impl_strip_lasting_w4 S K) fr h) s4_ s5_ s6_ s7_ s9_ s64_ i65_ i66_ h) : impl_strip_lasting_L4 S K s4_ s5_ s6_ s7_ s9_ s64_ i65_ i66_ h := loop_unroll ((impl_strip_lasting_link4 S K _ s4_ s5_ s6_ s7_ s9_ s64_ i65_ i66_ h).mpr hb)
def impl_strip_lasting_C2 (S : SatT) (K : AVal → H → Prop) (p0_ : Pt) (s4_ : Sl) (s5_ : Sl) (s6_ : Sl) (s7_ : Sl) (s9_ : Sl) (h : H) : Prop :=
 nilC (.ptr p0_) (
 isPt p0_ (
 ldS (Pt.add p0_ 4) h fun s0 =>
 impl_strip_lasting_L4 S K s4_ s5_ s6_ s7_ s9_ s0 (s0.len : Int) (0) h))
def impl_strip_lasting_b2 (S : SatT) (K : AVal → H → Prop) (X2 : Frame → H → Prop) (p0_ : Pt) (s4_ : Sl) (s5_ : Sl) (s6_ : Sl) (s7_ : Sl) (s9_ : Sl) (i51_ : Int) (i52_ : Int) (h : H) : Prop :=
 bif (decide (i52_ < i51_)) then
 mkS (s6_.len : Int) [.int .i64 (0)] h fun s0 h1 =>
 newS 1 1 [.sl s0] h1 fun s2 h3 =>
 app s9_ s2 1 h3 fun s4 h5 =>
 X2 (impl_strip_lasting_e2 p0_ s4_ s5_ s6_ s7_ s4 i51_ (w64 (i52_ + (1)))) h5
 else
 impl_strip_lasting_C2 S K p0_ s4_ s5_ s6_ s7_ s9_ h
theorem impl_strip_lasting_link2 (S : SatT) (K : AVal → H → Prop) (X2 : Frame → H → Prop) (p0_ : Pt) (s4_ : Sl) (s5_ : Sl) (s6_ : Sl) (s7_ : Sl) (s9_ : Sl) (i51_ : Int) (i52_ : Int) (h : H) : impl_strip_lasting_w2 S K X2 (impl_strip_lasting_e2 p0_ s4_ s5_ s6_ s7_ s9_ i51_ i52_) h = impl_strip_lasting_b2 S K X2 p0_ s4_ s5_ s6_ s7_ s9_ i51_ i52_ h := by kernel_rfl
theorem impl_strip_lasting_rule2 (S : SatT) (K : AVal → H → Prop) (p0_ : Pt) (s4_ : Sl) (s5_ : Sl) (s6_ : Sl) (s7_ : Sl) (i51_ : Int) (I_ : Sl → Int → H → Prop) (m_ : Sl → Int → H → Nat)
    (hs : ∀ (X2 : Frame → H → Prop) (s9_ : Sl) (i52_ : Int) (h : H), I_ s9_ i52_ h → (∀ (s9_' : Sl) (i52_' : Int) (h' : H), I_ s9_' i52_' h' → m_ s9_' i52_' h' < m_ s9_ i52_ h → X2 (impl_strip_lasting_e2 p0_ s4_ s5_ s6_ s7_ s9_' i51_ i52_') h') → impl_strip_lasting_b2 S K X2 p0_ s4_ s5_ s6_ s7_ s9_ i51_ i52_ h) (s9_ : Sl) (i52_ : Int) {h : H} (h0 : I_ s9_ i52_ h) : impl_strip_lasting_L2 S K p0_ s4_ s5_ s6_ s7_ s9_ i51_ i52_ h :=
  loop_rule (σ := (Sl) × (Int)) (fun s_ => impl_strip_lasting_e2 p0_ s4_ s5_ s6_ s7_ (s_.1) i51_ (s_.2)) (fun s_ h => I_ (s_.1) (s_.2) h) (fun s_ h => m_ (s_.1) (s_.2) h)
    (fun X s_ h hi hx => (impl_strip_lasting_link2 S K X p0_ s4_ s5_ s6_ s7_ (s_.1) i51_ (s_.2) h).mpr (hs X (s_.1) (s_.2) h hi fun s9_' i52_' h' hi' hm' => hx (s9_', i52_') h' hi' hm')) (s9_, i52_) h0
theorem impl_strip_lasting_unroll2 (S : SatT) (K : AVal → H → Prop) (p0_ : Pt) (s4_ : Sl) (s5_ : Sl) (s6_ : Sl) (s7_ : Sl) (s9_ : Sl) (i51_ : Int) (i52_ : Int) (h : H) (hb : impl_strip_lasting_b2 S K (fun fr h => loopK (impl_strip_lasting_w2 S K) fr h) p0_ s4_ s5_ s6_ s7_ s9_ i51_ i52_ h) : impl_strip_lasting_L2 S K p0_ s4_ s5_ s6_ s7_ s9_ i51_ i52_ h := loop_unroll ((impl_strip_lasting_link2 S K _ p0_ s4_ s5_ s6_ s7_ s9_ i51_ i52_ h).mpr hb)
def impl_strip_lasting_C0 (S : SatT) (K : AVal → H → Prop) (p0_ : Pt) (s4_ : Sl) (s5_ : Sl) (s6_ : Sl) (s7_ : Sl) (h : H) : Prop :=
 newS 0 1 [] h fun s0 h1 =>
 impl_strip_lasting_L2 S K p0_ s4_ s5_ s6_ s7_ s0 (s6_.len : Int) (0) h1
def impl_strip_lasting_b0 (S : SatT) (K : AVal → H → Prop) (X0 : Frame → H → Prop) (p0_ : Pt) (s4_ : Sl) (s5_ : Sl) (s6_ : Sl) (s7_ : Sl) (i25_ : Int) (i26_ : Int) (h : H) : Prop :=
 bif (decide (i26_ < i25_)) then
 ixS s4_ 1 i26_ fun p0 =>
 ldB p0 h fun b1 =>
 bif b1 then
 ixS s5_ 1 i26_ fun p2 =>
 ldB p2 h fun b3 =>
 bif b3 then
 ixS s7_ 1 i26_ fun p4 =>
 st1 p4 (.int .i64 (s6_.len : Int)) h fun h5 =>
 newS 1 1 [.int .i64 i26_] h5 fun s6 h7 =>
 app s6_ s6 1 h7 fun s8 h9 =>
 X0 (impl_strip_lasting_e0 p0_ s4_ s5_ s8 s7_ i25_ (w64 (i26_ + (1)))) h9
 else
 X0 (impl_strip_lasting_e0 p0_ s4_ s5_ s6_ s7_ i25_ (w64 (i26_ + (1)))) h
 else
 X0 (impl_strip_lasting_e0 p0_ s4_ s5_ s6_ s7_ i25_ (w64 (i26_ + (1)))) h
 else
 impl_strip_lasting_C0 S K p0_ s4_ s5_ s6_ s7_ h
theorem impl_strip_lasting_link0 (S : SatT) (K : AVal → H → Prop) (X0 : Frame → H → Prop) (p0_ : Pt) (s4_ : Sl) (s5_ : Sl) (s6_ : Sl) (s7_ : Sl) (i25_ : Int) (i26_ : Int) (h : H) : impl_strip_lasting_w0 S K X0 (impl_strip_lasting_e0 p0_ s4_ s5_ s6_ s7_ i25_ i26_) h = impl_strip_lasting_b0 S K X0 p0_ s4_ s5_ s6_ s7_ i25_ i26_ h := by kernel_rfl
theorem impl_strip_lasting_rule0 (S : SatT) (K : AVal → H → Prop) (p0_ : Pt) (s4_ : Sl) (s5_ : Sl) (s7_ : Sl) (i25_ : Int) (I_ : Sl → Int → H → Prop) (m_ : Sl → Int → H → Nat)
    (hs : ∀ (X0 : Frame → H → Prop) (s6_ : Sl) (i26_ : Int) (h : H), I_ s6_ i26_ h → (∀ (s6_' : Sl) (i26_' : Int) (h' : H), I_ s6_' i26_' h' → m_ s6_' i26_' h' < m_ s6_ i26_ h → X0 (impl_strip_lasting_e0 p0_ s4_ s5_ s6_' s7_ i25_ i26_') h') → impl_strip_lasting_b0 S K X0 p0_ s4_ s5_ s6_ s7_ i25_ i26_ h) (s6_ : Sl) (i26_ : Int) {h : H} (h0 : I_ s6_ i26_ h) : impl_strip_lasting_L0 S K p0_ s4_ s5_ s6_ s7_ i25_ i26_ h :=
  loop_rule (σ := (Sl) × (Int)) (fun s_ => impl_strip_lasting_e0 p0_ s4_ s5_ (s_.1) s7_ i25_ (s_.2)) (fun s_ h => I_ (s_.1) (s_.2) h) (fun s_ h => m_ (s_.1) (s_.2) h)
    (fun X s_ h hi hx => (impl_strip_lasting_link0 S K X p0_ s4_ s5_ (s_.1) s7_ i25_ (s_.2) h).mpr (hs X (s_.1) (s_.2) h hi fun s6_' i26_' h' hi' hm' => hx (s6_', i26_') h' hi' hm')) (s6_, i26_) h0
theorem impl_strip_lasting_unroll0 (S : SatT) (K : AVal → H → Prop) (p0_ : Pt) (s4_ : Sl) (s5_ : Sl) (s6_ : Sl) (s7_ : Sl) (i25_ : Int) (i26_ : Int) (h : H) (hb : impl_strip_lasting_b0 S K (fun fr h => loopK (impl_strip_lasting_w0 S K) fr h) p0_ s4_ s5_ s6_ s7_ i25_ i26_ h) : impl_strip_lasting_L0 S K p0_ s4_ s5_ s6_ s7_ i25_ i26_ h := loop_unroll ((impl_strip_lasting_link0 S K _ p0_ s4_ s5_ s6_ s7_ i25_ i26_ h).mpr hb)
def impl_strip_lasting_main (S : SatT) (K : AVal → H → Prop) (x0 : Pt) (h : H) : Prop :=
 callS S i_impl_strip_endless [.ptr x0, .int .i64 (1), .int .i64 (0)] h fun s1 h0 =>
 callS S i_impl_strip_endless [.ptr x0, .int .i64 (0), .int .i64 (1)] h0 fun s3 h2 =>
 slotK 8 h2 fun h4 =>
 nilC (.ptr x0) (
 isPt x0 (
 ldI .i64 (Pt.add x0 3) h4 fun n5 =>
 newSat 0 1 [] h4 (h2.length + 0) fun s6 h7 =>
(cell h7 (Pt.add x0 3) = cell h4 (Pt.add x0 3)) ∧ (
 mkSat n5 [.int .i64 (0)] h7 (h2.length + 5) fun s8 h9 =>
 nilC (.ptr x0) (
 isPt x0 (
 ldI .i64 (Pt.add x0 3) h9 fun n10 =>
 impl_strip_lasting_L0 S K x0 s1 s3 s6 s8 n10 (0) h9)))))
theorem impl_strip_lasting_main_link (S : SatT) (K : AVal → H → Prop) (x0 : Pt) (h : H) : cwp S tab impl_strip_lasting_M [] (bodyOf Try.f102) (kFun tab Try.f102.results.toList K) (fr0 Try.f102 [.ptr x0]) h = impl_strip_lasting_main S K x0 h := by kernel_rfl
theorem impl_strip_lasting_call (x0 : Pt) (h : H) (K : AVal → H → Prop) (hm : impl_strip_lasting_main (Sat Try.prog) (fun v h' => K v h') x0 h) : callV (Sat Try.prog) i_impl_strip_lasting [.ptr x0] h K := by
  have := Sat.ex tok mixed impl_strip_lasting_M Try.func102 (c := bodyOf Try.f102) (by kernel_rfl) (calls_of Try.func102 (c := bodyOf Try.f102) (by kernel_rfl) (by decide)) ((impl_strip_lasting_main_link _ _ x0 h).mpr hm)
  exact this

/-! ### (loop.example/g01354/impl.Set).endless -/
def impl_Set_endless_M : Nat → List Nat := fun i => bif i == 2 then [1, 2, 3, 7, 8, 16, 17, 23, 24, 25] else bif i == 0 then [1, 2, 3, 7, 16, 17] else []
def impl_Set_endless_ks2 (S : SatT) (K : AVal → H → Prop) : Kont := kSeq (cwp S tab impl_Set_endless_M [] (sub [1, 1, 1] (bodyOf Try.f59)) (kFun tab (Try.f59).results.toList K)) (kFun tab (Try.f59).results.toList K)
def impl_Set_endless_e0 (i1_ : Int) (i2_ : Int) (p3_ : Pt) (s7_ : Sl) (i16_ : Int) (i17_ : Int) : Frame := [U, .int .i64 i1_, .int .i64 i2_, .ptr p3_, U, U, U, .sl s7_, U, U, U, U, U, U, U, U, .int .i64 i16_, .int .i64 i17_, U, U, U, U, U, U, U, U, U, U, U, U, U, U, U, U, U, U, U, U, U, U, U, U, U, U, U, U, U, U, U, U, U, U]
def impl_Set_endless_w0 (S : SatT) (K : AVal → H → Prop) : (Frame → H → Prop) → Frame → H → Prop := fun X fr h => cwp S tab impl_Set_endless_M (impl_Set_endless_M 0) (sub [1, 1, 0, 1, 0, 0] (bodyOf Try.f59)) (kSeq (fun fr h => X (mask (impl_Set_endless_M 0) fr) h) (kBlk 0 (impl_Set_endless_ks2 S K))) fr h
def impl_Set_endless_L0 (S : SatT) (K : AVal → H → Prop) (i1_ : Int) (i2_ : Int) (p3_ : Pt) (s7_ : Sl) (i16_ : Int) (i17_ : Int) (h : H) : Prop := loopK (impl_Set_endless_w0 S K) (impl_Set_endless_e0 i1_ i2_ p3_ s7_ i16_ i17_) h
def impl_Set_endless_ks6 (S : SatT) (K : AVal → H → Prop) (X0 : Frame → H → Prop) : Kont := kSeq (cwp S tab impl_Set_endless_M (impl_Set_endless_M 0) (sub [1, 1, 0, 1, 0, 0, 1, 1, 1] (bodyOf Try.f59)) (kSeq (fun fr h => X0 (mask (impl_Set_endless_M 0) fr) h) (kBlk 0 (impl_Set_endless_ks2 S K)))) (kSeq (fun fr h => X0 (mask (impl_Set_endless_M 0) fr) h) (kBlk 0 (impl_Set_endless_ks2 S K)))
def impl_Set_endless_ks8 (S : SatT) (K : AVal → H → Prop) (X0 : Frame → H → Prop) : Kont := kSeq (cwp S tab impl_Set_endless_M (impl_Set_endless_M 1) (sub [1, 1, 0, 1, 0, 0, 1, 1, 0, 0, 1, 1] (bodyOf Try.f59)) (kBlk 1 (impl_Set_endless_ks6 S K X0))) (kBlk 1 (impl_Set_endless_ks6 S K X0))
def impl_Set_endless_e2 (i1_ : Int) (i2_ : Int) (p3_ : Pt) (s7_ : Sl) (s8_ : Sl) (i16_ : Int) (i17_ : Int) (s23_ : Sl) (i24_ : Int) (i25_ : Int) : Frame := [U, .int .i64 i1_, .int .i64 i2_, .ptr p3_, U, U, U, .sl s7_, .sl s8_, U, U, U, U, U, U, U, .int .i64 i16_, .int .i64 i17_, U, U, U, U, U, .sl s23_, .int .i64 i24_, .int .i64 i25_, U, U, U, U, U, U, U, U, U, U, U, U, U, U, U, U, U, U, U, U, U, U, U, U, U, U]
def impl_Set_endless_w2 (S : SatT) (K : AVal → H → Prop) (X0 : Frame → H → Prop) : (Frame → H → Prop) → Frame → H → Prop := fun X fr h => cwp S tab impl_Set_endless_M (impl_Set_endless_M 2) (sub [1, 1, 0, 1, 0, 0, 1, 1, 0, 0, 1, 0, 1, 0, 0] (bodyOf Try.f59)) (kSeq (fun fr h => X (mask (impl_Set_endless_M 2) fr) h) (kBlk 2 (impl_Set_endless_ks8 S K X0))) fr h
def impl_Set_endless_L2 (S : SatT) (K : AVal → H → Prop) (X0 : Frame → H → Prop) (i1_ : Int) (i2_ : Int) (p3_ : Pt) (s7_ : Sl) (s8_ : Sl) (i16_ : Int) (i17_ : Int) (s23_ : Sl) (i24_ : Int) (i25_ : Int) (h : H) : Prop := loopK (impl_Set_endless_w2 S K X0) (impl_Set_endless_e2 i1_ i2_ p3_ s7_ s8_ i16_ i17_ s23_ i24_ i25_) h
def impl_Set_endless_C1 (S : SatT) (K : AVal → H → Prop) (X0 : Frame → H → Prop) (i1_ : Int) (i2_ : Int) (p3_ : Pt) (s7_ : Sl) (i16_ : Int) (i17_ : Int) (h : H) : Prop :=
 X0 (impl_Set_endless_e0 i1_ i2_ p3_ s7_ i16_ (w64 (i17_ + (1)))) h
def impl_Set_endless_C2 (S : SatT) (K : AVal → H → Prop) (X0 : Frame → H → Prop) (i1_ : Int) (i2_ : Int) (p3_ : Pt) (s8_ : Sl) (i16_ : Int) (i17_ : Int) (h : H) : Prop :=
 impl_Set_endless_C1 S K X0 i1_ i2_ p3_ s8_ i16_ i17_ h
def impl_Set_endless_b2 (S : SatT) (K : AVal → H → Prop) (X0 : Frame → H → Prop) (X2 : Frame → H → Prop) (i1_ : Int) (i2_ : Int) (p3_ : Pt) (s7_ : Sl) (s8_ : Sl) (i16_ : Int) (i17_ : Int) (s23_ : Sl) (i24_ : Int) (i25_ : Int) (h : H) : Prop :=
 bif (decide (i25_ < i24_)) then
 ixS s23_ 4 i25_ fun p0 =>
 ldA p0 4 h fun cs1 =>
 newO [.int .i64 (0), .int .i64 (0), .int .i64 (0), .int .i64 (0)] h fun p2 h3 =>
 stN p2 4 cs1 h3 fun h4 =>
 ixA p2 4 1 i1_ fun p5 =>
 ldI .i64 p5 h4 fun n6 =>
 ixA p2 4 1 i1_ fun p7 =>
 ldI .i64 p7 h4 fun n8 =>
 ixS s8_ 1 n8 fun p9 =>
 ldB p9 h4 fun b10 =>
 bif b10 then
 ixS s8_ 1 n6 fun p11 =>
 st1 p11 (.bool true) h4 fun h12 =>
 X2 (impl_Set_endless_e2 i1_ i2_ p3_ s7_ s8_ i16_ i17_ s23_ i24_ (w64 (i25_ + (1)))) h12
 else
 ixA p2 4 1 i2_ fun p13 =>
 ldI .i64 p13 h4 fun n14 =>
 ixS s7_ 1 n14 fun p15 =>
 ldB p15 h4 fun b16 =>
 ixS s8_ 1 n6 fun p17 =>
 st1 p17 (.bool b16) h4 fun h18 =>
 X2 (impl_Set_endless_e2 i1_ i2_ p3_ s7_ s8_ i16_ i17_ s23_ i24_ (w64 (i25_ + (1)))) h18
 else
 impl_Set_endless_C2 S K X0 i1_ i2_ p3_ s8_ i16_ i17_ h
theorem impl_Set_endless_link2 (S : SatT) (K : AVal → H → Prop) (X0 : Frame → H → Prop) (X2 : Frame → H → Prop) (i1_ : Int) (i2_ : Int) (p3_ : Pt) (s7_ : Sl) (s8_ : Sl) (i16_ : Int) (i17_ : Int) (s23_ : Sl) (i24_ : Int) (i25_ : Int) (h : H) : impl_Set_endless_w2 S K X0 X2 (impl_Set_endless_e2 i1_ i2_ p3_ s7_ s8_ i16_ i17_ s23_ i24_ i25_) h = impl_Set_endless_b2 S K X0 X2 i1_ i2_ p3_ s7_ s8_ i16_ i17_ s23_ i24_ i25_ h := by kernel_rfl
theorem impl_Set_endless_rule2 (S : SatT) (K : AVal → H → Prop) (X0 : Frame → H → Prop) (i1_ : Int) (i2_ : Int) (p3_ : Pt) (s7_ : Sl) (s8_ : Sl) (i16_ : Int) (i17_ : Int) (s23_ : Sl) (i24_ : Int) (I_ : Int → H → Prop) (m_ : Int → H → Nat)
    (hs : ∀ (X2 : Frame → H → Prop) (i25_ : Int) (h : H), I_ i25_ h → (∀ (i25_' : Int) (h' : H), I_ i25_' h' → m_ i25_' h' < m_ i25_ h → X2 (impl_Set_endless_e2 i1_ i2_ p3_ s7_ s8_ i16_ i17_ s23_ i24_ i25_') h') → impl_Set_endless_b2 S K X0 X2 i1_ i2_ p3_ s7_ s8_ i16_ i17_ s23_ i24_ i25_ h) (i25_ : Int) {h : H} (h0 : I_ i25_ h) : impl_Set_endless_L2 S K X0 i1_ i2_ p3_ s7_ s8_ i16_ i17_ s23_ i24_ i25_ h :=
  loop_rule (σ := (Int)) (fun s_ => impl_Set_endless_e2 i1_ i2_ p3_ s7_ s8_ i16_ i17_ s23_ i24_ (s_)) (fun s_ h => I_ (s_) h) (fun s_ h => m_ (s_) h)
    (fun X s_ h hi hx => (impl_Set_endless_link2 S K X0 X i1_ i2_ p3_ s7_ s8_ i16_ i17_ s23_ i24_ (s_) h).mpr (hs X (s_) h hi fun i25_' h' hi' hm' => hx (i25_') h' hi' hm')) (i25_) h0
theorem impl_Set_endless_unroll2 (S : SatT) (K : AVal → H → Prop) (X0 : Frame → H → Prop) (i1_ : Int) (i2_ : Int) (p3_ : Pt) (s7_ : Sl) (s8_ : Sl) (i16_ : Int) (i17_ : Int) (s23_ : Sl) (i24_ : Int) (i25_ : Int) (h : H) (hb : impl_Set_endless_b2 S K X0 (fun fr h => loopK (impl_Set_endless_w2 S K X0) fr h) i1_ i2_ p3_ s7_ s8_ i16_ i17_ s23_ i24_ i25_ h) : impl_Set_endless_L2 S K X0 i1_ i2_ p3_ s7_ s8_ i16_ i17_ s23_ i24_ i25_ h := loop_unroll ((impl_Set_endless_link2 S K X0 _ i1_ i2_ p3_ s7_ s8_ i16_ i17_ s23_ i24_ i25_ h).mpr hb)
def impl_Set_endless_C0 (S : SatT) (K : AVal → H → Prop) (s7_ : Sl) (h : H) : Prop :=
 K (.sl s7_) h
def impl_Set_endless_b0 (S : SatT) (K : AVal → H → Prop) (X0 : Frame → H → Prop) (i1_ : Int) (i2_ : Int) (p3_ : Pt) (s7_ : Sl) (i16_ : Int) (i17_ : Int) (h : H) : Prop :=
 bif (decide (i17_ < i16_)) then
 isPt p3_ (
 ldI .i64 (Pt.add p3_ 0) h fun n0 =>
 mkS n0 [.bool false] h fun s1 h2 =>
 isPt p3_ (
 ldS (Pt.add p3_ 1) h2 fun s3 =>
 impl_Set_endless_L2 S K X0 i1_ i2_ p3_ s7_ s1 i16_ i17_ s3 (s3.len : Int) (0) h2))
 else
 impl_Set_endless_C0 S K s7_ h
theorem impl_Set_endless_link0 (S : SatT) (K : AVal → H → Prop) (X0 : Frame → H → Prop) (i1_ : Int) (i2_ : Int) (p3_ : Pt) (s7_ : Sl) (i16_ : Int) (i17_ : Int) (h : H) : impl_Set_endless_w0 S K X0 (impl_Set_endless_e0 i1_ i2_ p3_ s7_ i16_ i17_) h = impl_Set_endless_b0 S K X0 i1_ i2_ p3_ s7_ i16_ i17_ h := by kernel_rfl
theorem impl_Set_endless_rule0 (S : SatT) (K : AVal → H → Prop) (i1_ : Int) (i2_ : Int) (p3_ : Pt) (i16_ : Int) (I_ : Sl → Int → H → Prop) (m_ : Sl → Int → H → Nat)
    (hs : ∀ (X0 : Frame → H → Prop) (s7_ : Sl) (i17_ : Int) (h : H), I_ s7_ i17_ h → (∀ (s7_' : Sl) (i17_' : Int) (h' : H), I_ s7_' i17_' h' → m_ s7_' i17_' h' < m_ s7_ i17_ h → X0 (impl_Set_endless_e0 i1_ i2_ p3_ s7_' i16_ i17_') h') → impl_Set_endless_b0 S K X0 i1_ i2_ p3_ s7_ i16_ i17_ h) (s7_ : Sl) (i17_ : Int) {h : H} (h0 : I_ s7_ i17_ h) : impl_Set_endless_L0 S K i1_ i2_ p3_ s7_ i16_ i17_ h :=
  loop_rule (σ := (Sl) × (Int)) (fun s_ => impl_Set_endless_e0 i1_ i2_ p3_ (s_.1) i16_ (s_.2)) (fun s_ h => I_ (s_.1) (s_.2) h) (fun s_ h => m_ (s_.1) (s_.2) h)
    (fun X s_ h hi hx => (impl_Set_endless_link0 S K X i1_ i2_ p3_ (s_.1) i16_ (s_.2) h).mpr (hs X (s_.1) (s_.2) h hi fun s7_' i17_' h' hi' hm' => hx (s7_', i17_') h' hi' hm')) (s7_, i17_) h0
theorem impl_Set_endless_unroll0 (S : SatT) (K : AVal → H → Prop) (i1_ : Int) (i2_ : Int) (p3_ : Pt) (s7_ : Sl) (i16_ : Int) (i17_ : Int) (h : H) (hb : impl_Set_endless_b0 S K (fun fr h => loopK (impl_Set_endless_w0 S K) fr h) i1_ i2_ p3_ s7_ i16_ i17_ h) : impl_Set_endless_L0 S K i1_ i2_ p3_ s7_ i16_ i17_ h := loop_unroll ((impl_Set_endless_link0 S K _ i1_ i2_ p3_ s7_ i16_ i17_ h).mpr hb)
def impl_Set_endless_main (S : SatT) (K : AVal → H → Prop) (x0 : List AVal) (x1 : Int) (x2 : Int) (h : H) : Prop :=
 newK 2 x0 h fun p0 h1 =>
 newS 1 1 [.bool true] h1 fun s2 h3 =>
 isPt p0 (
 ldI .i64 (Pt.add p0 0) h3 fun n4 =>
 callS S i_slices_Repeat_s_bool_bool_ [.sl s2, .int .i64 n4] h3 fun s6 h5 =>
 isPt p0 (
 ldI .i64 (Pt.add p0 0) h5 fun n7 =>
 impl_Set_endless_L0 S K x1 x2 p0 s6 n7 (0) h5))
theorem impl_Set_endless_main_link (S : SatT) (K : AVal → H → Prop) (x0 : List AVal) (x1 : Int) (x2 : Int) (h : H) : cwp S tab impl_Set_endless_M [] (bodyOf Try.f59) (kFun tab Try.f59.results.toList K) (fr0 Try.f59 [.agg x0, .int .i64 x1, .int .i64 x2]) h = impl_Set_endless_main S K x0 x1 x2 h := by kernel_rfl
theorem impl_Set_endless_call (x0 : List AVal) (x1 : Int) (x2 : Int) (h : H) (K : Sl → H → Prop) (hm : impl_Set_endless_main (Sat Try.prog) (fun v h' => ∃ r, v = .sl r ∧ K r h') x0 x1 x2 h) : callS (Sat Try.prog) i_impl_Set_endless [.agg x0, .int .i64 x1, .int .i64 x2] h K := by
  have := Sat.ex tok mixed impl_Set_endless_M Try.func59 (c := bodyOf Try.f59) (by kernel_rfl) (calls_of Try.func59 (c := bodyOf Try.f59) (by kernel_rfl) (by decide)) ((impl_Set_endless_main_link _ _ x0 x1 x2 h).mpr hm)
  obtain ⟨v, h2, h3, r, rfl, h4⟩ := this; exact ⟨r, h2, h3, h4⟩

/-! ### loop.example/g01354/impl.newStrip$1 -/
def impl_newStrip_1_M : Nat → List Nat := fun i => bif i == 0 then [0, 1, 2, 3, 4, 6, 7, 8, 39, 40, 41] else []
def impl_newStrip_1_ks5 (S : SatT) (K : AVal → H → Prop) : Kont := kSeq (cwp S tab impl_newStrip_1_M [] (sub [1, 1, 1] (bodyOf Try.f116)) (kFun tab (Try.f116).results.toList K)) (kFun tab (Try.f116).results.toList K)
def impl_newStrip_1_e0 (i0_ : Int) (i1_ : Int) (i2_ : Int) (i3_ : Int) (i4_ : Int) (p6_ : Pt) (p7_ : Pt) (p8_ : Pt) (s39_ : Sl) (i40_ : Int) (i41_ : Int) : Frame := [.int .i64 i0_, .int .i64 i1_, .int .i64 i2_, .int .i64 i3_, .int .i64 i4_, U, .ptr p6_, .ptr p7_, .ptr p8_, U, U, U, U, U, U, U, U, U, U, U, U, U, U, U, U, U, U, U, U, U, U, U, U, U, U, U, U, U, U, .sl s39_, .int .i64 i40_, .int .i64 i41_, U, U, U, U, U, U, U, U, U, U, U, U, U, U, U, U, U, U, U, U, U, U, U, U, U, U, U, U, U, U, U, U, U, U, U, U, U, U, U, U]
def impl_newStrip_1_w0 (S : SatT) (K : AVal → H → Prop) : (Frame → H → Prop) → Frame → H → Prop := fun X fr h => cwp S tab impl_newStrip_1_M (impl_newStrip_1_M 0) (sub [1, 1, 0, 1, 0, 0] (bodyOf Try.f116)) (kSeq (fun fr h => X (mask (impl_newStrip_1_M 0) fr) h) (kBlk 0 (impl_newStrip_1_ks5 S K))) fr h
def impl_newStrip_1_L0 (S : SatT) (K : AVal → H → Prop) (i0_ : Int) (i1_ : Int) (i2_ : Int) (i3_ : Int) (i4_ : Int) (p6_ : Pt) (p7_ : Pt) (p8_ : Pt) (s39_ : Sl) (i40_ : Int) (i41_ : Int) (h : H) : Prop := loopK (impl_newStrip_1_w0 S K) (impl_newStrip_1_e0 i0_ i1_ i2_ i3_ i4_ p6_ p7_ p8_ s39_ i40_ i41_) h
def impl_newStrip_1_C0 (S : SatT) (K : AVal → H → Prop) (h : H) : Prop :=
 K (.bool true) h
def impl_newStrip_1_b0 (S : SatT) (K : AVal → H → Prop) (X0 : Frame → H → Prop) (i0_ : Int) (i1_ : Int) (i2_ : Int) (i3_ : Int) (i4_ : Int) (p6_ : Pt) (p7_ : Pt) (p8_ : Pt) (s39_ : Sl) (i40_ : Int) (i41_ : Int) (h : H) : Prop :=
 bif (decide (i41_ < i40_)) then
 ixS s39_ 4 i41_ fun p0 =>
 ldA p0 4 h fun cs1 =>
 newO [.int .i64 (0), .int .i64 (0), .int .i64 (0), .int .i64 (0)] h fun p2 h3 =>
 stN p2 4 cs1 h3 fun h4 =>
 ldI .i64 p7_ h4 fun n5 =>
 bif (decide (i4_ < n5)) then
 ixA p2 4 1 (1) fun p6 =>
 ldI .i64 p6 h4 fun n7 =>
 bif (n7 != i1_) then
 X0 (impl_newStrip_1_e0 i0_ i1_ i2_ i3_ i4_ p6_ p7_ p8_ s39_ i40_ (w64 (i41_ + (1)))) h4
 else
 ldI .i64 p7_ h4 fun n8 =>
 bif (i4_ == n8) then
 ixA p2 4 1 (1) fun p9 =>
 ldI .i64 p9 h4 fun n10 =>
 ldV p8_ h4 fun v11 =>
 ixA p2 4 1 (3) fun p12 =>
 ldI .i64 p12 h4 fun n13 =>
 isPt p6_ (
 ldI .i64 (Pt.add p6_ 0) h4 fun n14 =>
 ixA p2 4 1 (0) fun p15 =>
 ldI .i64 p15 h4 fun n16 =>
 isPt p6_ (
 ldI .i64 (Pt.add p6_ 0) h4 fun n17 =>
 ixA p2 4 1 (2) fun p18 =>
 ldI .i64 p18 h4 fun n19 =>
 viaF v11 [.int .i64 n10, .int .i64 n13, .int .i64 (w64 ((w64 (i2_ * n14)) + n16)), .int .i64 (w64 ((w64 (i3_ * n17)) + n19)), .int .i64 (w64 (i4_ - (1)))] fun g20 ys21 =>
 callB S g20 ys21 h4 fun b23 h22 =>
 bif (!b23) then
 K (.bool false) h22
 else
 X0 (impl_newStrip_1_e0 n10 i1_ i2_ i3_ i4_ p6_ p7_ p8_ s39_ i40_ (w64 (i41_ + (1)))) h22))
 else
 ldV p8_ h4 fun v24 =>
 ixA p2 4 1 (3) fun p25 =>
 ldI .i64 p25 h4 fun n26 =>
 isPt p6_ (
 ldI .i64 (Pt.add p6_ 0) h4 fun n27 =>
 ixA p2 4 1 (0) fun p28 =>
 ldI .i64 p28 h4 fun n29 =>
 isPt p6_ (
 ldI .i64 (Pt.add p6_ 0) h4 fun n30 =>
 ixA p2 4 1 (2) fun p31 =>
 ldI .i64 p31 h4 fun n32 =>
 viaF v24 [.int .i64 i0_, .int .i64 n26, .int .i64 (w64 ((w64 (i2_ * n27)) + n29)), .int .i64 (w64 ((w64 (i3_ * n30)) + n32)), .int .i64 (w64 (i4_ - (1)))] fun g33 ys34 =>
 callB S g33 ys34 h4 fun b36 h35 =>
 bif (!b36) then
 K (.bool false) h35
 else
 X0 (impl_newStrip_1_e0 i0_ i1_ i2_ i3_ i4_ p6_ p7_ p8_ s39_ i40_ (w64 (i41_ + (1)))) h35))
 else
 ldI .i64 p7_ h4 fun n37 =>
 bif (i4_ == n37) then
 ixA p2 4 1 (1) fun p38 =>
 ldI .i64 p38 h4 fun n39 =>
 ldV p8_ h4 fun v40 =>
 ixA p2 4 1 (3) fun p41 =>
 ldI .i64 p41 h4 fun n42 =>
 isPt p6_ (
 ldI .i64 (Pt.add p6_ 0) h4 fun n43 =>
 ixA p2 4 1 (0) fun p44 =>
 ldI .i64 p44 h4 fun n45 =>
 isPt p6_ (
 ldI .i64 (Pt.add p6_ 0) h4 fun n46 =>
 ixA p2 4 1 (2) fun p47 =>
 ldI .i64 p47 h4 fun n48 =>
 viaF v40 [.int .i64 n39, .int .i64 n42, .int .i64 (w64 ((w64 (i2_ * n43)) + n45)), .int .i64 (w64 ((w64 (i3_ * n46)) + n48)), .int .i64 (w64 (i4_ - (1)))] fun g49 ys50 =>
 callB S g49 ys50 h4 fun b52 h51 =>
 bif (!b52) then
 K (.bool false) h51
 else
 X0 (impl_newStrip_1_e0 n39 i1_ i2_ i3_ i4_ p6_ p7_ p8_ s39_ i40_ (w64 (i41_ + (1)))) h51))
 else
 ldV p8_ h4 fun v53 =>
 ixA p2 4 1 (3) fun p54 =>
 ldI .i64 p54 h4 fun n55 =>
 isPt p6_ (
 ldI .i64 (Pt.add p6_ 0) h4 fun n56 =>
 ixA p2 4 1 (0) fun p57 =>
 ldI .i64 p57 h4 fun n58 =>
 isPt p6_ (
 ldI .i64 (Pt.add p6_ 0) h4 fun n59 =>
 ixA p2 4 1 (2) fun p60 =>
 ldI .i64 p60 h4 fun n61 =>
 viaF v53 [.int .i64 i0_, .int .i64 n55, .int .i64 (w64 ((w64 (i2_ * n56)) + n58)), .int .i64 (w64 ((w64 (i3_ * n59)) + n61)), .int .i64 (w64 (i4_ - (1)))] fun g62 ys63 =>
 callB S g62 ys63 h4 fun b65 h64 =>
 bif (!b65) then
 K (.bool false) h64
 else
 X0 (impl_newStrip_1_e0 i0_ i1_ i2_ i3_ i4_ p6_ p7_ p8_ s39_ i40_ (w64 (i41_ + (1)))) h64))
 else
 impl_newStrip_1_C0 S K h
theorem impl_newStrip_1_link0 (S : SatT) (K : AVal → H → Prop) (X0 : Frame → H → Prop) (i0_ : Int) (i1_ : Int) (i2_ : Int) (i3_ : Int) (i4_ : Int) (p6_ : Pt) (p7_ : Pt) (p8_ : Pt) (s39_ : Sl) (i40_ : Int) (i41_ : Int) (h : H) : impl_newStrip_1_w0 S K X0 (impl_newStrip_1_e0 i0_ i1_ i2_ i3_ i4_ p6_ p7_ p8_ s39_ i40_ i41_) h = impl_newStrip_1_b0 S K X0 i0_ i1_ i2_ i3_ i4_ p6_ p7_ p8_ s39_ i40_ i41_ h := by kernel_rfl
theorem impl_newStrip_1_rule0 (S : SatT) (K : AVal → H → Prop) (i1_ : Int) (i2_ : Int) (i3_ : Int) (i4_ : Int) (p6_ : Pt) (p7_ : Pt) (p8_ : Pt) (s39_ : Sl) (i40_ : Int) (I_ : Int → Int → H → Prop) (m_ : Int → Int → H → Nat)
    (hs : ∀ (X0 : Frame → H → Prop) (i0_ : Int) (i41_ : Int) (h : H), I_ i0_ i41_ h → (∀ (i0_' : Int) (i41_' : Int) (h' : H), I_ i0_' i41_' h' → m_ i0_' i41_' h' < m_ i0_ i41_ h → X0 (impl_newStrip_1_e0 i0_' i1_ i2_ i3_ i4_ p6_ p7_ p8_ s39_ i40_ i41_') h') → impl_newStrip_1_b0 S K X0 i0_ i1_ i2_ i3_ i4_ p6_ p7_ p8_ s39_ i40_ i41_ h) (i0_ : Int) (i41_ : Int) {h : H} (h0 : I_ i0_ i41_ h) : impl_newStrip_1_L0 S K i0_ i1_ i2_ i3_ i4_ p6_ p7_ p8_ s39_ i40_ i41_ h :=
  loop_rule (σ := (Int) × (Int)) (fun s_ => impl_newStrip_1_e0 (s_.1) i1_ i2_ i3_ i4_ p6_ p7_ p8_ s39_ i40_ (s_.2)) (fun s_ h => I_ (s_.1) (s_.2) h) (fun s_ h => m_ (s_.1) (s_.2) h)
    (fun X s_ h hi hx => (impl_newStrip_1_link0 S K X (s_.1) i1_ i2_ i3_ i4_ p6_ p7_ p8_ s39_ i40_ (s_.2) h).mpr (hs X (s_.1) (s_.2) h hi fun i0_' i41_' h' hi' hm' => hx (i0_', i41_') h' hi' hm')) (i0_, i41_) h0
theorem impl_newStrip_1_unroll0 (S : SatT) (K : AVal → H → Prop) (i0_ : Int) (i1_ : Int) (i2_ : Int) (i3_ : Int) (i4_ : Int) (p6_ : Pt) (p7_ : Pt) (p8_ : Pt) (s39_ : Sl) (i40_ : Int) (i41_ : Int) (h : H) (hb : impl_newStrip_1_b0 S K (fun fr h => loopK (impl_newStrip_1_w0 S K) fr h) i0_ i1_ i2_ i3_ i4_ p6_ p7_ p8_ s39_ i40_ i41_ h) : impl_newStrip_1_L0 S K i0_ i1_ i2_ i3_ i4_ p6_ p7_ p8_ s39_ i40_ i41_ h := loop_unroll ((impl_newStrip_1_link0 S K _ i0_ i1_ i2_ i3_ i4_ p6_ p7_ p8_ s39_ i40_ i41_ h).mpr hb)
def impl_newStrip_1_main (S : SatT) (K : AVal → H → Prop) (x0 : Int) (x1 : Int) (x2 : Int) (x3 : Int) (x4 : Int) (x5 : Pt) (x6 : Pt) (x7 : Pt) (x8 : Pt) (h : H) : Prop :=
 bif (x4 == (0)) then
 ldP x5 h fun p0 =>
 ldP x5 h fun p1 =>
 nilC (.ptr p1) (
 isPt p1 (
 ldS (Pt.add p1 4) h fun s2 =>
 lenA [.int .i64 x2, .int .i64 x3, .int .i64 x0] 3 (
 newS 1 3 (spl [.int .i64 (0), .int .i64 (0), .int .i64 (0)] 0 3 [.int .i64 x2, .int .i64 x3, .int .i64 x0]) h fun s3 h4 =>
(cell h4 (Pt.add p1 4) = cell h (Pt.add p1 4)) ∧ (
(cell h4 x5 = cell h x5) ∧ (
(cell h4 x5 = cell h x5) ∧ (
 app s2 s3 3 h4 fun s5 h6 =>
(cell h6 x5 = cell h x5) ∧ (
 nilC (.ptr p0) (
 isPt p0 (
 st1 (Pt.add p0 4) (.sl s5) h6 fun h7 =>
 ldP x5 h7 fun p8 =>
 nilC (.ptr p8) (
 isPt p8 (
 ldS (Pt.add p8 4) h7 fun s9 =>
 K (.bool (decide ((s9.len : Int) ≤ (5000)))) h7)))))))))))
 else
 isPt x6 (
 ldS (Pt.add x6 1) h fun s10 =>
 impl_newStrip_1_L0 S K x0 x1 x2 x3 x4 x6 x7 x8 s10 (s10.len : Int) (0) h)
theorem impl_newStrip_1_main_link (S : SatT) (K : AVal → H → Prop) (x0 : Int) (x1 : Int) (x2 : Int) (x3 : Int) (x4 : Int) (x5 : Pt) (x6 : Pt) (x7 : Pt) (x8 : Pt) (h : H) : cwp S tab impl_newStrip_1_M [] (bodyOf Try.f116) (kFun tab Try.f116.results.toList K) (fr0 Try.f116 [.int .i64 x0, .int .i64 x1, .int .i64 x2, .int .i64 x3, .int .i64 x4, .ptr x5, .ptr x6, .ptr x7, .ptr x8]) h = impl_newStrip_1_main S K x0 x1 x2 x3 x4 x5 x6 x7 x8 h := by kernel_rfl
theorem impl_newStrip_1_call (x0 : Int) (x1 : Int) (x2 : Int) (x3 : Int) (x4 : Int) (x5 : Pt) (x6 : Pt) (x7 : Pt) (x8 : Pt) (h : H) (K : Bool → H → Prop) (hm : impl_newStrip_1_main (Sat Try.prog) (fun v h' => ∃ r, v = .bool r ∧ K r h') x0 x1 x2 x3 x4 x5 x6 x7 x8 h) : callB (Sat Try.prog) i_impl_newStrip_1 [.int .i64 x0, .int .i64 x1, .int .i64 x2, .int .i64 x3, .int .i64 x4, .ptr x5, .ptr x6, .ptr x7, .ptr x8] h K := by
  have := Sat.ex tok mixed impl_newStrip_1_M Try.func116 (c := bodyOf Try.f116) (by kernel_rfl) (calls_of Try.func116 (c := bodyOf Try.f116) (by kernel_rfl) (by decide)) ((impl_newStrip_1_main_link _ _ x0 x1 x2 x3 x4 x5 x6 x7 x8 h).mpr hm)
  obtain ⟨v, h2, h3, r, rfl, h4⟩ := this; exact ⟨r, h2, h3, h4⟩

/-! ### loop.example/g01354/impl.LastingTiles -/
def impl_LastingTiles_M : Nat → List Nat := fun i => bif i == 0 then [4, 5, 6, 18, 19, 20] else []
def impl_LastingTiles_ks5 (S : SatT) (K : AVal → H → Prop) : Kont := kSeq (cwp S tab impl_LastingTiles_M [] (sub [1, 1, 1, 1] (bodyOf Try.f20)) (kFun tab (Try.f20).results.toList K)) (kFun tab (Try.f20).results.toList K)
def impl_LastingTiles_e0 (s4_ : Sl) (s5_ : Sl) (s6_ : Sl) (s18_ : Sl) (i19_ : Int) (i20_ : Int) : Frame := [U, U, U, U, .sl s4_, .sl s5_, .sl s6_, U, U, U, U, U, U, U, U, U, U, U, .sl s18_, .int .i64 i19_, .int .i64 i20_, U, U, U, U, U, U, U, U, U, U, U, U, U, U, U, U, U, U, U, U, U, U]
def impl_LastingTiles_w0 (S : SatT) (K : AVal → H → Prop) : (Frame → H → Prop) → Frame → H → Prop := fun X fr h => cwp S tab impl_LastingTiles_M (impl_LastingTiles_M 0) (sub [1, 1, 1, 0, 1, 0, 0] (bodyOf Try.f20)) (kSeq (fun fr h => X (mask (impl_LastingTiles_M 0) fr) h) (kBlk 0 (impl_LastingTiles_ks5 S K))) fr h
def impl_LastingTiles_L0 (S : SatT) (K : AVal → H → Prop) (s4_ : Sl) (s5_ : Sl) (s6_ : Sl) (s18_ : Sl) (i19_ : Int) (i20_ : Int) (h : H) : Prop := loopK (impl_LastingTiles_w0 S K) (impl_LastingTiles_e0 s4_ s5_ s6_ s18_ i19_ i20_) h
def impl_LastingTiles_C0 (S : SatT) (K : AVal → H → Prop) (s4_ : Sl) (h : H) : Prop :=
 K (.tuple [.sl s4_, .int .i64 (0)]) h
def impl_LastingTiles_b0 (S : SatT) (K : AVal → H → Prop) (X0 : Frame → H → Prop) (s4_ : Sl) (s5_ : Sl) (s6_ : Sl) (s18_ : Sl) (i19_ : Int) (i20_ : Int) (h : H) : Prop :=
 bif (decide (i20_ < i19_)) then
 ixS s18_ 4 i20_ fun p0 =>
 ldA p0 4 h fun cs1 =>
 newO [.int .i64 (0), .int .i64 (0), .int .i64 (0), .int .i64 (0)] h fun p2 h3 =>
 stN p2 4 cs1 h3 fun h4 =>
 ixA p2 4 1 (0) fun p5 =>
 ldI .i64 p5 h4 fun n6 =>
 ixS s5_ 1 n6 fun p7 =>
 ldB p7 h4 fun b8 =>
 bif b8 then
 ixA p2 4 1 (2) fun p9 =>
 ldI .i64 p9 h4 fun n10 =>
 ixS s6_ 1 n10 fun p11 =>
 ldB p11 h4 fun b12 =>
 bif b12 then
 newS 1 1 [.int .i64 i20_] h4 fun s13 h14 =>
 app s4_ s13 1 h14 fun s15 h16 =>
 X0 (impl_LastingTiles_e0 s15 s5_ s6_ s18_ i19_ (w64 (i20_ + (1)))) h16
 else
 X0 (impl_LastingTiles_e0 s4_ s5_ s6_ s18_ i19_ (w64 (i20_ + (1)))) h4
 else
 X0 (impl_LastingTiles_e0 s4_ s5_ s6_ s18_ i19_ (w64 (i20_ + (1)))) h4
 else
 impl_LastingTiles_C0 S K s4_ h
theorem impl_LastingTiles_link0 (S : SatT) (K : AVal → H → Prop) (X0 : Frame → H → Prop) (s4_ : Sl) (s5_ : Sl) (s6_ : Sl) (s18_ : Sl) (i19_ : Int) (i20_ : Int) (h : H) : impl_LastingTiles_w0 S K X0 (impl_LastingTiles_e0 s4_ s5_ s6_ s18_ i19_ i20_) h = impl_LastingTiles_b0 S K X0 s4_ s5_ s6_ s18_ i19_ i20_ h := by kernel_rfl
theorem impl_LastingTiles_rule0 (S : SatT) (K : AVal → H → Prop) (s5_ : Sl) (s6_ : Sl) (s18_ : Sl) (i19_ : Int) (I_ : Sl → Int → H → Prop) (m_ : Sl → Int → H → Nat)
    (hs : ∀ (X0 : Frame → H → Prop) (s4_ : Sl) (i20_ : Int) (h : H), I_ s4_ i20_ h → (∀ (s4_' : Sl) (i20_' : Int) (h' : H), I_ s4_' i20_' h' → m_ s4_' i20_' h' < m_ s4_ i20_ h → X0 (impl_LastingTiles_e0 s4_' s5_ s6_ s18_ i19_ i20_') h') → impl_LastingTiles_b0 S K X0 s4_ s5_ s6_ s18_ i19_ i20_ h) (s4_ : Sl) (i20_ : Int) {h : H} (h0 : I_ s4_ i20_ h) : impl_LastingTiles_L0 S K s4_ s5_ s6_ s18_ i19_ i20_ h :=
  loop_rule (σ := (Sl) × (Int)) (fun s_ => impl_LastingTiles_e0 (s_.1) s5_ s6_ s18_ i19_ (s_.2)) (fun s_ h => I_ (s_.1) (s_.2) h) (fun s_ h => m_ (s_.1) (s_.2) h)
    (fun X s_ h hi hx => (impl_LastingTiles_link0 S K X (s_.1) s5_ s6_ s18_ i19_ (s_.2) h).mpr (hs X (s_.1) (s_.2) h hi fun s4_' i20_' h' hi' hm' => hx (s4_', i20_') h' hi' hm')) (s4_, i20_) h0
theorem impl_LastingTiles_unroll0 (S : SatT) (K : AVal → H → Prop) (s4_ : Sl) (s5_ : Sl) (s6_ : Sl) (s18_ : Sl) (i19_ : Int) (i20_ : Int) (h : H) (hb : impl_LastingTiles_b0 S K (fun fr h => loopK (impl_LastingTiles_w0 S K) fr h) s4_ s5_ s6_ s18_ i19_ i20_ h) : impl_LastingTiles_L0 S K s4_ s5_ s6_ s18_ i19_ i20_ h := loop_unroll ((impl_LastingTiles_link0 S K _ s4_ s5_ s6_ s18_ i19_ i20_ h).mpr hb)
def impl_LastingTiles_main (S : SatT) (K : AVal → H → Prop) (x0 : List AVal) (h : H) : Prop :=
 newK 2 x0 h fun p0 h1 =>
 ldA p0 2 h1 fun cs2 =>
 callB S i_impl_IsSet [.agg cs2] h1 fun b4 h3 =>
 bif (!b4) then
 K (.tuple [.sl Sl.nil, .int .i64 (1)]) h3
 else
 slotK 8 h3 fun h5 =>
 ldA p0 2 h5 fun cs6 =>
 callS S i_impl_Set_endless [.agg cs6, .int .i64 (2), .int .i64 (0)] h5 fun s8 h7 =>
 ldA p0 2 h7 fun cs9 =>
(range h5 p0.o p0.n p0.off 2 = range h7 p0.o p0.n p0.off 2) ∧ (
 callS S i_impl_Set_endless [.agg cs9, .int .i64 (0), .int .i64 (2)] h7 fun s11 h10 =>
 newSat 0 1 [] h10 (h3.length + 0) fun s12 h13 =>
(range h10 p0.o p0.n p0.off 2 = range h7 p0.o p0.n p0.off 2) ∧ (
(range h10 p0.o p0.n p0.off 2 = range h5 p0.o p0.n p0.off 2) ∧ (
(range h13 p0.o p0.n p0.off 2 = range h7 p0.o p0.n p0.off 2) ∧ (
(range h13 p0.o p0.n p0.off 2 = range h5 p0.o p0.n p0.off 2) ∧ (
 isPt p0 (
 ldS (Pt.add p0 1) h13 fun s14 =>
 impl_LastingTiles_L0 S K s12 s8 s11 s14 (s14.len : Int) (0) h13))))))
theorem impl_LastingTiles_main_link (S : SatT) (K : AVal → H → Prop) (x0 : List AVal) (h : H) : cwp S tab impl_LastingTiles_M [] (bodyOf Try.f20) (kFun tab Try.f20.results.toList K) (fr0 Try.f20 [.agg x0]) h = impl_LastingTiles_main S K x0 h := by kernel_rfl
theorem impl_LastingTiles_call (x0 : List AVal) (h : H) (K : AVal → H → Prop) (hm : impl_LastingTiles_main (Sat Try.prog) (fun v h' => K v h') x0 h) : callV (Sat Try.prog) i_impl_LastingTiles [.agg x0] h K := by
  have := Sat.ex tok mixed impl_LastingTiles_M Try.func20 (c := bodyOf Try.f20) (by kernel_rfl) (calls_of Try.func20 (c := bodyOf Try.f20) (by kernel_rfl) (by decide)) ((impl_LastingTiles_main_link _ _ x0 h).mpr hm)
  exact this

/-! ### loop.example/g01354/impl.newStrip -/
def impl_newStrip_M : Nat → List Nat := fun i => bif i == 0 then [2, 3, 6, 12, 13] else []
def impl_newStrip_ks2 (S : SatT) (K : AVal → H → Prop) : Kont := kSeq (cwp S tab impl_newStrip_M [] (sub [1, 1, 1] (bodyOf Try.f92)) (kFun tab (Try.f92).results.toList K)) (kFun tab (Try.f92).results.toList K)
def impl_newStrip_e0 (p2_ : Pt) (p3_ : Pt) (p6_ : Pt) (i12_ : Int) (i13_ : Int) : Frame := [U, U, .ptr p2_, .ptr p3_, U, U, .ptr p6_, U, U, U, U, U, .int .i64 i12_, .int .i64 i13_, U, U, U, U, U, U, U, U, U, U, U, U, U, U, U, U, U, U, U, U, U]
def impl_newStrip_w0 (S : SatT) (K : AVal → H → Prop) : (Frame → H → Prop) → Frame → H → Prop := fun X fr h => cwp S tab impl_newStrip_M (impl_newStrip_M 0) (sub [1, 1, 0, 1, 0, 0] (bodyOf Try.f92)) (kSeq (fun fr h => X (mask (impl_newStrip_M 0) fr) h) (kBlk 0 (impl_newStrip_ks2 S K))) fr h
def impl_newStrip_L0 (S : SatT) (K : AVal → H → Prop) (p2_ : Pt) (p3_ : Pt) (p6_ : Pt) (i12_ : Int) (i13_ : Int) (h : H) : Prop := loopK (impl_newStrip_w0 S K) (impl_newStrip_e0 p2_ p3_ p6_ i12_ i13_) h
def impl_newStrip_C0 (S : SatT) (K : AVal → H → Prop) (p2_ : Pt) (p3_ : Pt) (p6_ : Pt) (h : H) : Prop :=
 ldP p6_ h fun p0 =>
 nilC (.ptr p0) (
 isPt p0 (
 ldI .i64 (Pt.add p0 3) h fun n1 =>
 bif (decide (n1 > (700))) then
 K (.tuple [.ptr Pt.nil, .bool false]) h
 else
 newO [.nilFunc] h fun p2 h3 =>
 st1 p2 (.func 116 [.ptr p6_, .ptr p2_, .ptr p3_, .ptr p2]) h3 fun h4 =>
 ldP p6_ h4 fun p5 =>
 ldV p2 h4 fun v6 =>
 ldI .i64 p3_ h4 fun n7 =>
 viaF v6 [.int .i64 (0), .int .i64 (0), .int .i64 (0), .int .i64 (0), .int .i64 n7] fun g8 ys9 =>
 callB S g8 ys9 h4 fun b11 h10 =>
(cell h10 p6_ = cell h4 p6_) ∧ (
 K (.tuple [.ptr p5, .bool b11]) h10)))
def impl_newStrip_b0 (S : SatT) (K : AVal → H → Prop) (X0 : Frame → H → Prop) (p2_ : Pt) (p3_ : Pt) (p6_ : Pt) (i12_ : Int) (i13_ : Int) (h : H) : Prop :=
 bif (decide (i13_ < i12_)) then
 ldP p6_ h fun p0 =>
 nilC (.ptr p0) (
 isPt p0 (
 ldI .i64 (Pt.add p0 3) h fun n1 =>
 isPt p2_ (
 ldI .i64 (Pt.add p2_ 0) h fun n2 =>
 nilC (.ptr p0) (
 isPt p0 (
 st1 (Pt.add p0 3) (.int .i64 (w64 (n1 * n2))) h fun h3 =>
 X0 (impl_newStrip_e0 p2_ p3_ p6_ i12_ (w64 (i13_ + (1)))) h3)))))
 else
 impl_newStrip_C0 S K p2_ p3_ p6_ h
theorem impl_newStrip_link0 (S : SatT) (K : AVal → H → Prop) (X0 : Frame → H → Prop) (p2_ : Pt) (p3_ : Pt) (p6_ : Pt) (i12_ : Int) (i13_ : Int) (h : H) : impl_newStrip_w0 S K X0 (impl_newStrip_e0 p2_ p3_ p6_ i12_ i13_) h = impl_newStrip_b0 S K X0 p2_ p3_ p6_ i12_ i13_ h := by kernel_rfl
theorem impl_newStrip_rule0 (S : SatT) (K : AVal → H → Prop) (p2_ : Pt) (p3_ : Pt) (p6_ : Pt) (i12_ : Int) (I_ : Int → H → Prop) (m_ : Int → H → Nat)
    (hs : ∀ (X0 : Frame → H → Prop) (i13_ : Int) (h : H), I_ i13_ h → (∀ (i13_' : Int) (h' : H), I_ i13_' h' → m_ i13_' h' < m_ i13_ h → X0 (impl_newStrip_e0 p2_ p3_ p6_ i12_ i13_') h') → impl_newStrip_b0 S K X0 p2_ p3_ p6_ i12_ i13_ h) (i13_ : Int) {h : H} (h0 : I_ i13_ h) : impl_newStrip_L0 S K p2_ p3_ p6_ i12_ i13_ h :=
  loop_rule (σ := (Int)) (fun s_ => impl_newStrip_e0 p2_ p3_ p6_ i12_ (s_)) (fun s_ h => I_ (s_) h) (fun s_ h => m_ (s_) h)
    (fun X s_ h hi hx => (impl_newStrip_link0 S K X p2_ p3_ p6_ i12_ (s_) h).mpr (hs X (s_) h hi fun i13_' h' hi' hm' => hx (i13_') h' hi' hm')) (i13_) h0
theorem impl_newStrip_unroll0 (S : SatT) (K : AVal → H → Prop) (p2_ : Pt) (p3_ : Pt) (p6_ : Pt) (i12_ : Int) (i13_ : Int) (h : H) (hb : impl_newStrip_b0 S K (fun fr h => loopK (impl_newStrip_w0 S K) fr h) p2_ p3_ p6_ i12_ i13_ h) : impl_newStrip_L0 S K p2_ p3_ p6_ i12_ i13_ h := loop_unroll ((impl_newStrip_link0 S K _ p2_ p3_ p6_ i12_ i13_ h).mpr hb)
def impl_newStrip_main (S : SatT) (K : AVal → H → Prop) (x0 : List AVal) (x1 : Int) (h : H) : Prop :=
 newK 2 x0 h fun p0 h1 =>
 newO [.int .i64 x1] h1 fun p2 h3 =>
 ldA p0 2 h3 fun cs4 =>
 ldI .i64 p2 h3 fun n5 =>
 lenA cs4 2 (
 newK 5 (spl (spl (spl [.int .i64 (0), .sl Sl.nil, .int .i64 (0), .int .i64 (0), .sl Sl.nil] 0 2 cs4) 2 1 [.int .i64 n5]) 3 1 [.int .i64 (1)]) h3 fun p6 h7 =>
 newO [.ptr Pt.nil] h7 fun p8 h9 =>
 st1 p8 (.ptr p6) h9 fun h10 =>
 ldI .i64 p2 h10 fun n11 =>
 impl_newStrip_L0 S K p0 p2 p8 n11 (0) h10)
theorem impl_newStrip_main_link (S : SatT) (K : AVal → H → Prop) (x0 : List AVal) (x1 : Int) (h : H) : cwp S tab impl_newStrip_M [] (bodyOf Try.f92) (kFun tab Try.f92.results.toList K) (fr0 Try.f92 [.agg x0, .int .i64 x1]) h = impl_newStrip_main S K x0 x1 h := by kernel_rfl
theorem impl_newStrip_call (x0 : List AVal) (x1 : Int) (h : H) (K : AVal → H → Prop) (hm : impl_newStrip_main (Sat Try.prog) (fun v h' => K v h') x0 x1 h) : callV (Sat Try.prog) i_impl_newStrip [.agg x0, .int .i64 x1] h K := by
  have := Sat.ex tok mixed impl_newStrip_M Try.func92 (c := bodyOf Try.f92) (by kernel_rfl) (calls_of Try.func92 (c := bodyOf Try.f92) (by kernel_rfl) (by decide)) ((impl_newStrip_main_link _ _ x0 x1 h).mpr hm)
  exact this

/-! ### slices.Repeat[[]int64,int64] -/
def slices_Repeat_s_int64_int64__M : Nat → List Nat := fun i => bif i == 0 then [7, 8] else []
def slices_Repeat_s_int64_int64__ks8 (S : SatT) (K : AVal → H → Prop) : Kont := kSeq (cwp S tab slices_Repeat_s_int64_int64__M [] (sub [1, 1, 1, 1, 1, 1, 1] (bodyOf Try.f99)) (kFun tab (Try.f99).results.toList K)) (kFun tab (Try.f99).results.toList K)
def slices_Repeat_s_int64_int64__e0 (s7_ : Sl) (i8_ : Int) : Frame := [U, U, U, U, U, U, U, .sl s7_, .int .i64 i8_, U, U, U, U, U, U, U, U, U, U, U, U, U, U, U, U, U, U, U, U, U, U, U, U, U, U, U, U, U, U, U, U, U, U, U, U, U, U, U]
def slices_Repeat_s_int64_int64__w0 (S : SatT) (K : AVal → H → Prop) : (Frame → H → Prop) → Frame → H → Prop := fun X fr h => cwp S tab slices_Repeat_s_int64_int64__M (slices_Repeat_s_int64_int64__M 0) (sub [1, 1, 1, 1, 1, 1, 0, 0, 0] (bodyOf Try.f99)) (kSeq (fun fr h => X (mask (slices_Repeat_s_int64_int64__M 0) fr) h) (kBlk 0 (slices_Repeat_s_int64_int64__ks8 S K))) fr h
def slices_Repeat_s_int64_int64__L0 (S : SatT) (K : AVal → H → Prop) (s7_ : Sl) (i8_ : Int) (h : H) : Prop := loopK (slices_Repeat_s_int64_int64__w0 S K) (slices_Repeat_s_int64_int64__e0 s7_ i8_) h
def slices_Repeat_s_int64_int64__C0 (S : SatT) (K : AVal → H → Prop) (s7_ : Sl) (h : H) : Prop :=
 K (.sl s7_) h
def slices_Repeat_s_int64_int64__b0 (S : SatT) (K : AVal → H → Prop) (X0 : Frame → H → Prop) (s7_ : Sl) (i8_ : Int) (h : H) : Prop :=
 bif (decide (i8_ < (s7_.len : Int))) then
 cut s7_ 1 i8_ (s7_.len : Int) h fun s0 =>
 cut s7_ 1 (0) i8_ h fun s1 =>
 copyS s0 s1 1 h fun n2 h3 =>
 X0 (slices_Repeat_s_int64_int64__e0 s7_ (w64 (i8_ + n2))) h3
 else
 slices_Repeat_s_int64_int64__C0 S K s7_ h
theorem slices_Repeat_s_int64_int64__link0 (S : SatT) (K : AVal → H → Prop) (X0 : Frame → H → Prop) (s7_ : Sl) (i8_ : Int) (h : H) : slices_Repeat_s_int64_int64__w0 S K X0 (slices_Repeat_s_int64_int64__e0 s7_ i8_) h = slices_Repeat_s_int64_int64__b0 S K X0 s7_ i8_ h := by kernel_rfl
theorem slices_Repeat_s_int64_int64__rule0 (S : SatT) (K : AVal → H → Prop) (s7_ : Sl) (I_ : Int → H → Prop) (m_ : Int → H → Nat)
    (hs : ∀ (X0 : Frame → H → Prop) (i8_ : Int) (h : H), I_ i8_ h → (∀ (i8_' : Int) (h' : H), I_ i8_' h' → m_ i8_' h' < m_ i8_ h → X0 (slices_Repeat_s_int64_int64__e0 s7_ i8_') h') → slices_Repeat_s_int64_int64__b0 S K X0 s7_ i8_ h) (i8_ : Int) {h : H} (h0 : I_ i8_ h) : slices_Repeat_s_int64_int64__L0 S K s7_ i8_ h :=
  loop_rule (σ := (Int)) (fun s_ => slices_Repeat_s_int64_int64__e0 s7_ (s_)) (fun s_ h => I_ (s_) h) (fun s_ h => m_ (s_) h)
    (fun X s_ h hi hx => (slices_Repeat_s_int64_int64__link0 S K X s7_ (s_) h).mpr (hs X (s_) h hi fun i8_' h' hi' hm' => hx (i8_') h' hi' hm')) (i8_) h0
theorem slices_Repeat_s_int64_int64__unroll0 (S : SatT) (K : AVal → H → Prop) (s7_ : Sl) (i8_ : Int) (h : H) (hb : slices_Repeat_s_int64_int64__b0 S K (fun fr h => loopK (slices_Repeat_s_int64_int64__w0 S K) fr h) s7_ i8_ h) : slices_Repeat_s_int64_int64__L0 S K s7_ i8_ h := loop_unroll ((slices_Repeat_s_int64_int64__link0 S K _ s7_ i8_ h).mpr hb)
def slices_Repeat_s_int64_int64__main (S : SatT) (K : AVal → H → Prop) (x0 : Sl) (x1 : Int) (h : H) : Prop :=
 bif (decide (x1 < (0))) then
 False
 else
 callV S i_math_bits_Mul [.int .u64 (IntKind.wrap .u64 ((x0.len : Int))), .int .u64 (IntKind.wrap .u64 (x1))] h fun v1 h0 =>
 viaT v1 fun vs2 =>
 exI .u64 vs2 0 fun n3 =>
 viaT v1 fun vs4 =>
 exI .u64 vs4 1 fun n5 =>
 bif (decide (n3 > (0))) then
 False
 else
 bif (decide (n5 > (9223372036854775807))) then
 False
 else
 mkS (w64 (n5)) [.int .i64 (0)] h0 fun s6 h7 =>
 copyS s6 x0 1 h7 fun n8 h9 =>
 slices_Repeat_s_int64_int64__L0 S K s6 n8 h9
theorem slices_Repeat_s_int64_int64__main_link (S : SatT) (K : AVal → H → Prop) (x0 : Sl) (x1 : Int) (h : H) : cwp S tab slices_Repeat_s_int64_int64__M [] (bodyOf Try.f99) (kFun tab Try.f99.results.toList K) (fr0 Try.f99 [.sl x0, .int .i64 x1]) h = slices_Repeat_s_int64_int64__main S K x0 x1 h := by kernel_rfl
theorem slices_Repeat_s_int64_int64__call (x0 : Sl) (x1 : Int) (h : H) (K : Sl → H → Prop) (hm : slices_Repeat_s_int64_int64__main (Sat Try.prog) (fun v h' => ∃ r, v = .sl r ∧ K r h') x0 x1 h) : callS (Sat Try.prog) i_slices_Repeat_s_int64_int64_ [.sl x0, .int .i64 x1] h K := by
  have := Sat.ex tok mixed slices_Repeat_s_int64_int64__M Try.func99 (c := bodyOf Try.f99) (by kernel_rfl) (calls_of Try.func99 (c := bodyOf Try.f99) (by kernel_rfl) (by decide)) ((slices_Repeat_s_int64_int64__main_link _ _ x0 x1 h).mpr hm)
  obtain ⟨v, h2, h3, r, rfl, h4⟩ := this; exact ⟨r, h2, h3, h4⟩

/-! ### loop.example/g01354/spec.l04Find -/
def spec_l04Find_M : Nat → List Nat := fun i => bif i == 0 then [0, 1, 5, 6] else []
def spec_l04Find_ks2 (S : SatT) (K : AVal → H → Prop) : Kont := kSeq (cwp S tab spec_l04Find_M [] (sub [1, 1, 1] (bodyOf Try.f101)) (kFun tab (Try.f101).results.toList K)) (kFun tab (Try.f101).results.toList K)
def spec_l04Find_e0 (s0_ : Sl) (i1_ : Int) (i5_ : Int) (i6_ : Int) : Frame := [.sl s0_, .int .i64 i1_, U, U, U, .int .i64 i5_, .int .i64 i6_, U, U, U, U, U, U, U, U, U, U, U, U, U, U, U, U, U, U, U, U, U, U, U, U, U, U, U, U, U, U, U, U]
def spec_l04Find_w0 (S : SatT) (K : AVal → H → Prop) : (Frame → H → Prop) → Frame → H → Prop := fun X fr h => cwp S tab spec_l04Find_M (spec_l04Find_M 0) (sub [1, 1, 0, 0, 0] (bodyOf Try.f101)) (kSeq (fun fr h => X (mask (spec_l04Find_M 0) fr) h) (kBlk 0 (spec_l04Find_ks2 S K))) fr h
def spec_l04Find_L0 (S : SatT) (K : AVal → H → Prop) (s0_ : Sl) (i1_ : Int) (i5_ : Int) (i6_ : Int) (h : H) : Prop := loopK (spec_l04Find_w0 S K) (spec_l04Find_e0 s0_ i1_ i5_ i6_) h
def spec_l04Find_C0 (S : SatT) (K : AVal → H → Prop) (s0_ : Sl) (i1_ : Int) (i5_ : Int) (h : H) : Prop :=
 bif (decide (i5_ < (s0_.len : Int))) then
 ixS s0_ 1 i5_ fun p0 =>
 ldI .i64 p0 h fun n1 =>
 bif (n1 == i1_) then
 K (.int .i64 i5_) h
 else
 K (.int .i64 (-1)) h
 else
 K (.int .i64 (-1)) h
def spec_l04Find_b0 (S : SatT) (K : AVal → H → Prop) (X0 : Frame → H → Prop) (s0_ : Sl) (i1_ : Int) (i5_ : Int) (i6_ : Int) (h : H) : Prop :=
 bif (decide (i5_ < i6_)) then
 nz (2) (
 ixS s0_ 1 (w64 (Int.tdiv (w64 (i5_ + i6_)) (2))) fun p0 =>
 ldI .i64 p0 h fun n1 =>
 bif (decide (n1 < i1_)) then
 X0 (spec_l04Find_e0 s0_ i1_ (w64 ((w64 (Int.tdiv (w64 (i5_ + i6_)) (2))) + (1))) i6_) h
 else
 X0 (spec_l04Find_e0 s0_ i1_ i5_ (w64 (Int.tdiv (w64 (i5_ + i6_)) (2)))) h)
 else
 spec_l04Find_C0 S K s0_ i1_ i5_ h
theorem spec_l04Find_link0 (S : SatT) (K : AVal → H → Prop) (X0 : Frame → H → Prop) (s0_ : Sl) (i1_ : Int) (i5_ : Int) (i6_ : Int) (h : H) : spec_l04Find_w0 S K X0 (spec_l04Find_e0 s0_ i1_ i5_ i6_) h = spec_l04Find_b0 S K X0 s0_ i1_ i5_ i6_ h := by kernel_rfl
theorem spec_l04Find_rule0 (S : SatT) (K : AVal → H → Prop) (s0_ : Sl) (i1_ : Int) (I_ : Int → Int → H → Prop) (m_ : Int → Int → H → Nat)
    (hs : ∀ (X0 : Frame → H → Prop) (i5_ : Int) (i6_ : Int) (h : H), I_ i5_ i6_ h → (∀ (i5_' : Int) (i6_' : Int) (h' : H), I_ i5_' i6_' h' → m_ i5_' i6_' h' < m_ i5_ i6_ h → X0 (spec_l04Find_e0 s0_ i1_ i5_' i6_') h') → spec_l04Find_b0 S K X0 s0_ i1_ i5_ i6_ h) (i5_ : Int) (i6_ : Int) {h : H} (h0 : I_ i5_ i6_ h) : spec_l04Find_L0 S K s0_ i1_ i5_ i6_ h :=
  loop_rule (σ := (Int) × (Int)) (fun s_ => spec_l04Find_e0 s0_ i1_ (s_.1) (s_.2)) (fun s_ h => I_ (s_.1) (s_.2) h) (fun s_ h => m_ (s_.1) (s_.2) h)
    (fun X s_ h hi hx => (spec_l04Find_link0 S K X s0_ i1_ (s_.1) (s_.2) h).mpr (hs X (s_.1) (s_.2) h hi fun i5_' i6_' h' hi' hm' => hx (i5_', i6_') h' hi' hm')) (i5_, i6_) h0
theorem spec_l04Find_unroll0 (S : SatT) (K : AVal → H → Prop) (s0_ : Sl) (i1_ : Int) (i5_ : Int) (i6_ : Int) (h : H) (hb : spec_l04Find_b0 S K (fun fr h => loopK (spec_l04Find_w0 S K) fr h) s0_ i1_ i5_ i6_ h) : spec_l04Find_L0 S K s0_ i1_ i5_ i6_ h := loop_unroll ((spec_l04Find_link0 S K _ s0_ i1_ i5_ i6_ h).mpr hb)
def spec_l04Find_main (S : SatT) (K : AVal → H → Prop) (x0 : Sl) (x1 : Int) (h : H) : Prop :=
 spec_l04Find_L0 S K x0 x1 (0) (x0.len : Int) h
theorem spec_l04Find_main_link (S : SatT) (K : AVal → H → Prop) (x0 : Sl) (x1 : Int) (h : H) : cwp S tab spec_l04Find_M [] (bodyOf Try.f101) (kFun tab Try.f101.results.toList K) (fr0 Try.f101 [.sl x0, .int .i64 x1]) h = spec_l04Find_main S K x0 x1 h := by kernel_rfl
theorem spec_l04Find_call (x0 : Sl) (x1 : Int) (h : H) (K : Int → H → Prop) (hm : spec_l04Find_main (Sat Try.prog) (fun v h' => ∃ r, v = .int .i64 r ∧ K r h') x0 x1 h) : callI (Sat Try.prog) .i64 i_spec_l04Find [.sl x0, .int .i64 x1] h K := by
  have := Sat.ex tok mixed spec_l04Find_M Try.func101 (c := bodyOf Try.f101) (by kernel_rfl) (calls_of Try.func101 (c := bodyOf Try.f101) (by kernel_rfl) (by decide)) ((spec_l04Find_main_link _ _ x0 x1 h).mpr hm)
  obtain ⟨v, h2, h3, r, rfl, h4⟩ := this; exact ⟨r, h2, h3, h4⟩

/-! ### loop.example/g01354/spec.l06Word -/
def spec_l06Word_M : Nat → List Nat := fun i => bif i == 0 then [0, 1, 7, 8] else []
def spec_l06Word_ks2 (S : SatT) (K : AVal → H → Prop) : Kont := kSeq (cwp S tab spec_l06Word_M [] (sub [1, 1, 1] (bodyOf Try.f74)) (kFun tab (Try.f74).results.toList K)) (kFun tab (Try.f74).results.toList K)
def spec_l06Word_e0 (i0_ : Int) (i1_ : Int) (s7_ : Sl) (i8_ : Int) : Frame := [.int .i64 i0_, .int .i64 i1_, U, U, U, U, U, .sl s7_, .int .i64 i8_, U, U, U, U, U, U, U, U, U, U, U, U, U, U, U, U, U, U]
def spec_l06Word_w0 (S : SatT) (K : AVal → H → Prop) : (Frame → H → Prop) → Frame → H → Prop := fun X fr h => cwp S tab spec_l06Word_M (spec_l06Word_M 0) (sub [1, 1, 0, 1, 0, 0] (bodyOf Try.f74)) (kSeq (fun fr h => X (mask (spec_l06Word_M 0) fr) h) (kBlk 0 (spec_l06Word_ks2 S K))) fr h
def spec_l06Word_L0 (S : SatT) (K : AVal → H → Prop) (i0_ : Int) (i1_ : Int) (s7_ : Sl) (i8_ : Int) (h : H) : Prop := loopK (spec_l06Word_w0 S K) (spec_l06Word_e0 i0_ i1_ s7_ i8_) h
def spec_l06Word_C0 (S : SatT) (K : AVal → H → Prop) (s7_ : Sl) (h : H) : Prop :=
 K (.sl s7_) h
def spec_l06Word_b0 (S : SatT) (K : AVal → H → Prop) (X0 : Frame → H → Prop) (i0_ : Int) (i1_ : Int) (s7_ : Sl) (i8_ : Int) (h : H) : Prop :=
 bif (decide (i8_ ≥ (0))) then
 nz i1_ (
 ixS s7_ 1 i8_ fun p0 =>
 st1 p0 (.int .i64 (Int.tmod i0_ i1_)) h fun h1 =>
 nz i1_ (
 X0 (spec_l06Word_e0 (w64 (Int.tdiv i0_ i1_)) i1_ s7_ (w64 (i8_ - (1)))) h1))
 else
 spec_l06Word_C0 S K s7_ h
theorem spec_l06Word_link0 (S : SatT) (K : AVal → H → Prop) (X0 : Frame → H → Prop) (i0_ : Int) (i1_ : Int) (s7_ : Sl) (i8_ : Int) (h : H) : spec_l06Word_w0 S K X0 (spec_l06Word_e0 i0_ i1_ s7_ i8_) h = spec_l06Word_b0 S K X0 i0_ i1_ s7_ i8_ h := by kernel_rfl
theorem spec_l06Word_rule0 (S : SatT) (K : AVal → H → Prop) (i1_ : Int) (s7_ : Sl) (I_ : Int → Int → H → Prop) (m_ : Int → Int → H → Nat)
    (hs : ∀ (X0 : Frame → H → Prop) (i0_ : Int) (i8_ : Int) (h : H), I_ i0_ i8_ h → (∀ (i0_' : Int) (i8_' : Int) (h' : H), I_ i0_' i8_' h' → m_ i0_' i8_' h' < m_ i0_ i8_ h → X0 (spec_l06Word_e0 i0_' i1_ s7_ i8_') h') → spec_l06Word_b0 S K X0 i0_ i1_ s7_ i8_ h) (i0_ : Int) (i8_ : Int) {h : H} (h0 : I_ i0_ i8_ h) : spec_l06Word_L0 S K i0_ i1_ s7_ i8_ h :=
  loop_rule (σ := (Int) × (Int)) (fun s_ => spec_l06Word_e0 (s_.1) i1_ s7_ (s_.2)) (fun s_ h => I_ (s_.1) (s_.2) h) (fun s_ h => m_ (s_.1) (s_.2) h)
    (fun X s_ h hi hx => (spec_l06Word_link0 S K X (s_.1) i1_ s7_ (s_.2) h).mpr (hs X (s_.1) (s_.2) h hi fun i0_' i8_' h' hi' hm' => hx (i0_', i8_') h' hi' hm')) (i0_, i8_) h0
theorem spec_l06Word_unroll0 (S : SatT) (K : AVal → H → Prop) (i0_ : Int) (i1_ : Int) (s7_ : Sl) (i8_ : Int) (h : H) (hb : spec_l06Word_b0 S K (fun fr h => loopK (spec_l06Word_w0 S K) fr h) i0_ i1_ s7_ i8_ h) : spec_l06Word_L0 S K i0_ i1_ s7_ i8_ h := loop_unroll ((spec_l06Word_link0 S K _ i0_ i1_ s7_ i8_ h).mpr hb)
def spec_l06Word_main (S : SatT) (K : AVal → H → Prop) (x0 : Int) (x1 : Int) (x2 : Int) (h : H) : Prop :=
 mkS x2 [.int .i64 (0)] h fun s0 h1 =>
 spec_l06Word_L0 S K x0 x1 s0 (w64 (x2 - (1))) h1
theorem spec_l06Word_main_link (S : SatT) (K : AVal → H → Prop) (x0 : Int) (x1 : Int) (x2 : Int) (h : H) : cwp S tab spec_l06Word_M [] (bodyOf Try.f74) (kFun tab Try.f74.results.toList K) (fr0 Try.f74 [.int .i64 x0, .int .i64 x1, .int .i64 x2]) h = spec_l06Word_main S K x0 x1 x2 h := by kernel_rfl
theorem spec_l06Word_call (x0 : Int) (x1 : Int) (x2 : Int) (h : H) (K : Sl → H → Prop) (hm : spec_l06Word_main (Sat Try.prog) (fun v h' => ∃ r, v = .sl r ∧ K r h') x0 x1 x2 h) : callS (Sat Try.prog) i_spec_l06Word [.int .i64 x0, .int .i64 x1, .int .i64 x2] h K := by
  have := Sat.ex tok mixed spec_l06Word_M Try.func74 (c := bodyOf Try.f74) (by kernel_rfl) (calls_of Try.func74 (c := bodyOf Try.f74) (by kernel_rfl) (by decide)) ((spec_l06Word_main_link _ _ x0 x1 x2 h).mpr hm)
  obtain ⟨v, h2, h3, r, rfl, h4⟩ := this; exact ⟨r, h2, h3, h4⟩

/-! ### loop.example/g01354/laws.markInt64SS -/
def laws_markInt64SS_M : Nat → List Nat := fun i => bif i == 0 then [0, 1, 5] else []
def laws_markInt64SS_ks1 (S : SatT) (K : AVal → H → Prop) : Kont := kSeq (cwp S tab laws_markInt64SS_M [] (sub [1, 1] (bodyOf Try.f30)) (kFun tab (Try.f30).results.toList K)) (kFun tab (Try.f30).results.toList K)
def laws_markInt64SS_e0 (s0_ : Sl) (i1_ : Int) (i5_ : Int) : Frame := [.sl s0_, .int .i64 i1_, U, U, U, .int .i64 i5_, U, U, U, U, U, U, U, U, U, U, U, U, U]
def laws_markInt64SS_w0 (S : SatT) (K : AVal → H → Prop) : (Frame → H → Prop) → Frame → H → Prop := fun X fr h => cwp S tab laws_markInt64SS_M (laws_markInt64SS_M 0) (sub [1, 0, 1, 0, 0] (bodyOf Try.f30)) (kSeq (fun fr h => X (mask (laws_markInt64SS_M 0) fr) h) (kBlk 0 (laws_markInt64SS_ks1 S K))) fr h
def laws_markInt64SS_L0 (S : SatT) (K : AVal → H → Prop) (s0_ : Sl) (i1_ : Int) (i5_ : Int) (h : H) : Prop := loopK (laws_markInt64SS_w0 S K) (laws_markInt64SS_e0 s0_ i1_ i5_) h
def laws_markInt64SS_C0 (S : SatT) (K : AVal → H → Prop) (i1_ : Int) (h : H) : Prop :=
 K (.int .i64 i1_) h
def laws_markInt64SS_b0 (S : SatT) (K : AVal → H → Prop) (X0 : Frame → H → Prop) (s0_ : Sl) (i1_ : Int) (i5_ : Int) (h : H) : Prop :=
 bif (decide (i5_ < (s0_.len : Int))) then
 ixS s0_ 1 i5_ fun p0 =>
 ldS p0 h fun s1 =>
 callI S .i64 i_laws_markInt64S [.sl s1, .int .i64 i1_] h fun n3 h2 =>
 X0 (laws_markInt64SS_e0 s0_ n3 (w64 (i5_ + (1)))) h2
 else
 laws_markInt64SS_C0 S K i1_ h
theorem laws_markInt64SS_link0 (S : SatT) (K : AVal → H → Prop) (X0 : Frame → H → Prop) (s0_ : Sl) (i1_ : Int) (i5_ : Int) (h : H) : laws_markInt64SS_w0 S K X0 (laws_markInt64SS_e0 s0_ i1_ i5_) h = laws_markInt64SS_b0 S K X0 s0_ i1_ i5_ h := by kernel_rfl
theorem laws_markInt64SS_rule0 (S : SatT) (K : AVal → H → Prop) (s0_ : Sl) (I_ : Int → Int → H → Prop) (m_ : Int → Int → H → Nat)
    (hs : ∀ (X0 : Frame → H → Prop) (i1_ : Int) (i5_ : Int) (h : H), I_ i1_ i5_ h → (∀ (i1_' : Int) (i5_' : Int) (h' : H), I_ i1_' i5_' h' → m_ i1_' i5_' h' < m_ i1_ i5_ h → X0 (laws_markInt64SS_e0 s0_ i1_' i5_') h') → laws_markInt64SS_b0 S K X0 s0_ i1_ i5_ h) (i1_ : Int) (i5_ : Int) {h : H} (h0 : I_ i1_ i5_ h) : laws_markInt64SS_L0 S K s0_ i1_ i5_ h :=
  loop_rule (σ := (Int) × (Int)) (fun s_ => laws_markInt64SS_e0 s0_ (s_.1) (s_.2)) (fun s_ h => I_ (s_.1) (s_.2) h) (fun s_ h => m_ (s_.1) (s_.2) h)
    (fun X s_ h hi hx => (laws_markInt64SS_link0 S K X s0_ (s_.1) (s_.2) h).mpr (hs X (s_.1) (s_.2) h hi fun i1_' i5_' h' hi' hm' => hx (i1_', i5_') h' hi' hm')) (i1_, i5_) h0
theorem laws_markInt64SS_unroll0 (S : SatT) (K : AVal → H → Prop) (s0_ : Sl) (i1_ : Int) (i5_ : Int) (h : H) (hb : laws_markInt64SS_b0 S K (fun fr h => loopK (laws_markInt64SS_w0 S K) fr h) s0_ i1_ i5_ h) : laws_markInt64SS_L0 S K s0_ i1_ i5_ h := loop_unroll ((laws_markInt64SS_link0 S K _ s0_ i1_ i5_ h).mpr hb)
def laws_markInt64SS_main (S : SatT) (K : AVal → H → Prop) (x0 : Sl) (x1 : Int) (h : H) : Prop :=
 laws_markInt64SS_L0 S K x0 x1 (0) h
theorem laws_markInt64SS_main_link (S : SatT) (K : AVal → H → Prop) (x0 : Sl) (x1 : Int) (h : H) : cwp S tab laws_markInt64SS_M [] (bodyOf Try.f30) (kFun tab Try.f30.results.toList K) (fr0 Try.f30 [.sl x0, .int .i64 x1]) h = laws_markInt64SS_main S K x0 x1 h := by kernel_rfl
theorem laws_markInt64SS_call (x0 : Sl) (x1 : Int) (h : H) (K : Int → H → Prop) (hm : laws_markInt64SS_main (Sat Try.prog) (fun v h' => ∃ r, v = .int .i64 r ∧ K r h') x0 x1 h) : callI (Sat Try.prog) .i64 i_laws_markInt64SS [.sl x0, .int .i64 x1] h K := by
  have := Sat.ex tok mixed laws_markInt64SS_M Try.func30 (c := bodyOf Try.f30) (by kernel_rfl) (calls_of Try.func30 (c := bodyOf Try.f30) (by kernel_rfl) (by decide)) ((laws_markInt64SS_main_link _ _ x0 x1 h).mpr hm)
  obtain ⟨v, h2, h3, r, rfl, h4⟩ := this; exact ⟨r, h2, h3, h4⟩

/-! ### loop.example/g01354/spec.l06Size -/
def spec_l06Size_M : Nat → List Nat := fun i => bif i == 0 then [1, 2, 5, 6] else []
def spec_l06Size_ks2 (S : SatT) (K : AVal → H → Prop) : Kont := kSeq (cwp S tab spec_l06Size_M [] (sub [1, 1, 1] (bodyOf Try.f63)) (kFun tab (Try.f63).results.toList K)) (kFun tab (Try.f63).results.toList K)
def spec_l06Size_e0 (i1_ : Int) (p2_ : Pt) (i5_ : Int) (i6_ : Int) : Frame := [U, .int .i64 i1_, .ptr p2_, U, U, .int .i64 i5_, .int .i64 i6_, U, U, U, U, U, U, U, U, U, U]
def spec_l06Size_w0 (S : SatT) (K : AVal → H → Prop) : (Frame → H → Prop) → Frame → H → Prop := fun X fr h => cwp S tab spec_l06Size_M (spec_l06Size_M 0) (sub [1, 1, 0, 1, 0, 0] (bodyOf Try.f63)) (kSeq (fun fr h => X (mask (spec_l06Size_M 0) fr) h) (kBlk 0 (spec_l06Size_ks2 S K))) fr h
def spec_l06Size_L0 (S : SatT) (K : AVal → H → Prop) (i1_ : Int) (p2_ : Pt) (i5_ : Int) (i6_ : Int) (h : H) : Prop := loopK (spec_l06Size_w0 S K) (spec_l06Size_e0 i1_ p2_ i5_ i6_) h
def spec_l06Size_C0 (S : SatT) (K : AVal → H → Prop) (i5_ : Int) (h : H) : Prop :=
 K (.int .i64 i5_) h
def spec_l06Size_b0 (S : SatT) (K : AVal → H → Prop) (X0 : Frame → H → Prop) (i1_ : Int) (p2_ : Pt) (i5_ : Int) (i6_ : Int) (h : H) : Prop :=
 bif (decide (i6_ < i1_)) then
 isPt p2_ (
 ldI .i64 (Pt.add p2_ 0) h fun n0 =>
 X0 (spec_l06Size_e0 i1_ p2_ (w64 (i5_ * n0)) (w64 (i6_ + (1)))) h)
 else
 spec_l06Size_C0 S K i5_ h
theorem spec_l06Size_link0 (S : SatT) (K : AVal → H → Prop) (X0 : Frame → H → Prop) (i1_ : Int) (p2_ : Pt) (i5_ : Int) (i6_ : Int) (h : H) : spec_l06Size_w0 S K X0 (spec_l06Size_e0 i1_ p2_ i5_ i6_) h = spec_l06Size_b0 S K X0 i1_ p2_ i5_ i6_ h := by kernel_rfl
theorem spec_l06Size_rule0 (S : SatT) (K : AVal → H → Prop) (i1_ : Int) (p2_ : Pt) (I_ : Int → Int → H → Prop) (m_ : Int → Int → H → Nat)
    (hs : ∀ (X0 : Frame → H → Prop) (i5_ : Int) (i6_ : Int) (h : H), I_ i5_ i6_ h → (∀ (i5_' : Int) (i6_' : Int) (h' : H), I_ i5_' i6_' h' → m_ i5_' i6_' h' < m_ i5_ i6_ h → X0 (spec_l06Size_e0 i1_ p2_ i5_' i6_') h') → spec_l06Size_b0 S K X0 i1_ p2_ i5_ i6_ h) (i5_ : Int) (i6_ : Int) {h : H} (h0 : I_ i5_ i6_ h) : spec_l06Size_L0 S K i1_ p2_ i5_ i6_ h :=
  loop_rule (σ := (Int) × (Int)) (fun s_ => spec_l06Size_e0 i1_ p2_ (s_.1) (s_.2)) (fun s_ h => I_ (s_.1) (s_.2) h) (fun s_ h => m_ (s_.1) (s_.2) h)
    (fun X s_ h hi hx => (spec_l06Size_link0 S K X i1_ p2_ (s_.1) (s_.2) h).mpr (hs X (s_.1) (s_.2) h hi fun i5_' i6_' h' hi' hm' => hx (i5_', i6_') h' hi' hm')) (i5_, i6_) h0
theorem spec_l06Size_unroll0 (S : SatT) (K : AVal → H → Prop) (i1_ : Int) (p2_ : Pt) (i5_ : Int) (i6_ : Int) (h : H) (hb : spec_l06Size_b0 S K (fun fr h => loopK (spec_l06Size_w0 S K) fr h) i1_ p2_ i5_ i6_ h) : spec_l06Size_L0 S K i1_ p2_ i5_ i6_ h := loop_unroll ((spec_l06Size_link0 S K _ i1_ p2_ i5_ i6_ h).mpr hb)
def spec_l06Size_main (S : SatT) (K : AVal → H → Prop) (x0 : List AVal) (x1 : Int) (h : H) : Prop :=
 newK 2 x0 h fun p0 h1 =>
 spec_l06Size_L0 S K x1 p0 (1) (0) h1
theorem spec_l06Size_main_link (S : SatT) (K : AVal → H → Prop) (x0 : List AVal) (x1 : Int) (h : H) : cwp S tab spec_l06Size_M [] (bodyOf Try.f63) (kFun tab Try.f63.results.toList K) (fr0 Try.f63 [.agg x0, .int .i64 x1]) h = spec_l06Size_main S K x0 x1 h := by kernel_rfl
theorem spec_l06Size_call (x0 : List AVal) (x1 : Int) (h : H) (K : Int → H → Prop) (hm : spec_l06Size_main (Sat Try.prog) (fun v h' => ∃ r, v = .int .i64 r ∧ K r h') x0 x1 h) : callI (Sat Try.prog) .i64 i_spec_l06Size [.agg x0, .int .i64 x1] h K := by
  have := Sat.ex tok mixed spec_l06Size_M Try.func63 (c := bodyOf Try.f63) (by kernel_rfl) (calls_of Try.func63 (c := bodyOf Try.f63) (by kernel_rfl) (by decide)) ((spec_l06Size_main_link _ _ x0 x1 h).mpr hm)
  obtain ⟨v, h2, h3, r, rfl, h4⟩ := this; exact ⟨r, h2, h3, h4⟩

/-! ### loop.example/g01354/laws.eqInt64S -/
def laws_eqInt64S_M : Nat → List Nat := fun i => bif i == 0 then [0, 1, 5] else []
def laws_eqInt64S_ks4 (S : SatT) (K : AVal → H → Prop) : Kont := kSeq (cwp S tab laws_eqInt64S_M [] (sub [1, 1, 1] (bodyOf Try.f21)) (kFun tab (Try.f21).results.toList K)) (kFun tab (Try.f21).results.toList K)
def laws_eqInt64S_e0 (s0_ : Sl) (s1_ : Sl) (i5_ : Int) : Frame := [.sl s0_, .sl s1_, U, U, U, .int .i64 i5_, U, U, U, U, U, U, U, U, U, U, U, U, U, U, U, U, U, U, U, U]
def laws_eqInt64S_w0 (S : SatT) (K : AVal → H → Prop) : (Frame → H → Prop) → Frame → H → Prop := fun X fr h => cwp S tab laws_eqInt64S_M (laws_eqInt64S_M 0) (sub [1, 1, 0, 1, 0, 0] (bodyOf Try.f21)) (kSeq (fun fr h => X (mask (laws_eqInt64S_M 0) fr) h) (kBlk 0 (laws_eqInt64S_ks4 S K))) fr h
def laws_eqInt64S_L0 (S : SatT) (K : AVal → H → Prop) (s0_ : Sl) (s1_ : Sl) (i5_ : Int) (h : H) : Prop := loopK (laws_eqInt64S_w0 S K) (laws_eqInt64S_e0 s0_ s1_ i5_) h
def laws_eqInt64S_C0 (S : SatT) (K : AVal → H → Prop) (h : H) : Prop :=
 K (.bool true) h
def laws_eqInt64S_b0 (S : SatT) (K : AVal → H → Prop) (X0 : Frame → H → Prop) (s0_ : Sl) (s1_ : Sl) (i5_ : Int) (h : H) : Prop :=
 bif (decide (i5_ < (s0_.len : Int))) then
 ixS s0_ 1 i5_ fun p0 =>
 ldI .i64 p0 h fun n1 =>
 ixS s1_ 1 i5_ fun p2 =>
 ldI .i64 p2 h fun n3 =>
 bif (n1 != n3) then
 K (.bool false) h
 else
 X0 (laws_eqInt64S_e0 s0_ s1_ (w64 (i5_ + (1)))) h
 else
 laws_eqInt64S_C0 S K h
theorem laws_eqInt64S_link0 (S : SatT) (K : AVal → H → Prop) (X0 : Frame → H → Prop) (s0_ : Sl) (s1_ : Sl) (i5_ : Int) (h : H) : laws_eqInt64S_w0 S K X0 (laws_eqInt64S_e0 s0_ s1_ i5_) h = laws_eqInt64S_b0 S K X0 s0_ s1_ i5_ h := by kernel_rfl
theorem laws_eqInt64S_rule0 (S : SatT) (K : AVal → H → Prop) (s0_ : Sl) (s1_ : Sl) (I_ : Int → H → Prop) (m_ : Int → H → Nat)
    (hs : ∀ (X0 : Frame → H → Prop) (i5_ : Int) (h : H), I_ i5_ h → (∀ (i5_' : Int) (h' : H), I_ i5_' h' → m_ i5_' h' < m_ i5_ h → X0 (laws_eqInt64S_e0 s0_ s1_ i5_') h') → laws_eqInt64S_b0 S K X0 s0_ s1_ i5_ h) (i5_ : Int) {h : H} (h0 : I_ i5_ h) : laws_eqInt64S_L0 S K s0_ s1_ i5_ h :=
  loop_rule (σ := (Int)) (fun s_ => laws_eqInt64S_e0 s0_ s1_ (s_)) (fun s_ h => I_ (s_) h) (fun s_ h => m_ (s_) h)
    (fun X s_ h hi hx => (laws_eqInt64S_link0 S K X s0_ s1_ (s_) h).mpr (hs X (s_) h hi fun i5_' h' hi' hm' => hx (i5_') h' hi' hm')) (i5_) h0
theorem laws_eqInt64S_unroll0 (S : SatT) (K : AVal → H → Prop) (s0_ : Sl) (s1_ : Sl) (i5_ : Int) (h : H) (hb : laws_eqInt64S_b0 S K (fun fr h => loopK (laws_eqInt64S_w0 S K) fr h) s0_ s1_ i5_ h) : laws_eqInt64S_L0 S K s0_ s1_ i5_ h := loop_unroll ((laws_eqInt64S_link0 S K _ s0_ s1_ i5_ h).mpr hb)
def laws_eqInt64S_main (S : SatT) (K : AVal → H → Prop) (x0 : Sl) (x1 : Sl) (h : H) : Prop :=
 bif ((x0.len : Int) != (x1.len : Int)) then
 K (.bool false) h
 else
 laws_eqInt64S_L0 S K x0 x1 (0) h
theorem laws_eqInt64S_main_link (S : SatT) (K : AVal → H → Prop) (x0 : Sl) (x1 : Sl) (h : H) : cwp S tab laws_eqInt64S_M [] (bodyOf Try.f21) (kFun tab Try.f21.results.toList K) (fr0 Try.f21 [.sl x0, .sl x1]) h = laws_eqInt64S_main S K x0 x1 h := by kernel_rfl
theorem laws_eqInt64S_call (x0 : Sl) (x1 : Sl) (h : H) (K : Bool → H → Prop) (hm : laws_eqInt64S_main (Sat Try.prog) (fun v h' => ∃ r, v = .bool r ∧ K r h') x0 x1 h) : callB (Sat Try.prog) i_laws_eqInt64S [.sl x0, .sl x1] h K := by
  have := Sat.ex tok mixed laws_eqInt64S_M Try.func21 (c := bodyOf Try.f21) (by kernel_rfl) (calls_of Try.func21 (c := bodyOf Try.f21) (by kernel_rfl) (by decide)) ((laws_eqInt64S_main_link _ _ x0 x1 h).mpr hm)
  obtain ⟨v, h2, h3, r, rfl, h4⟩ := this; exact ⟨r, h2, h3, h4⟩

/-! ### loop.example/g01354/spec.l06Code -/
def spec_l06Code_M : Nat → List Nat := fun i => []
def spec_l06Code_main (S : SatT) (K : AVal → H → Prop) (x0 : List AVal) (x1 : Int) (h : H) : Prop :=
 newK 2 x0 h fun p0 h1 =>
 ldA p0 2 h1 fun cs2 =>
 callB S i_spec_l01Is [.agg cs2] h1 fun b4 h3 =>
 bif (!b4) then
 K (.tuple [.sl Sl.nil, .int .i64 (1)]) h3
 else
 callB S i_spec_l01In [.int .i64 x1, .int .i64 (1), .int .i64 (4)] h3 fun b6 h5 =>
 bif (!b6) then
 K (.tuple [.sl Sl.nil, .int .i64 (2)]) h5
 else
 ldA p0 2 h5 fun cs7 =>
 callI S .i64 i_spec_l06Size [.agg cs7, .int .i64 x1] h5 fun n9 h8 =>
 bif (decide (n9 > (700))) then
 K (.tuple [.sl Sl.nil, .int .i64 (3)]) h8
 else
 ldA p0 2 h8 fun cs10 =>
 callV S i_spec_l06Columns [.agg cs10, .int .i64 x1] h8 fun v12 h11 =>
 viaT v12 fun vs13 =>
 exS vs13 0 fun s14 =>
 viaT v12 fun vs15 =>
 exB vs15 1 fun b16 =>
 bif (!b16) then
 K (.tuple [.sl Sl.nil, .int .i64 (3)]) h11
 else
 K (.tuple [.sl s14, .int .i64 (0)]) h11
theorem spec_l06Code_main_link (S : SatT) (K : AVal → H → Prop) (x0 : List AVal) (x1 : Int) (h : H) : cwp S tab spec_l06Code_M [] (bodyOf Try.f52) (kFun tab Try.f52.results.toList K) (fr0 Try.f52 [.agg x0, .int .i64 x1]) h = spec_l06Code_main S K x0 x1 h := by kernel_rfl
theorem spec_l06Code_call (x0 : List AVal) (x1 : Int) (h : H) (K : AVal → H → Prop) (hm : spec_l06Code_main (Sat Try.prog) (fun v h' => K v h') x0 x1 h) : callV (Sat Try.prog) i_spec_l06Code [.agg x0, .int .i64 x1] h K := by
  have := Sat.ex tok mixed spec_l06Code_M Try.func52 (c := bodyOf Try.f52) (by kernel_rfl) (calls_of Try.func52 (c := bodyOf Try.f52) (by kernel_rfl) (by decide)) ((spec_l06Code_main_link _ _ x0 x1 h).mpr hm)
  exact this

/-! ### cmp.Compare[int64] -/
def cmp_Compare_int64__M : Nat → List Nat := fun i => []
def cmp_Compare_int64__main (S : SatT) (K : AVal → H → Prop) (x0 : Int) (x1 : Int) (h : H) : Prop :=
 callB S i_cmp_isNaN_int64_ [.int .i64 x0] h fun b1 h0 =>
 callB S i_cmp_isNaN_int64_ [.int .i64 x1] h0 fun b3 h2 =>
 bif b1 then
 bif b3 then
 K (.int .i64 (0)) h2
 else
 K (.int .i64 (-1)) h2
 else
 bif b3 then
 K (.int .i64 (1)) h2
 else
 bif (decide (x0 < x1)) then
 K (.int .i64 (-1)) h2
 else
 bif (decide (x0 > x1)) then
 K (.int .i64 (1)) h2
 else
 K (.int .i64 (0)) h2
theorem cmp_Compare_int64__main_link (S : SatT) (K : AVal → H → Prop) (x0 : Int) (x1 : Int) (h : H) : cwp S tab cmp_Compare_int64__M [] (bodyOf Try.f126) (kFun tab Try.f126.results.toList K) (fr0 Try.f126 [.int .i64 x0, .int .i64 x1]) h = cmp_Compare_int64__main S K x0 x1 h := by kernel_rfl
theorem cmp_Compare_int64__call (x0 : Int) (x1 : Int) (h : H) (K : Int → H → Prop) (hm : cmp_Compare_int64__main (Sat Try.prog) (fun v h' => ∃ r, v = .int .i64 r ∧ K r h') x0 x1 h) : callI (Sat Try.prog) .i64 i_cmp_Compare_int64_ [.int .i64 x0, .int .i64 x1] h K := by
  have := Sat.ex tok mixed cmp_Compare_int64__M Try.func126 (c := bodyOf Try.f126) (by kernel_rfl) (calls_of Try.func126 (c := bodyOf Try.f126) (by kernel_rfl) (by decide)) ((cmp_Compare_int64__main_link _ _ x0 x1 h).mpr hm)
  obtain ⟨v, h2, h3, r, rfl, h4⟩ := this; exact ⟨r, h2, h3, h4⟩

/-! ### loop.example/g01354/impl.IsMixing -/
def impl_IsMixing_M : Nat → List Nat := fun i => []
def impl_IsMixing_main (S : SatT) (K : AVal → H → Prop) (x0 : List AVal) (x1 : Int) (h : H) : Prop :=
 newK 2 x0 h fun p0 h1 =>
 ldA p0 2 h1 fun cs2 =>
 callV S i_impl_lastingOf [.agg cs2, .int .i64 x1] h1 fun v4 h3 =>
 viaT v4 fun vs5 =>
 exP vs5 0 fun p6 =>
 viaT v4 fun vs7 =>
 exS vs7 1 fun s8 =>
 viaT v4 fun vs9 =>
 exS vs9 2 fun s10 =>
 viaT v4 fun vs11 =>
 exI .i64 vs11 3 fun n12 =>
 bif (n12 != (0)) then
 K (.tuple [.bool false, .int .i64 n12]) h3
 else
 callI S .i64 i_impl_period [.sl s10] h3 fun n14 h13 =>
 K (.tuple [.bool (n14 == (1)), .int .i64 (0)]) h13
theorem impl_IsMixing_main_link (S : SatT) (K : AVal → H → Prop) (x0 : List AVal) (x1 : Int) (h : H) : cwp S tab impl_IsMixing_M [] (bodyOf Try.f39) (kFun tab Try.f39.results.toList K) (fr0 Try.f39 [.agg x0, .int .i64 x1]) h = impl_IsMixing_main S K x0 x1 h := by kernel_rfl
theorem impl_IsMixing_call (x0 : List AVal) (x1 : Int) (h : H) (K : AVal → H → Prop) (hm : impl_IsMixing_main (Sat Try.prog) (fun v h' => K v h') x0 x1 h) : callV (Sat Try.prog) i_impl_IsMixing [.agg x0, .int .i64 x1] h K := by
  have := Sat.ex tok mixed impl_IsMixing_M Try.func39 (c := bodyOf Try.f39) (by kernel_rfl) (calls_of Try.func39 (c := bodyOf Try.f39) (by kernel_rfl) (by decide)) ((impl_IsMixing_main_link _ _ x0 x1 h).mpr hm)
  exact this

/-! ### loop.example/g01354/impl.compare -/
def impl_compare_M : Nat → List Nat := fun i => []
def impl_compare_main (S : SatT) (K : AVal → H → Prop) (x0 : List AVal) (x1 : List AVal) (h : H) : Prop :=
 newK 4 x0 h fun p0 h1 =>
 newK 4 x1 h1 fun p2 h3 =>
 cutA p0 4 1 (0) ((4 : Nat) : Int) fun s4 =>
 cutA p2 4 1 (0) ((4 : Nat) : Int) fun s5 =>
 callI S .i64 i_slices_Compare_s_int64_int64_ [.sl s4, .sl s5] h3 fun n7 h6 =>
 K (.int .i64 n7) h6
theorem impl_compare_main_link (S : SatT) (K : AVal → H → Prop) (x0 : List AVal) (x1 : List AVal) (h : H) : cwp S tab impl_compare_M [] (bodyOf Try.f97) (kFun tab Try.f97.results.toList K) (fr0 Try.f97 [.agg x0, .agg x1]) h = impl_compare_main S K x0 x1 h := by kernel_rfl
theorem impl_compare_call (x0 : List AVal) (x1 : List AVal) (h : H) (K : Int → H → Prop) (hm : impl_compare_main (Sat Try.prog) (fun v h' => ∃ r, v = .int .i64 r ∧ K r h') x0 x1 h) : callI (Sat Try.prog) .i64 i_impl_compare [.agg x0, .agg x1] h K := by
  have := Sat.ex tok mixed impl_compare_M Try.func97 (c := bodyOf Try.f97) (by kernel_rfl) (calls_of Try.func97 (c := bodyOf Try.f97) (by kernel_rfl) (by decide)) ((impl_compare_main_link _ _ x0 x1 h).mpr hm)
  obtain ⟨v, h2, h3, r, rfl, h4⟩ := this; exact ⟨r, h2, h3, h4⟩

/-! ### loop.example/g01354/laws.markSet -/
def laws_markSet_M : Nat → List Nat := fun i => []
def laws_markSet_main (S : SatT) (K : AVal → H → Prop) (x0 : List AVal) (x1 : Int) (h : H) : Prop :=
 newK 2 x0 h fun p0 h1 =>
 isPt p0 (
 ldS (Pt.add p0 1) h1 fun s2 =>
 callI S .i64 i_laws_markTileS [.sl s2, .int .i64 x1] h1 fun n4 h3 =>
 K (.int .i64 n4) h3)
theorem laws_markSet_main_link (S : SatT) (K : AVal → H → Prop) (x0 : List AVal) (x1 : Int) (h : H) : cwp S tab laws_markSet_M [] (bodyOf Try.f22) (kFun tab Try.f22.results.toList K) (fr0 Try.f22 [.agg x0, .int .i64 x1]) h = laws_markSet_main S K x0 x1 h := by kernel_rfl
theorem laws_markSet_call (x0 : List AVal) (x1 : Int) (h : H) (K : Int → H → Prop) (hm : laws_markSet_main (Sat Try.prog) (fun v h' => ∃ r, v = .int .i64 r ∧ K r h') x0 x1 h) : callI (Sat Try.prog) .i64 i_laws_markSet [.agg x0, .int .i64 x1] h K := by
  have := Sat.ex tok mixed laws_markSet_M Try.func22 (c := bodyOf Try.f22) (by kernel_rfl) (calls_of Try.func22 (c := bodyOf Try.f22) (by kernel_rfl) (by decide)) ((laws_markSet_main_link _ _ x0 x1 h).mpr hm)
  obtain ⟨v, h2, h3, r, rfl, h4⟩ := this; exact ⟨r, h2, h3, h4⟩

/-! ### loop.example/g01354/spec.l01In -/
def spec_l01In_M : Nat → List Nat := fun i => []
def spec_l01In_main (S : SatT) (K : AVal → H → Prop) (x0 : Int) (x1 : Int) (x2 : Int) (h : H) : Prop :=
 bif (decide (x0 ≥ x1)) then
 K (.bool (decide (x0 ≤ x2))) h
 else
 K (.bool false) h
theorem spec_l01In_main_link (S : SatT) (K : AVal → H → Prop) (x0 : Int) (x1 : Int) (x2 : Int) (h : H) : cwp S tab spec_l01In_M [] (bodyOf Try.f61) (kFun tab Try.f61.results.toList K) (fr0 Try.f61 [.int .i64 x0, .int .i64 x1, .int .i64 x2]) h = spec_l01In_main S K x0 x1 x2 h := by kernel_rfl
theorem spec_l01In_call (x0 : Int) (x1 : Int) (x2 : Int) (h : H) (K : Bool → H → Prop) (hm : spec_l01In_main (Sat Try.prog) (fun v h' => ∃ r, v = .bool r ∧ K r h') x0 x1 x2 h) : callB (Sat Try.prog) i_spec_l01In [.int .i64 x0, .int .i64 x1, .int .i64 x2] h K := by
  have := Sat.ex tok mixed spec_l01In_M Try.func61 (c := bodyOf Try.f61) (by kernel_rfl) (calls_of Try.func61 (c := bodyOf Try.f61) (by kernel_rfl) (by decide)) ((spec_l01In_main_link _ _ x0 x1 x2 h).mpr hm)
  obtain ⟨v, h2, h3, r, rfl, h4⟩ := this; exact ⟨r, h2, h3, h4⟩

/-! ### loop.example/g01354/spec.l06Period -/
def spec_l06Period_M : Nat → List Nat := fun i => bif i == 8 then [0, 5, 10, 11, 12] else bif i == 6 then [0, 5, 10, 11] else bif i == 4 then [0, 5, 6, 8, 9] else bif i == 2 then [0, 5, 6] else bif i == 0 then [0, 5, 6, 7] else []
def spec_l06Period_ks7 (S : SatT) (K : AVal → H → Prop) : Kont := kSeq (cwp S tab spec_l06Period_M [] (sub [1, 1, 1, 1, 1] (bodyOf Try.f82)) (kFun tab (Try.f82).results.toList K)) (kFun tab (Try.f82).results.toList K)
def spec_l06Period_e0 (s0_ : Sl) (s5_ : Sl) (s6_ : Sl) (i7_ : Int) : Frame := [.sl s0_, U, U, U, U, .sl s5_, .sl s6_, .int .i64 i7_, U, U, U, U, U, U, U, U, U, U, U, U, U, U, U, U, U, U, U, U, U, U, U, U, U, U, U, U, U, U, U, U, U, U, U, U, U, U, U, U, U, U, U, U, U, U, U, U, U, U, U, U, U, U, U, U, U, U, U, U, U, U, U, U, U, U, U, U, U, U, U, U, U, U, U, U, U, U, U, U, U, U, U, U, U, U, U, U, U, U, U, U, U, U, U, U, U, U, U, U, U, U, U, U, U, U, U, U, U, U, U]
def spec_l06Period_w0 (S : SatT) (K : AVal → H → Prop) : (Frame → H → Prop) → Frame → H → Prop := fun X fr h => cwp S tab spec_l06Period_M (spec_l06Period_M 0) (sub [1, 1, 1, 1, 0, 1, 0, 0] (bodyOf Try.f82)) (kSeq (fun fr h => X (mask (spec_l06Period_M 0) fr) h) (kBlk 0 (spec_l06Period_ks7 S K))) fr h
def spec_l06Period_L0 (S : SatT) (K : AVal → H → Prop) (s0_ : Sl) (s5_ : Sl) (s6_ : Sl) (i7_ : Int) (h : H) : Prop := loopK (spec_l06Period_w0 S K) (spec_l06Period_e0 s0_ s5_ s6_ i7_) h
def spec_l06Period_ks12 (S : SatT) (K : AVal → H → Prop) : Kont := kSeq (cwp S tab spec_l06Period_M [] (sub [1, 1, 1, 1, 1, 1] (bodyOf Try.f82)) (kFun tab (Try.f82).results.toList K)) (kFun tab (Try.f82).results.toList K)
def spec_l06Period_e2 (s0_ : Sl) (s5_ : Sl) (s6_ : Sl) : Frame := [.sl s0_, U, U, U, U, .sl s5_, .sl s6_, U, U, U, U, U, U, U, U, U, U, U, U, U, U, U, U, U, U, U, U, U, U, U, U, U, U, U, U, U, U, U, U, U, U, U, U, U, U, U, U, U, U, U, U, U, U, U, U, U, U, U, U, U, U, U, U, U, U, U, U, U, U, U, U, U, U, U, U, U, U, U, U, U, U, U, U, U, U, U, U, U, U, U, U, U, U, U, U, U, U, U, U, U, U, U, U, U, U, U, U, U, U, U, U, U, U, U, U, U, U, U, U]
def spec_l06Period_w2 (S : SatT) (K : AVal → H → Prop) : (Frame → H → Prop) → Frame → H → Prop := fun X fr h => cwp S tab spec_l06Period_M (spec_l06Period_M 2) (sub [1, 1, 1, 1, 1, 0, 0, 0] (bodyOf Try.f82)) (kSeq (fun fr h => X (mask (spec_l06Period_M 2) fr) h) (kBlk 2 (spec_l06Period_ks12 S K))) fr h
def spec_l06Period_L2 (S : SatT) (K : AVal → H → Prop) (s0_ : Sl) (s5_ : Sl) (s6_ : Sl) (h : H) : Prop := loopK (spec_l06Period_w2 S K) (spec_l06Period_e2 s0_ s5_ s6_) h
def spec_l06Period_e4 (s0_ : Sl) (s5_ : Sl) (s6_ : Sl) (i8_ : Int) (i9_ : Int) : Frame := [.sl s0_, U, U, U, U, .sl s5_, .sl s6_, U, .int .i64 i8_, .int .i64 i9_, U, U, U, U, U, U, U, U, U, U, U, U, U, U, U, U, U, U, U, U, U, U, U, U, U, U, U, U, U, U, U, U, U, U, U, U, U, U, U, U, U, U, U, U, U, U, U, U, U, U, U, U, U, U, U, U, U, U, U, U, U, U, U, U, U, U, U, U, U, U, U, U, U, U, U, U, U, U, U, U, U, U, U, U, U, U, U, U, U, U, U, U, U, U, U, U, U, U, U, U, U, U, U, U, U, U, U, U, U]
def spec_l06Period_w4 (S : SatT) (K : AVal → H → Prop) (X2 : Frame → H → Prop) : (Frame → H → Prop) → Frame → H → Prop := fun X fr h => cwp S tab spec_l06Period_M (spec_l06Period_M 4) (sub [1, 1, 1, 1, 1, 0, 0, 0, 1, 0, 1, 1, 1, 0, 0] (bodyOf Try.f82)) (kSeq (fun fr h => X (mask (spec_l06Period_M 4) fr) h) (kBlk 4 (kBlk 3 (kSeq (fun fr h => X2 (mask (spec_l06Period_M 2) fr) h) (kBlk 2 (spec_l06Period_ks12 S K)))))) fr h
def spec_l06Period_L4 (S : SatT) (K : AVal → H → Prop) (X2 : Frame → H → Prop) (s0_ : Sl) (s5_ : Sl) (s6_ : Sl) (i8_ : Int) (i9_ : Int) (h : H) : Prop := loopK (spec_l06Period_w4 S K X2) (spec_l06Period_e4 s0_ s5_ s6_ i8_ i9_) h
def spec_l06Period_C4 (S : SatT) (K : AVal → H → Prop) (X2 : Frame → H → Prop) (s0_ : Sl) (s5_ : Sl) (s6_ : Sl) (h : H) : Prop :=
 X2 (spec_l06Period_e2 s0_ s5_ s6_) h
def spec_l06Period_b4 (S : SatT) (K : AVal → H → Prop) (X2 : Frame → H → Prop) (X4 : Frame → H → Prop) (s0_ : Sl) (s5_ : Sl) (s6_ : Sl) (i8_ : Int) (i9_ : Int) (h : H) : Prop :=
 bif (decide (i9_ < (s0_.len : Int))) then
 ixS s0_ 1 i8_ fun p0 =>
 ldS p0 h fun s1 =>
 ixS s1 1 i9_ fun p2 =>
 ldI .i64 p2 h fun n3 =>
 bif (decide (n3 > (0))) then
 ixS s5_ 1 i9_ fun p4 =>
 ldI .i64 p4 h fun n5 =>
 bif (decide (n5 < (0))) then
 ixS s5_ 1 i8_ fun p6 =>
 ldI .i64 p6 h fun n7 =>
 ixS s5_ 1 i9_ fun p8 =>
 st1 p8 (.int .i64 (w64 (n7 + (1)))) h fun h9 =>
 newS 1 1 [.int .i64 i9_] h9 fun s10 h11 =>
 app s6_ s10 1 h11 fun s12 h13 =>
 X4 (spec_l06Period_e4 s0_ s5_ s12 i8_ (w64 (i9_ + (1)))) h13
 else
 X4 (spec_l06Period_e4 s0_ s5_ s6_ i8_ (w64 (i9_ + (1)))) h
 else
 X4 (spec_l06Period_e4 s0_ s5_ s6_ i8_ (w64 (i9_ + (1)))) h
 else
 spec_l06Period_C4 S K X2 s0_ s5_ s6_ h
theorem spec_l06Period_link4 (S : SatT) (K : AVal → H → Prop) (X2 : Frame → H → Prop) (X4 : Frame → H → Prop) (s0_ : Sl) (s5_ : Sl) (s6_ : Sl) (i8_ : Int) (i9_ : Int) (h : H) : spec_l06Period_w4 S K X2 X4 (spec_l06Period_e4 s0_ s5_ s6_ i8_ i9_) h = spec_l06Period_b4 S K X2 X4 s0_ s5_ s6_ i8_ i9_ h := by kernel_rfl
theorem spec_l06Period_rule4 (S : SatT) (K : AVal → H → Prop) (X2 : Frame → H → Prop) (s0_ : Sl) (s5_ : Sl) (i8_ : Int) (I_ : Sl → Int → H → Prop) (m_ : Sl → Int → H → Nat)
    (hs : ∀ (X4 : Frame → H → Prop) (s6_ : Sl) (i9_ : Int) (h : H), I_ s6_ i9_ h → (∀ (s6_' : Sl) (i9_' : Int) (h' : H), I_ s6_' i9_' h' → m_ s6_' i9_' h' < m_ s6_ i9_ h → X4 (spec_l06Period_e4 s0_ s5_ s6_' i8_ i9_') h') → spec_l06Period_b4 S K X2 X4 s0_ s5_ s6_ i8_ i9_ h) (s6_ : Sl) (i9_ : Int) {h : H} (h0 : I_ s6_ i9_ h) : spec_l06Period_L4 S K X2 s0_ s5_ s6_ i8_ i9_ h :=
  loop_rule (σ := (Sl) × (Int)) (fun s_ => spec_l06Period_e4 s0_ s5_ (s_.1) i8_ (s_.2)) (fun s_ h => I_ (s_.1) (s_.2) h) (fun s_ h => m_ (s_.1) (s_.2) h)
    (fun X s_ h hi hx => (spec_l06Period_link4 S K X2 X s0_ s5_ (s_.1) i8_ (s_.2) h).mpr (hs X (s_.1) (s_.2) h hi fun s6_' i9_' h' hi' hm' => hx (s6_', i9_') h' hi' hm')) (s6_, i9_) h0
theorem spec_l06Period_unroll4 (S : SatT) (K : AVal → H → Prop) (X2 : Frame → H → Prop) (s0_ : Sl) (s5_ : Sl) (s6_ : Sl) (i8_ : Int) (i9_ : Int) (h : H) (hb : spec_l06Period_b4 S K X2 (fun fr h => loopK (spec_l06Period_w4 S K X2) fr h) s0_ s5_ s6_ i8_ i9_ h) : spec_l06Period_L4 S K X2 s0_ s5_ s6_ i8_ i9_ h := loop_unroll ((spec_l06Period_link4 S K X2 _ s0_ s5_ s6_ i8_ i9_ h).mpr hb)
def spec_l06Period_ks24 (S : SatT) (K : AVal → H → Prop) : Kont := kSeq (cwp S tab spec_l06Period_M [] (sub [1, 1, 1, 1, 1, 1, 1, 1] (bodyOf Try.f82)) (kFun tab (Try.f82).results.toList K)) (kFun tab (Try.f82).results.toList K)
def spec_l06Period_e6 (s0_ : Sl) (s5_ : Sl) (i10_ : Int) (i11_ : Int) : Frame := [.sl s0_, U, U, U, U, .sl s5_, U, U, U, U, .int .i64 i10_, .int .i64 i11_, U, U, U, U, U, U, U, U, U, U, U, U, U, U, U, U, U, U, U, U, U, U, U, U, U, U, U, U, U, U, U, U, U, U, U, U, U, U, U, U, U, U, U, U, U, U, U, U, U, U, U, U, U, U, U, U, U, U, U, U, U, U, U, U, U, U, U, U, U, U, U, U, U, U, U, U, U, U, U, U, U, U, U, U, U, U, U, U, U, U, U, U, U, U, U, U, U, U, U, U, U, U, U, U, U, U, U]
def spec_l06Period_w6 (S : SatT) (K : AVal → H → Prop) : (Frame → H → Prop) → Frame → H → Prop := fun X fr h => cwp S tab spec_l06Period_M (spec_l06Period_M 6) (sub [1, 1, 1, 1, 1, 1, 1, 0, 1, 0, 0] (bodyOf Try.f82)) (kSeq (fun fr h => X (mask (spec_l06Period_M 6) fr) h) (kBlk 6 (spec_l06Period_ks24 S K))) fr h
def spec_l06Period_L6 (S : SatT) (K : AVal → H → Prop) (s0_ : Sl) (s5_ : Sl) (i10_ : Int) (i11_ : Int) (h : H) : Prop := loopK (spec_l06Period_w6 S K) (spec_l06Period_e6 s0_ s5_ i10_ i11_) h
def spec_l06Period_ks28 (S : SatT) (K : AVal → H → Prop) (X6 : Frame → H → Prop) : Kont := kSeq (cwp S tab spec_l06Period_M (spec_l06Period_M 6) (sub [1, 1, 1, 1, 1, 1, 1, 0, 1, 0, 0, 1, 1] (bodyOf Try.f82)) (kSeq (fun fr h => X6 (mask (spec_l06Period_M 6) fr) h) (kBlk 6 (spec_l06Period_ks24 S K)))) (kSeq (fun fr h => X6 (mask (spec_l06Period_M 6) fr) h) (kBlk 6 (spec_l06Period_ks24 S K)))
def spec_l06Period_e8 (s0_ : Sl) (s5_ : Sl) (i10_ : Int) (i11_ : Int) (i12_ : Int) : Frame := [.sl s0_, U, U, U, U, .sl s5_, U, U, U, U, .int .i64 i10_, .int .i64 i11_, .int .i64 i12_, U, U, U, U, U, U, U, U, U, U, U, U, U, U, U, U, U, U, U, U, U, U, U, U, U, U, U, U, U, U, U, U, U, U, U, U, U, U, U, U, U, U, U, U, U, U, U, U, U, U, U, U, U, U, U, U, U, U, U, U, U, U, U, U, U, U, U, U, U, U, U, U, U, U, U, U, U, U, U, U, U, U, U, U, U, U, U, U, U, U, U, U, U, U, U, U, U, U, U, U, U, U, U, U, U, U]
def spec_l06Period_w8 (S : SatT) (K : AVal → H → Prop) (X6 : Frame → H → Prop) : (Frame → H → Prop) → Frame → H → Prop := fun X fr h => cwp S tab spec_l06Period_M (spec_l06Period_M 8) (sub [1, 1, 1, 1, 1, 1, 1, 0, 1, 0, 0, 1, 0, 0, 1, 0, 0] (bodyOf Try.f82)) (kSeq (fun fr h => X (mask (spec_l06Period_M 8) fr) h) (kBlk 8 (kBlk 7 (spec_l06Period_ks28 S K X6)))) fr h
def spec_l06Period_L8 (S : SatT) (K : AVal → H → Prop) (X6 : Frame → H → Prop) (s0_ : Sl) (s5_ : Sl) (i10_ : Int) (i11_ : Int) (i12_ : Int) (h : H) : Prop := loopK (spec_l06Period_w8 S K X6) (spec_l06Period_e8 s0_ s5_ i10_ i11_ i12_) h
def spec_l06Period_C7 (S : SatT) (K : AVal → H → Prop) (X6 : Frame → H → Prop) (s0_ : Sl) (s5_ : Sl) (i10_ : Int) (i11_ : Int) (h : H) : Prop :=
 X6 (spec_l06Period_e6 s0_ s5_ i10_ (w64 (i11_ + (1)))) h
def spec_l06Period_C8 (S : SatT) (K : AVal → H → Prop) (X6 : Frame → H → Prop) (s0_ : Sl) (s5_ : Sl) (i10_ : Int) (i11_ : Int) (h : H) : Prop :=
 spec_l06Period_C7 S K X6 s0_ s5_ i10_ i11_ h
def spec_l06Period_b8 (S : SatT) (K : AVal → H → Prop) (X6 : Frame → H → Prop) (X8 : Frame → H → Prop) (s0_ : Sl) (s5_ : Sl) (i10_ : Int) (i11_ : Int) (i12_ : Int) (h : H) : Prop :=
 bif (decide (i12_ < (s0_.len : Int))) then
 ixS s0_ 1 i11_ fun p0 =>
 ldS p0 h fun s1 =>
 ixS s1 1 i12_ fun p2 =>
 ldI .i64 p2 h fun n3 =>
 bif (decide (n3 > (0))) then
 ixS s5_ 1 i11_ fun p4 =>
 ldI .i64 p4 h fun n5 =>
 ixS s5_ 1 i12_ fun p6 =>
 ldI .i64 p6 h fun n7 =>
 callI S .i64 i_spec_l06Gcd [.int .i64 i10_, .int .i64 (mxI (w64 ((w64 (n5 + (1))) - n7)) (w64 (0 - (w64 ((w64 (n5 + (1))) - n7)))))] h fun n9 h8 =>
 X8 (spec_l06Period_e8 s0_ s5_ n9 i11_ (w64 (i12_ + (1)))) h8
 else
 X8 (spec_l06Period_e8 s0_ s5_ i10_ i11_ (w64 (i12_ + (1)))) h
 else
 spec_l06Period_C8 S K X6 s0_ s5_ i10_ i11_ h
theorem spec_l06Period_link8 (S : SatT) (K : AVal → H → Prop) (X6 : Frame → H → Prop) (X8 : Frame → H → Prop) (s0_ : Sl) (s5_ : Sl) (i10_ : Int) (i11_ : Int) (i12_ : Int) (h : H) : spec_l06Period_w8 S K X6 X8 (spec_l06Period_e8 s0_ s5_ i10_ i11_ i12_) h = spec_l06Period_b8 S K X6 X8 s0_ s5_ i10_ i11_ i12_ h := by kernel_rfl
theorem spec_l06Period_rule8 (S : SatT) (K : AVal → H → Prop) (X6 : Frame → H → Prop) (s0_ : Sl) (s5_ : Sl) (i11_ : Int) (I_ : Int → Int → H → Prop) (m_ : Int → Int → H → Nat)
    (hs : ∀ (X8 : Frame → H → Prop) (i10_ : Int) (i12_ : Int) (h : H), I_ i10_ i12_ h → (∀ (i10_' : Int) (i12_' : Int) (h' : H), I_ i10_' i12_' h' → m_ i10_' i12_' h' < m_ i10_ i12_ h → X8 (spec_l06Period_e8 s0_ s5_ i10_' i11_ i12_') h') → spec_l06Period_b8 S K X6 X8 s0_ s5_ i10_ i11_ i12_ h) (i10_ : Int) (i12_ : Int) {h : H} (h0 : I_ i10_ i12_ h) : spec_l06Period_L8 S K X6 s0_ s5_ i10_ i11_ i12_ h :=
  loop_rule (σ := (Int) × (Int)) (fun s_ => spec_l06Period_e8 s0_ s5_ (s_.1) i11_ (s_.2)) (fun s_ h => I_ (s_.1) (s_.2) h) (fun s_ h => m_ (s_.1) (s_.2) h)
    (fun X s_ h hi hx => (spec_l06Period_link8 S K X6 X s0_ s5_ (s_.1) i11_ (s_.2) h).mpr (hs X (s_.1) (s_.2) h hi fun i10_' i12_' h' hi' hm' => hx (i10_', i12_') h' hi' hm')) (i10_, i12_) h0
theorem spec_l06Period_unroll8 (S : SatT) (K : AVal → H → Prop) (X6 : Frame → H → Prop) (s0_ : Sl) (s5_ : Sl) (i10_ : Int) (i11_ : Int) (i12_ : Int) (h : H) (hb : spec_l06Period_b8 S K X6 (fun fr h => loopK (spec_l06Period_w8 S K X6) fr h) s0_ s5_ i10_ i11_ i12_ h) : spec_l06Period_L8 S K X6 s0_ s5_ i10_ i11_ i12_ h := loop_unroll ((spec_l06Period_link8 S K X6 _ s0_ s5_ i10_ i11_ i12_ h).mpr hb)
def spec_l06Period_C6 (S : SatT) (K : AVal → H → Prop) (i10_ : Int) (h : H) : Prop :=
 K (.tuple [.int .i64 i10_, .bool true]) h
def spec_l06Period_b6 (S : SatT) (K : AVal → H → Prop) (X6 : Frame → H → Prop) (s0_ : Sl) (s5_ : Sl) (i10_ : Int) (i11_ : Int) (h : H) : Prop :=
 bif (decide (i11_ < (s0_.len : Int))) then
 spec_l06Period_L8 S K X6 s0_ s5_ i10_ i11_ (0) h
 else
 spec_l06Period_C6 S K i10_ h
theorem spec_l06Period_link6 (S : SatT) (K : AVal → H → Prop) (X6 : Frame → H → Prop) (s0_ : Sl) (s5_ : Sl) (i10_ : Int) (i11_ : Int) (h : H) : spec_l06Period_w6 S K X6 (spec_l06Period_e6 s0_ s5_ i10_ i11_) h = spec_l06Period_b6 S K X6 s0_ s5_ i10_ i11_ h := by kernel_rfl
theorem spec_l06Period_rule6 (S : SatT) (K : AVal → H → Prop) (s0_ : Sl) (s5_ : Sl) (I_ : Int → Int → H → Prop) (m_ : Int → Int → H → Nat)
    (hs : ∀ (X6 : Frame → H → Prop) (i10_ : Int) (i11_ : Int) (h : H), I_ i10_ i11_ h → (∀ (i10_' : Int) (i11_' : Int) (h' : H), I_ i10_' i11_' h' → m_ i10_' i11_' h' < m_ i10_ i11_ h → X6 (spec_l06Period_e6 s0_ s5_ i10_' i11_') h') → spec_l06Period_b6 S K X6 s0_ s5_ i10_ i11_ h) (i10_ : Int) (i11_ : Int) {h : H} (h0 : I_ i10_ i11_ h) : spec_l06Period_L6 S K s0_ s5_ i10_ i11_ h :=
  loop_rule (σ := (Int) × (Int)) (fun s_ => spec_l06Period_e6 s0_ s5_ (s_.1) (s_.2)) (fun s_ h => I_ (s_.1) (s_.2) h) (fun s_ h => m_ (s_.1) (s_.2) h)
    (fun X s_ h hi hx => (spec_l06Period_link6 S K X s0_ s5_ (s_.1) (s_.2) h).mpr (hs X (s_.1) (s_.2) h hi fun i10_' i11_' h' hi' hm' => hx (i10_', i11_') h' hi' hm')) (i10_, i11_) h0
theorem spec_l06Period_unroll6 (S : SatT) (K : AVal → H → Prop) (s0_ : Sl) (s5_ : Sl) (i10_ : Int) (i11_ : Int) (h : H) (hb : spec_l06Period_b6 S K (fun fr h => loopK (spec_l06Period_w6 S K) fr h) s0_ s5_ i10_ i11_ h) : spec_l06Period_L6 S K s0_ s5_ i10_ i11_ h := loop_unroll ((spec_l06Period_link6 S K _ s0_ s5_ i10_ i11_ h).mpr hb)
def spec_l06Period_C2 (S : SatT) (K : AVal → H → Prop) (s0_ : Sl) (s5_ : Sl) (h : H) : Prop :=
 spec_l06Period_L6 S K s0_ s5_ (0) (0) h
def spec_l06Period_b2 (S : SatT) (K : AVal → H → Prop) (X2 : Frame → H → Prop) (s0_ : Sl) (s5_ : Sl) (s6_ : Sl) (h : H) : Prop :=
 bif (decide ((s6_.len : Int) > (0))) then
 ixS s6_ 1 (0) fun p0 =>
 ldI .i64 p0 h fun n1 =>
 cut s6_ 1 (1) (s6_.len : Int) h fun s2 =>
 spec_l06Period_L4 S K X2 s0_ s5_ s2 n1 (0) h
 else
 spec_l06Period_C2 S K s0_ s5_ h
theorem spec_l06Period_link2 (S : SatT) (K : AVal → H → Prop) (X2 : Frame → H → Prop) (s0_ : Sl) (s5_ : Sl) (s6_ : Sl) (h : H) : spec_l06Period_w2 S K X2 (spec_l06Period_e2 s0_ s5_ s6_) h = spec_l06Period_b2 S K X2 s0_ s5_ s6_ h := by kernel_rfl
theorem spec_l06Period_rule2 (S : SatT) (K : AVal → H → Prop) (s0_ : Sl) (s5_ : Sl) (I_ : Sl → H → Prop) (m_ : Sl → H → Nat)
    (hs : ∀ (X2 : Frame → H → Prop) (s6_ : Sl) (h : H), I_ s6_ h → (∀ (s6_' : Sl) (h' : H), I_ s6_' h' → m_ s6_' h' < m_ s6_ h → X2 (spec_l06Period_e2 s0_ s5_ s6_') h') → spec_l06Period_b2 S K X2 s0_ s5_ s6_ h) (s6_ : Sl) {h : H} (h0 : I_ s6_ h) : spec_l06Period_L2 S K s0_ s5_ s6_ h :=
  loop_rule (σ := (Sl)) (fun s_ => spec_l06Period_e2 s0_ s5_ (s_)) (fun s_ h => I_ (s_) h) (fun s_ h => m_ (s_) h)
    (fun X s_ h hi hx => (spec_l06Period_link2 S K X s0_ s5_ (s_) h).mpr (hs X (s_) h hi fun s6_' h' hi' hm' => hx (s6_') h' hi' hm')) (s6_) h0
theorem spec_l06Period_unroll2 (S : SatT) (K : AVal → H → Prop) (s0_ : Sl) (s5_ : Sl) (s6_ : Sl) (h : H) (hb : spec_l06Period_b2 S K (fun fr h => loopK (spec_l06Period_w2 S K) fr h) s0_ s5_ s6_ h) : spec_l06Period_L2 S K s0_ s5_ s6_ h := loop_unroll ((spec_l06Period_link2 S K _ s0_ s5_ s6_ h).mpr hb)
def spec_l06Period_C0 (S : SatT) (K : AVal → H → Prop) (s0_ : Sl) (s5_ : Sl) (s6_ : Sl) (h : H) : Prop :=
 spec_l06Period_L2 S K s0_ s5_ s6_ h
def spec_l06Period_b0 (S : SatT) (K : AVal → H → Prop) (X0 : Frame → H → Prop) (s0_ : Sl) (s5_ : Sl) (s6_ : Sl) (i7_ : Int) (h : H) : Prop :=
 bif (decide (i7_ < (s5_.len : Int))) then
 ixS s5_ 1 i7_ fun p0 =>
 st1 p0 (.int .i64 (-1)) h fun h1 =>
 X0 (spec_l06Period_e0 s0_ s5_ s6_ (w64 (i7_ + (1)))) h1
 else
 spec_l06Period_C0 S K s0_ s5_ s6_ h
theorem spec_l06Period_link0 (S : SatT) (K : AVal → H → Prop) (X0 : Frame → H → Prop) (s0_ : Sl) (s5_ : Sl) (s6_ : Sl) (i7_ : Int) (h : H) : spec_l06Period_w0 S K X0 (spec_l06Period_e0 s0_ s5_ s6_ i7_) h = spec_l06Period_b0 S K X0 s0_ s5_ s6_ i7_ h := by kernel_rfl
theorem spec_l06Period_rule0 (S : SatT) (K : AVal → H → Prop) (s0_ : Sl) (s5_ : Sl) (s6_ : Sl) (I_ : Int → H → Prop) (m_ : Int → H → Nat)
    (hs : ∀ (X0 : Frame → H → Prop) (i7_ : Int) (h : H), I_ i7_ h → (∀ (i7_' : Int) (h' : H), I_ i7_' h' → m_ i7_' h' < m_ i7_ h → X0 (spec_l06Period_e0 s0_ s5_ s6_ i7_') h') → spec_l06Period_b0 S K X0 s0_ s5_ s6_ i7_ h) (i7_ : Int) {h : H} (h0 : I_ i7_ h) : spec_l06Period_L0 S K s0_ s5_ s6_ i7_ h :=
  loop_rule (σ := (Int)) (fun s_ => spec_l06Period_e0 s0_ s5_ s6_ (s_)) (fun s_ h => I_ (s_) h) (fun s_ h => m_ (s_) h)
    (fun X s_ h hi hx => (spec_l06Period_link0 S K X s0_ s5_ s6_ (s_) h).mpr (hs X (s_) h hi fun i7_' h' hi' hm' => hx (i7_') h' hi' hm')) (i7_) h0
theorem spec_l06Period_unroll0 (S : SatT) (K : AVal → H → Prop) (s0_ : Sl) (s5_ : Sl) (s6_ : Sl) (i7_ : Int) (h : H) (hb : spec_l06Period_b0 S K (fun fr h => loopK (spec_l06Period_w0 S K) fr h) s0_ s5_ s6_ i7_ h) : spec_l06Period_L0 S K s0_ s5_ s6_ i7_ h := loop_unroll ((spec_l06Period_link0 S K _ s0_ s5_ s6_ i7_ h).mpr hb)
def spec_l06Period_main (S : SatT) (K : AVal → H → Prop) (x0 : Sl) (h : H) : Prop :=
 callS S i_spec_l06Parts [.sl x0] h fun s1 h0 =>
 bif ((s1.len : Int) != (1)) then
 K (.tuple [.int .i64 (0), .bool false]) h0
 else
 ixS s1 1 (0) fun p2 =>
 ldS p2 h0 fun s3 =>
 bif ((s3.len : Int) != (x0.len : Int)) then
 K (.tuple [.int .i64 (0), .bool false]) h0
 else
 mkS (x0.len : Int) [.int .i64 (0)] h0 fun s4 h5 =>
 newS 1 1 [.int .i64 (0)] h5 fun s6 h7 =>
 spec_l06Period_L0 S K x0 s4 s6 (1) h7
theorem spec_l06Period_main_link (S : SatT) (K : AVal → H → Prop) (x0 : Sl) (h : H) : cwp S tab spec_l06Period_M [] (bodyOf Try.f82) (kFun tab Try.f82.results.toList K) (fr0 Try.f82 [.sl x0]) h = spec_l06Period_main S K x0 h := by kernel_rfl
theorem spec_l06Period_call (x0 : Sl) (h : H) (K : AVal → H → Prop) (hm : spec_l06Period_main (Sat Try.prog) (fun v h' => K v h') x0 h) : callV (Sat Try.prog) i_spec_l06Period [.sl x0] h K := by
  have := Sat.ex tok mixed spec_l06Period_M Try.func82 (c := bodyOf Try.f82) (by kernel_rfl) (calls_of Try.func82 (c := bodyOf Try.f82) (by kernel_rfl) (by decide)) ((spec_l06Period_main_link _ _ x0 h).mpr hm)
  exact this

/-! ### loop.example/g01354/spec.l06Keep -/
def spec_l06Keep_M : Nat → List Nat := fun i => bif i == 4 then [0, 1, 5, 6, 7, 9] else bif i == 2 then [0, 1, 5, 6, 7, 8] else bif i == 0 then [0, 1] else []
def spec_l06Keep_e0 (s0_ : Sl) (i1_ : Int) : Frame := [.sl s0_, .int .i64 i1_, U, U, U, U, U, U, U, U, U, U, U, U, U, U, U, U, U, U, U, U, U, U, U, U, U, U, U, U, U, U, U, U, U, U, U, U, U, U, U, U, U, U, U, U, U, U, U, U, U, U, U, U, U, U, U, U, U, U, U, U, U, U, U, U, U, U, U, U, U, U, U, U, U, U, U]
def spec_l06Keep_w0 (S : SatT) (K : AVal → H → Prop) : (Frame → H → Prop) → Frame → H → Prop := fun X fr h => cwp S tab spec_l06Keep_M (spec_l06Keep_M 0) (sub [1, 0, 0] (bodyOf Try.f100)) (kSeq (fun fr h => X (mask (spec_l06Keep_M 0) fr) h) (kBlk 0 (kFun tab (Try.f100).results.toList K))) fr h
def spec_l06Keep_L0 (S : SatT) (K : AVal → H → Prop) (s0_ : Sl) (i1_ : Int) (h : H) : Prop := loopK (spec_l06Keep_w0 S K) (spec_l06Keep_e0 s0_ i1_) h
def spec_l06Keep_ks2 (S : SatT) (K : AVal → H → Prop) (X0 : Frame → H → Prop) : Kont := kSeq (cwp S tab spec_l06Keep_M (spec_l06Keep_M 1) (sub [1, 0, 0, 0, 1, 1] (bodyOf Try.f100)) (kBlk 1 (kSeq (fun fr h => X0 (mask (spec_l06Keep_M 0) fr) h) (kBlk 0 (kFun tab (Try.f100).results.toList K))))) (kBlk 1 (kSeq (fun fr h => X0 (mask (spec_l06Keep_M 0) fr) h) (kBlk 0 (kFun tab (Try.f100).results.toList K))))
def spec_l06Keep_e2 (s0_ : Sl) (i1_ : Int) (s5_ : Sl) (s6_ : Sl) (s7_ : Sl) (i8_ : Int) : Frame := [.sl s0_, .int .i64 i1_, U, U, U, .sl s5_, .sl s6_, .sl s7_, .int .i64 i8_, U, U, U, U, U, U, U, U, U, U, U, U, U, U, U, U, U, U, U, U, U, U, U, U, U, U, U, U, U, U, U, U, U, U, U, U, U, U, U, U, U, U, U, U, U, U, U, U, U, U, U, U, U, U, U, U, U, U, U, U, U, U, U, U, U, U, U, U]
def spec_l06Keep_w2 (S : SatT) (K : AVal → H → Prop) (X0 : Frame → H → Prop) : (Frame → H → Prop) → Frame → H → Prop := fun X fr h => cwp S tab spec_l06Keep_M (spec_l06Keep_M 2) (sub [1, 0, 0, 0, 1, 0, 1, 0, 0] (bodyOf Try.f100)) (kSeq (fun fr h => X (mask (spec_l06Keep_M 2) fr) h) (kBlk 2 (spec_l06Keep_ks2 S K X0))) fr h
def spec_l06Keep_L2 (S : SatT) (K : AVal → H → Prop) (X0 : Frame → H → Prop) (s0_ : Sl) (i1_ : Int) (s5_ : Sl) (s6_ : Sl) (s7_ : Sl) (i8_ : Int) (h : H) : Prop := loopK (spec_l06Keep_w2 S K X0) (spec_l06Keep_e2 s0_ i1_ s5_ s6_ s7_ i8_) h
def spec_l06Keep_ks8 (S : SatT) (K : AVal → H → Prop) (X0 : Frame → H → Prop) : Kont := kSeq (cwp S tab spec_l06Keep_M (spec_l06Keep_M 1) (sub [1, 0, 0, 0, 1, 1, 1] (bodyOf Try.f100)) (kBlk 1 (kSeq (fun fr h => X0 (mask (spec_l06Keep_M 0) fr) h) (kBlk 0 (kFun tab (Try.f100).results.toList K))))) (kBlk 1 (kSeq (fun fr h => X0 (mask (spec_l06Keep_M 0) fr) h) (kBlk 0 (kFun tab (Try.f100).results.toList K))))
def spec_l06Keep_e4 (s0_ : Sl) (i1_ : Int) (s5_ : Sl) (s6_ : Sl) (s7_ : Sl) (i9_ : Int) : Frame := [.sl s0_, .int .i64 i1_, U, U, U, .sl s5_, .sl s6_, .sl s7_, U, .int .i64 i9_, U, U, U, U, U, U, U, U, U, U, U, U, U, U, U, U, U, U, U, U, U, U, U, U, U, U, U, U, U, U, U, U, U, U, U, U, U, U, U, U, U, U, U, U, U, U, U, U, U, U, U, U, U, U, U, U, U, U, U, U, U, U, U, U, U, U, U]
def spec_l06Keep_w4 (S : SatT) (K : AVal → H → Prop) (X0 : Frame → H → Prop) : (Frame → H → Prop) → Frame → H → Prop := fun X fr h => cwp S tab spec_l06Keep_M (spec_l06Keep_M 4) (sub [1, 0, 0, 0, 1, 1, 0, 1, 0, 0] (bodyOf Try.f100)) (kSeq (fun fr h => X (mask (spec_l06Keep_M 4) fr) h) (kBlk 4 (spec_l06Keep_ks8 S K X0))) fr h
def spec_l06Keep_L4 (S : SatT) (K : AVal → H → Prop) (X0 : Frame → H → Prop) (s0_ : Sl) (i1_ : Int) (s5_ : Sl) (s6_ : Sl) (s7_ : Sl) (i9_ : Int) (h : H) : Prop := loopK (spec_l06Keep_w4 S K X0) (spec_l06Keep_e4 s0_ i1_ s5_ s6_ s7_ i9_) h
def spec_l06Keep_C4 (S : SatT) (K : AVal → H → Prop) (X0 : Frame → H → Prop) (s0_ : Sl) (i1_ : Int) (s7_ : Sl) (h : H) : Prop :=
 bif ((s7_.len : Int) == (s0_.len : Int)) then
 K (.sl s7_) h
 else
 X0 (spec_l06Keep_e0 s7_ i1_) h
def spec_l06Keep_b4 (S : SatT) (K : AVal → H → Prop) (X0 : Frame → H → Prop) (X4 : Frame → H → Prop) (s0_ : Sl) (i1_ : Int) (s5_ : Sl) (s6_ : Sl) (s7_ : Sl) (i9_ : Int) (h : H) : Prop :=
 bif (decide (i9_ < (s0_.len : Int))) then
 ixS s0_ 1 i9_ fun p0 =>
 ldS p0 h fun s1 =>
 ixS s1 1 (0) fun p2 =>
 ldI .i64 p2 h fun n3 =>
 ixS s6_ 1 n3 fun p4 =>
 ldB p4 h fun b5 =>
 bif b5 then
 ixS s0_ 1 i9_ fun p6 =>
 ldS p6 h fun s7 =>
 ixS s7 1 (1) fun p8 =>
 ldI .i64 p8 h fun n9 =>
 ixS s5_ 1 n9 fun p10 =>
 ldB p10 h fun b11 =>
 bif b11 then
 ixS s0_ 1 i9_ fun p12 =>
 ldS p12 h fun s13 =>
 newS 1 1 [.sl s13] h fun s14 h15 =>
 app s7_ s14 1 h15 fun s16 h17 =>
 X4 (spec_l06Keep_e4 s0_ i1_ s5_ s6_ s16 (w64 (i9_ + (1)))) h17
 else
 X4 (spec_l06Keep_e4 s0_ i1_ s5_ s6_ s7_ (w64 (i9_ + (1)))) h
 else
 X4 (spec_l06Keep_e4 s0_ i1_ s5_ s6_ s7_ (w64 (i9_ + (1)))) h
 else
 spec_l06Keep_C4 S K X0 s0_ i1_ s7_ h
theorem spec_l06Keep_link4 (S : SatT) (K : AVal → H → Prop) (X0 : Frame → H → Prop) (X4 : Frame → H → Prop) (s0_ : Sl) (i1_ : Int) (s5_ : Sl) (s6_ : Sl) (s7_ : Sl) (i9_ : Int) (h : H) : spec_l06Keep_w4 S K X0 X4 (spec_l06Keep_e4 s0_ i1_ s5_ s6_ s7_ i9_) h = spec_l06Keep_b4 S K X0 X4 s0_ i1_ s5_ s6_ s7_ i9_ h := by kernel_rfl
theorem spec_l06Keep_rule4 (S : SatT) (K : AVal → H → Prop) (X0 : Frame → H → Prop) (s0_ : Sl) (i1_ : Int) (s5_ : Sl) (s6_ : Sl) (I_ : Sl → Int → H → Prop) (m_ : Sl → Int → H → Nat)
    (hs : ∀ (X4 : Frame → H → Prop) (s7_ : Sl) (i9_ : Int) (h : H), I_ s7_ i9_ h → (∀ (s7_' : Sl) (i9_' : Int) (h' : H), I_ s7_' i9_' h' → m_ s7_' i9_' h' < m_ s7_ i9_ h → X4 (spec_l06Keep_e4 s0_ i1_ s5_ s6_ s7_' i9_') h') → spec_l06Keep_b4 S K X0 X4 s0_ i1_ s5_ s6_ s7_ i9_ h) (s7_ : Sl) (i9_ : Int) {h : H} (h0 : I_ s7_ i9_ h) : spec_l06Keep_L4 S K X0 s0_ i1_ s5_ s6_ s7_ i9_ h :=
  loop_rule (σ := (Sl) × (Int)) (fun s_ => spec_l06Keep_e4 s0_ i1_ s5_ s6_ (s_.1) (s_.2)) (fun s_ h => I_ (s_.1) (s_.2) h) (fun s_ h => m_ (s_.1) (s_.2) h)
    (fun X s_ h hi hx => (spec_l06Keep_link4 S K X0 X s0_ i1_ s5_ s6_ (s_.1) (s_.2) h).mpr (hs X (s_.1) (s_.2) h hi fun s7_' i9_' h' hi' hm' => hx (s7_', i9_') h' hi' hm')) (s7_, i9_) h0
theorem spec_l06Keep_unroll4 (S : SatT) (K : AVal → H → Prop) (X0 : Frame → H → Prop) (s0_ : Sl) (i1_ : Int) (s5_ : Sl) (s6_ : Sl) (s7_ : Sl) (i9_ : Int) (h : H) (hb : spec_l06Keep_b4 S K X0 (fun fr h => loopK (spec_l06Keep_w4 S K X0) fr h) s0_ i1_ s5_ s6_ s7_ i9_ h) : spec_l06Keep_L4 S K X0 s0_ i1_ s5_ s6_ s7_ i9_ h := loop_unroll ((spec_l06Keep_link4 S K X0 _ s0_ i1_ s5_ s6_ s7_ i9_ h).mpr hb)
def spec_l06Keep_C2 (S : SatT) (K : AVal → H → Prop) (X0 : Frame → H → Prop) (s0_ : Sl) (i1_ : Int) (s5_ : Sl) (s6_ : Sl) (s7_ : Sl) (h : H) : Prop :=
 spec_l06Keep_L4 S K X0 s0_ i1_ s5_ s6_ s7_ (0) h
def spec_l06Keep_b2 (S : SatT) (K : AVal → H → Prop) (X0 : Frame → H → Prop) (X2 : Frame → H → Prop) (s0_ : Sl) (i1_ : Int) (s5_ : Sl) (s6_ : Sl) (s7_ : Sl) (i8_ : Int) (h : H) : Prop :=
 bif (decide (i8_ < (s0_.len : Int))) then
 ixS s0_ 1 i8_ fun p0 =>
 ldS p0 h fun s1 =>
 ixS s1 1 (0) fun p2 =>
 ldI .i64 p2 h fun n3 =>
 ixS s5_ 1 n3 fun p4 =>
 st1 p4 (.bool true) h fun h5 =>
 ixS s0_ 1 i8_ fun p6 =>
 ldS p6 h5 fun s7 =>
 ixS s7 1 (1) fun p8 =>
 ldI .i64 p8 h5 fun n9 =>
 ixS s6_ 1 n9 fun p10 =>
 st1 p10 (.bool true) h5 fun h11 =>
 X2 (spec_l06Keep_e2 s0_ i1_ s5_ s6_ s7_ (w64 (i8_ + (1)))) h11
 else
 spec_l06Keep_C2 S K X0 s0_ i1_ s5_ s6_ s7_ h
theorem spec_l06Keep_link2 (S : SatT) (K : AVal → H → Prop) (X0 : Frame → H → Prop) (X2 : Frame → H → Prop) (s0_ : Sl) (i1_ : Int) (s5_ : Sl) (s6_ : Sl) (s7_ : Sl) (i8_ : Int) (h : H) : spec_l06Keep_w2 S K X0 X2 (spec_l06Keep_e2 s0_ i1_ s5_ s6_ s7_ i8_) h = spec_l06Keep_b2 S K X0 X2 s0_ i1_ s5_ s6_ s7_ i8_ h := by kernel_rfl
theorem spec_l06Keep_rule2 (S : SatT) (K : AVal → H → Prop) (X0 : Frame → H → Prop) (s0_ : Sl) (i1_ : Int) (s5_ : Sl) (s6_ : Sl) (s7_ : Sl) (I_ : Int → H → Prop) (m_ : Int → H → Nat)
    (hs : ∀ (X2 : Frame → H → Prop) (i8_ : Int) (h : H), I_ i8_ h → (∀ (i8_' : Int) (h' : H), I_ i8_' h' → m_ i8_' h' < m_ i8_ h → X2 (spec_l06Keep_e2 s0_ i1_ s5_ s6_ s7_ i8_') h') → spec_l06Keep_b2 S K X0 X2 s0_ i1_ s5_ s6_ s7_ i8_ h) (i8_ : Int) {h : H} (h0 : I_ i8_ h) : spec_l06Keep_L2 S K X0 s0_ i1_ s5_ s6_ s7_ i8_ h :=
  loop_rule (σ := (Int)) (fun s_ => spec_l06Keep_e2 s0_ i1_ s5_ s6_ s7_ (s_)) (fun s_ h => I_ (s_) h) (fun s_ h => m_ (s_) h)
    (fun X s_ h hi hx => (spec_l06Keep_link2 S K X0 X s0_ i1_ s5_ s6_ s7_ (s_) h).mpr (hs X (s_) h hi fun i8_' h' hi' hm' => hx (i8_') h' hi' hm')) (i8_) h0
theorem spec_l06Keep_unroll2 (S : SatT) (K : AVal → H → Prop) (X0 : Frame → H → Prop) (s0_ : Sl) (i1_ : Int) (s5_ : Sl) (s6_ : Sl) (s7_ : Sl) (i8_ : Int) (h : H) (hb : spec_l06Keep_b2 S K X0 (fun fr h => loopK (spec_l06Keep_w2 S K X0) fr h) s0_ i1_ s5_ s6_ s7_ i8_ h) : spec_l06Keep_L2 S K X0 s0_ i1_ s5_ s6_ s7_ i8_ h := loop_unroll ((spec_l06Keep_link2 S K X0 _ s0_ i1_ s5_ s6_ s7_ i8_ h).mpr hb)
def spec_l06Keep_b0 (S : SatT) (K : AVal → H → Prop) (X0 : Frame → H → Prop) (s0_ : Sl) (i1_ : Int) (h : H) : Prop :=
 slotK 8 h fun h0 =>
 mkSat i1_ [.bool false] h0 (h.length + 1) fun s1 h2 =>
 mkSat i1_ [.bool false] h2 (h.length + 3) fun s3 h4 =>
 newSat 0 1 [] h4 (h.length + 4) fun s5 h6 =>
 spec_l06Keep_L2 S K X0 s0_ i1_ s1 s3 s5 (0) h6
theorem spec_l06Keep_link0 (S : SatT) (K : AVal → H → Prop) (X0 : Frame → H → Prop) (s0_ : Sl) (i1_ : Int) (h : H) : spec_l06Keep_w0 S K X0 (spec_l06Keep_e0 s0_ i1_) h = spec_l06Keep_b0 S K X0 s0_ i1_ h := by kernel_rfl
theorem spec_l06Keep_rule0 (S : SatT) (K : AVal → H → Prop) (i1_ : Int) (I_ : Sl → H → Prop) (m_ : Sl → H → Nat)
    (hs : ∀ (X0 : Frame → H → Prop) (s0_ : Sl) (h : H), I_ s0_ h → (∀ (s0_' : Sl) (h' : H), I_ s0_' h' → m_ s0_' h' < m_ s0_ h → X0 (spec_l06Keep_e0 s0_' i1_) h') → spec_l06Keep_b0 S K X0 s0_ i1_ h) (s0_ : Sl) {h : H} (h0 : I_ s0_ h) : spec_l06Keep_L0 S K s0_ i1_ h :=
  loop_rule (σ := (Sl)) (fun s_ => spec_l06Keep_e0 (s_) i1_) (fun s_ h => I_ (s_) h) (fun s_ h => m_ (s_) h)
    (fun X s_ h hi hx => (spec_l06Keep_link0 S K X (s_) i1_ h).mpr (hs X (s_) h hi fun s0_' h' hi' hm' => hx (s0_') h' hi' hm')) (s0_) h0
theorem spec_l06Keep_unroll0 (S : SatT) (K : AVal → H → Prop) (s0_ : Sl) (i1_ : Int) (h : H) (hb : spec_l06Keep_b0 S K (fun fr h => loopK (spec_l06Keep_w0 S K) fr h) s0_ i1_ h) : spec_l06Keep_L0 S K s0_ i1_ h := loop_unroll ((spec_l06Keep_link0 S K _ s0_ i1_ h).mpr hb)
def spec_l06Keep_main (S : SatT) (K : AVal → H → Prop) (x0 : Sl) (x1 : Int) (h : H) : Prop :=
 spec_l06Keep_L0 S K x0 x1 h
theorem spec_l06Keep_main_link (S : SatT) (K : AVal → H → Prop) (x0 : Sl) (x1 : Int) (h : H) : cwp S tab spec_l06Keep_M [] (bodyOf Try.f100) (kFun tab Try.f100.results.toList K) (fr0 Try.f100 [.sl x0, .int .i64 x1]) h = spec_l06Keep_main S K x0 x1 h := by kernel_rfl
theorem spec_l06Keep_call (x0 : Sl) (x1 : Int) (h : H) (K : Sl → H → Prop) (hm : spec_l06Keep_main (Sat Try.prog) (fun v h' => ∃ r, v = .sl r ∧ K r h') x0 x1 h) : callS (Sat Try.prog) i_spec_l06Keep [.sl x0, .int .i64 x1] h K := by
  have := Sat.ex tok mixed spec_l06Keep_M Try.func100 (c := bodyOf Try.f100) (by kernel_rfl) (calls_of Try.func100 (c := bodyOf Try.f100) (by kernel_rfl) (by decide)) ((spec_l06Keep_main_link _ _ x0 x1 h).mpr hm)
  obtain ⟨v, h2, h3, r, rfl, h4⟩ := this; exact ⟨r, h2, h3, h4⟩

/-! ### loop.example/g01354/impl.strongParts -/
def impl_strongParts_M : Nat → List Nat := fun i => bif i == 2 then [3, 4, 5, 6, 12, 13, 18, 19] else bif i == 0 then [3, 4, 12, 13] else []
def impl_strongParts_ks2 (S : SatT) (K : AVal → H → Prop) : Kont := kSeq (cwp S tab impl_strongParts_M [] (sub [1, 1, 1] (bodyOf Try.f81)) (kFun tab (Try.f81).results.toList K)) (kFun tab (Try.f81).results.toList K)
def impl_strongParts_e0 (s3_ : Sl) (s4_ : Sl) (i12_ : Int) (i13_ : Int) : Frame := [U, U, U, .sl s3_, .sl s4_, U, U, U, U, U, U, U, .int .i64 i12_, .int .i64 i13_, U, U, U, U, U, U, U, U, U, U, U, U, U, U, U, U, U, U, U, U, U, U, U, U, U, U, U, U, U, U, U, U, U, U, U, U, U, U, U, U, U, U, U, U, U]
def impl_strongParts_w0 (S : SatT) (K : AVal → H → Prop) : (Frame → H → Prop) → Frame → H → Prop := fun X fr h => cwp S tab impl_strongParts_M (impl_strongParts_M 0) (sub [1, 1, 0, 1, 0, 0] (bodyOf Try.f81)) (kSeq (fun fr h => X (mask (impl_strongParts_M 0) fr) h) (kBlk 0 (impl_strongParts_ks2 S K))) fr h
def impl_strongParts_L0 (S : SatT) (K : AVal → H → Prop) (s3_ : Sl) (s4_ : Sl) (i12_ : Int) (i13_ : Int) (h : H) : Prop := loopK (impl_strongParts_w0 S K) (impl_strongParts_e0 s3_ s4_ i12_ i13_) h
def impl_strongParts_ks6 (S : SatT) (K : AVal → H → Prop) (X0 : Frame → H → Prop) : Kont := kSeq (cwp S tab impl_strongParts_M (impl_strongParts_M 0) (sub [1, 1, 0, 1, 0, 0, 1, 1, 1] (bodyOf Try.f81)) (kSeq (fun fr h => X0 (mask (impl_strongParts_M 0) fr) h) (kBlk 0 (impl_strongParts_ks2 S K)))) (kSeq (fun fr h => X0 (mask (impl_strongParts_M 0) fr) h) (kBlk 0 (impl_strongParts_ks2 S K)))
def impl_strongParts_ks9 (S : SatT) (K : AVal → H → Prop) (X0 : Frame → H → Prop) : Kont := kSeq (cwp S tab impl_strongParts_M (impl_strongParts_M 1) (sub [1, 1, 0, 1, 0, 0, 1, 1, 0, 0, 1, 1, 1] (bodyOf Try.f81)) (kBlk 1 (impl_strongParts_ks6 S K X0))) (kBlk 1 (impl_strongParts_ks6 S K X0))
def impl_strongParts_e2 (s3_ : Sl) (s4_ : Sl) (i5_ : Int) (s6_ : Sl) (i12_ : Int) (i13_ : Int) (i18_ : Int) (i19_ : Int) : Frame := [U, U, U, .sl s3_, .sl s4_, .int .i64 i5_, .sl s6_, U, U, U, U, U, .int .i64 i12_, .int .i64 i13_, U, U, U, U, .int .i64 i18_, .int .i64 i19_, U, U, U, U, U, U, U, U, U, U, U, U, U, U, U, U, U, U, U, U, U, U, U, U, U, U, U, U, U, U, U, U, U, U, U, U, U, U, U]
def impl_strongParts_w2 (S : SatT) (K : AVal → H → Prop) (X0 : Frame → H → Prop) : (Frame → H → Prop) → Frame → H → Prop := fun X fr h => cwp S tab impl_strongParts_M (impl_strongParts_M 2) (sub [1, 1, 0, 1, 0, 0, 1, 1, 0, 0, 1, 1, 0, 1, 0, 0] (bodyOf Try.f81)) (kSeq (fun fr h => X (mask (impl_strongParts_M 2) fr) h) (kBlk 2 (impl_strongParts_ks9 S K X0))) fr h
def impl_strongParts_L2 (S : SatT) (K : AVal → H → Prop) (X0 : Frame → H → Prop) (s3_ : Sl) (s4_ : Sl) (i5_ : Int) (s6_ : Sl) (i12_ : Int) (i13_ : Int) (i18_ : Int) (i19_ : Int) (h : H) : Prop := loopK (impl_strongParts_w2 S K X0) (impl_strongParts_e2 s3_ s4_ i5_ s6_ i12_ i13_ i18_ i19_) h
def impl_strongParts_C1 (S : SatT) (K : AVal → H → Prop) (X0 : Frame → H → Prop) (s3_ : Sl) (s4_ : Sl) (i12_ : Int) (i13_ : Int) (h : H) : Prop :=
 X0 (impl_strongParts_e0 s3_ s4_ i12_ (w64 (i13_ + (1)))) h
def impl_strongParts_C2 (S : SatT) (K : AVal → H → Prop) (X0 : Frame → H → Prop) (s3_ : Sl) (s4_ : Sl) (i5_ : Int) (s6_ : Sl) (i12_ : Int) (i13_ : Int) (h : H) : Prop :=
 bif (decide ((s6_.len : Int) > (0))) then
 ixS s6_ 1 (0) fun p0 =>
 ldI .i64 p0 h fun n1 =>
 bif (n1 == i5_) then
 newS 1 1 [.sl s6_] h fun s2 h3 =>
 app s3_ s2 1 h3 fun s4 h5 =>
 impl_strongParts_C1 S K X0 s4 s4_ i12_ i13_ h5
 else
 impl_strongParts_C1 S K X0 s3_ s4_ i12_ i13_ h
 else
 impl_strongParts_C1 S K X0 s3_ s4_ i12_ i13_ h
def impl_strongParts_b2 (S : SatT) (K : AVal → H → Prop) (X0 : Frame → H → Prop) (X2 : Frame → H → Prop) (s3_ : Sl) (s4_ : Sl) (i5_ : Int) (s6_ : Sl) (i12_ : Int) (i13_ : Int) (i18_ : Int) (i19_ : Int) (h : H) : Prop :=
 bif (decide (i19_ < i18_)) then
 ixS s4_ 1 i5_ fun p0 =>
 ldS p0 h fun s1 =>
 ixS s1 1 i19_ fun p2 =>
 ldB p2 h fun b3 =>
 bif b3 then
 ixS s4_ 1 i19_ fun p4 =>
 ldS p4 h fun s5 =>
 ixS s5 1 i5_ fun p6 =>
 ldB p6 h fun b7 =>
 bif b7 then
 newS 1 1 [.int .i64 i19_] h fun s8 h9 =>
 app s6_ s8 1 h9 fun s10 h11 =>
 X2 (impl_strongParts_e2 s3_ s4_ i5_ s10 i12_ i13_ i18_ (w64 (i19_ + (1)))) h11
 else
 X2 (impl_strongParts_e2 s3_ s4_ i5_ s6_ i12_ i13_ i18_ (w64 (i19_ + (1)))) h
 else
 X2 (impl_strongParts_e2 s3_ s4_ i5_ s6_ i12_ i13_ i18_ (w64 (i19_ + (1)))) h
 else
 impl_strongParts_C2 S K X0 s3_ s4_ i5_ s6_ i12_ i13_ h
theorem impl_strongParts_link2 (S : SatT) (K : AVal → H → Prop) (X0 : Frame → H → Prop) (X2 : Frame → H → Prop) (s3_ : Sl) (s4_ : Sl) (i5_ : Int) (s6_ : Sl) (i12_ : Int) (i13_ : Int) (i18_ : Int) (i19_ : Int) (h : H) : impl_strongParts_w2 S K X0 X2 (impl_strongParts_e2 s3_ s4_ i5_ s6_ i12_ i13_ i18_ i19_) h = impl_strongParts_b2 S K X0 X2 s3_ s4_ i5_ s6_ i12_ i13_ i18_ i19_ h := by kernel_rfl
theorem impl_strongParts_rule2 (S : SatT) (K : AVal → H → Prop) (X0 : Frame → H → Prop) (s3_ : Sl) (s4_ : Sl) (i5_ : Int) (i12_ : Int) (i13_ : Int) (i18_ : Int) (I_ : Sl → Int → H → Prop) (m_ : Sl → Int → H → Nat)
    (hs : ∀ (X2 : Frame → H → Prop) (s6_ : Sl) (i19_ : Int) (h : H), I_ s6_ i19_ h → (∀ (s6_' : Sl) (i19_' : Int) (h' : H), I_ s6_' i19_' h' → m_ s6_' i19_' h' < m_ s6_ i19_ h → X2 (impl_strongParts_e2 s3_ s4_ i5_ s6_' i12_ i13_ i18_ i19_') h') → impl_strongParts_b2 S K X0 X2 s3_ s4_ i5_ s6_ i12_ i13_ i18_ i19_ h) (s6_ : Sl) (i19_ : Int) {h : H} (h0 : I_ s6_ i19_ h) : impl_strongParts_L2 S K X0 s3_ s4_ i5_ s6_ i12_ i13_ i18_ i19_ h :=
  loop_rule (σ := (Sl) × (Int)) (fun s_ => impl_strongParts_e2 s3_ s4_ i5_ (s_.1) i12_ i13_ i18_ (s_.2)) (fun s_ h => I_ (s_.1) (s_.2) h) (fun s_ h => m_ (s_.1) (s_.2) h)
    (fun X s_ h hi hx => (impl_strongParts_link2 S K X0 X s3_ s4_ i5_ (s_.1) i12_ i13_ i18_ (s_.2) h).mpr (hs X (s_.1) (s_.2) h hi fun s6_' i19_' h' hi' hm' => hx (s6_', i19_') h' hi' hm')) (s6_, i19_) h0
theorem impl_strongParts_unroll2 (S : SatT) (K : AVal → H → Prop) (X0 : Frame → H → Prop) (s3_ : Sl) (s4_ : Sl) (i5_ : Int) (s6_ : Sl) (i12_ : Int) (i13_ : Int) (i18_ : Int) (i19_ : Int) (h : H) (hb : impl_strongParts_b2 S K X0 (fun fr h => loopK (impl_strongParts_w2 S K X0) fr h) s3_ s4_ i5_ s6_ i12_ i13_ i18_ i19_ h) : impl_strongParts_L2 S K X0 s3_ s4_ i5_ s6_ i12_ i13_ i18_ i19_ h := loop_unroll ((impl_strongParts_link2 S K X0 _ s3_ s4_ i5_ s6_ i12_ i13_ i18_ i19_ h).mpr hb)
def impl_strongParts_C0 (S : SatT) (K : AVal → H → Prop) (s3_ : Sl) (h : H) : Prop :=
 K (.sl s3_) h
def impl_strongParts_b0 (S : SatT) (K : AVal → H → Prop) (X0 : Frame → H → Prop) (s3_ : Sl) (s4_ : Sl) (i12_ : Int) (i13_ : Int) (h : H) : Prop :=
 bif (decide (i13_ < i12_)) then
 newS 0 1 [] h fun s0 h1 =>
 impl_strongParts_L2 S K X0 s3_ s4_ i13_ s0 i12_ i13_ (s4_.len : Int) (0) h1
 else
 impl_strongParts_C0 S K s3_ h
theorem impl_strongParts_link0 (S : SatT) (K : AVal → H → Prop) (X0 : Frame → H → Prop) (s3_ : Sl) (s4_ : Sl) (i12_ : Int) (i13_ : Int) (h : H) : impl_strongParts_w0 S K X0 (impl_strongParts_e0 s3_ s4_ i12_ i13_) h = impl_strongParts_b0 S K X0 s3_ s4_ i12_ i13_ h := by kernel_rfl
theorem impl_strongParts_rule0 (S : SatT) (K : AVal → H → Prop) (s4_ : Sl) (i12_ : Int) (I_ : Sl → Int → H → Prop) (m_ : Sl → Int → H → Nat)
    (hs : ∀ (X0 : Frame → H → Prop) (s3_ : Sl) (i13_ : Int) (h : H), I_ s3_ i13_ h → (∀ (s3_' : Sl) (i13_' : Int) (h' : H), I_ s3_' i13_' h' → m_ s3_' i13_' h' < m_ s3_ i13_ h → X0 (impl_strongParts_e0 s3_' s4_ i12_ i13_') h') → impl_strongParts_b0 S K X0 s3_ s4_ i12_ i13_ h) (s3_ : Sl) (i13_ : Int) {h : H} (h0 : I_ s3_ i13_ h) : impl_strongParts_L0 S K s3_ s4_ i12_ i13_ h :=
  loop_rule (σ := (Sl) × (Int)) (fun s_ => impl_strongParts_e0 (s_.1) s4_ i12_ (s_.2)) (fun s_ h => I_ (s_.1) (s_.2) h) (fun s_ h => m_ (s_.1) (s_.2) h)
    (fun X s_ h hi hx => (impl_strongParts_link0 S K X (s_.1) s4_ i12_ (s_.2) h).mpr (hs X (s_.1) (s_.2) h hi fun s3_' i13_' h' hi' hm' => hx (s3_', i13_') h' hi' hm')) (s3_, i13_) h0
theorem impl_strongParts_unroll0 (S : SatT) (K : AVal → H → Prop) (s3_ : Sl) (s4_ : Sl) (i12_ : Int) (i13_ : Int) (h : H) (hb : impl_strongParts_b0 S K (fun fr h => loopK (impl_strongParts_w0 S K) fr h) s3_ s4_ i12_ i13_ h) : impl_strongParts_L0 S K s3_ s4_ i12_ i13_ h := loop_unroll ((impl_strongParts_link0 S K _ s3_ s4_ i12_ i13_ h).mpr hb)
def impl_strongParts_main (S : SatT) (K : AVal → H → Prop) (x0 : Sl) (h : H) : Prop :=
 newS 0 1 [] h fun s0 h1 =>
 callS S i_impl_reach [.sl x0] h1 fun s3 h2 =>
 impl_strongParts_L0 S K s0 s3 (s3.len : Int) (0) h2
theorem impl_strongParts_main_link (S : SatT) (K : AVal → H → Prop) (x0 : Sl) (h : H) : cwp S tab impl_strongParts_M [] (bodyOf Try.f81) (kFun tab Try.f81.results.toList K) (fr0 Try.f81 [.sl x0]) h = impl_strongParts_main S K x0 h := by kernel_rfl
theorem impl_strongParts_call (x0 : Sl) (h : H) (K : Sl → H → Prop) (hm : impl_strongParts_main (Sat Try.prog) (fun v h' => ∃ r, v = .sl r ∧ K r h') x0 h) : callS (Sat Try.prog) i_impl_strongParts [.sl x0] h K := by
  have := Sat.ex tok mixed impl_strongParts_M Try.func81 (c := bodyOf Try.f81) (by kernel_rfl) (calls_of Try.func81 (c := bodyOf Try.f81) (by kernel_rfl) (by decide)) ((impl_strongParts_main_link _ _ x0 h).mpr hm)
  obtain ⟨v, h2, h3, r, rfl, h4⟩ := this; exact ⟨r, h2, h3, h4⟩

/-! ### loop.example/g01354/spec.l06Parts -/
def spec_l06Parts_M : Nat → List Nat := fun i => bif i == 2 then [0, 3, 4, 5, 6, 7, 8] else bif i == 0 then [0, 3, 4, 5, 6] else []
def spec_l06Parts_ks2 (S : SatT) (K : AVal → H → Prop) : Kont := kSeq (cwp S tab spec_l06Parts_M [] (sub [1, 1, 1] (bodyOf Try.f80)) (kFun tab (Try.f80).results.toList K)) (kFun tab (Try.f80).results.toList K)
def spec_l06Parts_e0 (s0_ : Sl) (s3_ : Sl) (s4_ : Sl) (s5_ : Sl) (i6_ : Int) : Frame := [.sl s0_, U, U, .sl s3_, .sl s4_, .sl s5_, .int .i64 i6_, U, U, U, U, U, U, U, U, U, U, U, U, U, U, U, U, U, U, U, U, U, U, U, U, U, U, U, U, U, U, U, U, U, U, U, U, U, U, U, U, U, U, U, U, U, U, U, U, U, U, U, U, U, U, U, U, U, U, U, U, U, U, U, U]
def spec_l06Parts_w0 (S : SatT) (K : AVal → H → Prop) : (Frame → H → Prop) → Frame → H → Prop := fun X fr h => cwp S tab spec_l06Parts_M (spec_l06Parts_M 0) (sub [1, 1, 0, 1, 0, 0] (bodyOf Try.f80)) (kSeq (fun fr h => X (mask (spec_l06Parts_M 0) fr) h) (kBlk 0 (spec_l06Parts_ks2 S K))) fr h
def spec_l06Parts_L0 (S : SatT) (K : AVal → H → Prop) (s0_ : Sl) (s3_ : Sl) (s4_ : Sl) (s5_ : Sl) (i6_ : Int) (h : H) : Prop := loopK (spec_l06Parts_w0 S K) (spec_l06Parts_e0 s0_ s3_ s4_ s5_ i6_) h
def spec_l06Parts_C1 (S : SatT) (K : AVal → H → Prop) (X0 : Frame → H → Prop) (s0_ : Sl) (s3_ : Sl) (s4_ : Sl) (s5_ : Sl) (i6_ : Int) (h : H) : Prop :=
 X0 (spec_l06Parts_e0 s0_ s3_ s4_ s5_ (w64 (i6_ + (1)))) h
def spec_l06Parts_ks6 (S : SatT) (K : AVal → H → Prop) (X0 : Frame → H → Prop) : Kont := kSeq (cwp S tab spec_l06Parts_M (spec_l06Parts_M 0) (sub [1, 1, 0, 1, 0, 0, 1, 1] (bodyOf Try.f80)) (kSeq (fun fr h => X0 (mask (spec_l06Parts_M 0) fr) h) (kBlk 0 (spec_l06Parts_ks2 S K)))) (kSeq (fun fr h => X0 (mask (spec_l06Parts_M 0) fr) h) (kBlk 0 (spec_l06Parts_ks2 S K)))
def spec_l06Parts_ks10 (S : SatT) (K : AVal → H → Prop) (X0 : Frame → H → Prop) : Kont := kSeq (cwp S tab spec_l06Parts_M (spec_l06Parts_M 1) (sub [1, 1, 0, 1, 0, 0, 1, 0, 0, 1, 1, 1] (bodyOf Try.f80)) (kBlk 1 (spec_l06Parts_ks6 S K X0))) (kBlk 1 (spec_l06Parts_ks6 S K X0))
def spec_l06Parts_e2 (s0_ : Sl) (s3_ : Sl) (s4_ : Sl) (s5_ : Sl) (i6_ : Int) (s7_ : Sl) (i8_ : Int) : Frame := [.sl s0_, U, U, .sl s3_, .sl s4_, .sl s5_, .int .i64 i6_, .sl s7_, .int .i64 i8_, U, U, U, U, U, U, U, U, U, U, U, U, U, U, U, U, U, U, U, U, U, U, U, U, U, U, U, U, U, U, U, U, U, U, U, U, U, U, U, U, U, U, U, U, U, U, U, U, U, U, U, U, U, U, U, U, U, U, U, U, U, U]
def spec_l06Parts_w2 (S : SatT) (K : AVal → H → Prop) (X0 : Frame → H → Prop) : (Frame → H → Prop) → Frame → H → Prop := fun X fr h => cwp S tab spec_l06Parts_M (spec_l06Parts_M 2) (sub [1, 1, 0, 1, 0, 0, 1, 0, 0, 1, 1, 0, 1, 0, 0] (bodyOf Try.f80)) (kSeq (fun fr h => X (mask (spec_l06Parts_M 2) fr) h) (kBlk 2 (spec_l06Parts_ks10 S K X0))) fr h
def spec_l06Parts_L2 (S : SatT) (K : AVal → H → Prop) (X0 : Frame → H → Prop) (s0_ : Sl) (s3_ : Sl) (s4_ : Sl) (s5_ : Sl) (i6_ : Int) (s7_ : Sl) (i8_ : Int) (h : H) : Prop := loopK (spec_l06Parts_w2 S K X0) (spec_l06Parts_e2 s0_ s3_ s4_ s5_ i6_ s7_ i8_) h
def spec_l06Parts_C2 (S : SatT) (K : AVal → H → Prop) (X0 : Frame → H → Prop) (s0_ : Sl) (s3_ : Sl) (s4_ : Sl) (s5_ : Sl) (i6_ : Int) (s7_ : Sl) (h : H) : Prop :=
 newS 1 1 [.sl s7_] h fun s0 h1 =>
 app s5_ s0 1 h1 fun s2 h3 =>
 spec_l06Parts_C1 S K X0 s0_ s3_ s4_ s2 i6_ h3
def spec_l06Parts_b2 (S : SatT) (K : AVal → H → Prop) (X0 : Frame → H → Prop) (X2 : Frame → H → Prop) (s0_ : Sl) (s3_ : Sl) (s4_ : Sl) (s5_ : Sl) (i6_ : Int) (s7_ : Sl) (i8_ : Int) (h : H) : Prop :=
 bif (decide (i8_ < (s0_.len : Int))) then
 ixS s3_ 1 i6_ fun p0 =>
 ldS p0 h fun s1 =>
 ixS s1 1 i8_ fun p2 =>
 ldB p2 h fun b3 =>
 bif b3 then
 ixS s3_ 1 i8_ fun p4 =>
 ldS p4 h fun s5 =>
 ixS s5 1 i6_ fun p6 =>
 ldB p6 h fun b7 =>
 bif b7 then
 ixS s4_ 1 i8_ fun p8 =>
 st1 p8 (.bool true) h fun h9 =>
 newS 1 1 [.int .i64 i8_] h9 fun s10 h11 =>
 app s7_ s10 1 h11 fun s12 h13 =>
 X2 (spec_l06Parts_e2 s0_ s3_ s4_ s5_ i6_ s12 (w64 (i8_ + (1)))) h13
 else
 X2 (spec_l06Parts_e2 s0_ s3_ s4_ s5_ i6_ s7_ (w64 (i8_ + (1)))) h
 else
 X2 (spec_l06Parts_e2 s0_ s3_ s4_ s5_ i6_ s7_ (w64 (i8_ + (1)))) h
 else
 spec_l06Parts_C2 S K X0 s0_ s3_ s4_ s5_ i6_ s7_ h
theorem spec_l06Parts_link2 (S : SatT) (K : AVal → H → Prop) (X0 : Frame → H → Prop) (X2 : Frame → H → Prop) (s0_ : Sl) (s3_ : Sl) (s4_ : Sl) (s5_ : Sl) (i6_ : Int) (s7_ : Sl) (i8_ : Int) (h : H) : spec_l06Parts_w2 S K X0 X2 (spec_l06Parts_e2 s0_ s3_ s4_ s5_ i6_ s7_ i8_) h = spec_l06Parts_b2 S K X0 X2 s0_ s3_ s4_ s5_ i6_ s7_ i8_ h := by kernel_rfl
theorem spec_l06Parts_rule2 (S : SatT) (K : AVal → H → Prop) (X0 : Frame → H → Prop) (s0_ : Sl) (s3_ : Sl) (s4_ : Sl) (s5_ : Sl) (i6_ : Int) (I_ : Sl → Int → H → Prop) (m_ : Sl → Int → H → Nat)
    (hs : ∀ (X2 : Frame → H → Prop) (s7_ : Sl) (i8_ : Int) (h : H), I_ s7_ i8_ h → (∀ (s7_' : Sl) (i8_' : Int) (h' : H), I_ s7_' i8_' h' → m_ s7_' i8_' h' < m_ s7_ i8_ h → X2 (spec_l06Parts_e2 s0_ s3_ s4_ s5_ i6_ s7_' i8_') h') → spec_l06Parts_b2 S K X0 X2 s0_ s3_ s4_ s5_ i6_ s7_ i8_ h) (s7_ : Sl) (i8_ : Int) {h : H} (h0 : I_ s7_ i8_ h) : spec_l06Parts_L2 S K X0 s0_ s3_ s4_ s5_ i6_ s7_ i8_ h :=
  loop_rule (σ := (Sl) × (Int)) (fun s_ => spec_l06Parts_e2 s0_ s3_ s4_ s5_ i6_ (s_.1) (s_.2)) (fun s_ h => I_ (s_.1) (s_.2) h) (fun s_ h => m_ (s_.1) (s_.2) h)
    (fun X s_ h hi hx => (spec_l06Parts_link2 S K X0 X s0_ s3_ s4_ s5_ i6_ (s_.1) (s_.2) h).mpr (hs X (s_.1) (s_.2) h hi fun s7_' i8_' h' hi' hm' => hx (s7_', i8_') h' hi' hm')) (s7_, i8_) h0
theorem spec_l06Parts_unroll2 (S : SatT) (K : AVal → H → Prop) (X0 : Frame → H → Prop) (s0_ : Sl) (s3_ : Sl) (s4_ : Sl) (s5_ : Sl) (i6_ : Int) (s7_ : Sl) (i8_ : Int) (h : H) (hb : spec_l06Parts_b2 S K X0 (fun fr h => loopK (spec_l06Parts_w2 S K X0) fr h) s0_ s3_ s4_ s5_ i6_ s7_ i8_ h) : spec_l06Parts_L2 S K X0 s0_ s3_ s4_ s5_ i6_ s7_ i8_ h := loop_unroll ((spec_l06Parts_link2 S K X0 _ s0_ s3_ s4_ s5_ i6_ s7_ i8_ h).mpr hb)
def spec_l06Parts_C0 (S : SatT) (K : AVal → H → Prop) (s5_ : Sl) (h : H) : Prop :=
 K (.sl s5_) h
def spec_l06Parts_b0 (S : SatT) (K : AVal → H → Prop) (X0 : Frame → H → Prop) (s0_ : Sl) (s3_ : Sl) (s4_ : Sl) (s5_ : Sl) (i6_ : Int) (h : H) : Prop :=
 bif (decide (i6_ < (s0_.len : Int))) then
 ixS s4_ 1 i6_ fun p0 =>
 ldB p0 h fun b1 =>
 bif b1 then
 spec_l06Parts_C1 S K X0 s0_ s3_ s4_ s5_ i6_ h
 else
 ixS s3_ 1 i6_ fun p2 =>
 ldS p2 h fun s3 =>
 ixS s3 1 i6_ fun p4 =>
 ldB p4 h fun b5 =>
 bif (!b5) then
 spec_l06Parts_C1 S K X0 s0_ s3_ s4_ s5_ i6_ h
 else
 newS 0 1 [] h fun s6 h7 =>
 spec_l06Parts_L2 S K X0 s0_ s3_ s4_ s5_ i6_ s6 i6_ h7
 else
 spec_l06Parts_C0 S K s5_ h
theorem spec_l06Parts_link0 (S : SatT) (K : AVal → H → Prop) (X0 : Frame → H → Prop) (s0_ : Sl) (s3_ : Sl) (s4_ : Sl) (s5_ : Sl) (i6_ : Int) (h : H) : spec_l06Parts_w0 S K X0 (spec_l06Parts_e0 s0_ s3_ s4_ s5_ i6_) h = spec_l06Parts_b0 S K X0 s0_ s3_ s4_ s5_ i6_ h := by kernel_rfl
theorem spec_l06Parts_rule0 (S : SatT) (K : AVal → H → Prop) (s0_ : Sl) (s3_ : Sl) (s4_ : Sl) (I_ : Sl → Int → H → Prop) (m_ : Sl → Int → H → Nat)
    (hs : ∀ (X0 : Frame → H → Prop) (s5_ : Sl) (i6_ : Int) (h : H), I_ s5_ i6_ h → (∀ (s5_' : Sl) (i6_' : Int) (h' : H), I_ s5_' i6_' h' → m_ s5_' i6_' h' < m_ s5_ i6_ h → X0 (spec_l06Parts_e0 s0_ s3_ s4_ s5_' i6_') h') → spec_l06Parts_b0 S K X0 s0_ s3_ s4_ s5_ i6_ h) (s5_ : Sl) (i6_ : Int) {h : H} (h0 : I_ s5_ i6_ h) : spec_l06Parts_L0 S K s0_ s3_ s4_ s5_ i6_ h :=
  loop_rule (σ := (Sl) × (Int)) (fun s_ => spec_l06Parts_e0 s0_ s3_ s4_ (s_.1) (s_.2)) (fun s_ h => I_ (s_.1) (s_.2) h) (fun s_ h => m_ (s_.1) (s_.2) h)
    (fun X s_ h hi hx => (spec_l06Parts_link0 S K X s0_ s3_ s4_ (s_.1) (s_.2) h).mpr (hs X (s_.1) (s_.2) h hi fun s5_' i6_' h' hi' hm' => hx (s5_', i6_') h' hi' hm')) (s5_, i6_) h0
theorem spec_l06Parts_unroll0 (S : SatT) (K : AVal → H → Prop) (s0_ : Sl) (s3_ : Sl) (s4_ : Sl) (s5_ : Sl) (i6_ : Int) (h : H) (hb : spec_l06Parts_b0 S K (fun fr h => loopK (spec_l06Parts_w0 S K) fr h) s0_ s3_ s4_ s5_ i6_ h) : spec_l06Parts_L0 S K s0_ s3_ s4_ s5_ i6_ h := loop_unroll ((spec_l06Parts_link0 S K _ s0_ s3_ s4_ s5_ i6_ h).mpr hb)
def spec_l06Parts_main (S : SatT) (K : AVal → H → Prop) (x0 : Sl) (h : H) : Prop :=
 slotK 9 h fun h0 =>
 callS S i_spec_l06Reach [.sl x0] h0 fun s2 h1 =>
 mkSat (x0.len : Int) [.bool false] h1 (h.length + 4) fun s3 h4 =>
 newSat 0 1 [] h4 (h.length + 5) fun s5 h6 =>
 spec_l06Parts_L0 S K x0 s2 s3 s5 (0) h6
theorem spec_l06Parts_main_link (S : SatT) (K : AVal → H → Prop) (x0 : Sl) (h : H) : cwp S tab spec_l06Parts_M [] (bodyOf Try.f80) (kFun tab Try.f80.results.toList K) (fr0 Try.f80 [.sl x0]) h = spec_l06Parts_main S K x0 h := by kernel_rfl
theorem spec_l06Parts_call (x0 : Sl) (h : H) (K : Sl → H → Prop) (hm : spec_l06Parts_main (Sat Try.prog) (fun v h' => ∃ r, v = .sl r ∧ K r h') x0 h) : callS (Sat Try.prog) i_spec_l06Parts [.sl x0] h K := by
  have := Sat.ex tok mixed spec_l06Parts_M Try.func80 (c := bodyOf Try.f80) (by kernel_rfl) (calls_of Try.func80 (c := bodyOf Try.f80) (by kernel_rfl) (by decide)) ((spec_l06Parts_main_link _ _ x0 h).mpr hm)
  obtain ⟨v, h2, h3, r, rfl, h4⟩ := this; exact ⟨r, h2, h3, h4⟩

/-! ### loop.example/g01354/laws.markTileS -/
def laws_markTileS_M : Nat → List Nat := fun i => bif i == 2 then [0, 1, 5, 6] else bif i == 0 then [0, 1, 5] else []
def laws_markTileS_ks1 (S : SatT) (K : AVal → H → Prop) : Kont := kSeq (cwp S tab laws_markTileS_M [] (sub [1, 1] (bodyOf Try.f60)) (kFun tab (Try.f60).results.toList K)) (kFun tab (Try.f60).results.toList K)
def laws_markTileS_e0 (s0_ : Sl) (i1_ : Int) (i5_ : Int) : Frame := [.sl s0_, .int .i64 i1_, U, U, U, .int .i64 i5_, U, U, U, U, U, U, U, U, U, U, U, U, U, U, U, U, U, U, U, U]
def laws_markTileS_w0 (S : SatT) (K : AVal → H → Prop) : (Frame → H → Prop) → Frame → H → Prop := fun X fr h => cwp S tab laws_markTileS_M (laws_markTileS_M 0) (sub [1, 0, 1, 0, 0] (bodyOf Try.f60)) (kSeq (fun fr h => X (mask (laws_markTileS_M 0) fr) h) (kBlk 0 (laws_markTileS_ks1 S K))) fr h
def laws_markTileS_L0 (S : SatT) (K : AVal → H → Prop) (s0_ : Sl) (i1_ : Int) (i5_ : Int) (h : H) : Prop := loopK (laws_markTileS_w0 S K) (laws_markTileS_e0 s0_ i1_ i5_) h
def laws_markTileS_ks5 (S : SatT) (K : AVal → H → Prop) (X0 : Frame → H → Prop) : Kont := kSeq (cwp S tab laws_markTileS_M (laws_markTileS_M 0) (sub [1, 0, 1, 0, 0, 1, 1] (bodyOf Try.f60)) (kSeq (fun fr h => X0 (mask (laws_markTileS_M 0) fr) h) (kBlk 0 (laws_markTileS_ks1 S K)))) (kSeq (fun fr h => X0 (mask (laws_markTileS_M 0) fr) h) (kBlk 0 (laws_markTileS_ks1 S K)))
def laws_markTileS_e2 (s0_ : Sl) (i1_ : Int) (i5_ : Int) (i6_ : Int) : Frame := [.sl s0_, .int .i64 i1_, U, U, U, .int .i64 i5_, .int .i64 i6_, U, U, U, U, U, U, U, U, U, U, U, U, U, U, U, U, U, U, U]
def laws_markTileS_w2 (S : SatT) (K : AVal → H → Prop) (X0 : Frame → H → Prop) : (Frame → H → Prop) → Frame → H → Prop := fun X fr h => cwp S tab laws_markTileS_M (laws_markTileS_M 2) (sub [1, 0, 1, 0, 0, 1, 0, 0, 1, 0, 0] (bodyOf Try.f60)) (kSeq (fun fr h => X (mask (laws_markTileS_M 2) fr) h) (kBlk 2 (kBlk 1 (laws_markTileS_ks5 S K X0)))) fr h
def laws_markTileS_L2 (S : SatT) (K : AVal → H → Prop) (X0 : Frame → H → Prop) (s0_ : Sl) (i1_ : Int) (i5_ : Int) (i6_ : Int) (h : H) : Prop := loopK (laws_markTileS_w2 S K X0) (laws_markTileS_e2 s0_ i1_ i5_ i6_) h
def laws_markTileS_C1 (S : SatT) (K : AVal → H → Prop) (X0 : Frame → H → Prop) (s0_ : Sl) (i1_ : Int) (i5_ : Int) (h : H) : Prop :=
 X0 (laws_markTileS_e0 s0_ i1_ (w64 (i5_ + (1)))) h
def laws_markTileS_C2 (S : SatT) (K : AVal → H → Prop) (X0 : Frame → H → Prop) (s0_ : Sl) (i1_ : Int) (i5_ : Int) (h : H) : Prop :=
 laws_markTileS_C1 S K X0 s0_ i1_ i5_ h
def laws_markTileS_b2 (S : SatT) (K : AVal → H → Prop) (X0 : Frame → H → Prop) (X2 : Frame → H → Prop) (s0_ : Sl) (i1_ : Int) (i5_ : Int) (i6_ : Int) (h : H) : Prop :=
 bif (decide (i6_ < (4))) then
 ixS s0_ 4 i5_ fun p0 =>
 ixA p0 4 1 i6_ fun p1 =>
 st1 p1 (.int .i64 i1_) h fun h2 =>
 X2 (laws_markTileS_e2 s0_ (w64 (i1_ + (1))) i5_ (w64 (i6_ + (1)))) h2
 else
 laws_markTileS_C2 S K X0 s0_ i1_ i5_ h
theorem laws_markTileS_link2 (S : SatT) (K : AVal → H → Prop) (X0 : Frame → H → Prop) (X2 : Frame → H → Prop) (s0_ : Sl) (i1_ : Int) (i5_ : Int) (i6_ : Int) (h : H) : laws_markTileS_w2 S K X0 X2 (laws_markTileS_e2 s0_ i1_ i5_ i6_) h = laws_markTileS_b2 S K X0 X2 s0_ i1_ i5_ i6_ h := by kernel_rfl
theorem laws_markTileS_rule2 (S : SatT) (K : AVal → H → Prop) (X0 : Frame → H → Prop) (s0_ : Sl) (i5_ : Int) (I_ : Int → Int → H → Prop) (m_ : Int → Int → H → Nat)
    (hs : ∀ (X2 : Frame → H → Prop) (i1_ : Int) (i6_ : Int) (h : H), I_ i1_ i6_ h → (∀ (i1_' : Int) (i6_' : Int) (h' : H), I_ i1_' i6_' h' → m_ i1_' i6_' h' < m_ i1_ i6_ h → X2 (laws_markTileS_e2 s0_ i1_' i5_ i6_') h') → laws_markTileS_b2 S K X0 X2 s0_ i1_ i5_ i6_ h) (i1_ : Int) (i6_ : Int) {h : H} (h0 : I_ i1_ i6_ h) : laws_markTileS_L2 S K X0 s0_ i1_ i5_ i6_ h :=
  loop_rule (σ := (Int) × (Int)) (fun s_ => laws_markTileS_e2 s0_ (s_.1) i5_ (s_.2)) (fun s_ h => I_ (s_.1) (s_.2) h) (fun s_ h => m_ (s_.1) (s_.2) h)
    (fun X s_ h hi hx => (laws_markTileS_link2 S K X0 X s0_ (s_.1) i5_ (s_.2) h).mpr (hs X (s_.1) (s_.2) h hi fun i1_' i6_' h' hi' hm' => hx (i1_', i6_') h' hi' hm')) (i1_, i6_) h0
theorem laws_markTileS_unroll2 (S : SatT) (K : AVal → H → Prop) (X0 : Frame → H → Prop) (s0_ : Sl) (i1_ : Int) (i5_ : Int) (i6_ : Int) (h : H) (hb : laws_markTileS_b2 S K X0 (fun fr h => loopK (laws_markTileS_w2 S K X0) fr h) s0_ i1_ i5_ i6_ h) : laws_markTileS_L2 S K X0 s0_ i1_ i5_ i6_ h := loop_unroll ((laws_markTileS_link2 S K X0 _ s0_ i1_ i5_ i6_ h).mpr hb)
def laws_markTileS_C0 (S : SatT) (K : AVal → H → Prop) (i1_ : Int) (h : H) : Prop :=
 K (.int .i64 i1_) h
def laws_markTileS_b0 (S : SatT) (K : AVal → H → Prop) (X0 : Frame → H → Prop) (s0_ : Sl) (i1_ : Int) (i5_ : Int) (h : H) : Prop :=
 bif (decide (i5_ < (s0_.len : Int))) then
 laws_markTileS_L2 S K X0 s0_ i1_ i5_ (0) h
 else
 laws_markTileS_C0 S K i1_ h
theorem laws_markTileS_link0 (S : SatT) (K : AVal → H → Prop) (X0 : Frame → H → Prop) (s0_ : Sl) (i1_ : Int) (i5_ : Int) (h : H) : laws_markTileS_w0 S K X0 (laws_markTileS_e0 s0_ i1_ i5_) h = laws_markTileS_b0 S K X0 s0_ i1_ i5_ h := by kernel_rfl
theorem laws_markTileS_rule0 (S : SatT) (K : AVal → H → Prop) (s0_ : Sl) (I_ : Int → Int → H → Prop) (m_ : Int → Int → H → Nat)
    (hs : ∀ (X0 : Frame → H → Prop) (i1_ : Int) (i5_ : Int) (h : H), I_ i1_ i5_ h → (∀ (i1_' : Int) (i5_' : Int) (h' : H), I_ i1_' i5_' h' → m_ i1_' i5_' h' < m_ i1_ i5_ h → X0 (laws_markTileS_e0 s0_ i1_' i5_') h') → laws_markTileS_b0 S K X0 s0_ i1_ i5_ h) (i1_ : Int) (i5_ : Int) {h : H} (h0 : I_ i1_ i5_ h) : laws_markTileS_L0 S K s0_ i1_ i5_ h :=
  loop_rule (σ := (Int) × (Int)) (fun s_ => laws_markTileS_e0 s0_ (s_.1) (s_.2)) (fun s_ h => I_ (s_.1) (s_.2) h) (fun s_ h => m_ (s_.1) (s_.2) h)
    (fun X s_ h hi hx => (laws_markTileS_link0 S K X s0_ (s_.1) (s_.2) h).mpr (hs X (s_.1) (s_.2) h hi fun i1_' i5_' h' hi' hm' => hx (i1_', i5_') h' hi' hm')) (i1_, i5_) h0
theorem laws_markTileS_unroll0 (S : SatT) (K : AVal → H → Prop) (s0_ : Sl) (i1_ : Int) (i5_ : Int) (h : H) (hb : laws_markTileS_b0 S K (fun fr h => loopK (laws_markTileS_w0 S K) fr h) s0_ i1_ i5_ h) : laws_markTileS_L0 S K s0_ i1_ i5_ h := loop_unroll ((laws_markTileS_link0 S K _ s0_ i1_ i5_ h).mpr hb)
def laws_markTileS_main (S : SatT) (K : AVal → H → Prop) (x0 : Sl) (x1 : Int) (h : H) : Prop :=
 laws_markTileS_L0 S K x0 x1 (0) h
theorem laws_markTileS_main_link (S : SatT) (K : AVal → H → Prop) (x0 : Sl) (x1 : Int) (h : H) : cwp S tab laws_markTileS_M [] (bodyOf Try.f60) (kFun tab Try.f60.results.toList K) (fr0 Try.f60 [.sl x0, .int .i64 x1]) h = laws_markTileS_main S K x0 x1 h := by kernel_rfl
theorem laws_markTileS_call (x0 : Sl) (x1 : Int) (h : H) (K : Int → H → Prop) (hm : laws_markTileS_main (Sat Try.prog) (fun v h' => ∃ r, v = .int .i64 r ∧ K r h') x0 x1 h) : callI (Sat Try.prog) .i64 i_laws_markTileS [.sl x0, .int .i64 x1] h K := by
  have := Sat.ex tok mixed laws_markTileS_M Try.func60 (c := bodyOf Try.f60) (by kernel_rfl) (calls_of Try.func60 (c := bodyOf Try.f60) (by kernel_rfl) (by decide)) ((laws_markTileS_main_link _ _ x0 x1 h).mpr hm)
  obtain ⟨v, h2, h3, r, rfl, h4⟩ := this; exact ⟨r, h2, h3, h4⟩

/-! ### slices.Repeat[[]bool,bool] -/
def slices_Repeat_s_bool_bool__M : Nat → List Nat := fun i => bif i == 0 then [7, 8] else []
def slices_Repeat_s_bool_bool__ks8 (S : SatT) (K : AVal → H → Prop) : Kont := kSeq (cwp S tab slices_Repeat_s_bool_bool__M [] (sub [1, 1, 1, 1, 1, 1, 1] (bodyOf Try.f98)) (kFun tab (Try.f98).results.toList K)) (kFun tab (Try.f98).results.toList K)
def slices_Repeat_s_bool_bool__e0 (s7_ : Sl) (i8_ : Int) : Frame := [U, U, U, U, U, U, U, .sl s7_, .int .i64 i8_, U, U, U, U, U, U, U, U, U, U, U, U, U, U, U, U, U, U, U, U, U, U, U, U, U, U, U, U, U, U, U, U, U, U, U, U, U, U, U]
def slices_Repeat_s_bool_bool__w0 (S : SatT) (K : AVal → H → Prop) : (Frame → H → Prop) → Frame → H → Prop := fun X fr h => cwp S tab slices_Repeat_s_bool_bool__M (slices_Repeat_s_bool_bool__M 0) (sub [1, 1, 1, 1, 1, 1, 0, 0, 0] (bodyOf Try.f98)) (kSeq (fun fr h => X (mask (slices_Repeat_s_bool_bool__M 0) fr) h) (kBlk 0 (slices_Repeat_s_bool_bool__ks8 S K))) fr h
def slices_Repeat_s_bool_bool__L0 (S : SatT) (K : AVal → H → Prop) (s7_ : Sl) (i8_ : Int) (h : H) : Prop := loopK (slices_Repeat_s_bool_bool__w0 S K) (slices_Repeat_s_bool_bool__e0 s7_ i8_) h
def slices_Repeat_s_bool_bool__C0 (S : SatT) (K : AVal → H → Prop) (s7_ : Sl) (h : H) : Prop :=
 K (.sl s7_) h
def slices_Repeat_s_bool_bool__b0 (S : SatT) (K : AVal → H → Prop) (X0 : Frame → H → Prop) (s7_ : Sl) (i8_ : Int) (h : H) : Prop :=
 bif (decide (i8_ < (s7_.len : Int))) then
 cut s7_ 1 i8_ (s7_.len : Int) h fun s0 =>
 cut s7_ 1 (0) i8_ h fun s1 =>
 copyS s0 s1 1 h fun n2 h3 =>
 X0 (slices_Repeat_s_bool_bool__e0 s7_ (w64 (i8_ + n2))) h3
 else
 slices_Repeat_s_bool_bool__C0 S K s7_ h
theorem slices_Repeat_s_bool_bool__link0 (S : SatT) (K : AVal → H → Prop) (X0 : Frame → H → Prop) (s7_ : Sl) (i8_ : Int) (h : H) : slices_Repeat_s_bool_bool__w0 S K X0 (slices_Repeat_s_bool_bool__e0 s7_ i8_) h = slices_Repeat_s_bool_bool__b0 S K X0 s7_ i8_ h := by kernel_rfl
theorem slices_Repeat_s_bool_bool__rule0 (S : SatT) (K : AVal → H → Prop) (s7_ : Sl) (I_ : Int → H → Prop) (m_ : Int → H → Nat)
    (hs : ∀ (X0 : Frame → H → Prop) (i8_ : Int) (h : H), I_ i8_ h → (∀ (i8_' : Int) (h' : H), I_ i8_' h' → m_ i8_' h' < m_ i8_ h → X0 (slices_Repeat_s_bool_bool__e0 s7_ i8_') h') → slices_Repeat_s_bool_bool__b0 S K X0 s7_ i8_ h) (i8_ : Int) {h : H} (h0 : I_ i8_ h) : slices_Repeat_s_bool_bool__L0 S K s7_ i8_ h :=
  loop_rule (σ := (Int)) (fun s_ => slices_Repeat_s_bool_bool__e0 s7_ (s_)) (fun s_ h => I_ (s_) h) (fun s_ h => m_ (s_) h)
    (fun X s_ h hi hx => (slices_Repeat_s_bool_bool__link0 S K X s7_ (s_) h).mpr (hs X (s_) h hi fun i8_' h' hi' hm' => hx (i8_') h' hi' hm')) (i8_) h0
theorem slices_Repeat_s_bool_bool__unroll0 (S : SatT) (K : AVal → H → Prop) (s7_ : Sl) (i8_ : Int) (h : H) (hb : slices_Repeat_s_bool_bool__b0 S K (fun fr h => loopK (slices_Repeat_s_bool_bool__w0 S K) fr h) s7_ i8_ h) : slices_Repeat_s_bool_bool__L0 S K s7_ i8_ h := loop_unroll ((slices_Repeat_s_bool_bool__link0 S K _ s7_ i8_ h).mpr hb)
def slices_Repeat_s_bool_bool__main (S : SatT) (K : AVal → H → Prop) (x0 : Sl) (x1 : Int) (h : H) : Prop :=
 bif (decide (x1 < (0))) then
 False
 else
 callV S i_math_bits_Mul [.int .u64 (IntKind.wrap .u64 ((x0.len : Int))), .int .u64 (IntKind.wrap .u64 (x1))] h fun v1 h0 =>
 viaT v1 fun vs2 =>
 exI .u64 vs2 0 fun n3 =>
 viaT v1 fun vs4 =>
 exI .u64 vs4 1 fun n5 =>
 bif (decide (n3 > (0))) then
 False
 else
 bif (decide (n5 > (9223372036854775807))) then
 False
 else
 mkS (w64 (n5)) [.bool false] h0 fun s6 h7 =>
 copyS s6 x0 1 h7 fun n8 h9 =>
 slices_Repeat_s_bool_bool__L0 S K s6 n8 h9
theorem slices_Repeat_s_bool_bool__main_link (S : SatT) (K : AVal → H → Prop) (x0 : Sl) (x1 : Int) (h : H) : cwp S tab slices_Repeat_s_bool_bool__M [] (bodyOf Try.f98) (kFun tab Try.f98.results.toList K) (fr0 Try.f98 [.sl x0, .int .i64 x1]) h = slices_Repeat_s_bool_bool__main S K x0 x1 h := by kernel_rfl
theorem slices_Repeat_s_bool_bool__call (x0 : Sl) (x1 : Int) (h : H) (K : Sl → H → Prop) (hm : slices_Repeat_s_bool_bool__main (Sat Try.prog) (fun v h' => ∃ r, v = .sl r ∧ K r h') x0 x1 h) : callS (Sat Try.prog) i_slices_Repeat_s_bool_bool_ [.sl x0, .int .i64 x1] h K := by
  have := Sat.ex tok mixed slices_Repeat_s_bool_bool__M Try.func98 (c := bodyOf Try.f98) (by kernel_rfl) (calls_of Try.func98 (c := bodyOf Try.f98) (by kernel_rfl) (by decide)) ((slices_Repeat_s_bool_bool__main_link _ _ x0 x1 h).mpr hm)
  obtain ⟨v, h2, h3, r, rfl, h4⟩ := this; exact ⟨r, h2, h3, h4⟩

/-! ### loop.example/g01354/spec.LastingTiles -/
def spec_LastingTiles_M : Nat → List Nat := fun i => bif i == 0 then [4, 5, 6] else []
def spec_LastingTiles_ks5 (S : SatT) (K : AVal → H → Prop) : Kont := kSeq (cwp S tab spec_LastingTiles_M [] (sub [1, 1, 1, 1] (bodyOf Try.f19)) (kFun tab (Try.f19).results.toList K)) (kFun tab (Try.f19).results.toList K)
def spec_LastingTiles_e0 (s4_ : Sl) (s5_ : Sl) (i6_ : Int) : Frame := [U, U, U, U, .sl s4_, .sl s5_, .int .i64 i6_, U, U, U, U, U, U, U, U, U, U, U, U, U, U, U, U, U, U, U, U, U]
def spec_LastingTiles_w0 (S : SatT) (K : AVal → H → Prop) : (Frame → H → Prop) → Frame → H → Prop := fun X fr h => cwp S tab spec_LastingTiles_M (spec_LastingTiles_M 0) (sub [1, 1, 1, 0, 1, 0, 0] (bodyOf Try.f19)) (kSeq (fun fr h => X (mask (spec_LastingTiles_M 0) fr) h) (kBlk 0 (spec_LastingTiles_ks5 S K))) fr h
def spec_LastingTiles_L0 (S : SatT) (K : AVal → H → Prop) (s4_ : Sl) (s5_ : Sl) (i6_ : Int) (h : H) : Prop := loopK (spec_LastingTiles_w0 S K) (spec_LastingTiles_e0 s4_ s5_ i6_) h
def spec_LastingTiles_C0 (S : SatT) (K : AVal → H → Prop) (s5_ : Sl) (h : H) : Prop :=
 K (.tuple [.sl s5_, .int .i64 (0)]) h
def spec_LastingTiles_b0 (S : SatT) (K : AVal → H → Prop) (X0 : Frame → H → Prop) (s4_ : Sl) (s5_ : Sl) (i6_ : Int) (h : H) : Prop :=
 bif (decide (i6_ < (s4_.len : Int))) then
 ixS s4_ 1 i6_ fun p0 =>
 ldB p0 h fun b1 =>
 bif b1 then
 newS 1 1 [.int .i64 i6_] h fun s2 h3 =>
 app s5_ s2 1 h3 fun s4 h5 =>
 X0 (spec_LastingTiles_e0 s4_ s4 (w64 (i6_ + (1)))) h5
 else
 X0 (spec_LastingTiles_e0 s4_ s5_ (w64 (i6_ + (1)))) h
 else
 spec_LastingTiles_C0 S K s5_ h
theorem spec_LastingTiles_link0 (S : SatT) (K : AVal → H → Prop) (X0 : Frame → H → Prop) (s4_ : Sl) (s5_ : Sl) (i6_ : Int) (h : H) : spec_LastingTiles_w0 S K X0 (spec_LastingTiles_e0 s4_ s5_ i6_) h = spec_LastingTiles_b0 S K X0 s4_ s5_ i6_ h := by kernel_rfl
theorem spec_LastingTiles_rule0 (S : SatT) (K : AVal → H → Prop) (s4_ : Sl) (I_ : Sl → Int → H → Prop) (m_ : Sl → Int → H → Nat)
    (hs : ∀ (X0 : Frame → H → Prop) (s5_ : Sl) (i6_ : Int) (h : H), I_ s5_ i6_ h → (∀ (s5_' : Sl) (i6_' : Int) (h' : H), I_ s5_' i6_' h' → m_ s5_' i6_' h' < m_ s5_ i6_ h → X0 (spec_LastingTiles_e0 s4_ s5_' i6_') h') → spec_LastingTiles_b0 S K X0 s4_ s5_ i6_ h) (s5_ : Sl) (i6_ : Int) {h : H} (h0 : I_ s5_ i6_ h) : spec_LastingTiles_L0 S K s4_ s5_ i6_ h :=
  loop_rule (σ := (Sl) × (Int)) (fun s_ => spec_LastingTiles_e0 s4_ (s_.1) (s_.2)) (fun s_ h => I_ (s_.1) (s_.2) h) (fun s_ h => m_ (s_.1) (s_.2) h)
    (fun X s_ h hi hx => (spec_LastingTiles_link0 S K X s4_ (s_.1) (s_.2) h).mpr (hs X (s_.1) (s_.2) h hi fun s5_' i6_' h' hi' hm' => hx (s5_', i6_') h' hi' hm')) (s5_, i6_) h0
theorem spec_LastingTiles_unroll0 (S : SatT) (K : AVal → H → Prop) (s4_ : Sl) (s5_ : Sl) (i6_ : Int) (h : H) (hb : spec_LastingTiles_b0 S K (fun fr h => loopK (spec_LastingTiles_w0 S K) fr h) s4_ s5_ i6_ h) : spec_LastingTiles_L0 S K s4_ s5_ i6_ h := loop_unroll ((spec_LastingTiles_link0 S K _ s4_ s5_ i6_ h).mpr hb)
def spec_LastingTiles_main (S : SatT) (K : AVal → H → Prop) (x0 : List AVal) (h : H) : Prop :=
 newK 2 x0 h fun p0 h1 =>
 ldA p0 2 h1 fun cs2 =>
 callB S i_spec_l01Is [.agg cs2] h1 fun b4 h3 =>
 bif (!b4) then
 K (.tuple [.sl Sl.nil, .int .i64 (1)]) h3
 else
 ldA p0 2 h3 fun cs5 =>
 callS S i_spec_l02Lasting [.agg cs5] h3 fun s7 h6 =>
 newS 0 1 [] h6 fun s8 h9 =>
 spec_LastingTiles_L0 S K s7 s8 (0) h9
theorem spec_LastingTiles_main_link (S : SatT) (K : AVal → H → Prop) (x0 : List AVal) (h : H) : cwp S tab spec_LastingTiles_M [] (bodyOf Try.f19) (kFun tab Try.f19.results.toList K) (fr0 Try.f19 [.agg x0]) h = spec_LastingTiles_main S K x0 h := by kernel_rfl
theorem spec_LastingTiles_call (x0 : List AVal) (h : H) (K : AVal → H → Prop) (hm : spec_LastingTiles_main (Sat Try.prog) (fun v h' => K v h') x0 h) : callV (Sat Try.prog) i_spec_LastingTiles [.agg x0] h K := by
  have := Sat.ex tok mixed spec_LastingTiles_M Try.func19 (c := bodyOf Try.f19) (by kernel_rfl) (calls_of Try.func19 (c := bodyOf Try.f19) (by kernel_rfl) (by decide)) ((spec_LastingTiles_main_link _ _ x0 h).mpr hm)
  exact this

/-! ### loop.example/g01354/laws.toTile -/
def laws_toTile_M : Nat → List Nat := fun i => bif i == 0 then [1, 2, 3, 4] else []
def laws_toTile_ks2 (S : SatT) (K : AVal → H → Prop) : Kont := kSeq (cwp S tab laws_toTile_M [] (sub [1, 1, 1] (bodyOf Try.f90)) (kFun tab (Try.f90).results.toList K)) (kFun tab (Try.f90).results.toList K)
def laws_toTile_e0 (p1_ : Pt) (p2_ : Pt) (p3_ : Pt) (i4_ : Int) : Frame := [U, .ptr p1_, .ptr p2_, .ptr p3_, .int .i64 i4_, U, U, U, U, U, U, U, U, U, U]
def laws_toTile_w0 (S : SatT) (K : AVal → H → Prop) : (Frame → H → Prop) → Frame → H → Prop := fun X fr h => cwp S tab laws_toTile_M (laws_toTile_M 0) (sub [1, 1, 0, 1, 0, 0] (bodyOf Try.f90)) (kSeq (fun fr h => X (mask (laws_toTile_M 0) fr) h) (kBlk 0 (laws_toTile_ks2 S K))) fr h
def laws_toTile_L0 (S : SatT) (K : AVal → H → Prop) (p1_ : Pt) (p2_ : Pt) (p3_ : Pt) (i4_ : Int) (h : H) : Prop := loopK (laws_toTile_w0 S K) (laws_toTile_e0 p1_ p2_ p3_ i4_) h
def laws_toTile_C0 (S : SatT) (K : AVal → H → Prop) (p2_ : Pt) (p3_ : Pt) (h : H) : Prop :=
 ldA p3_ 4 h fun cs0 =>
 stN p2_ 4 cs0 h fun h1 =>
 ldA p2_ 4 h1 fun cs2 =>
 K (.agg cs2) h1
def laws_toTile_b0 (S : SatT) (K : AVal → H → Prop) (X0 : Frame → H → Prop) (p1_ : Pt) (p2_ : Pt) (p3_ : Pt) (i4_ : Int) (h : H) : Prop :=
 bif (decide (i4_ < (4))) then
 ixA p1_ 4 1 i4_ fun p0 =>
 ldI .i64 p0 h fun n1 =>
 ixA p3_ 4 1 i4_ fun p2 =>
 st1 p2 (.int .i64 n1) h fun h3 =>
 X0 (laws_toTile_e0 p1_ p2_ p3_ (w64 (i4_ + (1)))) h3
 else
 laws_toTile_C0 S K p2_ p3_ h
theorem laws_toTile_link0 (S : SatT) (K : AVal → H → Prop) (X0 : Frame → H → Prop) (p1_ : Pt) (p2_ : Pt) (p3_ : Pt) (i4_ : Int) (h : H) : laws_toTile_w0 S K X0 (laws_toTile_e0 p1_ p2_ p3_ i4_) h = laws_toTile_b0 S K X0 p1_ p2_ p3_ i4_ h := by kernel_rfl
theorem laws_toTile_rule0 (S : SatT) (K : AVal → H → Prop) (p1_ : Pt) (p2_ : Pt) (p3_ : Pt) (I_ : Int → H → Prop) (m_ : Int → H → Nat)
    (hs : ∀ (X0 : Frame → H → Prop) (i4_ : Int) (h : H), I_ i4_ h → (∀ (i4_' : Int) (h' : H), I_ i4_' h' → m_ i4_' h' < m_ i4_ h → X0 (laws_toTile_e0 p1_ p2_ p3_ i4_') h') → laws_toTile_b0 S K X0 p1_ p2_ p3_ i4_ h) (i4_ : Int) {h : H} (h0 : I_ i4_ h) : laws_toTile_L0 S K p1_ p2_ p3_ i4_ h :=
  loop_rule (σ := (Int)) (fun s_ => laws_toTile_e0 p1_ p2_ p3_ (s_)) (fun s_ h => I_ (s_) h) (fun s_ h => m_ (s_) h)
    (fun X s_ h hi hx => (laws_toTile_link0 S K X p1_ p2_ p3_ (s_) h).mpr (hs X (s_) h hi fun i4_' h' hi' hm' => hx (i4_') h' hi' hm')) (i4_) h0
theorem laws_toTile_unroll0 (S : SatT) (K : AVal → H → Prop) (p1_ : Pt) (p2_ : Pt) (p3_ : Pt) (i4_ : Int) (h : H) (hb : laws_toTile_b0 S K (fun fr h => loopK (laws_toTile_w0 S K) fr h) p1_ p2_ p3_ i4_ h) : laws_toTile_L0 S K p1_ p2_ p3_ i4_ h := loop_unroll ((laws_toTile_link0 S K _ p1_ p2_ p3_ i4_ h).mpr hb)
def laws_toTile_main (S : SatT) (K : AVal → H → Prop) (x0 : List AVal) (h : H) : Prop :=
 newK 4 x0 h fun p0 h1 =>
 newO [.int .i64 (0), .int .i64 (0), .int .i64 (0), .int .i64 (0)] h1 fun p2 h3 =>
 newO [.int .i64 (0), .int .i64 (0), .int .i64 (0), .int .i64 (0)] h3 fun p4 h5 =>
 laws_toTile_L0 S K p0 p2 p4 (0) h5
theorem laws_toTile_main_link (S : SatT) (K : AVal → H → Prop) (x0 : List AVal) (h : H) : cwp S tab laws_toTile_M [] (bodyOf Try.f90) (kFun tab Try.f90.results.toList K) (fr0 Try.f90 [.agg x0]) h = laws_toTile_main S K x0 h := by kernel_rfl
theorem laws_toTile_call (x0 : List AVal) (h : H) (K : List AVal → H → Prop) (hm : laws_toTile_main (Sat Try.prog) (fun v h' => ∃ r, v = .agg r ∧ K r h') x0 h) : callA (Sat Try.prog) i_laws_toTile [.agg x0] h K := by
  have := Sat.ex tok mixed laws_toTile_M Try.func90 (c := bodyOf Try.f90) (by kernel_rfl) (calls_of Try.func90 (c := bodyOf Try.f90) (by kernel_rfl) (by decide)) ((laws_toTile_main_link _ _ x0 h).mpr hm)
  obtain ⟨v, h2, h3, r, rfl, h4⟩ := this; exact ⟨r, h2, h3, h4⟩

/-! ### loop.example/g01354/laws.markInt64S -/
def laws_markInt64S_M : Nat → List Nat := fun i => bif i == 0 then [0, 1, 5] else []
def laws_markInt64S_ks1 (S : SatT) (K : AVal → H → Prop) : Kont := kSeq (cwp S tab laws_markInt64S_M [] (sub [1, 1] (bodyOf Try.f23)) (kFun tab (Try.f23).results.toList K)) (kFun tab (Try.f23).results.toList K)
def laws_markInt64S_e0 (s0_ : Sl) (i1_ : Int) (i5_ : Int) : Frame := [.sl s0_, .int .i64 i1_, U, U, U, .int .i64 i5_, U, U, U, U, U, U, U, U, U, U, U, U, U]
def laws_markInt64S_w0 (S : SatT) (K : AVal → H → Prop) : (Frame → H → Prop) → Frame → H → Prop := fun X fr h => cwp S tab laws_markInt64S_M (laws_markInt64S_M 0) (sub [1, 0, 1, 0, 0] (bodyOf Try.f23)) (kSeq (fun fr h => X (mask (laws_markInt64S_M 0) fr) h) (kBlk 0 (laws_markInt64S_ks1 S K))) fr h
def laws_markInt64S_L0 (S : SatT) (K : AVal → H → Prop) (s0_ : Sl) (i1_ : Int) (i5_ : Int) (h : H) : Prop := loopK (laws_markInt64S_w0 S K) (laws_markInt64S_e0 s0_ i1_ i5_) h
def laws_markInt64S_C0 (S : SatT) (K : AVal → H → Prop) (i1_ : Int) (h : H) : Prop :=
 K (.int .i64 i1_) h
def laws_markInt64S_b0 (S : SatT) (K : AVal → H → Prop) (X0 : Frame → H → Prop) (s0_ : Sl) (i1_ : Int) (i5_ : Int) (h : H) : Prop :=
 bif (decide (i5_ < (s0_.len : Int))) then
 ixS s0_ 1 i5_ fun p0 =>
 st1 p0 (.int .i64 i1_) h fun h1 =>
 X0 (laws_markInt64S_e0 s0_ (w64 (i1_ + (1))) (w64 (i5_ + (1)))) h1
 else
 laws_markInt64S_C0 S K i1_ h
theorem laws_markInt64S_link0 (S : SatT) (K : AVal → H → Prop) (X0 : Frame → H → Prop) (s0_ : Sl) (i1_ : Int) (i5_ : Int) (h : H) : laws_markInt64S_w0 S K X0 (laws_markInt64S_e0 s0_ i1_ i5_) h = laws_markInt64S_b0 S K X0 s0_ i1_ i5_ h := by kernel_rfl
theorem laws_markInt64S_rule0 (S : SatT) (K : AVal → H → Prop) (s0_ : Sl) (I_ : Int → Int → H → Prop) (m_ : Int → Int → H → Nat)
    (hs : ∀ (X0 : Frame → H → Prop) (i1_ : Int) (i5_ : Int) (h : H), I_ i1_ i5_ h → (∀ (i1_' : Int) (i5_' : Int) (h' : H), I_ i1_' i5_' h' → m_ i1_' i5_' h' < m_ i1_ i5_ h → X0 (laws_markInt64S_e0 s0_ i1_' i5_') h') → laws_markInt64S_b0 S K X0 s0_ i1_ i5_ h) (i1_ : Int) (i5_ : Int) {h : H} (h0 : I_ i1_ i5_ h) : laws_markInt64S_L0 S K s0_ i1_ i5_ h :=
  loop_rule (σ := (Int) × (Int)) (fun s_ => laws_markInt64S_e0 s0_ (s_.1) (s_.2)) (fun s_ h => I_ (s_.1) (s_.2) h) (fun s_ h => m_ (s_.1) (s_.2) h)
    (fun X s_ h hi hx => (laws_markInt64S_link0 S K X s0_ (s_.1) (s_.2) h).mpr (hs X (s_.1) (s_.2) h hi fun i1_' i5_' h' hi' hm' => hx (i1_', i5_') h' hi' hm')) (i1_, i5_) h0
theorem laws_markInt64S_unroll0 (S : SatT) (K : AVal → H → Prop) (s0_ : Sl) (i1_ : Int) (i5_ : Int) (h : H) (hb : laws_markInt64S_b0 S K (fun fr h => loopK (laws_markInt64S_w0 S K) fr h) s0_ i1_ i5_ h) : laws_markInt64S_L0 S K s0_ i1_ i5_ h := loop_unroll ((laws_markInt64S_link0 S K _ s0_ i1_ i5_ h).mpr hb)
def laws_markInt64S_main (S : SatT) (K : AVal → H → Prop) (x0 : Sl) (x1 : Int) (h : H) : Prop :=
 laws_markInt64S_L0 S K x0 x1 (0) h
theorem laws_markInt64S_main_link (S : SatT) (K : AVal → H → Prop) (x0 : Sl) (x1 : Int) (h : H) : cwp S tab laws_markInt64S_M [] (bodyOf Try.f23) (kFun tab Try.f23.results.toList K) (fr0 Try.f23 [.sl x0, .int .i64 x1]) h = laws_markInt64S_main S K x0 x1 h := by kernel_rfl
theorem laws_markInt64S_call (x0 : Sl) (x1 : Int) (h : H) (K : Int → H → Prop) (hm : laws_markInt64S_main (Sat Try.prog) (fun v h' => ∃ r, v = .int .i64 r ∧ K r h') x0 x1 h) : callI (Sat Try.prog) .i64 i_laws_markInt64S [.sl x0, .int .i64 x1] h K := by
  have := Sat.ex tok mixed laws_markInt64S_M Try.func23 (c := bodyOf Try.f23) (by kernel_rfl) (calls_of Try.func23 (c := bodyOf Try.f23) (by kernel_rfl) (by decide)) ((laws_markInt64S_main_link _ _ x0 x1 h).mpr hm)
  obtain ⟨v, h2, h3, r, rfl, h4⟩ := this; exact ⟨r, h2, h3, h4⟩

/-! ### loop.example/g01354/laws.toTileS -/
def laws_toTileS_M : Nat → List Nat := fun i => bif i == 0 then [0, 3, 4] else []
def laws_toTileS_ks2 (S : SatT) (K : AVal → H → Prop) : Kont := kSeq (cwp S tab laws_toTileS_M [] (sub [1, 1, 1] (bodyOf Try.f53)) (kFun tab (Try.f53).results.toList K)) (kFun tab (Try.f53).results.toList K)
def laws_toTileS_e0 (s0_ : Sl) (s3_ : Sl) (i4_ : Int) : Frame := [.sl s0_, U, U, .sl s3_, .int .i64 i4_, U, U, U, U, U, U, U, U, U, U, U, U, U, U, U, U, U, U]
def laws_toTileS_w0 (S : SatT) (K : AVal → H → Prop) : (Frame → H → Prop) → Frame → H → Prop := fun X fr h => cwp S tab laws_toTileS_M (laws_toTileS_M 0) (sub [1, 1, 0, 1, 0, 0] (bodyOf Try.f53)) (kSeq (fun fr h => X (mask (laws_toTileS_M 0) fr) h) (kBlk 0 (laws_toTileS_ks2 S K))) fr h
def laws_toTileS_L0 (S : SatT) (K : AVal → H → Prop) (s0_ : Sl) (s3_ : Sl) (i4_ : Int) (h : H) : Prop := loopK (laws_toTileS_w0 S K) (laws_toTileS_e0 s0_ s3_ i4_) h
def laws_toTileS_C0 (S : SatT) (K : AVal → H → Prop) (s3_ : Sl) (h : H) : Prop :=
 K (.sl s3_) h
def laws_toTileS_b0 (S : SatT) (K : AVal → H → Prop) (X0 : Frame → H → Prop) (s0_ : Sl) (s3_ : Sl) (i4_ : Int) (h : H) : Prop :=
 bif (decide (i4_ < (s0_.len : Int))) then
 ixS s0_ 4 i4_ fun p0 =>
 ldA p0 4 h fun cs1 =>
 callA S i_laws_toTile [.agg cs1] h fun cs3 h2 =>
 ixS s3_ 4 i4_ fun p4 =>
 stN p4 4 cs3 h2 fun h5 =>
 X0 (laws_toTileS_e0 s0_ s3_ (w64 (i4_ + (1)))) h5
 else
 laws_toTileS_C0 S K s3_ h
theorem laws_toTileS_link0 (S : SatT) (K : AVal → H → Prop) (X0 : Frame → H → Prop) (s0_ : Sl) (s3_ : Sl) (i4_ : Int) (h : H) : laws_toTileS_w0 S K X0 (laws_toTileS_e0 s0_ s3_ i4_) h = laws_toTileS_b0 S K X0 s0_ s3_ i4_ h := by kernel_rfl
theorem laws_toTileS_rule0 (S : SatT) (K : AVal → H → Prop) (s0_ : Sl) (s3_ : Sl) (I_ : Int → H → Prop) (m_ : Int → H → Nat)
    (hs : ∀ (X0 : Frame → H → Prop) (i4_ : Int) (h : H), I_ i4_ h → (∀ (i4_' : Int) (h' : H), I_ i4_' h' → m_ i4_' h' < m_ i4_ h → X0 (laws_toTileS_e0 s0_ s3_ i4_') h') → laws_toTileS_b0 S K X0 s0_ s3_ i4_ h) (i4_ : Int) {h : H} (h0 : I_ i4_ h) : laws_toTileS_L0 S K s0_ s3_ i4_ h :=
  loop_rule (σ := (Int)) (fun s_ => laws_toTileS_e0 s0_ s3_ (s_)) (fun s_ h => I_ (s_) h) (fun s_ h => m_ (s_) h)
    (fun X s_ h hi hx => (laws_toTileS_link0 S K X s0_ s3_ (s_) h).mpr (hs X (s_) h hi fun i4_' h' hi' hm' => hx (i4_') h' hi' hm')) (i4_) h0
theorem laws_toTileS_unroll0 (S : SatT) (K : AVal → H → Prop) (s0_ : Sl) (s3_ : Sl) (i4_ : Int) (h : H) (hb : laws_toTileS_b0 S K (fun fr h => loopK (laws_toTileS_w0 S K) fr h) s0_ s3_ i4_ h) : laws_toTileS_L0 S K s0_ s3_ i4_ h := loop_unroll ((laws_toTileS_link0 S K _ s0_ s3_ i4_ h).mpr hb)
def laws_toTileS_main (S : SatT) (K : AVal → H → Prop) (x0 : Sl) (h : H) : Prop :=
 mkS (x0.len : Int) [.int .i64 (0), .int .i64 (0), .int .i64 (0), .int .i64 (0)] h fun s0 h1 =>
 laws_toTileS_L0 S K x0 s0 (0) h1
theorem laws_toTileS_main_link (S : SatT) (K : AVal → H → Prop) (x0 : Sl) (h : H) : cwp S tab laws_toTileS_M [] (bodyOf Try.f53) (kFun tab Try.f53.results.toList K) (fr0 Try.f53 [.sl x0]) h = laws_toTileS_main S K x0 h := by kernel_rfl
theorem laws_toTileS_call (x0 : Sl) (h : H) (K : Sl → H → Prop) (hm : laws_toTileS_main (Sat Try.prog) (fun v h' => ∃ r, v = .sl r ∧ K r h') x0 h) : callS (Sat Try.prog) i_laws_toTileS [.sl x0] h K := by
  have := Sat.ex tok mixed laws_toTileS_M Try.func53 (c := bodyOf Try.f53) (by kernel_rfl) (calls_of Try.func53 (c := bodyOf Try.f53) (by kernel_rfl) (by decide)) ((laws_toTileS_main_link _ _ x0 h).mpr hm)
  obtain ⟨v, h2, h3, r, rfl, h4⟩ := this; exact ⟨r, h2, h3, h4⟩

/-! ### loop.example/g01354/spec.l06Gcd -/
def spec_l06Gcd_M : Nat → List Nat := fun i => bif i == 0 then [0, 1] else []
def spec_l06Gcd_ks1 (S : SatT) (K : AVal → H → Prop) : Kont := kSeq (cwp S tab spec_l06Gcd_M [] (sub [1, 1] (bodyOf Try.f110)) (kFun tab (Try.f110).results.toList K)) (kFun tab (Try.f110).results.toList K)
def spec_l06Gcd_e0 (i0_ : Int) (i1_ : Int) : Frame := [.int .i64 i0_, .int .i64 i1_, U, U, U, U, U, U, U, U, U, U, U, U]
def spec_l06Gcd_w0 (S : SatT) (K : AVal → H → Prop) : (Frame → H → Prop) → Frame → H → Prop := fun X fr h => cwp S tab spec_l06Gcd_M (spec_l06Gcd_M 0) (sub [1, 0, 0, 0] (bodyOf Try.f110)) (kSeq (fun fr h => X (mask (spec_l06Gcd_M 0) fr) h) (kBlk 0 (spec_l06Gcd_ks1 S K))) fr h
def spec_l06Gcd_L0 (S : SatT) (K : AVal → H → Prop) (i0_ : Int) (i1_ : Int) (h : H) : Prop := loopK (spec_l06Gcd_w0 S K) (spec_l06Gcd_e0 i0_ i1_) h
def spec_l06Gcd_C0 (S : SatT) (K : AVal → H → Prop) (i0_ : Int) (h : H) : Prop :=
 K (.int .i64 i0_) h
def spec_l06Gcd_b0 (S : SatT) (K : AVal → H → Prop) (X0 : Frame → H → Prop) (i0_ : Int) (i1_ : Int) (h : H) : Prop :=
 bif (decide (i1_ > (0))) then
 nz i1_ (
 X0 (spec_l06Gcd_e0 i1_ (Int.tmod i0_ i1_)) h)
 else
 spec_l06Gcd_C0 S K i0_ h
theorem spec_l06Gcd_link0 (S : SatT) (K : AVal → H → Prop) (X0 : Frame → H → Prop) (i0_ : Int) (i1_ : Int) (h : H) : spec_l06Gcd_w0 S K X0 (spec_l06Gcd_e0 i0_ i1_) h = spec_l06Gcd_b0 S K X0 i0_ i1_ h := by kernel_rfl
theorem spec_l06Gcd_rule0 (S : SatT) (K : AVal → H → Prop) (I_ : Int → Int → H → Prop) (m_ : Int → Int → H → Nat)
    (hs : ∀ (X0 : Frame → H → Prop) (i0_ : Int) (i1_ : Int) (h : H), I_ i0_ i1_ h → (∀ (i0_' : Int) (i1_' : Int) (h' : H), I_ i0_' i1_' h' → m_ i0_' i1_' h' < m_ i0_ i1_ h → X0 (spec_l06Gcd_e0 i0_' i1_') h') → spec_l06Gcd_b0 S K X0 i0_ i1_ h) (i0_ : Int) (i1_ : Int) {h : H} (h0 : I_ i0_ i1_ h) : spec_l06Gcd_L0 S K i0_ i1_ h :=
  loop_rule (σ := (Int) × (Int)) (fun s_ => spec_l06Gcd_e0 (s_.1) (s_.2)) (fun s_ h => I_ (s_.1) (s_.2) h) (fun s_ h => m_ (s_.1) (s_.2) h)
    (fun X s_ h hi hx => (spec_l06Gcd_link0 S K X (s_.1) (s_.2) h).mpr (hs X (s_.1) (s_.2) h hi fun i0_' i1_' h' hi' hm' => hx (i0_', i1_') h' hi' hm')) (i0_, i1_) h0
theorem spec_l06Gcd_unroll0 (S : SatT) (K : AVal → H → Prop) (i0_ : Int) (i1_ : Int) (h : H) (hb : spec_l06Gcd_b0 S K (fun fr h => loopK (spec_l06Gcd_w0 S K) fr h) i0_ i1_ h) : spec_l06Gcd_L0 S K i0_ i1_ h := loop_unroll ((spec_l06Gcd_link0 S K _ i0_ i1_ h).mpr hb)
def spec_l06Gcd_main (S : SatT) (K : AVal → H → Prop) (x0 : Int) (x1 : Int) (h : H) : Prop :=
 spec_l06Gcd_L0 S K x0 x1 h
theorem spec_l06Gcd_main_link (S : SatT) (K : AVal → H → Prop) (x0 : Int) (x1 : Int) (h : H) : cwp S tab spec_l06Gcd_M [] (bodyOf Try.f110) (kFun tab Try.f110.results.toList K) (fr0 Try.f110 [.int .i64 x0, .int .i64 x1]) h = spec_l06Gcd_main S K x0 x1 h := by kernel_rfl
theorem spec_l06Gcd_call (x0 : Int) (x1 : Int) (h : H) (K : Int → H → Prop) (hm : spec_l06Gcd_main (Sat Try.prog) (fun v h' => ∃ r, v = .int .i64 r ∧ K r h') x0 x1 h) : callI (Sat Try.prog) .i64 i_spec_l06Gcd [.int .i64 x0, .int .i64 x1] h K := by
  have := Sat.ex tok mixed spec_l06Gcd_M Try.func110 (c := bodyOf Try.f110) (by kernel_rfl) (calls_of Try.func110 (c := bodyOf Try.f110) (by kernel_rfl) (by decide)) ((spec_l06Gcd_main_link _ _ x0 x1 h).mpr hm)
  obtain ⟨v, h2, h3, r, rfl, h4⟩ := this; exact ⟨r, h2, h3, h4⟩

/-! ### loop.example/g01354/spec.IsMixing -/
def spec_IsMixing_M : Nat → List Nat := fun i => []
def spec_IsMixing_main (S : SatT) (K : AVal → H → Prop) (x0 : List AVal) (x1 : Int) (h : H) : Prop :=
 newK 2 x0 h fun p0 h1 =>
 ldA p0 2 h1 fun cs2 =>
 callV S i_spec_l06Lasting [.agg cs2, .int .i64 x1] h1 fun v4 h3 =>
 viaT v4 fun vs5 =>
 exS vs5 0 fun s6 =>
 viaT v4 fun vs7 =>
 exS vs7 1 fun s8 =>
 viaT v4 fun vs9 =>
 exI .i64 vs9 2 fun n10 =>
 bif (n10 != (0)) then
 K (.tuple [.bool false, .int .i64 n10]) h3
 else
 callV S i_spec_l06Period [.sl s8] h3 fun v12 h11 =>
 viaT v12 fun vs13 =>
 exI .i64 vs13 0 fun n14 =>
 viaT v12 fun vs15 =>
 exB vs15 1 fun b16 =>
 bif b16 then
 K (.tuple [.bool (n14 == (1)), .int .i64 (0)]) h11
 else
 K (.tuple [.bool false, .int .i64 (0)]) h11
theorem spec_IsMixing_main_link (S : SatT) (K : AVal → H → Prop) (x0 : List AVal) (x1 : Int) (h : H) : cwp S tab spec_IsMixing_M [] (bodyOf Try.f38) (kFun tab Try.f38.results.toList K) (fr0 Try.f38 [.agg x0, .int .i64 x1]) h = spec_IsMixing_main S K x0 x1 h := by kernel_rfl
theorem spec_IsMixing_call (x0 : List AVal) (x1 : Int) (h : H) (K : AVal → H → Prop) (hm : spec_IsMixing_main (Sat Try.prog) (fun v h' => K v h') x0 x1 h) : callV (Sat Try.prog) i_spec_IsMixing [.agg x0, .int .i64 x1] h K := by
  have := Sat.ex tok mixed spec_IsMixing_M Try.func38 (c := bodyOf Try.f38) (by kernel_rfl) (calls_of Try.func38 (c := bodyOf Try.f38) (by kernel_rfl) (by decide)) ((spec_IsMixing_main_link _ _ x0 x1 h).mpr hm)
  exact this

/-! ### loop.example/g01354/spec.StrongParts -/
def spec_StrongParts_M : Nat → List Nat := fun i => []
def spec_StrongParts_main (S : SatT) (K : AVal → H → Prop) (x0 : List AVal) (x1 : Int) (h : H) : Prop :=
 newK 2 x0 h fun p0 h1 =>
 ldA p0 2 h1 fun cs2 =>
 callV S i_spec_l06Lasting [.agg cs2, .int .i64 x1] h1 fun v4 h3 =>
 viaT v4 fun vs5 =>
 exS vs5 0 fun s6 =>
 viaT v4 fun vs7 =>
 exS vs7 1 fun s8 =>
 viaT v4 fun vs9 =>
 exI .i64 vs9 2 fun n10 =>
 bif (n10 != (0)) then
 K (.tuple [.sl Sl.nil, .int .i64 n10]) h3
 else
 callS S i_spec_l06Parts [.sl s8] h3 fun s12 h11 =>
 K (.tuple [.sl s12, .int .i64 (0)]) h11
theorem spec_StrongParts_main_link (S : SatT) (K : AVal → H → Prop) (x0 : List AVal) (x1 : Int) (h : H) : cwp S tab spec_StrongParts_M [] (bodyOf Try.f36) (kFun tab Try.f36.results.toList K) (fr0 Try.f36 [.agg x0, .int .i64 x1]) h = spec_StrongParts_main S K x0 x1 h := by kernel_rfl
theorem spec_StrongParts_call (x0 : List AVal) (x1 : Int) (h : H) (K : AVal → H → Prop) (hm : spec_StrongParts_main (Sat Try.prog) (fun v h' => K v h') x0 x1 h) : callV (Sat Try.prog) i_spec_StrongParts [.agg x0, .int .i64 x1] h K := by
  have := Sat.ex tok mixed spec_StrongParts_M Try.func36 (c := bodyOf Try.f36) (by kernel_rfl) (calls_of Try.func36 (c := bodyOf Try.f36) (by kernel_rfl) (by decide)) ((spec_StrongParts_main_link _ _ x0 x1 h).mpr hm)
  exact this

/-! ### loop.example/g01354/spec.ColumnTable -/
def spec_ColumnTable_M : Nat → List Nat := fun i => []
def spec_ColumnTable_main (S : SatT) (K : AVal → H → Prop) (x0 : List AVal) (x1 : Int) (h : H) : Prop :=
 newK 2 x0 h fun p0 h1 =>
 ldA p0 2 h1 fun cs2 =>
 callV S i_spec_l06Lasting [.agg cs2, .int .i64 x1] h1 fun v4 h3 =>
 viaT v4 fun vs5 =>
 exS vs5 0 fun s6 =>
 viaT v4 fun vs7 =>
 exS vs7 1 fun s8 =>
 viaT v4 fun vs9 =>
 exI .i64 vs9 2 fun n10 =>
 bif (n10 != (0)) then
 K (.tuple [.sl Sl.nil, .int .i64 n10]) h3
 else
 K (.tuple [.sl s8, .int .i64 (0)]) h3
theorem spec_ColumnTable_main_link (S : SatT) (K : AVal → H → Prop) (x0 : List AVal) (x1 : Int) (h : H) : cwp S tab spec_ColumnTable_M [] (bodyOf Try.f27) (kFun tab Try.f27.results.toList K) (fr0 Try.f27 [.agg x0, .int .i64 x1]) h = spec_ColumnTable_main S K x0 x1 h := by kernel_rfl
theorem spec_ColumnTable_call (x0 : List AVal) (x1 : Int) (h : H) (K : AVal → H → Prop) (hm : spec_ColumnTable_main (Sat Try.prog) (fun v h' => K v h') x0 x1 h) : callV (Sat Try.prog) i_spec_ColumnTable [.agg x0, .int .i64 x1] h K := by
  have := Sat.ex tok mixed spec_ColumnTable_M Try.func27 (c := bodyOf Try.f27) (by kernel_rfl) (calls_of Try.func27 (c := bodyOf Try.f27) (by kernel_rfl) (by decide)) ((spec_ColumnTable_main_link _ _ x0 x1 h).mpr hm)
  exact this

/-! ### loop.example/g01354/impl.isTile -/
def impl_isTile_M : Nat → List Nat := fun i => []
def impl_isTile_main (S : SatT) (K : AVal → H → Prop) (x0 : List AVal) (x1 : Int) (h : H) : Prop :=
 newK 4 x0 h fun p0 h1 =>
 newO [.int .i64 x1] h1 fun p2 h3 =>
 cutA p0 4 1 (0) ((4 : Nat) : Int) fun s4 =>
 callB S i_slices_ContainsFunc_s_int64_int64_ [.sl s4, .func 118 [.ptr p2]] h3 fun b6 h5 =>
 K (.bool (!b6)) h5
theorem impl_isTile_main_link (S : SatT) (K : AVal → H → Prop) (x0 : List AVal) (x1 : Int) (h : H) : cwp S tab impl_isTile_M [] (bodyOf Try.f96) (kFun tab Try.f96.results.toList K) (fr0 Try.f96 [.agg x0, .int .i64 x1]) h = impl_isTile_main S K x0 x1 h := by kernel_rfl
theorem impl_isTile_call (x0 : List AVal) (x1 : Int) (h : H) (K : Bool → H → Prop) (hm : impl_isTile_main (Sat Try.prog) (fun v h' => ∃ r, v = .bool r ∧ K r h') x0 x1 h) : callB (Sat Try.prog) i_impl_isTile [.agg x0, .int .i64 x1] h K := by
  have := Sat.ex tok mixed impl_isTile_M Try.func96 (c := bodyOf Try.f96) (by kernel_rfl) (calls_of Try.func96 (c := bodyOf Try.f96) (by kernel_rfl) (by decide)) ((impl_isTile_main_link _ _ x0 x1 h).mpr hm)
  obtain ⟨v, h2, h3, r, rfl, h4⟩ := this; exact ⟨r, h2, h3, h4⟩

/-! ### loop.example/g01354/impl.isTile$1 -/
def impl_isTile_1_M : Nat → List Nat := fun i => []
def impl_isTile_1_main (S : SatT) (K : AVal → H → Prop) (x0 : Int) (x1 : Pt) (h : H) : Prop :=
 ldI .i64 x1 h fun n0 =>
 callB S i_impl_within [.int .i64 x0, .int .i64 (0), .int .i64 (w64 (n0 - (1)))] h fun b2 h1 =>
 K (.bool (!b2)) h1
theorem impl_isTile_1_main_link (S : SatT) (K : AVal → H → Prop) (x0 : Int) (x1 : Pt) (h : H) : cwp S tab impl_isTile_1_M [] (bodyOf Try.f118) (kFun tab Try.f118.results.toList K) (fr0 Try.f118 [.int .i64 x0, .ptr x1]) h = impl_isTile_1_main S K x0 x1 h := by kernel_rfl
theorem impl_isTile_1_call (x0 : Int) (x1 : Pt) (h : H) (K : Bool → H → Prop) (hm : impl_isTile_1_main (Sat Try.prog) (fun v h' => ∃ r, v = .bool r ∧ K r h') x0 x1 h) : callB (Sat Try.prog) i_impl_isTile_1 [.int .i64 x0, .ptr x1] h K := by
  have := Sat.ex tok mixed impl_isTile_1_M Try.func118 (c := bodyOf Try.f118) (by kernel_rfl) (calls_of Try.func118 (c := bodyOf Try.f118) (by kernel_rfl) (by decide)) ((impl_isTile_1_main_link _ _ x0 x1 h).mpr hm)
  obtain ⟨v, h2, h3, r, rfl, h4⟩ := this; exact ⟨r, h2, h3, h4⟩

/-! ### loop.example/g01354/laws.szTileS -/
def laws_szTileS_M : Nat → List Nat := fun i => []
def laws_szTileS_main (S : SatT) (K : AVal → H → Prop) (x0 : Sl) (x1 : Int) (h : H) : Prop :=
 bif (decide ((w64 (x1 - (x0.len : Int))) < (0))) then
 K (.int .i64 (-1)) h
 else
 K (.int .i64 (w64 (x1 - (x0.len : Int)))) h
theorem laws_szTileS_main_link (S : SatT) (K : AVal → H → Prop) (x0 : Sl) (x1 : Int) (h : H) : cwp S tab laws_szTileS_M [] (bodyOf Try.f51) (kFun tab Try.f51.results.toList K) (fr0 Try.f51 [.sl x0, .int .i64 x1]) h = laws_szTileS_main S K x0 x1 h := by kernel_rfl
theorem laws_szTileS_call (x0 : Sl) (x1 : Int) (h : H) (K : Int → H → Prop) (hm : laws_szTileS_main (Sat Try.prog) (fun v h' => ∃ r, v = .int .i64 r ∧ K r h') x0 x1 h) : callI (Sat Try.prog) .i64 i_laws_szTileS [.sl x0, .int .i64 x1] h K := by
  have := Sat.ex tok mixed laws_szTileS_M Try.func51 (c := bodyOf Try.f51) (by kernel_rfl) (calls_of Try.func51 (c := bodyOf Try.f51) (by kernel_rfl) (by decide)) ((laws_szTileS_main_link _ _ x0 x1 h).mpr hm)
  obtain ⟨v, h2, h3, r, rfl, h4⟩ := this; exact ⟨r, h2, h3, h4⟩

/-! ### loop.example/g01354/spec.l06Reach -/
def spec_l06Reach_M : Nat → List Nat := fun i => bif i == 8 then [3, 4, 8, 9, 10, 11] else bif i == 6 then [3, 4, 8, 9] else bif i == 4 then [3, 4, 8] else bif i == 2 then [0, 3, 4, 5, 6, 7] else bif i == 0 then [0, 3, 4, 5] else []
def spec_l06Reach_ks2 (S : SatT) (K : AVal → H → Prop) : Kont := kSeq (cwp S tab spec_l06Reach_M [] (sub [1, 1, 1] (bodyOf Try.f108)) (kFun tab (Try.f108).results.toList K)) (kFun tab (Try.f108).results.toList K)
def spec_l06Reach_e0 (s0_ : Sl) (i3_ : Int) (s4_ : Sl) (i5_ : Int) : Frame := [.sl s0_, U, U, .int .i64 i3_, .sl s4_, .int .i64 i5_, U, U, U, U, U, U, U, U, U, U, U, U, U, U, U, U, U, U, U, U, U, U, U, U, U, U, U, U, U, U, U, U, U, U, U, U, U, U, U, U, U, U, U, U, U, U, U, U, U, U, U, U, U, U, U, U, U, U, U, U, U, U, U, U, U, U, U, U, U, U, U, U, U, U, U, U, U, U]
def spec_l06Reach_w0 (S : SatT) (K : AVal → H → Prop) : (Frame → H → Prop) → Frame → H → Prop := fun X fr h => cwp S tab spec_l06Reach_M (spec_l06Reach_M 0) (sub [1, 1, 0, 1, 0, 0] (bodyOf Try.f108)) (kSeq (fun fr h => X (mask (spec_l06Reach_M 0) fr) h) (kBlk 0 (spec_l06Reach_ks2 S K))) fr h
def spec_l06Reach_L0 (S : SatT) (K : AVal → H → Prop) (s0_ : Sl) (i3_ : Int) (s4_ : Sl) (i5_ : Int) (h : H) : Prop := loopK (spec_l06Reach_w0 S K) (spec_l06Reach_e0 s0_ i3_ s4_ i5_) h
def spec_l06Reach_ks6 (S : SatT) (K : AVal → H → Prop) (X0 : Frame → H → Prop) : Kont := kSeq (cwp S tab spec_l06Reach_M (spec_l06Reach_M 0) (sub [1, 1, 0, 1, 0, 0, 1, 1] (bodyOf Try.f108)) (kSeq (fun fr h => X0 (mask (spec_l06Reach_M 0) fr) h) (kBlk 0 (spec_l06Reach_ks2 S K)))) (kSeq (fun fr h => X0 (mask (spec_l06Reach_M 0) fr) h) (kBlk 0 (spec_l06Reach_ks2 S K)))
def spec_l06Reach_ks8 (S : SatT) (K : AVal → H → Prop) (X0 : Frame → H → Prop) : Kont := kSeq (cwp S tab spec_l06Reach_M (spec_l06Reach_M 1) (sub [1, 1, 0, 1, 0, 0, 1, 0, 0, 1, 1] (bodyOf Try.f108)) (kBlk 1 (spec_l06Reach_ks6 S K X0))) (kBlk 1 (spec_l06Reach_ks6 S K X0))
def spec_l06Reach_e2 (s0_ : Sl) (i3_ : Int) (s4_ : Sl) (i5_ : Int) (s6_ : Sl) (i7_ : Int) : Frame := [.sl s0_, U, U, .int .i64 i3_, .sl s4_, .int .i64 i5_, .sl s6_, .int .i64 i7_, U, U, U, U, U, U, U, U, U, U, U, U, U, U, U, U, U, U, U, U, U, U, U, U, U, U, U, U, U, U, U, U, U, U, U, U, U, U, U, U, U, U, U, U, U, U, U, U, U, U, U, U, U, U, U, U, U, U, U, U, U, U, U, U, U, U, U, U, U, U, U, U, U, U, U, U]
def spec_l06Reach_w2 (S : SatT) (K : AVal → H → Prop) (X0 : Frame → H → Prop) : (Frame → H → Prop) → Frame → H → Prop := fun X fr h => cwp S tab spec_l06Reach_M (spec_l06Reach_M 2) (sub [1, 1, 0, 1, 0, 0, 1, 0, 0, 1, 0, 1, 0, 0] (bodyOf Try.f108)) (kSeq (fun fr h => X (mask (spec_l06Reach_M 2) fr) h) (kBlk 2 (spec_l06Reach_ks8 S K X0))) fr h
def spec_l06Reach_L2 (S : SatT) (K : AVal → H → Prop) (X0 : Frame → H → Prop) (s0_ : Sl) (i3_ : Int) (s4_ : Sl) (i5_ : Int) (s6_ : Sl) (i7_ : Int) (h : H) : Prop := loopK (spec_l06Reach_w2 S K X0) (spec_l06Reach_e2 s0_ i3_ s4_ i5_ s6_ i7_) h
def spec_l06Reach_C1 (S : SatT) (K : AVal → H → Prop) (X0 : Frame → H → Prop) (s0_ : Sl) (i3_ : Int) (s4_ : Sl) (i5_ : Int) (h : H) : Prop :=
 X0 (spec_l06Reach_e0 s0_ i3_ s4_ (w64 (i5_ + (1)))) h
def spec_l06Reach_C2 (S : SatT) (K : AVal → H → Prop) (X0 : Frame → H → Prop) (s0_ : Sl) (i3_ : Int) (s4_ : Sl) (i5_ : Int) (s6_ : Sl) (h : H) : Prop :=
 newS 1 1 [.sl s6_] h fun s0 h1 =>
 app s4_ s0 1 h1 fun s2 h3 =>
 spec_l06Reach_C1 S K X0 s0_ i3_ s2 i5_ h3
def spec_l06Reach_b2 (S : SatT) (K : AVal → H → Prop) (X0 : Frame → H → Prop) (X2 : Frame → H → Prop) (s0_ : Sl) (i3_ : Int) (s4_ : Sl) (i5_ : Int) (s6_ : Sl) (i7_ : Int) (h : H) : Prop :=
 bif (decide (i7_ < i3_)) then
 ixS s0_ 1 i5_ fun p0 =>
 ldS p0 h fun s1 =>
 ixS s1 1 i7_ fun p2 =>
 ldI .i64 p2 h fun n3 =>
 ixS s6_ 1 i7_ fun p4 =>
 st1 p4 (.bool (decide (n3 > (0)))) h fun h5 =>
 X2 (spec_l06Reach_e2 s0_ i3_ s4_ i5_ s6_ (w64 (i7_ + (1)))) h5
 else
 spec_l06Reach_C2 S K X0 s0_ i3_ s4_ i5_ s6_ h
theorem spec_l06Reach_link2 (S : SatT) (K : AVal → H → Prop) (X0 : Frame → H → Prop) (X2 : Frame → H → Prop) (s0_ : Sl) (i3_ : Int) (s4_ : Sl) (i5_ : Int) (s6_ : Sl) (i7_ : Int) (h : H) : spec_l06Reach_w2 S K X0 X2 (spec_l06Reach_e2 s0_ i3_ s4_ i5_ s6_ i7_) h = spec_l06Reach_b2 S K X0 X2 s0_ i3_ s4_ i5_ s6_ i7_ h := by kernel_rfl
theorem spec_l06Reach_rule2 (S : SatT) (K : AVal → H → Prop) (X0 : Frame → H → Prop) (s0_ : Sl) (i3_ : Int) (s4_ : Sl) (i5_ : Int) (s6_ : Sl) (I_ : Int → H → Prop) (m_ : Int → H → Nat)
    (hs : ∀ (X2 : Frame → H → Prop) (i7_ : Int) (h : H), I_ i7_ h → (∀ (i7_' : Int) (h' : H), I_ i7_' h' → m_ i7_' h' < m_ i7_ h → X2 (spec_l06Reach_e2 s0_ i3_ s4_ i5_ s6_ i7_') h') → spec_l06Reach_b2 S K X0 X2 s0_ i3_ s4_ i5_ s6_ i7_ h) (i7_ : Int) {h : H} (h0 : I_ i7_ h) : spec_l06Reach_L2 S K X0 s0_ i3_ s4_ i5_ s6_ i7_ h :=
  loop_rule (σ := (Int)) (fun s_ => spec_l06Reach_e2 s0_ i3_ s4_ i5_ s6_ (s_)) (fun s_ h => I_ (s_) h) (fun s_ h => m_ (s_) h)
    (fun X s_ h hi hx => (spec_l06Reach_link2 S K X0 X s0_ i3_ s4_ i5_ s6_ (s_) h).mpr (hs X (s_) h hi fun i7_' h' hi' hm' => hx (i7_') h' hi' hm')) (i7_) h0
theorem spec_l06Reach_unroll2 (S : SatT) (K : AVal → H → Prop) (X0 : Frame → H → Prop) (s0_ : Sl) (i3_ : Int) (s4_ : Sl) (i5_ : Int) (s6_ : Sl) (i7_ : Int) (h : H) (hb : spec_l06Reach_b2 S K X0 (fun fr h => loopK (spec_l06Reach_w2 S K X0) fr h) s0_ i3_ s4_ i5_ s6_ i7_ h) : spec_l06Reach_L2 S K X0 s0_ i3_ s4_ i5_ s6_ i7_ h := loop_unroll ((spec_l06Reach_link2 S K X0 _ s0_ i3_ s4_ i5_ s6_ i7_ h).mpr hb)
def spec_l06Reach_ks13 (S : SatT) (K : AVal → H → Prop) : Kont := kSeq (cwp S tab spec_l06Reach_M [] (sub [1, 1, 1, 1] (bodyOf Try.f108)) (kFun tab (Try.f108).results.toList K)) (kFun tab (Try.f108).results.toList K)
def spec_l06Reach_e4 (i3_ : Int) (s4_ : Sl) (i8_ : Int) : Frame := [U, U, U, .int .i64 i3_, .sl s4_, U, U, U, .int .i64 i8_, U, U, U, U, U, U, U, U, U, U, U, U, U, U, U, U, U, U, U, U, U, U, U, U, U, U, U, U, U, U, U, U, U, U, U, U, U, U, U, U, U, U, U, U, U, U, U, U, U, U, U, U, U, U, U, U, U, U, U, U, U, U, U, U, U, U, U, U, U, U, U, U, U, U, U]
def spec_l06Reach_w4 (S : SatT) (K : AVal → H → Prop) : (Frame → H → Prop) → Frame → H → Prop := fun X fr h => cwp S tab spec_l06Reach_M (spec_l06Reach_M 4) (sub [1, 1, 1, 0, 1, 0, 0] (bodyOf Try.f108)) (kSeq (fun fr h => X (mask (spec_l06Reach_M 4) fr) h) (kBlk 4 (spec_l06Reach_ks13 S K))) fr h
def spec_l06Reach_L4 (S : SatT) (K : AVal → H → Prop) (i3_ : Int) (s4_ : Sl) (i8_ : Int) (h : H) : Prop := loopK (spec_l06Reach_w4 S K) (spec_l06Reach_e4 i3_ s4_ i8_) h
def spec_l06Reach_ks17 (S : SatT) (K : AVal → H → Prop) (X4 : Frame → H → Prop) : Kont := kSeq (cwp S tab spec_l06Reach_M (spec_l06Reach_M 4) (sub [1, 1, 1, 0, 1, 0, 0, 1, 1] (bodyOf Try.f108)) (kSeq (fun fr h => X4 (mask (spec_l06Reach_M 4) fr) h) (kBlk 4 (spec_l06Reach_ks13 S K)))) (kSeq (fun fr h => X4 (mask (spec_l06Reach_M 4) fr) h) (kBlk 4 (spec_l06Reach_ks13 S K)))
def spec_l06Reach_e6 (i3_ : Int) (s4_ : Sl) (i8_ : Int) (i9_ : Int) : Frame := [U, U, U, .int .i64 i3_, .sl s4_, U, U, U, .int .i64 i8_, .int .i64 i9_, U, U, U, U, U, U, U, U, U, U, U, U, U, U, U, U, U, U, U, U, U, U, U, U, U, U, U, U, U, U, U, U, U, U, U, U, U, U, U, U, U, U, U, U, U, U, U, U, U, U, U, U, U, U, U, U, U, U, U, U, U, U, U, U, U, U, U, U, U, U, U, U, U, U]
def spec_l06Reach_w6 (S : SatT) (K : AVal → H → Prop) (X4 : Frame → H → Prop) : (Frame → H → Prop) → Frame → H → Prop := fun X fr h => cwp S tab spec_l06Reach_M (spec_l06Reach_M 6) (sub [1, 1, 1, 0, 1, 0, 0, 1, 0, 0, 1, 0, 0] (bodyOf Try.f108)) (kSeq (fun fr h => X (mask (spec_l06Reach_M 6) fr) h) (kBlk 6 (kBlk 5 (spec_l06Reach_ks17 S K X4)))) fr h
def spec_l06Reach_L6 (S : SatT) (K : AVal → H → Prop) (X4 : Frame → H → Prop) (i3_ : Int) (s4_ : Sl) (i8_ : Int) (i9_ : Int) (h : H) : Prop := loopK (spec_l06Reach_w6 S K X4) (spec_l06Reach_e6 i3_ s4_ i8_ i9_) h
def spec_l06Reach_ks21 (S : SatT) (K : AVal → H → Prop) (X4 : Frame → H → Prop) (X6 : Frame → H → Prop) : Kont := kSeq (cwp S tab spec_l06Reach_M (spec_l06Reach_M 6) (sub [1, 1, 1, 0, 1, 0, 0, 1, 0, 0, 1, 0, 0, 1, 1] (bodyOf Try.f108)) (kSeq (fun fr h => X6 (mask (spec_l06Reach_M 6) fr) h) (kBlk 6 (kBlk 5 (spec_l06Reach_ks17 S K X4))))) (kSeq (fun fr h => X6 (mask (spec_l06Reach_M 6) fr) h) (kBlk 6 (kBlk 5 (spec_l06Reach_ks17 S K X4))))
def spec_l06Reach_e8 (i3_ : Int) (s4_ : Sl) (i8_ : Int) (i9_ : Int) (s10_ : Sl) (i11_ : Int) : Frame := [U, U, U, .int .i64 i3_, .sl s4_, U, U, U, .int .i64 i8_, .int .i64 i9_, .sl s10_, .int .i64 i11_, U, U, U, U, U, U, U, U, U, U, U, U, U, U, U, U, U, U, U, U, U, U, U, U, U, U, U, U, U, U, U, U, U, U, U, U, U, U, U, U, U, U, U, U, U, U, U, U, U, U, U, U, U, U, U, U, U, U, U, U, U, U, U, U, U, U, U, U, U, U, U, U]
def spec_l06Reach_w8 (S : SatT) (K : AVal → H → Prop) (X4 : Frame → H → Prop) (X6 : Frame → H → Prop) : (Frame → H → Prop) → Frame → H → Prop := fun X fr h => cwp S tab spec_l06Reach_M (spec_l06Reach_M 8) (sub [1, 1, 1, 0, 1, 0, 0, 1, 0, 0, 1, 0, 0, 1, 0, 0, 1, 1, 0, 0] (bodyOf Try.f108)) (kSeq (fun fr h => X (mask (spec_l06Reach_M 8) fr) h) (kBlk 8 (kBlk 7 (spec_l06Reach_ks21 S K X4 X6)))) fr h
def spec_l06Reach_L8 (S : SatT) (K : AVal → H → Prop) (X4 : Frame → H → Prop) (X6 : Frame → H → Prop) (i3_ : Int) (s4_ : Sl) (i8_ : Int) (i9_ : Int) (s10_ : Sl) (i11_ : Int) (h : H) : Prop := loopK (spec_l06Reach_w8 S K X4 X6) (spec_l06Reach_e8 i3_ s4_ i8_ i9_ s10_ i11_) h
def spec_l06Reach_C7 (S : SatT) (K : AVal → H → Prop) (X4 : Frame → H → Prop) (X6 : Frame → H → Prop) (i3_ : Int) (s4_ : Sl) (i8_ : Int) (i9_ : Int) (h : H) : Prop :=
 X6 (spec_l06Reach_e6 i3_ s4_ i8_ (w64 (i9_ + (1)))) h
def spec_l06Reach_C8 (S : SatT) (K : AVal → H → Prop) (X4 : Frame → H → Prop) (X6 : Frame → H → Prop) (i3_ : Int) (s4_ : Sl) (i8_ : Int) (i9_ : Int) (h : H) : Prop :=
 spec_l06Reach_C7 S K X4 X6 i3_ s4_ i8_ i9_ h
def spec_l06Reach_b8 (S : SatT) (K : AVal → H → Prop) (X4 : Frame → H → Prop) (X6 : Frame → H → Prop) (X8 : Frame → H → Prop) (i3_ : Int) (s4_ : Sl) (i8_ : Int) (i9_ : Int) (s10_ : Sl) (i11_ : Int) (h : H) : Prop :=
 bif (decide (i11_ < i3_)) then
 ixS s10_ 1 i8_ fun p0 =>
 ldB p0 h fun b1 =>
 bif b1 then
 ixS s10_ 1 i11_ fun p2 =>
 ldB p2 h fun b3 =>
 bif b3 then
 ixS s10_ 1 i11_ fun p4 =>
 st1 p4 (.bool true) h fun h5 =>
 X8 (spec_l06Reach_e8 i3_ s4_ i8_ i9_ s10_ (w64 (i11_ + (1)))) h5
 else
 ixS s4_ 1 i8_ fun p6 =>
 ldS p6 h fun s7 =>
 ixS s7 1 i11_ fun p8 =>
 ldB p8 h fun b9 =>
 ixS s10_ 1 i11_ fun p10 =>
 st1 p10 (.bool b9) h fun h11 =>
 X8 (spec_l06Reach_e8 i3_ s4_ i8_ i9_ s10_ (w64 (i11_ + (1)))) h11
 else
 spec_l06Reach_C8 S K X4 X6 i3_ s4_ i8_ i9_ h
 else
 spec_l06Reach_C8 S K X4 X6 i3_ s4_ i8_ i9_ h
theorem spec_l06Reach_link8 (S : SatT) (K : AVal → H → Prop) (X4 : Frame → H → Prop) (X6 : Frame → H → Prop) (X8 : Frame → H → Prop) (i3_ : Int) (s4_ : Sl) (i8_ : Int) (i9_ : Int) (s10_ : Sl) (i11_ : Int) (h : H) : spec_l06Reach_w8 S K X4 X6 X8 (spec_l06Reach_e8 i3_ s4_ i8_ i9_ s10_ i11_) h = spec_l06Reach_b8 S K X4 X6 X8 i3_ s4_ i8_ i9_ s10_ i11_ h := by kernel_rfl
theorem spec_l06Reach_rule8 (S : SatT) (K : AVal → H → Prop) (X4 : Frame → H → Prop) (X6 : Frame → H → Prop) (i3_ : Int) (s4_ : Sl) (i8_ : Int) (i9_ : Int) (s10_ : Sl) (I_ : Int → H → Prop) (m_ : Int → H → Nat)
    (hs : ∀ (X8 : Frame → H → Prop) (i11_ : Int) (h : H), I_ i11_ h → (∀ (i11_' : Int) (h' : H), I_ i11_' h' → m_ i11_' h' < m_ i11_ h → X8 (spec_l06Reach_e8 i3_ s4_ i8_ i9_ s10_ i11_') h') → spec_l06Reach_b8 S K X4 X6 X8 i3_ s4_ i8_ i9_ s10_ i11_ h) (i11_ : Int) {h : H} (h0 : I_ i11_ h) : spec_l06Reach_L8 S K X4 X6 i3_ s4_ i8_ i9_ s10_ i11_ h :=
  loop_rule (σ := (Int)) (fun s_ => spec_l06Reach_e8 i3_ s4_ i8_ i9_ s10_ (s_)) (fun s_ h => I_ (s_) h) (fun s_ h => m_ (s_) h)
    (fun X s_ h hi hx => (spec_l06Reach_link8 S K X4 X6 X i3_ s4_ i8_ i9_ s10_ (s_) h).mpr (hs X (s_) h hi fun i11_' h' hi' hm' => hx (i11_') h' hi' hm')) (i11_) h0
theorem spec_l06Reach_unroll8 (S : SatT) (K : AVal → H → Prop) (X4 : Frame → H → Prop) (X6 : Frame → H → Prop) (i3_ : Int) (s4_ : Sl) (i8_ : Int) (i9_ : Int) (s10_ : Sl) (i11_ : Int) (h : H) (hb : spec_l06Reach_b8 S K X4 X6 (fun fr h => loopK (spec_l06Reach_w8 S K X4 X6) fr h) i3_ s4_ i8_ i9_ s10_ i11_ h) : spec_l06Reach_L8 S K X4 X6 i3_ s4_ i8_ i9_ s10_ i11_ h := loop_unroll ((spec_l06Reach_link8 S K X4 X6 _ i3_ s4_ i8_ i9_ s10_ i11_ h).mpr hb)
def spec_l06Reach_C5 (S : SatT) (K : AVal → H → Prop) (X4 : Frame → H → Prop) (i3_ : Int) (s4_ : Sl) (i8_ : Int) (h : H) : Prop :=
 X4 (spec_l06Reach_e4 i3_ s4_ (w64 (i8_ + (1)))) h
def spec_l06Reach_C6 (S : SatT) (K : AVal → H → Prop) (X4 : Frame → H → Prop) (i3_ : Int) (s4_ : Sl) (i8_ : Int) (h : H) : Prop :=
 spec_l06Reach_C5 S K X4 i3_ s4_ i8_ h
def spec_l06Reach_b6 (S : SatT) (K : AVal → H → Prop) (X4 : Frame → H → Prop) (X6 : Frame → H → Prop) (i3_ : Int) (s4_ : Sl) (i8_ : Int) (i9_ : Int) (h : H) : Prop :=
 bif (decide (i9_ < i3_)) then
 ixS s4_ 1 i9_ fun p0 =>
 ldS p0 h fun s1 =>
 spec_l06Reach_L8 S K X4 X6 i3_ s4_ i8_ i9_ s1 (0) h
 else
 spec_l06Reach_C6 S K X4 i3_ s4_ i8_ h
theorem spec_l06Reach_link6 (S : SatT) (K : AVal → H → Prop) (X4 : Frame → H → Prop) (X6 : Frame → H → Prop) (i3_ : Int) (s4_ : Sl) (i8_ : Int) (i9_ : Int) (h : H) : spec_l06Reach_w6 S K X4 X6 (spec_l06Reach_e6 i3_ s4_ i8_ i9_) h = spec_l06Reach_b6 S K X4 X6 i3_ s4_ i8_ i9_ h := by kernel_rfl
theorem spec_l06Reach_rule6 (S : SatT) (K : AVal → H → Prop) (X4 : Frame → H → Prop) (i3_ : Int) (s4_ : Sl) (i8_ : Int) (I_ : Int → H → Prop) (m_ : Int → H → Nat)
    (hs : ∀ (X6 : Frame → H → Prop) (i9_ : Int) (h : H), I_ i9_ h → (∀ (i9_' : Int) (h' : H), I_ i9_' h' → m_ i9_' h' < m_ i9_ h → X6 (spec_l06Reach_e6 i3_ s4_ i8_ i9_') h') → spec_l06Reach_b6 S K X4 X6 i3_ s4_ i8_ i9_ h) (i9_ : Int) {h : H} (h0 : I_ i9_ h) : spec_l06Reach_L6 S K X4 i3_ s4_ i8_ i9_ h :=
  loop_rule (σ := (Int)) (fun s_ => spec_l06Reach_e6 i3_ s4_ i8_ (s_)) (fun s_ h => I_ (s_) h) (fun s_ h => m_ (s_) h)
    (fun X s_ h hi hx => (spec_l06Reach_link6 S K X4 X i3_ s4_ i8_ (s_) h).mpr (hs X (s_) h hi fun i9_' h' hi' hm' => hx (i9_') h' hi' hm')) (i9_) h0
theorem spec_l06Reach_unroll6 (S : SatT) (K : AVal → H → Prop) (X4 : Frame → H → Prop) (i3_ : Int) (s4_ : Sl) (i8_ : Int) (i9_ : Int) (h : H) (hb : spec_l06Reach_b6 S K X4 (fun fr h => loopK (spec_l06Reach_w6 S K X4) fr h) i3_ s4_ i8_ i9_ h) : spec_l06Reach_L6 S K X4 i3_ s4_ i8_ i9_ h := loop_unroll ((spec_l06Reach_link6 S K X4 _ i3_ s4_ i8_ i9_ h).mpr hb)
def spec_l06Reach_C4 (S : SatT) (K : AVal → H → Prop) (s4_ : Sl) (h : H) : Prop :=
 K (.sl s4_) h
def spec_l06Reach_b4 (S : SatT) (K : AVal → H → Prop) (X4 : Frame → H → Prop) (i3_ : Int) (s4_ : Sl) (i8_ : Int) (h : H) : Prop :=
 bif (decide (i8_ < i3_)) then
 spec_l06Reach_L6 S K X4 i3_ s4_ i8_ (0) h
 else
 spec_l06Reach_C4 S K s4_ h
theorem spec_l06Reach_link4 (S : SatT) (K : AVal → H → Prop) (X4 : Frame → H → Prop) (i3_ : Int) (s4_ : Sl) (i8_ : Int) (h : H) : spec_l06Reach_w4 S K X4 (spec_l06Reach_e4 i3_ s4_ i8_) h = spec_l06Reach_b4 S K X4 i3_ s4_ i8_ h := by kernel_rfl
theorem spec_l06Reach_rule4 (S : SatT) (K : AVal → H → Prop) (i3_ : Int) (s4_ : Sl) (I_ : Int → H → Prop) (m_ : Int → H → Nat)
    (hs : ∀ (X4 : Frame → H → Prop) (i8_ : Int) (h : H), I_ i8_ h → (∀ (i8_' : Int) (h' : H), I_ i8_' h' → m_ i8_' h' < m_ i8_ h → X4 (spec_l06Reach_e4 i3_ s4_ i8_') h') → spec_l06Reach_b4 S K X4 i3_ s4_ i8_ h) (i8_ : Int) {h : H} (h0 : I_ i8_ h) : spec_l06Reach_L4 S K i3_ s4_ i8_ h :=
  loop_rule (σ := (Int)) (fun s_ => spec_l06Reach_e4 i3_ s4_ (s_)) (fun s_ h => I_ (s_) h) (fun s_ h => m_ (s_) h)
    (fun X s_ h hi hx => (spec_l06Reach_link4 S K X i3_ s4_ (s_) h).mpr (hs X (s_) h hi fun i8_' h' hi' hm' => hx (i8_') h' hi' hm')) (i8_) h0
theorem spec_l06Reach_unroll4 (S : SatT) (K : AVal → H → Prop) (i3_ : Int) (s4_ : Sl) (i8_ : Int) (h : H) (hb : spec_l06Reach_b4 S K (fun fr h => loopK (spec_l06Reach_w4 S K) fr h) i3_ s4_ i8_ h) : spec_l06Reach_L4 S K i3_ s4_ i8_ h := loop_unroll ((spec_l06Reach_link4 S K _ i3_ s4_ i8_ h).mpr hb)
def spec_l06Reach_C0 (S : SatT) (K : AVal → H → Prop) (i3_ : Int) (s4_ : Sl) (h : H) : Prop :=
 spec_l06Reach_L4 S K i3_ s4_ (0) h
def spec_l06Reach_b0 (S : SatT) (K : AVal → H → Prop) (X0 : Frame → H → Prop) (s0_ : Sl) (i3_ : Int) (s4_ : Sl) (i5_ : Int) (h : H) : Prop :=
 bif (decide (i5_ < i3_)) then
 mkS i3_ [.bool false] h fun s0 h1 =>
 spec_l06Reach_L2 S K X0 s0_ i3_ s4_ i5_ s0 (0) h1
 else
 spec_l06Reach_C0 S K i3_ s4_ h
theorem spec_l06Reach_link0 (S : SatT) (K : AVal → H → Prop) (X0 : Frame → H → Prop) (s0_ : Sl) (i3_ : Int) (s4_ : Sl) (i5_ : Int) (h : H) : spec_l06Reach_w0 S K X0 (spec_l06Reach_e0 s0_ i3_ s4_ i5_) h = spec_l06Reach_b0 S K X0 s0_ i3_ s4_ i5_ h := by kernel_rfl
theorem spec_l06Reach_rule0 (S : SatT) (K : AVal → H → Prop) (s0_ : Sl) (i3_ : Int) (I_ : Sl → Int → H → Prop) (m_ : Sl → Int → H → Nat)
    (hs : ∀ (X0 : Frame → H → Prop) (s4_ : Sl) (i5_ : Int) (h : H), I_ s4_ i5_ h → (∀ (s4_' : Sl) (i5_' : Int) (h' : H), I_ s4_' i5_' h' → m_ s4_' i5_' h' < m_ s4_ i5_ h → X0 (spec_l06Reach_e0 s0_ i3_ s4_' i5_') h') → spec_l06Reach_b0 S K X0 s0_ i3_ s4_ i5_ h) (s4_ : Sl) (i5_ : Int) {h : H} (h0 : I_ s4_ i5_ h) : spec_l06Reach_L0 S K s0_ i3_ s4_ i5_ h :=
  loop_rule (σ := (Sl) × (Int)) (fun s_ => spec_l06Reach_e0 s0_ i3_ (s_.1) (s_.2)) (fun s_ h => I_ (s_.1) (s_.2) h) (fun s_ h => m_ (s_.1) (s_.2) h)
    (fun X s_ h hi hx => (spec_l06Reach_link0 S K X s0_ i3_ (s_.1) (s_.2) h).mpr (hs X (s_.1) (s_.2) h hi fun s4_' i5_' h' hi' hm' => hx (s4_', i5_') h' hi' hm')) (s4_, i5_) h0
theorem spec_l06Reach_unroll0 (S : SatT) (K : AVal → H → Prop) (s0_ : Sl) (i3_ : Int) (s4_ : Sl) (i5_ : Int) (h : H) (hb : spec_l06Reach_b0 S K (fun fr h => loopK (spec_l06Reach_w0 S K) fr h) s0_ i3_ s4_ i5_ h) : spec_l06Reach_L0 S K s0_ i3_ s4_ i5_ h := loop_unroll ((spec_l06Reach_link0 S K _ s0_ i3_ s4_ i5_ h).mpr hb)
def spec_l06Reach_main (S : SatT) (K : AVal → H → Prop) (x0 : Sl) (h : H) : Prop :=
 newS 0 1 [] h fun s0 h1 =>
 spec_l06Reach_L0 S K x0 (x0.len : Int) s0 (0) h1
theorem spec_l06Reach_main_link (S : SatT) (K : AVal → H → Prop) (x0 : Sl) (h : H) : cwp S tab spec_l06Reach_M [] (bodyOf Try.f108) (kFun tab Try.f108.results.toList K) (fr0 Try.f108 [.sl x0]) h = spec_l06Reach_main S K x0 h := by kernel_rfl
theorem spec_l06Reach_call (x0 : Sl) (h : H) (K : Sl → H → Prop) (hm : spec_l06Reach_main (Sat Try.prog) (fun v h' => ∃ r, v = .sl r ∧ K r h') x0 h) : callS (Sat Try.prog) i_spec_l06Reach [.sl x0] h K := by
  have := Sat.ex tok mixed spec_l06Reach_M Try.func108 (c := bodyOf Try.f108) (by kernel_rfl) (calls_of Try.func108 (c := bodyOf Try.f108) (by kernel_rfl) (by decide)) ((spec_l06Reach_main_link _ _ x0 h).mpr hm)
  obtain ⟨v, h2, h3, r, rfl, h4⟩ := this; exact ⟨r, h2, h3, h4⟩

/-! ### loop.example/g01354/spec.l06Columns -/
def spec_l06Columns_M : Nat → List Nat := fun i => bif i == 4 then [1, 2, 6, 7, 8, 9, 10] else bif i == 2 then [1, 2, 6, 7, 8, 9] else bif i == 0 then [1, 2, 6, 7] else []
def spec_l06Columns_ks2 (S : SatT) (K : AVal → H → Prop) : Kont := kSeq (cwp S tab spec_l06Columns_M [] (sub [1, 1, 1] (bodyOf Try.f89)) (kFun tab (Try.f89).results.toList K)) (kFun tab (Try.f89).results.toList K)
def spec_l06Columns_e0 (i1_ : Int) (p2_ : Pt) (s6_ : Sl) (i7_ : Int) : Frame := [U, .int .i64 i1_, .ptr p2_, U, U, U, .sl s6_, .int .i64 i7_, U, U, U, U, U, U, U, U, U, U, U, U, U, U, U, U, U, U, U, U, U, U, U, U, U, U, U, U, U, U, U, U, U, U, U, U, U, U, U, U, U, U, U, U, U, U, U, U, U, U, U, U, U, U, U, U, U, U, U, U, U, U, U, U, U, U, U, U, U, U, U, U, U, U, U, U, U, U, U, U, U, U, U]
def spec_l06Columns_w0 (S : SatT) (K : AVal → H → Prop) : (Frame → H → Prop) → Frame → H → Prop := fun X fr h => cwp S tab spec_l06Columns_M (spec_l06Columns_M 0) (sub [1, 1, 0, 1, 0, 0] (bodyOf Try.f89)) (kSeq (fun fr h => X (mask (spec_l06Columns_M 0) fr) h) (kBlk 0 (spec_l06Columns_ks2 S K))) fr h
def spec_l06Columns_L0 (S : SatT) (K : AVal → H → Prop) (i1_ : Int) (p2_ : Pt) (s6_ : Sl) (i7_ : Int) (h : H) : Prop := loopK (spec_l06Columns_w0 S K) (spec_l06Columns_e0 i1_ p2_ s6_ i7_) h
def spec_l06Columns_ks6 (S : SatT) (K : AVal → H → Prop) (X0 : Frame → H → Prop) : Kont := kSeq (cwp S tab spec_l06Columns_M (spec_l06Columns_M 0) (sub [1, 1, 0, 1, 0, 0, 1, 1] (bodyOf Try.f89)) (kSeq (fun fr h => X0 (mask (spec_l06Columns_M 0) fr) h) (kBlk 0 (spec_l06Columns_ks2 S K)))) (kSeq (fun fr h => X0 (mask (spec_l06Columns_M 0) fr) h) (kBlk 0 (spec_l06Columns_ks2 S K)))
def spec_l06Columns_ks8 (S : SatT) (K : AVal → H → Prop) (X0 : Frame → H → Prop) : Kont := kSeq (cwp S tab spec_l06Columns_M (spec_l06Columns_M 1) (sub [1, 1, 0, 1, 0, 0, 1, 0, 0, 1, 1] (bodyOf Try.f89)) (kBlk 1 (spec_l06Columns_ks6 S K X0))) (kBlk 1 (spec_l06Columns_ks6 S K X0))
def spec_l06Columns_e2 (i1_ : Int) (p2_ : Pt) (s6_ : Sl) (i7_ : Int) (s8_ : Sl) (i9_ : Int) : Frame := [U, .int .i64 i1_, .ptr p2_, U, U, U, .sl s6_, .int .i64 i7_, .sl s8_, .int .i64 i9_, U, U, U, U, U, U, U, U, U, U, U, U, U, U, U, U, U, U, U, U, U, U, U, U, U, U, U, U, U, U, U, U, U, U, U, U, U, U, U, U, U, U, U, U, U, U, U, U, U, U, U, U, U, U, U, U, U, U, U, U, U, U, U, U, U, U, U, U, U, U, U, U, U, U, U, U, U, U, U, U, U]
def spec_l06Columns_w2 (S : SatT) (K : AVal → H → Prop) (X0 : Frame → H → Prop) : (Frame → H → Prop) → Frame → H → Prop := fun X fr h => cwp S tab spec_l06Columns_M (spec_l06Columns_M 2) (sub [1, 1, 0, 1, 0, 0, 1, 0, 0, 1, 0, 1, 0, 0] (bodyOf Try.f89)) (kSeq (fun fr h => X (mask (spec_l06Columns_M 2) fr) h) (kBlk 2 (spec_l06Columns_ks8 S K X0))) fr h
def spec_l06Columns_L2 (S : SatT) (K : AVal → H → Prop) (X0 : Frame → H → Prop) (i1_ : Int) (p2_ : Pt) (s6_ : Sl) (i7_ : Int) (s8_ : Sl) (i9_ : Int) (h : H) : Prop := loopK (spec_l06Columns_w2 S K X0) (spec_l06Columns_e2 i1_ p2_ s6_ i7_ s8_ i9_) h
def spec_l06Columns_ks12 (S : SatT) (K : AVal → H → Prop) (X0 : Frame → H → Prop) (X2 : Frame → H → Prop) : Kont := kSeq (cwp S tab spec_l06Columns_M (spec_l06Columns_M 2) (sub [1, 1, 0, 1, 0, 0, 1, 0, 0, 1, 0, 1, 0, 0, 1, 1] (bodyOf Try.f89)) (kSeq (fun fr h => X2 (mask (spec_l06Columns_M 2) fr) h) (kBlk 2 (spec_l06Columns_ks8 S K X0)))) (kSeq (fun fr h => X2 (mask (spec_l06Columns_M 2) fr) h) (kBlk 2 (spec_l06Columns_ks8 S K X0)))
def spec_l06Columns_e4 (i1_ : Int) (p2_ : Pt) (s6_ : Sl) (i7_ : Int) (s8_ : Sl) (i9_ : Int) (i10_ : Int) : Frame := [U, .int .i64 i1_, .ptr p2_, U, U, U, .sl s6_, .int .i64 i7_, .sl s8_, .int .i64 i9_, .int .i64 i10_, U, U, U, U, U, U, U, U, U, U, U, U, U, U, U, U, U, U, U, U, U, U, U, U, U, U, U, U, U, U, U, U, U, U, U, U, U, U, U, U, U, U, U, U, U, U, U, U, U, U, U, U, U, U, U, U, U, U, U, U, U, U, U, U, U, U, U, U, U, U, U, U, U, U, U, U, U, U, U, U]
def spec_l06Columns_w4 (S : SatT) (K : AVal → H → Prop) (X0 : Frame → H → Prop) (X2 : Frame → H → Prop) : (Frame → H → Prop) → Frame → H → Prop := fun X fr h => cwp S tab spec_l06Columns_M (spec_l06Columns_M 4) (sub [1, 1, 0, 1, 0, 0, 1, 0, 0, 1, 0, 1, 0, 0, 1, 0, 0, 1, 0, 0] (bodyOf Try.f89)) (kSeq (fun fr h => X (mask (spec_l06Columns_M 4) fr) h) (kBlk 4 (kBlk 3 (spec_l06Columns_ks12 S K X0 X2)))) fr h
def spec_l06Columns_L4 (S : SatT) (K : AVal → H → Prop) (X0 : Frame → H → Prop) (X2 : Frame → H → Prop) (i1_ : Int) (p2_ : Pt) (s6_ : Sl) (i7_ : Int) (s8_ : Sl) (i9_ : Int) (i10_ : Int) (h : H) : Prop := loopK (spec_l06Columns_w4 S K X0 X2) (spec_l06Columns_e4 i1_ p2_ s6_ i7_ s8_ i9_ i10_) h
def spec_l06Columns_C3 (S : SatT) (K : AVal → H → Prop) (X0 : Frame → H → Prop) (X2 : Frame → H → Prop) (i1_ : Int) (p2_ : Pt) (s6_ : Sl) (i7_ : Int) (s8_ : Sl) (i9_ : Int) (h : H) : Prop :=
 X2 (spec_l06Columns_e2 i1_ p2_ s6_ i7_ s8_ (w64 (i9_ + (1)))) h
def spec_l06Columns_C4 (S : SatT) (K : AVal → H → Prop) (X0 : Frame → H → Prop) (X2 : Frame → H → Prop) (i1_ : Int) (p2_ : Pt) (s6_ : Sl) (i7_ : Int) (s8_ : Sl) (i9_ : Int) (h : H) : Prop :=
 spec_l06Columns_C3 S K X0 X2 i1_ p2_ s6_ i7_ s8_ i9_ h
def spec_l06Columns_b4 (S : SatT) (K : AVal → H → Prop) (X0 : Frame → H → Prop) (X2 : Frame → H → Prop) (X4 : Frame → H → Prop) (i1_ : Int) (p2_ : Pt) (s6_ : Sl) (i7_ : Int) (s8_ : Sl) (i9_ : Int) (i10_ : Int) (h : H) : Prop :=
 isPt p2_ (
 ldS (Pt.add p2_ 1) h fun s0 =>
 bif (decide (i10_ < (s0.len : Int))) then
 isPt p2_ (
 ldS (Pt.add p2_ 1) h fun s1 =>
 ixS s1 4 i10_ fun p2 =>
 ldA p2 4 h fun cs3 =>
 newO [.int .i64 (0), .int .i64 (0), .int .i64 (0), .int .i64 (0)] h fun p4 h5 =>
 stN p4 4 cs3 h5 fun h6 =>
 ixS s6_ 1 i9_ fun p7 =>
 ldS p7 h6 fun s8 =>
 ixS s8 1 (2) fun p9 =>
 ldI .i64 p9 h6 fun n10 =>
 bif (decide (n10 ≥ (0))) then
 ixS s6_ 1 i9_ fun p11 =>
 ldS p11 h6 fun s12 =>
 ixS s12 1 (2) fun p13 =>
 ldI .i64 p13 h6 fun n14 =>
 ixA p4 4 1 (1) fun p15 =>
 ldI .i64 p15 h6 fun n16 =>
 bif (n14 != n16) then
 X4 (spec_l06Columns_e4 i1_ p2_ s6_ i7_ s8_ i9_ (w64 (i10_ + (1)))) h6
 else
 bif ((s8_.len : Int) == (5000)) then
 K (.tuple [.sl Sl.nil, .bool false]) h6
 else
 ixS s6_ 1 i9_ fun p17 =>
 ldS p17 h6 fun s18 =>
 ixS s18 1 (0) fun p19 =>
 ldI .i64 p19 h6 fun n20 =>
 isPt p2_ (
 ldI .i64 (Pt.add p2_ 0) h6 fun n21 =>
 ixA p4 4 1 (0) fun p22 =>
 ldI .i64 p22 h6 fun n23 =>
 ixS s6_ 1 i9_ fun p24 =>
 ldS p24 h6 fun s25 =>
 ixS s25 1 (1) fun p26 =>
 ldI .i64 p26 h6 fun n27 =>
 isPt p2_ (
 ldI .i64 (Pt.add p2_ 0) h6 fun n28 =>
 ixA p4 4 1 (2) fun p29 =>
 ldI .i64 p29 h6 fun n30 =>
 ixA p4 4 1 (3) fun p31 =>
 ldI .i64 p31 h6 fun n32 =>
 newS 3 1 [.int .i64 (w64 ((w64 (n20 * n21)) + n23)), .int .i64 (w64 ((w64 (n27 * n28)) + n30)), .int .i64 n32] h6 fun s33 h34 =>
 newS 1 1 [.sl s33] h34 fun s35 h36 =>
 app s8_ s35 1 h36 fun s37 h38 =>
 X4 (spec_l06Columns_e4 i1_ p2_ s6_ i7_ s37 i9_ (w64 (i10_ + (1)))) h38))
 else
 bif ((s8_.len : Int) == (5000)) then
 K (.tuple [.sl Sl.nil, .bool false]) h6
 else
 ixS s6_ 1 i9_ fun p39 =>
 ldS p39 h6 fun s40 =>
 ixS s40 1 (0) fun p41 =>
 ldI .i64 p41 h6 fun n42 =>
 isPt p2_ (
 ldI .i64 (Pt.add p2_ 0) h6 fun n43 =>
 ixA p4 4 1 (0) fun p44 =>
 ldI .i64 p44 h6 fun n45 =>
 ixS s6_ 1 i9_ fun p46 =>
 ldS p46 h6 fun s47 =>
 ixS s47 1 (1) fun p48 =>
 ldI .i64 p48 h6 fun n49 =>
 isPt p2_ (
 ldI .i64 (Pt.add p2_ 0) h6 fun n50 =>
 ixA p4 4 1 (2) fun p51 =>
 ldI .i64 p51 h6 fun n52 =>
 ixA p4 4 1 (3) fun p53 =>
 ldI .i64 p53 h6 fun n54 =>
 newS 3 1 [.int .i64 (w64 ((w64 (n42 * n43)) + n45)), .int .i64 (w64 ((w64 (n49 * n50)) + n52)), .int .i64 n54] h6 fun s55 h56 =>
 newS 1 1 [.sl s55] h56 fun s57 h58 =>
 app s8_ s57 1 h58 fun s59 h60 =>
 X4 (spec_l06Columns_e4 i1_ p2_ s6_ i7_ s59 i9_ (w64 (i10_ + (1)))) h60)))
 else
 spec_l06Columns_C4 S K X0 X2 i1_ p2_ s6_ i7_ s8_ i9_ h)
theorem spec_l06Columns_link4 (S : SatT) (K : AVal → H → Prop) (X0 : Frame → H → Prop) (X2 : Frame → H → Prop) (X4 : Frame → H → Prop) (i1_ : Int) (p2_ : Pt) (s6_ : Sl) (i7_ : Int) (s8_ : Sl) (i9_ : Int) (i10_ : Int) (h : H) : spec_l06Columns_w4 S K X0 X2 X4 (spec_l06Columns_e4 i1_ p2_ s6_ i7_ s8_ i9_ i10_) h = spec_l06Columns_b4 S K X0 X2 X4 i1_ p2_ s6_ i7_ s8_ i9_ i10_ h := by kernel_rfl
theorem spec_l06Columns_rule4 (S : SatT) (K : AVal → H → Prop) (X0 : Frame → H → Prop) (X2 : Frame → H → Prop) (i1_ : Int) (p2_ : Pt) (s6_ : Sl) (i7_ : Int) (i9_ : Int) (I_ : Sl → Int → H → Prop) (m_ : Sl → Int → H → Nat)
    (hs : ∀ (X4 : Frame → H → Prop) (s8_ : Sl) (i10_ : Int) (h : H), I_ s8_ i10_ h → (∀ (s8_' : Sl) (i10_' : Int) (h' : H), I_ s8_' i10_' h' → m_ s8_' i10_' h' < m_ s8_ i10_ h → X4 (spec_l06Columns_e4 i1_ p2_ s6_ i7_ s8_' i9_ i10_') h') → spec_l06Columns_b4 S K X0 X2 X4 i1_ p2_ s6_ i7_ s8_ i9_ i10_ h) (s8_ : Sl) (i10_ : Int) {h : H} (h0 : I_ s8_ i10_ h) : spec_l06Columns_L4 S K X0 X2 i1_ p2_ s6_ i7_ s8_ i9_ i10_ h :=
  loop_rule (σ := (Sl) × (Int)) (fun s_ => spec_l06Columns_e4 i1_ p2_ s6_ i7_ (s_.1) i9_ (s_.2)) (fun s_ h => I_ (s_.1) (s_.2) h) (fun s_ h => m_ (s_.1) (s_.2) h)
    (fun X s_ h hi hx => (spec_l06Columns_link4 S K X0 X2 X i1_ p2_ s6_ i7_ (s_.1) i9_ (s_.2) h).mpr (hs X (s_.1) (s_.2) h hi fun s8_' i10_' h' hi' hm' => hx (s8_', i10_') h' hi' hm')) (s8_, i10_) h0
theorem spec_l06Columns_unroll4 (S : SatT) (K : AVal → H → Prop) (X0 : Frame → H → Prop) (X2 : Frame → H → Prop) (i1_ : Int) (p2_ : Pt) (s6_ : Sl) (i7_ : Int) (s8_ : Sl) (i9_ : Int) (i10_ : Int) (h : H) (hb : spec_l06Columns_b4 S K X0 X2 (fun fr h => loopK (spec_l06Columns_w4 S K X0 X2) fr h) i1_ p2_ s6_ i7_ s8_ i9_ i10_ h) : spec_l06Columns_L4 S K X0 X2 i1_ p2_ s6_ i7_ s8_ i9_ i10_ h := loop_unroll ((spec_l06Columns_link4 S K X0 X2 _ i1_ p2_ s6_ i7_ s8_ i9_ i10_ h).mpr hb)
def spec_l06Columns_C1 (S : SatT) (K : AVal → H → Prop) (X0 : Frame → H → Prop) (i1_ : Int) (p2_ : Pt) (s6_ : Sl) (i7_ : Int) (h : H) : Prop :=
 X0 (spec_l06Columns_e0 i1_ p2_ s6_ (w64 (i7_ + (1)))) h
def spec_l06Columns_C2 (S : SatT) (K : AVal → H → Prop) (X0 : Frame → H → Prop) (i1_ : Int) (p2_ : Pt) (i7_ : Int) (s8_ : Sl) (h : H) : Prop :=
 spec_l06Columns_C1 S K X0 i1_ p2_ s8_ i7_ h
def spec_l06Columns_b2 (S : SatT) (K : AVal → H → Prop) (X0 : Frame → H → Prop) (X2 : Frame → H → Prop) (i1_ : Int) (p2_ : Pt) (s6_ : Sl) (i7_ : Int) (s8_ : Sl) (i9_ : Int) (h : H) : Prop :=
 bif (decide (i9_ < (s6_.len : Int))) then
 spec_l06Columns_L4 S K X0 X2 i1_ p2_ s6_ i7_ s8_ i9_ (0) h
 else
 spec_l06Columns_C2 S K X0 i1_ p2_ i7_ s8_ h
theorem spec_l06Columns_link2 (S : SatT) (K : AVal → H → Prop) (X0 : Frame → H → Prop) (X2 : Frame → H → Prop) (i1_ : Int) (p2_ : Pt) (s6_ : Sl) (i7_ : Int) (s8_ : Sl) (i9_ : Int) (h : H) : spec_l06Columns_w2 S K X0 X2 (spec_l06Columns_e2 i1_ p2_ s6_ i7_ s8_ i9_) h = spec_l06Columns_b2 S K X0 X2 i1_ p2_ s6_ i7_ s8_ i9_ h := by kernel_rfl
theorem spec_l06Columns_rule2 (S : SatT) (K : AVal → H → Prop) (X0 : Frame → H → Prop) (i1_ : Int) (p2_ : Pt) (s6_ : Sl) (i7_ : Int) (I_ : Sl → Int → H → Prop) (m_ : Sl → Int → H → Nat)
    (hs : ∀ (X2 : Frame → H → Prop) (s8_ : Sl) (i9_ : Int) (h : H), I_ s8_ i9_ h → (∀ (s8_' : Sl) (i9_' : Int) (h' : H), I_ s8_' i9_' h' → m_ s8_' i9_' h' < m_ s8_ i9_ h → X2 (spec_l06Columns_e2 i1_ p2_ s6_ i7_ s8_' i9_') h') → spec_l06Columns_b2 S K X0 X2 i1_ p2_ s6_ i7_ s8_ i9_ h) (s8_ : Sl) (i9_ : Int) {h : H} (h0 : I_ s8_ i9_ h) : spec_l06Columns_L2 S K X0 i1_ p2_ s6_ i7_ s8_ i9_ h :=
  loop_rule (σ := (Sl) × (Int)) (fun s_ => spec_l06Columns_e2 i1_ p2_ s6_ i7_ (s_.1) (s_.2)) (fun s_ h => I_ (s_.1) (s_.2) h) (fun s_ h => m_ (s_.1) (s_.2) h)
    (fun X s_ h hi hx => (spec_l06Columns_link2 S K X0 X i1_ p2_ s6_ i7_ (s_.1) (s_.2) h).mpr (hs X (s_.1) (s_.2) h hi fun s8_' i9_' h' hi' hm' => hx (s8_', i9_') h' hi' hm')) (s8_, i9_) h0
theorem spec_l06Columns_unroll2 (S : SatT) (K : AVal → H → Prop) (X0 : Frame → H → Prop) (i1_ : Int) (p2_ : Pt) (s6_ : Sl) (i7_ : Int) (s8_ : Sl) (i9_ : Int) (h : H) (hb : spec_l06Columns_b2 S K X0 (fun fr h => loopK (spec_l06Columns_w2 S K X0) fr h) i1_ p2_ s6_ i7_ s8_ i9_ h) : spec_l06Columns_L2 S K X0 i1_ p2_ s6_ i7_ s8_ i9_ h := loop_unroll ((spec_l06Columns_link2 S K X0 _ i1_ p2_ s6_ i7_ s8_ i9_ h).mpr hb)
def spec_l06Columns_C0 (S : SatT) (K : AVal → H → Prop) (s6_ : Sl) (h : H) : Prop :=
 K (.tuple [.sl s6_, .bool true]) h
def spec_l06Columns_b0 (S : SatT) (K : AVal → H → Prop) (X0 : Frame → H → Prop) (i1_ : Int) (p2_ : Pt) (s6_ : Sl) (i7_ : Int) (h : H) : Prop :=
 bif (decide (i7_ < i1_)) then
 newS 0 1 [] h fun s0 h1 =>
 spec_l06Columns_L2 S K X0 i1_ p2_ s6_ i7_ s0 (0) h1
 else
 spec_l06Columns_C0 S K s6_ h
theorem spec_l06Columns_link0 (S : SatT) (K : AVal → H → Prop) (X0 : Frame → H → Prop) (i1_ : Int) (p2_ : Pt) (s6_ : Sl) (i7_ : Int) (h : H) : spec_l06Columns_w0 S K X0 (spec_l06Columns_e0 i1_ p2_ s6_ i7_) h = spec_l06Columns_b0 S K X0 i1_ p2_ s6_ i7_ h := by kernel_rfl
theorem spec_l06Columns_rule0 (S : SatT) (K : AVal → H → Prop) (i1_ : Int) (p2_ : Pt) (I_ : Sl → Int → H → Prop) (m_ : Sl → Int → H → Nat)
    (hs : ∀ (X0 : Frame → H → Prop) (s6_ : Sl) (i7_ : Int) (h : H), I_ s6_ i7_ h → (∀ (s6_' : Sl) (i7_' : Int) (h' : H), I_ s6_' i7_' h' → m_ s6_' i7_' h' < m_ s6_ i7_ h → X0 (spec_l06Columns_e0 i1_ p2_ s6_' i7_') h') → spec_l06Columns_b0 S K X0 i1_ p2_ s6_ i7_ h) (s6_ : Sl) (i7_ : Int) {h : H} (h0 : I_ s6_ i7_ h) : spec_l06Columns_L0 S K i1_ p2_ s6_ i7_ h :=
  loop_rule (σ := (Sl) × (Int)) (fun s_ => spec_l06Columns_e0 i1_ p2_ (s_.1) (s_.2)) (fun s_ h => I_ (s_.1) (s_.2) h) (fun s_ h => m_ (s_.1) (s_.2) h)
    (fun X s_ h hi hx => (spec_l06Columns_link0 S K X i1_ p2_ (s_.1) (s_.2) h).mpr (hs X (s_.1) (s_.2) h hi fun s6_' i7_' h' hi' hm' => hx (s6_', i7_') h' hi' hm')) (s6_, i7_) h0
theorem spec_l06Columns_unroll0 (S : SatT) (K : AVal → H → Prop) (i1_ : Int) (p2_ : Pt) (s6_ : Sl) (i7_ : Int) (h : H) (hb : spec_l06Columns_b0 S K (fun fr h => loopK (spec_l06Columns_w0 S K) fr h) i1_ p2_ s6_ i7_ h) : spec_l06Columns_L0 S K i1_ p2_ s6_ i7_ h := loop_unroll ((spec_l06Columns_link0 S K _ i1_ p2_ s6_ i7_ h).mpr hb)
def spec_l06Columns_main (S : SatT) (K : AVal → H → Prop) (x0 : List AVal) (x1 : Int) (h : H) : Prop :=
 newK 2 x0 h fun p0 h1 =>
 newS 3 1 [.int .i64 (0), .int .i64 (0), .int .i64 (-1)] h1 fun s2 h3 =>
 newS 1 1 [.sl s2] h3 fun s4 h5 =>
 spec_l06Columns_L0 S K x1 p0 s4 (0) h5
theorem spec_l06Columns_main_link (S : SatT) (K : AVal → H → Prop) (x0 : List AVal) (x1 : Int) (h : H) : cwp S tab spec_l06Columns_M [] (bodyOf Try.f89) (kFun tab Try.f89.results.toList K) (fr0 Try.f89 [.agg x0, .int .i64 x1]) h = spec_l06Columns_main S K x0 x1 h := by kernel_rfl
theorem spec_l06Columns_call (x0 : List AVal) (x1 : Int) (h : H) (K : AVal → H → Prop) (hm : spec_l06Columns_main (Sat Try.prog) (fun v h' => K v h') x0 x1 h) : callV (Sat Try.prog) i_spec_l06Columns [.agg x0, .int .i64 x1] h K := by
  have := Sat.ex tok mixed spec_l06Columns_M Try.func89 (c := bodyOf Try.f89) (by kernel_rfl) (calls_of Try.func89 (c := bodyOf Try.f89) (by kernel_rfl) (by decide)) ((spec_l06Columns_main_link _ _ x0 x1 h).mpr hm)
  exact this

/-! ### (*loop.example/g01354/impl.strip).sequence -/
def impl_strip_sequence_M : Nat → List Nat := fun i => bif i == 4 then [0, 1, 2, 7, 8, 51, 52, 53] else bif i == 2 then [0, 1, 2, 6, 7, 8, 27, 28, 29] else bif i == 0 then [0, 1, 2, 6] else []
def impl_strip_sequence_e0 (p0_ : Pt) (f1_ : AVal) (f2_ : AVal) (s6_ : Sl) : Frame := [.ptr p0_, f1_, f2_, U, U, U, .sl s6_, U, U, U, U, U, U, U, U, U, U, U, U, U, U, U, U, U, U, U, U, U, U, U, U, U, U, U, U, U, U, U, U, U, U, U, U, U, U, U, U, U, U, U, U, U, U, U, U, U, U, U, U, U, U, U, U, U, U, U, U, U]
def impl_strip_sequence_w0 (S : SatT) (K : AVal → H → Prop) : (Frame → H → Prop) → Frame → H → Prop := fun X fr h => cwp S tab impl_strip_sequence_M (impl_strip_sequence_M 0) (sub [1, 0, 0] (bodyOf Try.f69)) (kSeq (fun fr h => X (mask (impl_strip_sequence_M 0) fr) h) (kBlk 0 (kFun tab (Try.f69).results.toList K))) fr h
def impl_strip_sequence_L0 (S : SatT) (K : AVal → H → Prop) (p0_ : Pt) (f1_ : AVal) (f2_ : AVal) (s6_ : Sl) (h : H) : Prop := loopK (impl_strip_sequence_w0 S K) (impl_strip_sequence_e0 p0_ f1_ f2_ s6_) h
def impl_strip_sequence_ks2 (S : SatT) (K : AVal → H → Prop) (X0 : Frame → H → Prop) : Kont := kSeq (cwp S tab impl_strip_sequence_M (impl_strip_sequence_M 1) (sub [1, 0, 0, 0, 1, 1] (bodyOf Try.f69)) (kBlk 1 (kSeq (fun fr h => X0 (mask (impl_strip_sequence_M 0) fr) h) (kBlk 0 (kFun tab (Try.f69).results.toList K))))) (kBlk 1 (kSeq (fun fr h => X0 (mask (impl_strip_sequence_M 0) fr) h) (kBlk 0 (kFun tab (Try.f69).results.toList K))))
def impl_strip_sequence_e2 (p0_ : Pt) (f1_ : AVal) (f2_ : AVal) (s6_ : Sl) (s7_ : Sl) (i8_ : Int) (s27_ : Sl) (i28_ : Int) (i29_ : Int) : Frame := [.ptr p0_, f1_, f2_, U, U, U, .sl s6_, .sl s7_, .int .i64 i8_, U, U, U, U, U, U, U, U, U, U, U, U, U, U, U, U, U, U, .sl s27_, .int .i64 i28_, .int .i64 i29_, U, U, U, U, U, U, U, U, U, U, U, U, U, U, U, U, U, U, U, U, U, U, U, U, U, U, U, U, U, U, U, U, U, U, U, U, U, U]
def impl_strip_sequence_w2 (S : SatT) (K : AVal → H → Prop) (X0 : Frame → H → Prop) : (Frame → H → Prop) → Frame → H → Prop := fun X fr h => cwp S tab impl_strip_sequence_M (impl_strip_sequence_M 2) (sub [1, 0, 0, 0, 1, 0, 1, 0, 0] (bodyOf Try.f69)) (kSeq (fun fr h => X (mask (impl_strip_sequence_M 2) fr) h) (kBlk 2 (impl_strip_sequence_ks2 S K X0))) fr h
def impl_strip_sequence_L2 (S : SatT) (K : AVal → H → Prop) (X0 : Frame → H → Prop) (p0_ : Pt) (f1_ : AVal) (f2_ : AVal) (s6_ : Sl) (s7_ : Sl) (i8_ : Int) (s27_ : Sl) (i28_ : Int) (i29_ : Int) (h : H) : Prop := loopK (impl_strip_sequence_w2 S K X0) (impl_strip_sequence_e2 p0_ f1_ f2_ s6_ s7_ i8_ s27_ i28_ i29_) h
def impl_strip_sequence_ks8 (S : SatT) (K : AVal → H → Prop) (X0 : Frame → H → Prop) : Kont := kSeq (cwp S tab impl_strip_sequence_M (impl_strip_sequence_M 1) (sub [1, 0, 0, 0, 1, 1, 1] (bodyOf Try.f69)) (kBlk 1 (kSeq (fun fr h => X0 (mask (impl_strip_sequence_M 0) fr) h) (kBlk 0 (kFun tab (Try.f69).results.toList K))))) (kBlk 1 (kSeq (fun fr h => X0 (mask (impl_strip_sequence_M 0) fr) h) (kBlk 0 (kFun tab (Try.f69).results.toList K))))
def impl_strip_sequence_e4 (p0_ : Pt) (f1_ : AVal) (f2_ : AVal) (s7_ : Sl) (i8_ : Int) (s51_ : Sl) (i52_ : Int) (i53_ : Int) : Frame := [.ptr p0_, f1_, f2_, U, U, U, U, .sl s7_, .int .i64 i8_, U, U, U, U, U, U, U, U, U, U, U, U, U, U, U, U, U, U, U, U, U, U, U, U, U, U, U, U, U, U, U, U, U, U, U, U, U, U, U, U, U, U, .sl s51_, .int .i64 i52_, .int .i64 i53_, U, U, U, U, U, U, U, U, U, U, U, U, U, U]
def impl_strip_sequence_w4 (S : SatT) (K : AVal → H → Prop) (X0 : Frame → H → Prop) : (Frame → H → Prop) → Frame → H → Prop := fun X fr h => cwp S tab impl_strip_sequence_M (impl_strip_sequence_M 4) (sub [1, 0, 0, 0, 1, 1, 0, 1, 0, 0] (bodyOf Try.f69)) (kSeq (fun fr h => X (mask (impl_strip_sequence_M 4) fr) h) (kBlk 4 (impl_strip_sequence_ks8 S K X0))) fr h
def impl_strip_sequence_L4 (S : SatT) (K : AVal → H → Prop) (X0 : Frame → H → Prop) (p0_ : Pt) (f1_ : AVal) (f2_ : AVal) (s7_ : Sl) (i8_ : Int) (s51_ : Sl) (i52_ : Int) (i53_ : Int) (h : H) : Prop := loopK (impl_strip_sequence_w4 S K X0) (impl_strip_sequence_e4 p0_ f1_ f2_ s7_ i8_ s51_ i52_ i53_) h
def impl_strip_sequence_C4 (S : SatT) (K : AVal → H → Prop) (X0 : Frame → H → Prop) (p0_ : Pt) (f1_ : AVal) (f2_ : AVal) (s7_ : Sl) (i8_ : Int) (h : H) : Prop :=
 viaF f2_ [.int .i64 i8_] fun g0 ys1 =>
 callB S g0 ys1 h fun b3 h2 =>
 bif (!b3) then
 K (.tuple []) h2
 else
 X0 (impl_strip_sequence_e0 p0_ f1_ f2_ s7_) h2
def impl_strip_sequence_b4 (S : SatT) (K : AVal → H → Prop) (X0 : Frame → H → Prop) (X4 : Frame → H → Prop) (p0_ : Pt) (f1_ : AVal) (f2_ : AVal) (s7_ : Sl) (i8_ : Int) (s51_ : Sl) (i52_ : Int) (i53_ : Int) (h : H) : Prop :=
 bif (decide (i53_ < i52_)) then
 ixS s51_ 1 i53_ fun p0 =>
 ldI .i64 p0 h fun n1 =>
 viaF f1_ [.int .i64 (w64 (i8_ + n1))] fun g2 ys3 =>
 callI S .i64 g2 ys3 h fun n5 h4 =>
 X4 (impl_strip_sequence_e4 p0_ f1_ f2_ s7_ n5 s51_ i52_ (w64 (i53_ + (1)))) h4
 else
 impl_strip_sequence_C4 S K X0 p0_ f1_ f2_ s7_ i8_ h
theorem impl_strip_sequence_link4 (S : SatT) (K : AVal → H → Prop) (X0 : Frame → H → Prop) (X4 : Frame → H → Prop) (p0_ : Pt) (f1_ : AVal) (f2_ : AVal) (s7_ : Sl) (i8_ : Int) (s51_ : Sl) (i52_ : Int) (i53_ : Int) (h : H) : impl_strip_sequence_w4 S K X0 X4 (impl_strip_sequence_e4 p0_ f1_ f2_ s7_ i8_ s51_ i52_ i53_) h = impl_strip_sequence_b4 S K X0 X4 p0_ f1_ f2_ s7_ i8_ s51_ i52_ i53_ h := by kernel_rfl
theorem impl_strip_sequence_rule4 (S : SatT) (K : AVal → H → Prop) (X0 : Frame → H → Prop) (p0_ : Pt) (f1_ : AVal) (f2_ : AVal) (s7_ : Sl) (s51_ : Sl) (i52_ : Int) (I_ : Int → Int → H → Prop) (m_ : Int → Int → H → Nat)
    (hs : ∀ (X4 : Frame → H → Prop) (i8_ : Int) (i53_ : Int) (h : H), I_ i8_ i53_ h → (∀ (i8_' : Int) (i53_' : Int) (h' : H), I_ i8_' i53_' h' → m_ i8_' i53_' h' < m_ i8_ i53_ h → X4 (impl_strip_sequence_e4 p0_ f1_ f2_ s7_ i8_' s51_ i52_ i53_') h') → impl_strip_sequence_b4 S K X0 X4 p0_ f1_ f2_ s7_ i8_ s51_ i52_ i53_ h) (i8_ : Int) (i53_ : Int) {h : H} (h0 : I_ i8_ i53_ h) : impl_strip_sequence_L4 S K X0 p0_ f1_ f2_ s7_ i8_ s51_ i52_ i53_ h :=
  loop_rule (σ := (Int) × (Int)) (fun s_ => impl_strip_sequence_e4 p0_ f1_ f2_ s7_ (s_.1) s51_ i52_ (s_.2)) (fun s_ h => I_ (s_.1) (s_.2) h) (fun s_ h => m_ (s_.1) (s_.2) h)
    (fun X s_ h hi hx => (impl_strip_sequence_link4 S K X0 X p0_ f1_ f2_ s7_ (s_.1) s51_ i52_ (s_.2) h).mpr (hs X (s_.1) (s_.2) h hi fun i8_' i53_' h' hi' hm' => hx (i8_', i53_') h' hi' hm')) (i8_, i53_) h0
theorem impl_strip_sequence_unroll4 (S : SatT) (K : AVal → H → Prop) (X0 : Frame → H → Prop) (p0_ : Pt) (f1_ : AVal) (f2_ : AVal) (s7_ : Sl) (i8_ : Int) (s51_ : Sl) (i52_ : Int) (i53_ : Int) (h : H) (hb : impl_strip_sequence_b4 S K X0 (fun fr h => loopK (impl_strip_sequence_w4 S K X0) fr h) p0_ f1_ f2_ s7_ i8_ s51_ i52_ i53_ h) : impl_strip_sequence_L4 S K X0 p0_ f1_ f2_ s7_ i8_ s51_ i52_ i53_ h := loop_unroll ((impl_strip_sequence_link4 S K X0 _ p0_ f1_ f2_ s7_ i8_ s51_ i52_ i53_ h).mpr hb)
def impl_strip_sequence_C2 (S : SatT) (K : AVal → H → Prop) (X0 : Frame → H → Prop) (p0_ : Pt) (f1_ : AVal) (f2_ : AVal) (s7_ : Sl) (i8_ : Int) (h : H) : Prop :=
 impl_strip_sequence_L4 S K X0 p0_ f1_ f2_ s7_ i8_ s7_ (s7_.len : Int) (0) h
def impl_strip_sequence_b2 (S : SatT) (K : AVal → H → Prop) (X0 : Frame → H → Prop) (X2 : Frame → H → Prop) (p0_ : Pt) (f1_ : AVal) (f2_ : AVal) (s6_ : Sl) (s7_ : Sl) (i8_ : Int) (s27_ : Sl) (i28_ : Int) (i29_ : Int) (h : H) : Prop :=
 bif (decide (i29_ < i28_)) then
 ixS s27_ 3 i29_ fun p0 =>
 ldA p0 3 h fun cs1 =>
 newO [.int .i64 (0), .int .i64 (0), .int .i64 (0)] h fun p2 h3 =>
 stN p2 3 cs1 h3 fun h4 =>
 ixA p2 3 1 (1) fun p5 =>
 ldI .i64 p5 h4 fun n6 =>
 ixA p2 3 1 (1) fun p7 =>
 ldI .i64 p7 h4 fun n8 =>
 ixS s7_ 1 n8 fun p9 =>
 ldI .i64 p9 h4 fun n10 =>
 ixA p2 3 1 (0) fun p11 =>
 ldI .i64 p11 h4 fun n12 =>
 ixS s6_ 1 n12 fun p13 =>
 ldI .i64 p13 h4 fun n14 =>
 viaF f1_ [.int .i64 (w64 (n10 + n14))] fun g15 ys16 =>
 callI S .i64 g15 ys16 h4 fun n18 h17 =>
(cell h17 p5 = cell h4 p5) ∧ (
 ixS s7_ 1 n6 fun p19 =>
 st1 p19 (.int .i64 n18) h17 fun h20 =>
 X2 (impl_strip_sequence_e2 p0_ f1_ f2_ s6_ s7_ i8_ s27_ i28_ (w64 (i29_ + (1)))) h20)
 else
 impl_strip_sequence_C2 S K X0 p0_ f1_ f2_ s7_ i8_ h
theorem impl_strip_sequence_link2 (S : SatT) (K : AVal → H → Prop) (X0 : Frame → H → Prop) (X2 : Frame → H → Prop) (p0_ : Pt) (f1_ : AVal) (f2_ : AVal) (s6_ : Sl) (s7_ : Sl) (i8_ : Int) (s27_ : Sl) (i28_ : Int) (i29_ : Int) (h : H) : impl_strip_sequence_w2 S K X0 X2 (impl_strip_sequence_e2 p0_ f1_ f2_ s6_ s7_ i8_ s27_ i28_ i29_) h = impl_strip_sequence_b2 S K X0 X2 p0_ f1_ f2_ s6_ s7_ i8_ s27_ i28_ i29_ h := by kernel_rfl
theorem impl_strip_sequence_rule2 (S : SatT) (K : AVal → H → Prop) (X0 : Frame → H → Prop) (p0_ : Pt) (f1_ : AVal) (f2_ : AVal) (s6_ : Sl) (s7_ : Sl) (i8_ : Int) (s27_ : Sl) (i28_ : Int) (I_ : Int → H → Prop) (m_ : Int → H → Nat)
    (hs : ∀ (X2 : Frame → H → Prop) (i29_ : Int) (h : H), I_ i29_ h → (∀ (i29_' : Int) (h' : H), I_ i29_' h' → m_ i29_' h' < m_ i29_ h → X2 (impl_strip_sequence_e2 p0_ f1_ f2_ s6_ s7_ i8_ s27_ i28_ i29_') h') → impl_strip_sequence_b2 S K X0 X2 p0_ f1_ f2_ s6_ s7_ i8_ s27_ i28_ i29_ h) (i29_ : Int) {h : H} (h0 : I_ i29_ h) : impl_strip_sequence_L2 S K X0 p0_ f1_ f2_ s6_ s7_ i8_ s27_ i28_ i29_ h :=
  loop_rule (σ := (Int)) (fun s_ => impl_strip_sequence_e2 p0_ f1_ f2_ s6_ s7_ i8_ s27_ i28_ (s_)) (fun s_ h => I_ (s_) h) (fun s_ h => m_ (s_) h)
    (fun X s_ h hi hx => (impl_strip_sequence_link2 S K X0 X p0_ f1_ f2_ s6_ s7_ i8_ s27_ i28_ (s_) h).mpr (hs X (s_) h hi fun i29_' h' hi' hm' => hx (i29_') h' hi' hm')) (i29_) h0
theorem impl_strip_sequence_unroll2 (S : SatT) (K : AVal → H → Prop) (X0 : Frame → H → Prop) (p0_ : Pt) (f1_ : AVal) (f2_ : AVal) (s6_ : Sl) (s7_ : Sl) (i8_ : Int) (s27_ : Sl) (i28_ : Int) (i29_ : Int) (h : H) (hb : impl_strip_sequence_b2 S K X0 (fun fr h => loopK (impl_strip_sequence_w2 S K X0) fr h) p0_ f1_ f2_ s6_ s7_ i8_ s27_ i28_ i29_ h) : impl_strip_sequence_L2 S K X0 p0_ f1_ f2_ s6_ s7_ i8_ s27_ i28_ i29_ h := loop_unroll ((impl_strip_sequence_link2 S K X0 _ p0_ f1_ f2_ s6_ s7_ i8_ s27_ i28_ i29_ h).mpr hb)
def impl_strip_sequence_b0 (S : SatT) (K : AVal → H → Prop) (X0 : Frame → H → Prop) (p0_ : Pt) (f1_ : AVal) (f2_ : AVal) (s6_ : Sl) (h : H) : Prop :=
 nilC (.ptr p0_) (
 isPt p0_ (
 ldI .i64 (Pt.add p0_ 3) h fun n0 =>
 mkS n0 [.int .i64 (0)] h fun s1 h2 =>
 nilC (.ptr p0_) (
 isPt p0_ (
 ldS (Pt.add p0_ 4) h2 fun s3 =>
 impl_strip_sequence_L2 S K X0 p0_ f1_ f2_ s6_ s1 (0) s3 (s3.len : Int) (0) h2))))
theorem impl_strip_sequence_link0 (S : SatT) (K : AVal → H → Prop) (X0 : Frame → H → Prop) (p0_ : Pt) (f1_ : AVal) (f2_ : AVal) (s6_ : Sl) (h : H) : impl_strip_sequence_w0 S K X0 (impl_strip_sequence_e0 p0_ f1_ f2_ s6_) h = impl_strip_sequence_b0 S K X0 p0_ f1_ f2_ s6_ h := by kernel_rfl
theorem impl_strip_sequence_rule0 (S : SatT) (K : AVal → H → Prop) (p0_ : Pt) (f1_ : AVal) (f2_ : AVal) (I_ : Sl → H → Prop) (m_ : Sl → H → Nat)
    (hs : ∀ (X0 : Frame → H → Prop) (s6_ : Sl) (h : H), I_ s6_ h → (∀ (s6_' : Sl) (h' : H), I_ s6_' h' → m_ s6_' h' < m_ s6_ h → X0 (impl_strip_sequence_e0 p0_ f1_ f2_ s6_') h') → impl_strip_sequence_b0 S K X0 p0_ f1_ f2_ s6_ h) (s6_ : Sl) {h : H} (h0 : I_ s6_ h) : impl_strip_sequence_L0 S K p0_ f1_ f2_ s6_ h :=
  loop_rule (σ := (Sl)) (fun s_ => impl_strip_sequence_e0 p0_ f1_ f2_ (s_)) (fun s_ h => I_ (s_) h) (fun s_ h => m_ (s_) h)
    (fun X s_ h hi hx => (impl_strip_sequence_link0 S K X p0_ f1_ f2_ (s_) h).mpr (hs X (s_) h hi fun s6_' h' hi' hm' => hx (s6_') h' hi' hm')) (s6_) h0
theorem impl_strip_sequence_unroll0 (S : SatT) (K : AVal → H → Prop) (p0_ : Pt) (f1_ : AVal) (f2_ : AVal) (s6_ : Sl) (h : H) (hb : impl_strip_sequence_b0 S K (fun fr h => loopK (impl_strip_sequence_w0 S K) fr h) p0_ f1_ f2_ s6_ h) : impl_strip_sequence_L0 S K p0_ f1_ f2_ s6_ h := loop_unroll ((impl_strip_sequence_link0 S K _ p0_ f1_ f2_ s6_ h).mpr hb)
def impl_strip_sequence_main (S : SatT) (K : AVal → H → Prop) (x0 : Pt) (x1 : AVal) (x2 : AVal) (h : H) : Prop :=
 newS 1 1 [.int .i64 (1)] h fun s0 h1 =>
 nilC (.ptr x0) (
 isPt x0 (
 ldI .i64 (Pt.add x0 3) h1 fun n2 =>
 callS S i_slices_Repeat_s_int64_int64_ [.sl s0, .int .i64 n2] h1 fun s4 h3 =>
 impl_strip_sequence_L0 S K x0 x1 x2 s4 h3))
theorem impl_strip_sequence_main_link (S : SatT) (K : AVal → H → Prop) (x0 : Pt) (x1 : AVal) (x2 : AVal) (h : H) : cwp S tab impl_strip_sequence_M [] (bodyOf Try.f69) (kFun tab Try.f69.results.toList K) (fr0 Try.f69 [.ptr x0, x1, x2]) h = impl_strip_sequence_main S K x0 x1 x2 h := by kernel_rfl
theorem impl_strip_sequence_call (x0 : Pt) (x1 : AVal) (x2 : AVal) (h : H) (K : AVal → H → Prop) (hm : impl_strip_sequence_main (Sat Try.prog) (fun v h' => K v h') x0 x1 x2 h) : callV (Sat Try.prog) i_impl_strip_sequence [.ptr x0, x1, x2] h K := by
  have := Sat.ex tok mixed impl_strip_sequence_M Try.func69 (c := bodyOf Try.f69) (by kernel_rfl) (calls_of Try.func69 (c := bodyOf Try.f69) (by kernel_rfl) (by decide)) ((impl_strip_sequence_main_link _ _ x0 x1 x2 h).mpr hm)
  exact this

/-! ### loop.example/g01354/spec.ColumnWords -/
def spec_ColumnWords_M : Nat → List Nat := fun i => bif i == 0 then [1, 2, 6, 9, 10] else []
def spec_ColumnWords_ks6 (S : SatT) (K : AVal → H → Prop) : Kont := kSeq (cwp S tab spec_ColumnWords_M [] (sub [1, 1, 1, 1, 1] (bodyOf Try.f32)) (kFun tab (Try.f32).results.toList K)) (kFun tab (Try.f32).results.toList K)
def spec_ColumnWords_e0 (i1_ : Int) (p2_ : Pt) (s6_ : Sl) (s9_ : Sl) (i10_ : Int) : Frame := [U, .int .i64 i1_, .ptr p2_, U, U, U, .sl s6_, U, U, .sl s9_, .int .i64 i10_, U, U, U, U, U, U, U, U, U, U, U, U, U, U, U, U, U, U, U, U, U, U, U, U, U, U, U, U, U]
def spec_ColumnWords_w0 (S : SatT) (K : AVal → H → Prop) : (Frame → H → Prop) → Frame → H → Prop := fun X fr h => cwp S tab spec_ColumnWords_M (spec_ColumnWords_M 0) (sub [1, 1, 1, 1, 0, 1, 0, 0] (bodyOf Try.f32)) (kSeq (fun fr h => X (mask (spec_ColumnWords_M 0) fr) h) (kBlk 0 (spec_ColumnWords_ks6 S K))) fr h
def spec_ColumnWords_L0 (S : SatT) (K : AVal → H → Prop) (i1_ : Int) (p2_ : Pt) (s6_ : Sl) (s9_ : Sl) (i10_ : Int) (h : H) : Prop := loopK (spec_ColumnWords_w0 S K) (spec_ColumnWords_e0 i1_ p2_ s6_ s9_ i10_) h
def spec_ColumnWords_C0 (S : SatT) (K : AVal → H → Prop) (s9_ : Sl) (h : H) : Prop :=
 K (.tuple [.sl s9_, .int .i64 (0)]) h
def spec_ColumnWords_b0 (S : SatT) (K : AVal → H → Prop) (X0 : Frame → H → Prop) (i1_ : Int) (p2_ : Pt) (s6_ : Sl) (s9_ : Sl) (i10_ : Int) (h : H) : Prop :=
 bif (decide (i10_ < (s6_.len : Int))) then
 ixS s6_ 1 i10_ fun p0 =>
 ldI .i64 p0 h fun n1 =>
 isPt p2_ (
 ldI .i64 (Pt.add p2_ 0) h fun n2 =>
 callS S i_spec_l06Word [.int .i64 n1, .int .i64 n2, .int .i64 i1_] h fun s4 h3 =>
 newS 1 1 [.sl s4] h3 fun s5 h6 =>
 app s9_ s5 1 h6 fun s7 h8 =>
 X0 (spec_ColumnWords_e0 i1_ p2_ s6_ s7 (w64 (i10_ + (1)))) h8)
 else
 spec_ColumnWords_C0 S K s9_ h
theorem spec_ColumnWords_link0 (S : SatT) (K : AVal → H → Prop) (X0 : Frame → H → Prop) (i1_ : Int) (p2_ : Pt) (s6_ : Sl) (s9_ : Sl) (i10_ : Int) (h : H) : spec_ColumnWords_w0 S K X0 (spec_ColumnWords_e0 i1_ p2_ s6_ s9_ i10_) h = spec_ColumnWords_b0 S K X0 i1_ p2_ s6_ s9_ i10_ h := by kernel_rfl
theorem spec_ColumnWords_rule0 (S : SatT) (K : AVal → H → Prop) (i1_ : Int) (p2_ : Pt) (s6_ : Sl) (I_ : Sl → Int → H → Prop) (m_ : Sl → Int → H → Nat)
    (hs : ∀ (X0 : Frame → H → Prop) (s9_ : Sl) (i10_ : Int) (h : H), I_ s9_ i10_ h → (∀ (s9_' : Sl) (i10_' : Int) (h' : H), I_ s9_' i10_' h' → m_ s9_' i10_' h' < m_ s9_ i10_ h → X0 (spec_ColumnWords_e0 i1_ p2_ s6_ s9_' i10_') h') → spec_ColumnWords_b0 S K X0 i1_ p2_ s6_ s9_ i10_ h) (s9_ : Sl) (i10_ : Int) {h : H} (h0 : I_ s9_ i10_ h) : spec_ColumnWords_L0 S K i1_ p2_ s6_ s9_ i10_ h :=
  loop_rule (σ := (Sl) × (Int)) (fun s_ => spec_ColumnWords_e0 i1_ p2_ s6_ (s_.1) (s_.2)) (fun s_ h => I_ (s_.1) (s_.2) h) (fun s_ h => m_ (s_.1) (s_.2) h)
    (fun X s_ h hi hx => (spec_ColumnWords_link0 S K X i1_ p2_ s6_ (s_.1) (s_.2) h).mpr (hs X (s_.1) (s_.2) h hi fun s9_' i10_' h' hi' hm' => hx (s9_', i10_') h' hi' hm')) (s9_, i10_) h0
theorem spec_ColumnWords_unroll0 (S : SatT) (K : AVal → H → Prop) (i1_ : Int) (p2_ : Pt) (s6_ : Sl) (s9_ : Sl) (i10_ : Int) (h : H) (hb : spec_ColumnWords_b0 S K (fun fr h => loopK (spec_ColumnWords_w0 S K) fr h) i1_ p2_ s6_ s9_ i10_ h) : spec_ColumnWords_L0 S K i1_ p2_ s6_ s9_ i10_ h := loop_unroll ((spec_ColumnWords_link0 S K _ i1_ p2_ s6_ s9_ i10_ h).mpr hb)
def spec_ColumnWords_main (S : SatT) (K : AVal → H → Prop) (x0 : List AVal) (x1 : Int) (h : H) : Prop :=
 newK 2 x0 h fun p0 h1 =>
 ldA p0 2 h1 fun cs2 =>
 callV S i_spec_l06Lasting [.agg cs2, .int .i64 x1] h1 fun v4 h3 =>
 viaT v4 fun vs5 =>
 exS vs5 0 fun s6 =>
 viaT v4 fun vs7 =>
 exS vs7 1 fun s8 =>
 viaT v4 fun vs9 =>
 exI .i64 vs9 2 fun n10 =>
 bif (n10 != (0)) then
 K (.tuple [.sl Sl.nil, .int .i64 n10]) h3
 else
 newS 0 1 [] h3 fun s11 h12 =>
 spec_ColumnWords_L0 S K x1 p0 s6 s11 (0) h12
theorem spec_ColumnWords_main_link (S : SatT) (K : AVal → H → Prop) (x0 : List AVal) (x1 : Int) (h : H) : cwp S tab spec_ColumnWords_M [] (bodyOf Try.f32) (kFun tab Try.f32.results.toList K) (fr0 Try.f32 [.agg x0, .int .i64 x1]) h = spec_ColumnWords_main S K x0 x1 h := by kernel_rfl
theorem spec_ColumnWords_call (x0 : List AVal) (x1 : Int) (h : H) (K : AVal → H → Prop) (hm : spec_ColumnWords_main (Sat Try.prog) (fun v h' => K v h') x0 x1 h) : callV (Sat Try.prog) i_spec_ColumnWords [.agg x0, .int .i64 x1] h K := by
  have := Sat.ex tok mixed spec_ColumnWords_M Try.func32 (c := bodyOf Try.f32) (by kernel_rfl) (calls_of Try.func32 (c := bodyOf Try.f32) (by kernel_rfl) (by decide)) ((spec_ColumnWords_main_link _ _ x0 x1 h).mpr hm)
  exact this

/-! ### loop.example/g01354/impl.IsSet -/
def impl_IsSet_M : Nat → List Nat := fun i => bif i == 0 then [1, 6, 7, 8] else []
def impl_IsSet_ks1 (S : SatT) (K : AVal → H → Prop) : Kont := kSeq (cwp S tab impl_IsSet_M [] (sub [1, 1] (bodyOf Try.f58)) (kFun tab (Try.f58).results.toList K)) (kFun tab (Try.f58).results.toList K)
def impl_IsSet_e0 (p1_ : Pt) (s6_ : Sl) (i7_ : Int) (i8_ : Int) : Frame := [U, .ptr p1_, U, U, U, U, .sl s6_, .int .i64 i7_, .int .i64 i8_, U, U, U, U, U, U, U, U, U, U, U, U, U, U, U, U, U, U, U, U, U, U, U, U, U, U, U, U, U, U, U, U, U, U]
def impl_IsSet_w0 (S : SatT) (K : AVal → H → Prop) : (Frame → H → Prop) → Frame → H → Prop := fun X fr h => cwp S tab impl_IsSet_M (impl_IsSet_M 0) (sub [1, 0, 1, 0, 0] (bodyOf Try.f58)) (kSeq (fun fr h => X (mask (impl_IsSet_M 0) fr) h) (kBlk 0 (impl_IsSet_ks1 S K))) fr h
def impl_IsSet_L0 (S : SatT) (K : AVal → H → Prop) (p1_ : Pt) (s6_ : Sl) (i7_ : Int) (i8_ : Int) (h : H) : Prop := loopK (impl_IsSet_w0 S K) (impl_IsSet_e0 p1_ s6_ i7_ i8_) h
def impl_IsSet_C0 (S : SatT) (K : AVal → H → Prop) (p1_ : Pt) (h : H) : Prop :=
 isPt p1_ (
 ldI .i64 (Pt.add p1_ 0) h fun n0 =>
 callB S i_impl_within [.int .i64 n0, .int .i64 (1), .int .i64 (6)] h fun b2 h1 =>
 bif b2 then
 isPt p1_ (
 ldS (Pt.add p1_ 1) h1 fun s3 =>
 K (.bool (decide ((s3.len : Int) ≤ (16)))) h1)
 else
 K (.bool false) h1)
def impl_IsSet_b0 (S : SatT) (K : AVal → H → Prop) (X0 : Frame → H → Prop) (p1_ : Pt) (s6_ : Sl) (i7_ : Int) (i8_ : Int) (h : H) : Prop :=
 bif (decide (i8_ < i7_)) then
 ixS s6_ 4 i8_ fun p0 =>
 ldA p0 4 h fun cs1 =>
 newO [.int .i64 (0), .int .i64 (0), .int .i64 (0), .int .i64 (0)] h fun p2 h3 =>
 stN p2 4 cs1 h3 fun h4 =>
 ldA p2 4 h4 fun cs5 =>
 isPt p1_ (
 ldI .i64 (Pt.add p1_ 0) h4 fun n6 =>
 callB S i_impl_isTile [.agg cs5, .int .i64 n6] h4 fun b8 h7 =>
 bif (!b8) then
 K (.bool false) h7
 else
 bif (decide (i8_ > (0))) then
 isPt p1_ (
 ldS (Pt.add p1_ 1) h7 fun s9 =>
 ixS s9 4 (w64 (i8_ - (1))) fun p10 =>
 ldA p10 4 h7 fun cs11 =>
 ldA p2 4 h7 fun cs12 =>
 callI S .i64 i_impl_compare [.agg cs11, .agg cs12] h7 fun n14 h13 =>
 bif (decide (n14 ≥ (0))) then
 K (.bool false) h13
 else
 X0 (impl_IsSet_e0 p1_ s6_ i7_ (w64 (i8_ + (1)))) h13)
 else
 X0 (impl_IsSet_e0 p1_ s6_ i7_ (w64 (i8_ + (1)))) h7)
 else
 impl_IsSet_C0 S K p1_ h
theorem impl_IsSet_link0 (S : SatT) (K : AVal → H → Prop) (X0 : Frame → H → Prop) (p1_ : Pt) (s6_ : Sl) (i7_ : Int) (i8_ : Int) (h : H) : impl_IsSet_w0 S K X0 (impl_IsSet_e0 p1_ s6_ i7_ i8_) h = impl_IsSet_b0 S K X0 p1_ s6_ i7_ i8_ h := by kernel_rfl
theorem impl_IsSet_rule0 (S : SatT) (K : AVal → H → Prop) (p1_ : Pt) (s6_ : Sl) (i7_ : Int) (I_ : Int → H → Prop) (m_ : Int → H → Nat)
    (hs : ∀ (X0 : Frame → H → Prop) (i8_ : Int) (h : H), I_ i8_ h → (∀ (i8_' : Int) (h' : H), I_ i8_' h' → m_ i8_' h' < m_ i8_ h → X0 (impl_IsSet_e0 p1_ s6_ i7_ i8_') h') → impl_IsSet_b0 S K X0 p1_ s6_ i7_ i8_ h) (i8_ : Int) {h : H} (h0 : I_ i8_ h) : impl_IsSet_L0 S K p1_ s6_ i7_ i8_ h :=
  loop_rule (σ := (Int)) (fun s_ => impl_IsSet_e0 p1_ s6_ i7_ (s_)) (fun s_ h => I_ (s_) h) (fun s_ h => m_ (s_) h)
    (fun X s_ h hi hx => (impl_IsSet_link0 S K X p1_ s6_ i7_ (s_) h).mpr (hs X (s_) h hi fun i8_' h' hi' hm' => hx (i8_') h' hi' hm')) (i8_) h0
theorem impl_IsSet_unroll0 (S : SatT) (K : AVal → H → Prop) (p1_ : Pt) (s6_ : Sl) (i7_ : Int) (i8_ : Int) (h : H) (hb : impl_IsSet_b0 S K (fun fr h => loopK (impl_IsSet_w0 S K) fr h) p1_ s6_ i7_ i8_ h) : impl_IsSet_L0 S K p1_ s6_ i7_ i8_ h := loop_unroll ((impl_IsSet_link0 S K _ p1_ s6_ i7_ i8_ h).mpr hb)
def impl_IsSet_main (S : SatT) (K : AVal → H → Prop) (x0 : List AVal) (h : H) : Prop :=
 newK 2 x0 h fun p0 h1 =>
 isPt p0 (
 ldS (Pt.add p0 1) h1 fun s2 =>
 impl_IsSet_L0 S K p0 s2 (s2.len : Int) (0) h1)
theorem impl_IsSet_main_link (S : SatT) (K : AVal → H → Prop) (x0 : List AVal) (h : H) : cwp S tab impl_IsSet_M [] (bodyOf Try.f58) (kFun tab Try.f58.results.toList K) (fr0 Try.f58 [.agg x0]) h = impl_IsSet_main S K x0 h := by kernel_rfl
theorem impl_IsSet_call (x0 : List AVal) (h : H) (K : Bool → H → Prop) (hm : impl_IsSet_main (Sat Try.prog) (fun v h' => ∃ r, v = .bool r ∧ K r h') x0 h) : callB (Sat Try.prog) i_impl_IsSet [.agg x0] h K := by
  have := Sat.ex tok mixed impl_IsSet_M Try.func58 (c := bodyOf Try.f58) (by kernel_rfl) (calls_of Try.func58 (c := bodyOf Try.f58) (by kernel_rfl) (by decide)) ((impl_IsSet_main_link _ _ x0 h).mpr hm)
  obtain ⟨v, h2, h3, r, rfl, h4⟩ := this; exact ⟨r, h2, h3, h4⟩

/-! ### loop.example/g01354/spec.l01Is -/
def spec_l01Is_M : Nat → List Nat := fun i => bif i == 0 then [1, 3] else []
def spec_l01Is_ks5 (S : SatT) (K : AVal → H → Prop) : Kont := kSeq (cwp S tab spec_l01Is_M [] (sub [1, 1, 1] (bodyOf Try.f56)) (kFun tab (Try.f56).results.toList K)) (kFun tab (Try.f56).results.toList K)
def spec_l01Is_e0 (p1_ : Pt) (i3_ : Int) : Frame := [U, .ptr p1_, U, .int .i64 i3_, U, U, U, U, U, U, U, U, U, U, U, U, U, U, U, U, U, U, U, U, U, U, U, U, U, U, U, U, U, U, U, U, U, U, U, U, U, U, U, U, U, U, U, U, U]
def spec_l01Is_w0 (S : SatT) (K : AVal → H → Prop) : (Frame → H → Prop) → Frame → H → Prop := fun X fr h => cwp S tab spec_l01Is_M (spec_l01Is_M 0) (sub [1, 1, 0, 1, 0, 0] (bodyOf Try.f56)) (kSeq (fun fr h => X (mask (spec_l01Is_M 0) fr) h) (kBlk 0 (spec_l01Is_ks5 S K))) fr h
def spec_l01Is_L0 (S : SatT) (K : AVal → H → Prop) (p1_ : Pt) (i3_ : Int) (h : H) : Prop := loopK (spec_l01Is_w0 S K) (spec_l01Is_e0 p1_ i3_) h
def spec_l01Is_C0 (S : SatT) (K : AVal → H → Prop) (h : H) : Prop :=
 K (.bool true) h
def spec_l01Is_b0 (S : SatT) (K : AVal → H → Prop) (X0 : Frame → H → Prop) (p1_ : Pt) (i3_ : Int) (h : H) : Prop :=
 isPt p1_ (
 ldS (Pt.add p1_ 1) h fun s0 =>
 bif (decide (i3_ < (s0.len : Int))) then
 isPt p1_ (
 ldI .i64 (Pt.add p1_ 0) h fun n1 =>
 isPt p1_ (
 ldS (Pt.add p1_ 1) h fun s2 =>
 ixS s2 4 i3_ fun p3 =>
 ldA p3 4 h fun cs4 =>
 callB S i_spec_l01Tile [.int .i64 n1, .agg cs4] h fun b6 h5 =>
 bif (!b6) then
 K (.bool false) h5
 else
 bif (decide (i3_ > (0))) then
 isPt p1_ (
 ldS (Pt.add p1_ 1) h5 fun s7 =>
 ixS s7 4 (w64 (i3_ - (1))) fun p8 =>
 ldA p8 4 h5 fun cs9 =>
 isPt p1_ (
 ldS (Pt.add p1_ 1) h5 fun s10 =>
 ixS s10 4 i3_ fun p11 =>
 ldA p11 4 h5 fun cs12 =>
 callB S i_spec_l01Before [.agg cs9, .agg cs12] h5 fun b14 h13 =>
 bif (!b14) then
 K (.bool false) h13
 else
 X0 (spec_l01Is_e0 p1_ (w64 (i3_ + (1)))) h13))
 else
 X0 (spec_l01Is_e0 p1_ (w64 (i3_ + (1)))) h5))
 else
 spec_l01Is_C0 S K h)
theorem spec_l01Is_link0 (S : SatT) (K : AVal → H → Prop) (X0 : Frame → H → Prop) (p1_ : Pt) (i3_ : Int) (h : H) : spec_l01Is_w0 S K X0 (spec_l01Is_e0 p1_ i3_) h = spec_l01Is_b0 S K X0 p1_ i3_ h := by kernel_rfl
theorem spec_l01Is_rule0 (S : SatT) (K : AVal → H → Prop) (p1_ : Pt) (I_ : Int → H → Prop) (m_ : Int → H → Nat)
    (hs : ∀ (X0 : Frame → H → Prop) (i3_ : Int) (h : H), I_ i3_ h → (∀ (i3_' : Int) (h' : H), I_ i3_' h' → m_ i3_' h' < m_ i3_ h → X0 (spec_l01Is_e0 p1_ i3_') h') → spec_l01Is_b0 S K X0 p1_ i3_ h) (i3_ : Int) {h : H} (h0 : I_ i3_ h) : spec_l01Is_L0 S K p1_ i3_ h :=
  loop_rule (σ := (Int)) (fun s_ => spec_l01Is_e0 p1_ (s_)) (fun s_ h => I_ (s_) h) (fun s_ h => m_ (s_) h)
    (fun X s_ h hi hx => (spec_l01Is_link0 S K X p1_ (s_) h).mpr (hs X (s_) h hi fun i3_' h' hi' hm' => hx (i3_') h' hi' hm')) (i3_) h0
theorem spec_l01Is_unroll0 (S : SatT) (K : AVal → H → Prop) (p1_ : Pt) (i3_ : Int) (h : H) (hb : spec_l01Is_b0 S K (fun fr h => loopK (spec_l01Is_w0 S K) fr h) p1_ i3_ h) : spec_l01Is_L0 S K p1_ i3_ h := loop_unroll ((spec_l01Is_link0 S K _ p1_ i3_ h).mpr hb)
def spec_l01Is_main (S : SatT) (K : AVal → H → Prop) (x0 : List AVal) (h : H) : Prop :=
 newK 2 x0 h fun p0 h1 =>
 isPt p0 (
 ldI .i64 (Pt.add p0 0) h1 fun n2 =>
 callB S i_spec_l01In [.int .i64 n2, .int .i64 (1), .int .i64 (6)] h1 fun b4 h3 =>
 bif (!b4) then
 K (.bool false) h3
 else
 isPt p0 (
 ldS (Pt.add p0 1) h3 fun s5 =>
 bif (decide ((s5.len : Int) > (16))) then
 K (.bool false) h3
 else
 spec_l01Is_L0 S K p0 (0) h3))
theorem spec_l01Is_main_link (S : SatT) (K : AVal → H → Prop) (x0 : List AVal) (h : H) : cwp S tab spec_l01Is_M [] (bodyOf Try.f56) (kFun tab Try.f56.results.toList K) (fr0 Try.f56 [.agg x0]) h = spec_l01Is_main S K x0 h := by kernel_rfl
theorem spec_l01Is_call (x0 : List AVal) (h : H) (K : Bool → H → Prop) (hm : spec_l01Is_main (Sat Try.prog) (fun v h' => ∃ r, v = .bool r ∧ K r h') x0 h) : callB (Sat Try.prog) i_spec_l01Is [.agg x0] h K := by
  have := Sat.ex tok mixed spec_l01Is_M Try.func56 (c := bodyOf Try.f56) (by kernel_rfl) (calls_of Try.func56 (c := bodyOf Try.f56) (by kernel_rfl) (by decide)) ((spec_l01Is_main_link _ _ x0 h).mpr hm)
  obtain ⟨v, h2, h3, r, rfl, h4⟩ := this; exact ⟨r, h2, h3, h4⟩

/-! ### loop.example/g01354/laws.heldInt64SS -/
def laws_heldInt64SS_M : Nat → List Nat := fun i => bif i == 0 then [0, 1, 5] else []
def laws_heldInt64SS_ks1 (S : SatT) (K : AVal → H → Prop) : Kont := kSeq (cwp S tab laws_heldInt64SS_M [] (sub [1, 1] (bodyOf Try.f31)) (kFun tab (Try.f31).results.toList K)) (kFun tab (Try.f31).results.toList K)
def laws_heldInt64SS_e0 (s0_ : Sl) (i1_ : Int) (i5_ : Int) : Frame := [.sl s0_, .int .i64 i1_, U, U, U, .int .i64 i5_, U, U, U, U, U, U, U, U, U, U, U, U, U, U, U]
def laws_heldInt64SS_w0 (S : SatT) (K : AVal → H → Prop) : (Frame → H → Prop) → Frame → H → Prop := fun X fr h => cwp S tab laws_heldInt64SS_M (laws_heldInt64SS_M 0) (sub [1, 0, 1, 0, 0] (bodyOf Try.f31)) (kSeq (fun fr h => X (mask (laws_heldInt64SS_M 0) fr) h) (kBlk 0 (laws_heldInt64SS_ks1 S K))) fr h
def laws_heldInt64SS_L0 (S : SatT) (K : AVal → H → Prop) (s0_ : Sl) (i1_ : Int) (i5_ : Int) (h : H) : Prop := loopK (laws_heldInt64SS_w0 S K) (laws_heldInt64SS_e0 s0_ i1_ i5_) h
def laws_heldInt64SS_C0 (S : SatT) (K : AVal → H → Prop) (i1_ : Int) (h : H) : Prop :=
 K (.int .i64 i1_) h
def laws_heldInt64SS_b0 (S : SatT) (K : AVal → H → Prop) (X0 : Frame → H → Prop) (s0_ : Sl) (i1_ : Int) (i5_ : Int) (h : H) : Prop :=
 bif (decide (i5_ < (s0_.len : Int))) then
 ixS s0_ 1 i5_ fun p0 =>
 ldS p0 h fun s1 =>
 callI S .i64 i_laws_heldInt64S [.sl s1, .int .i64 i1_] h fun n3 h2 =>
 bif (decide (n3 < (0))) then
 K (.int .i64 (-1)) h2
 else
 X0 (laws_heldInt64SS_e0 s0_ n3 (w64 (i5_ + (1)))) h2
 else
 laws_heldInt64SS_C0 S K i1_ h
theorem laws_heldInt64SS_link0 (S : SatT) (K : AVal → H → Prop) (X0 : Frame → H → Prop) (s0_ : Sl) (i1_ : Int) (i5_ : Int) (h : H) : laws_heldInt64SS_w0 S K X0 (laws_heldInt64SS_e0 s0_ i1_ i5_) h = laws_heldInt64SS_b0 S K X0 s0_ i1_ i5_ h := by kernel_rfl
theorem laws_heldInt64SS_rule0 (S : SatT) (K : AVal → H → Prop) (s0_ : Sl) (I_ : Int → Int → H → Prop) (m_ : Int → Int → H → Nat)
    (hs : ∀ (X0 : Frame → H → Prop) (i1_ : Int) (i5_ : Int) (h : H), I_ i1_ i5_ h → (∀ (i1_' : Int) (i5_' : Int) (h' : H), I_ i1_' i5_' h' → m_ i1_' i5_' h' < m_ i1_ i5_ h → X0 (laws_heldInt64SS_e0 s0_ i1_' i5_') h') → laws_heldInt64SS_b0 S K X0 s0_ i1_ i5_ h) (i1_ : Int) (i5_ : Int) {h : H} (h0 : I_ i1_ i5_ h) : laws_heldInt64SS_L0 S K s0_ i1_ i5_ h :=
  loop_rule (σ := (Int) × (Int)) (fun s_ => laws_heldInt64SS_e0 s0_ (s_.1) (s_.2)) (fun s_ h => I_ (s_.1) (s_.2) h) (fun s_ h => m_ (s_.1) (s_.2) h)
    (fun X s_ h hi hx => (laws_heldInt64SS_link0 S K X s0_ (s_.1) (s_.2) h).mpr (hs X (s_.1) (s_.2) h hi fun i1_' i5_' h' hi' hm' => hx (i1_', i5_') h' hi' hm')) (i1_, i5_) h0
theorem laws_heldInt64SS_unroll0 (S : SatT) (K : AVal → H → Prop) (s0_ : Sl) (i1_ : Int) (i5_ : Int) (h : H) (hb : laws_heldInt64SS_b0 S K (fun fr h => loopK (laws_heldInt64SS_w0 S K) fr h) s0_ i1_ i5_ h) : laws_heldInt64SS_L0 S K s0_ i1_ i5_ h := loop_unroll ((laws_heldInt64SS_link0 S K _ s0_ i1_ i5_ h).mpr hb)
def laws_heldInt64SS_main (S : SatT) (K : AVal → H → Prop) (x0 : Sl) (x1 : Int) (h : H) : Prop :=
 laws_heldInt64SS_L0 S K x0 x1 (0) h
theorem laws_heldInt64SS_main_link (S : SatT) (K : AVal → H → Prop) (x0 : Sl) (x1 : Int) (h : H) : cwp S tab laws_heldInt64SS_M [] (bodyOf Try.f31) (kFun tab Try.f31.results.toList K) (fr0 Try.f31 [.sl x0, .int .i64 x1]) h = laws_heldInt64SS_main S K x0 x1 h := by kernel_rfl
theorem laws_heldInt64SS_call (x0 : Sl) (x1 : Int) (h : H) (K : Int → H → Prop) (hm : laws_heldInt64SS_main (Sat Try.prog) (fun v h' => ∃ r, v = .int .i64 r ∧ K r h') x0 x1 h) : callI (Sat Try.prog) .i64 i_laws_heldInt64SS [.sl x0, .int .i64 x1] h K := by
  have := Sat.ex tok mixed laws_heldInt64SS_M Try.func31 (c := bodyOf Try.f31) (by kernel_rfl) (calls_of Try.func31 (c := bodyOf Try.f31) (by kernel_rfl) (by decide)) ((laws_heldInt64SS_main_link _ _ x0 x1 h).mpr hm)
  obtain ⟨v, h2, h3, r, rfl, h4⟩ := this; exact ⟨r, h2, h3, h4⟩

end Go.Proofs.Ytdmhchgaeepdmaa.Cl
